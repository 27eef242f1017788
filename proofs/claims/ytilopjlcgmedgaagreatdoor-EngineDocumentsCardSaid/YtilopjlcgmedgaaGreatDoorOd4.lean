import Derived.Test.YtilopjlcgmedgaaGreatDoorOd3
namespace Go.Proofs.YtilopjlcgmedgaaGreatDoor
open Go.ChangeShapes Go.WideShapes Go.ChangeAt Go.RowKit Go.ChangeMaps Go.Joins Go.Deep
set_option linter.unusedVariables false
set_option linter.unusedSimpArgs false
set_option maxRecDepth 100000
theorem be8_len (n : Int) : (Tr.be8 n).length = 8 := by unfold Tr.be8; simp
theorem un_nat {n : Int} (hn : wfI n) : ∃ u : Nat, un n = u ∧ u < 18446744073709551616 ∧ u = (n + 9223372036854775808).toNat := by
 have hr : -9223372036854775808 ≤ n ∧ n ≤ 9223372036854775807 := by
  unfold wfI Lit.wf at hn
  simp only [Bool.and_eq_true, decide_eq_true_eq] at hn
  exact hn
 exact ⟨(n + 9223372036854775808).toNat, by show n + _ = _; omega, by omega, rfl⟩
theorem be8_step {n : Int} {u q : Nat} (hu : u = (n + 9223372036854775808).toNat) (hq : q < 8) : (Tr.be8 n).take (q + 1) = (Tr.be8 n).take q ++ [Tr.kB ((u / 2 ^ (56 - 8 * q) : Nat) : Int)] := by
 rw [List.take_add_one]
 congr 1
 unfold Tr.be8
 rw [List.getElem?_map, List.getElem?_range hq]
 show [_] = _
 congr 1
 unfold Tr.kB
 subst hu
 show UInt8.ofNat ((n + 9223372036854775808).toNat / 2 ^ (8 * (7 - q)) % 256) = _
 rw [show 8 * (7 - q) = 56 - 8 * q by omega]
 congr 1
abbrev escC (c : UInt8) : List UInt8 := if c = 0 then [0, 255] else [c]
theorem flat_take_le {α : Type} (f : α → List UInt8) : ∀ (l : List α) (q : Nat), ((l.take q).flatMap f).length ≤ (l.flatMap f).length := fun l q => by
 conv => rhs; rw [← List.take_append_drop q l, List.flatMap_append, List.length_append]
 omega
theorem flat_step {α : Type} {f : α → List UInt8} {l : List α} {q : Nat} {x : α} (h : l[q]? = some x) : (l.take (q + 1)).flatMap f = (l.take q).flatMap f ++ f x := by
 rw [List.take_add_one, h, List.flatMap_append]
 simp
theorem kb_lst : ∀ l : Tr, l.isL = true → l.kb = (l.lst.flatMap fun p => 1 :: p.kb) ++ [0]
 | .nil, _ => rfl
 | .lcons t r, h => by
  have := kb_lst r h
  show 1 :: (t.kb ++ r.kb) = _
  rw [this]
  simp [Tr.lst]
 | .mk _ _ _ _ _, h => by cases h
 | .fcons _ _ _, h => by cases h
def Tr.prs : Tr → List (ByteArray × Tr)
 | .fcons m t r => (m, t) :: r.prs
 | _ => []
theorem prs_get : ∀ (d : Tr) (q : Nat) (m : ByteArray) (p : Tr), d.nms[q]? = some m → d.lst[q]? = some p → d.isF = true → d.prs[q]? = some (m, p)
 | .nil, _, _, _, h, _, _ => by cases h
 | .mk _ _ _ _ _, _, _, _, _, _, h => by cases h
 | .lcons _ _, _, _, _, _, _, h => by cases h
 | .fcons m t r, 0, m', p, h, h', _ => by
  obtain rfl := Option.some.inj h
  obtain rfl := Option.some.inj h'
  rfl
 | .fcons m t r, q + 1, m', p, h, h', hf => prs_get r q m' p h h' hf
theorem prs_len : ∀ (d : Tr), d.isF = true → d.prs.length = d.len
 | .nil, _ => rfl
 | .fcons _ _ r, h => congrArg (· + 1) (prs_len r h)
 | .mk _ _ _ _ _, h => by cases h
 | .lcons _ _, h => by cases h
theorem kb_prs : ∀ l : Tr, l.isF = true → l.kb = (l.prs.flatMap fun p => 1 :: (p.1.data.toList ++ (0 :: p.2.kb))) ++ [0]
 | .nil, _ => rfl
 | .fcons m t r, h => by
  have := kb_prs r h
  show 1 :: (m.data.toList ++ (0 :: (t.kb ++ r.kb))) = _
  rw [this]
  simp [Tr.prs]
 | .mk _ _ _ _ _, h => by cases h
 | .lcons _ _, h => by cases h
def KapC (n : Nat) : Prop := ∀ (t : Tr), t.sz ≤ n → ∀ (w : World) (F : Nat → Prop) (v : Value) (l : List UInt8) (cs : List Value), RowB 0 w v l → VAt w F t cs → (∀ k, F k → v.ownBlock ≠ some k) → l.length + t.kb.length ≤ 1000000000 → Calls Tryz.prog 16 #[v, .agg cs.toArray] w fun e w' => ∃ v', e = .returned v' ∧ RowB 0 w' v' (l ++ t.kb) ∧ w.grownBy w' v.ownBlock ∧ Src v v' w
theorem kap_K3 {n0 : Nat} (hn : KapC n0) (n : Int) (s : ByteArray) (lt dt : Tr) (hsz0 : (Tr.mk 3 n s lt dt).sz ≤ n0 + 1) (w : World) (F0 : Nat → Prop) (v0 : Value) (l0 : List UInt8) (cs : List Value) (hrow : RowB 0 w v0 l0) (hv0 : VAt w F0 (Tr.mk 3 n s lt dt) cs) (hF0 : ∀ k, F0 k → v0.ownBlock ≠ some k) (htot : l0.length + (Tr.mk 3 n s lt dt).kb.length ≤ 1000000000) : Calls Tryz.prog 16 #[v0, .agg cs.toArray] w fun e w' => ∃ v', e = .returned v' ∧ RowB 0 w' v' (l0 ++ (Tr.mk 3 n s lt dt).kb) ∧ w.grownBy w' v0.ownBlock ∧ Src v0 v' w := by
 obtain ⟨F, hFd⟩ : ∃ F : Nat → Prop, F = fun k => F0 k ∧ k < w.heap.size := ⟨_, rfl⟩
 have hv : VAt w F (Tr.mk 3 n s lt dt) cs := hv0.kept (Nat.le_refl _) (fun _ _ _ => rfl) (fun k h hl => by rw [hFd]; exact ⟨h, hl⟩)
 have hFv : ∀ k, F k → v0.ownBlock ≠ some k := fun k h => by rw [hFd] at h; exact hF0 k h.1
 have hFl : ∀ k, F k → k < w.heap.size := fun k h => by rw [hFd] at h; exact h.2
 clear hFd hF0 hv0
 obtain ⟨la, lc, da, dc, rfl, wk, wn, ws, hL, hD⟩ := hv.parts
 obtain ⟨_, _, e1, hlL, hl1, hl2, _⟩ := id hL
 obtain ⟨_, _, rfl⟩ := Value.slice.inj e1
 obtain ⟨_, _, e2, hdF, hd1, hd2, _⟩ := id hD
 obtain ⟨_, _, rfl⟩ := Value.slice.inj e2
 unfold maxLen at hl2 hd2 ws
 simp only [Tr.sz] at hsz0
 have hR := RowW.start hrow
 have hkb : (Tr.mk 3 n s lt dt).kb = (Tr.kB 3 :: Tr.be8 n) := rfl
 rw [hkb] at htot ⊢
 have hlen := htot
 simp only [List.length_append, List.length_cons, List.length_nil, be8_len] at hlen
 refine cv2 Tryz.func16 rfl rfl rfl fun a hf => ?_
 have hX := Bx.start w
 clear hX
 have hX := Bx.bare w (fun k => v0.ownBlock ≠ some k)
 have hbs : ∀ p ∈ (⟨bare w, [(w, fun k => v0.ownBlock ≠ some k)]⟩ : Base).bs, p.1.heap.size ≤ w.heap.size ∧ ∀ k, v0.ownBlock = some k → ¬ p.2 k := (fun p hp => by rw [List.mem_singleton.1 hp]; exact ⟨Nat.le_refl _, fun k hk h => h hk⟩)
 refine gc hf ?_
 intro a hf
 refine sv_box hf hX rfl dd (fun a C1 W hC hf hX hA => ?_)
 have hnC1 := fun k hk => Nat.ne_of_lt (Nat.lt_of_lt_of_eq (hR.row.lt k hk).2 hC.symm)
 replace hR := hR.below hA
 clear hC hA
 refine go hf ?_
 intro a hf
 refine sv_run (v := .int .u8 ((Tr.kB 3).toNat : Int)) hf dd (fun a hf => ex_cvu8 hf rfl rfl) (fun a hf => ?_)
 refine sv_bs8 (m := (((Tr.kB 3)).toNat : Int)) hf hX rfl dd (fun a G2 W hC hf hX hA => ?_)
 have hnG2 := fun k hk => Nat.ne_of_lt (Nat.lt_of_lt_of_eq (hR.row.lt k hk).2 hC.symm)
 replace hR := hR.below hA
 clear hC hA
 replace hX : Bx ⟨bare w, [(w, fun k => v0.ownBlock ≠ some k)]⟩ [(G2, (Lib.byteCells [(Tr.kB 3)])), (C1, [.int .i64 3, .int .i64 n, .string s, .slice la lt.len lc, .slice da dt.len dc])] W := hX
 have hlG2 := (hX.get (i := 0) rfl).lt
 have hlC1 := (hX.get (i := 1) rfl).lt
 refine sv_app8 (bs := [(Tr.kB 3)]) hf hX rfl rfl hR rfl hbs (by intro k hk x hx e; simp only [List.mem_cons, List.not_mem_nil, or_false] at hx; rcases hx with rfl; exact hnC1 k hk e.symm) (by have := hlen; simp only [List.length_append, List.length_cons, List.length_nil, size_list]; omega) dd (fun a v3 W hf hX hR hg hsrc => ?_)
 replace hnC1 : ∀ k, (v3).ownBlock = some k → k ≠ C1 := fun k hk => by rcases hsrc k hk with h | h; exact hnC1 k h; omega
 clear hg hsrc
 refine go hf ?_
 intro a hf
 refine wp_block ?_
 refine gc hf ?_
 intro a hf
 obtain ⟨u, hun, hul, huq⟩ := un_nat wn
 first | refine gc hf ?_ | refine go hf ?_
 intro a hf
 refine sv_run (v := .int .u64 (n % 18446744073709551616)) hf dd (fun a hf => ex_cvu64 hf rfl rfl) (fun a hf => ?_)
 refine sv_run (v := .int .u64 (u : Int)) hf dd (fun a hf => by rw [← hun]; exact ex_xor63 hf wn rfl rfl rfl) (fun a hf => ?_)
 refine go hf ?_
 intro a hf
 refine wp_block (wp_loop (fun a X => ∃ (q : Nat) (vx : Value), FrV 113 [(0, vx), (5, .int .u64 (u : Int)), (6, .int .i64 (56 - 8 * (q : Int)))] a ∧ Bx ⟨bare w, [(w, fun k => v0.ownBlock ≠ some k)]⟩ [(C1, [.int .i64 3, .int .i64 n, .string s, .slice la lt.len lc, .slice da dt.len dc])] X ∧ q ≤ 8 ∧ RowW w v0 X vx (l0 ++ [Tr.kB 3] ++ (Tr.be8 n).take q) ∧ ∀ k, vx.ownBlock = some k → k ≠ C1) (fun a _ => (intOf (a.eval (.tmp 6)) + 8).toNat) ⟨0, _, hf.sub (sub_cons rfl (sub_cons rfl (sub_cons rfl (sub_nil)))), hX, Nat.zero_le _, (by rw [List.take_zero, List.append_nil]; exact hR), hnC1⟩ ?_)
 clear hf hX hR
 rintro a W ⟨q, vx, hf, hX, hq, hR, hnC1⟩
 have hm6 : a.eval (.tmp 6) = .int .i64 (56 - 8 * (q : Int)) := hf.rel 6 _ rfl
 rcases Decidable.em ((0 : Int) ≤ 56 - 8 * (q : Int)) with hgo | hgo
 ·
  refine wp_seq (wp_seq ?_)
  refine gc hf ?_
  intro a hf
  refine ct hf hgo fun a hf => ?_
  refine go hf ?_
  intro a hf
  refine wp_block ?_
  have hq8 : q < 8 := by omega
  have h56 : (56 - 8 * (q : Int)) = ((56 - 8 * q : Nat) : Int) := by omega
  rw [h56] at hf
  have htk : ((Tr.be8 n).take q).length = q := by rw [List.length_take, be8_len]; omega
  refine gc hf ?_
  intro a hf
  refine sv_run (v := .int .u64 ((u / 2 ^ (56 - 8 * q) : Nat) : Int)) hf dd (fun a hf => ex_shr64 hf hul (by omega) rfl rfl rfl) (fun a hf => ?_)
  refine sv_run (v := .int .u8 ((Tr.kB ((u / 2 ^ (56 - 8 * q) : Nat) : Int)).toNat : Int)) hf dd (fun a hf => ex_cv648 hf rfl rfl) (fun a hf => ?_)
  refine sv_bs8 (m := (((Tr.kB ((u / 2 ^ (56 - 8 * q) : Nat) : Int))).toNat : Int)) hf hX rfl dd (fun a G4 W hC hf hX hA => ?_)
  have hnG4 := fun k hk => Nat.ne_of_lt (Nat.lt_of_lt_of_eq (hR.row.lt k hk).2 hC.symm)
  replace hR := hR.below hA
  clear hC hA
  replace hX : Bx ⟨bare w, [(w, fun k => v0.ownBlock ≠ some k)]⟩ [(G4, (Lib.byteCells [(Tr.kB ((u / 2 ^ (56 - 8 * q) : Nat) : Int))])), (C1, [.int .i64 3, .int .i64 n, .string s, .slice la lt.len lc, .slice da dt.len dc])] W := hX
  have hlG4 := (hX.get (i := 0) rfl).lt
  have hlC1 := (hX.get (i := 1) rfl).lt
  refine sv_app8 (bs := [(Tr.kB ((u / 2 ^ (56 - 8 * q) : Nat) : Int))]) hf hX rfl rfl hR rfl hbs (by intro k hk x hx e; simp only [List.mem_cons, List.not_mem_nil, or_false] at hx; rcases hx with rfl; exact hnC1 k hk e.symm) (by have := hlen; simp only [List.length_append, List.length_cons, List.length_nil, size_list]; omega) dd (fun a v5 W hf hX hR hg hsrc => ?_)
  replace hnC1 : ∀ k, (v5).ownBlock = some k → k ≠ C1 := fun k hk => by rcases hsrc k hk with h | h; exact hnC1 k h; omega
  clear hg hsrc
  refine go hf ?_
  intro a hf
  refine sv_sub (((56 - 8 * q : Nat) : Int) - 8) hf rfl rfl (wrap_in (by omega)) dd (fun a hf => ?_)
  refine go hf ?_
  intro a hf
  have hls : l0 ++ [Tr.kB 3] ++ (Tr.be8 n).take q ++ [Tr.kB ((u / 2 ^ (56 - 8 * q) : Nat) : Int)] = l0 ++ [Tr.kB 3] ++ (Tr.be8 n).take (q + 1) := by rw [be8_step huq hq8]; simp only [List.append_assoc]
  rw [hls] at hR
  have h56b : ((56 - 8 * q : Nat) : Int) - 8 = 56 - 8 * ((q + 1 : Nat) : Int) := by omega
  rw [h56b] at hf
  refine ⟨⟨q + 1, _, hf.sub (sub_cons rfl (sub_cons rfl (sub_cons rfl (sub_nil)))), hX, by omega, hR, hnC1⟩, ?_⟩
  have h5 : a.eval (.tmp 6) = .int .i64 (56 - 8 * ((q + 1 : Nat) : Int)) := hf.rel 6 _ rfl
  rw [h5, hm6]; simp only [intOf]; omega
 ·
  refine wp_seq (wp_seq ?_)
  refine gc hf ?_
  intro a hf
  refine cf hf hgo fun a hf => ?_
  refine go hf ?_
  intro a hf
  refine wp_exit ?_
  simp only [Exit.inBlock, Exit.then, ↓reduceIte]
  obtain rfl : q = 8 := by omega
  rw [show (Tr.be8 n).take 8 = Tr.be8 n from List.take_of_length_le (by rw [be8_len]; exact Nat.le_refl _)] at hR
  refine gc hf ?_
  intro a hf
  have hfin : l0 ++ [Tr.kB 3] ++ Tr.be8 n = l0 ++ (Tr.kB 3 :: Tr.be8 n) := by simp only [List.append_assoc]; rfl
  rw [hfin] at hR
  exact rt hf rfl rfl ⟨_, rfl, hR.row, ⟨hX.low.os, hX.low.tape, hX.low.output, (hX.bas _ List.mem_cons_self).1, fun k hk hne => (hX.bas _ List.mem_cons_self).2 k hk (fun e => hne e.symm)⟩, hR.src⟩
theorem kap_K9 {n0 : Nat} (hn : KapC n0) (n : Int) (s : ByteArray) (lt dt : Tr) (hsz0 : (Tr.mk 9 n s lt dt).sz ≤ n0 + 1) (w : World) (F0 : Nat → Prop) (v0 : Value) (l0 : List UInt8) (cs : List Value) (hrow : RowB 0 w v0 l0) (hv0 : VAt w F0 (Tr.mk 9 n s lt dt) cs) (hF0 : ∀ k, F0 k → v0.ownBlock ≠ some k) (htot : l0.length + (Tr.mk 9 n s lt dt).kb.length ≤ 1000000000) : Calls Tryz.prog 16 #[v0, .agg cs.toArray] w fun e w' => ∃ v', e = .returned v' ∧ RowB 0 w' v' (l0 ++ (Tr.mk 9 n s lt dt).kb) ∧ w.grownBy w' v0.ownBlock ∧ Src v0 v' w := by
 obtain ⟨F, hFd⟩ : ∃ F : Nat → Prop, F = fun k => F0 k ∧ k < w.heap.size := ⟨_, rfl⟩
 have hv : VAt w F (Tr.mk 9 n s lt dt) cs := hv0.kept (Nat.le_refl _) (fun _ _ _ => rfl) (fun k h hl => by rw [hFd]; exact ⟨h, hl⟩)
 have hFv : ∀ k, F k → v0.ownBlock ≠ some k := fun k h => by rw [hFd] at h; exact hF0 k h.1
 have hFl : ∀ k, F k → k < w.heap.size := fun k h => by rw [hFd] at h; exact h.2
 clear hFd hF0 hv0
 obtain ⟨la, lc, da, dc, rfl, wk, wn, ws, hL, hD⟩ := hv.parts
 obtain ⟨_, _, e1, hlL, hl1, hl2, _⟩ := id hL
 obtain ⟨_, _, rfl⟩ := Value.slice.inj e1
 obtain ⟨_, _, e2, hdF, hd1, hd2, _⟩ := id hD
 obtain ⟨_, _, rfl⟩ := Value.slice.inj e2
 unfold maxLen at hl2 hd2 ws
 simp only [Tr.sz] at hsz0
 have hR := RowW.start hrow
 have hkb : (Tr.mk 9 n s lt dt).kb = (Tr.kB 9 :: Tr.be8 n) := rfl
 rw [hkb] at htot ⊢
 have hlen := htot
 simp only [List.length_append, List.length_cons, List.length_nil, be8_len] at hlen
 refine cv2 Tryz.func16 rfl rfl rfl fun a hf => ?_
 have hX := Bx.start w
 clear hX
 have hX := Bx.bare w (fun k => v0.ownBlock ≠ some k)
 have hbs : ∀ p ∈ (⟨bare w, [(w, fun k => v0.ownBlock ≠ some k)]⟩ : Base).bs, p.1.heap.size ≤ w.heap.size ∧ ∀ k, v0.ownBlock = some k → ¬ p.2 k := (fun p hp => by rw [List.mem_singleton.1 hp]; exact ⟨Nat.le_refl _, fun k hk h => h hk⟩)
 refine gc hf ?_
 intro a hf
 refine sv_box hf hX rfl dd (fun a C1 W hC hf hX hA => ?_)
 have hnC1 := fun k hk => Nat.ne_of_lt (Nat.lt_of_lt_of_eq (hR.row.lt k hk).2 hC.symm)
 replace hR := hR.below hA
 clear hC hA
 refine go hf ?_
 intro a hf
 refine sv_run (v := .int .u8 ((Tr.kB 9).toNat : Int)) hf dd (fun a hf => ex_cvu8 hf rfl rfl) (fun a hf => ?_)
 refine sv_bs8 (m := (((Tr.kB 9)).toNat : Int)) hf hX rfl dd (fun a G2 W hC hf hX hA => ?_)
 have hnG2 := fun k hk => Nat.ne_of_lt (Nat.lt_of_lt_of_eq (hR.row.lt k hk).2 hC.symm)
 replace hR := hR.below hA
 clear hC hA
 replace hX : Bx ⟨bare w, [(w, fun k => v0.ownBlock ≠ some k)]⟩ [(G2, (Lib.byteCells [(Tr.kB 9)])), (C1, [.int .i64 9, .int .i64 n, .string s, .slice la lt.len lc, .slice da dt.len dc])] W := hX
 have hlG2 := (hX.get (i := 0) rfl).lt
 have hlC1 := (hX.get (i := 1) rfl).lt
 refine sv_app8 (bs := [(Tr.kB 9)]) hf hX rfl rfl hR rfl hbs (by intro k hk x hx e; simp only [List.mem_cons, List.not_mem_nil, or_false] at hx; rcases hx with rfl; exact hnC1 k hk e.symm) (by have := hlen; simp only [List.length_append, List.length_cons, List.length_nil, size_list]; omega) dd (fun a v3 W hf hX hR hg hsrc => ?_)
 replace hnC1 : ∀ k, (v3).ownBlock = some k → k ≠ C1 := fun k hk => by rcases hsrc k hk with h | h; exact hnC1 k h; omega
 clear hg hsrc
 refine go hf ?_
 intro a hf
 refine wp_block ?_
 refine gc hf ?_
 intro a hf
 obtain ⟨u, hun, hul, huq⟩ := un_nat wn
 first | refine gc hf ?_ | refine go hf ?_
 intro a hf
 refine sv_run (v := .int .u64 (n % 18446744073709551616)) hf dd (fun a hf => ex_cvu64 hf rfl rfl) (fun a hf => ?_)
 refine sv_run (v := .int .u64 (u : Int)) hf dd (fun a hf => by rw [← hun]; exact ex_xor63 hf wn rfl rfl rfl) (fun a hf => ?_)
 refine go hf ?_
 intro a hf
 refine wp_block (wp_loop (fun a X => ∃ (q : Nat) (vx : Value), FrV 113 [(0, vx), (5, .int .u64 (u : Int)), (6, .int .i64 (56 - 8 * (q : Int)))] a ∧ Bx ⟨bare w, [(w, fun k => v0.ownBlock ≠ some k)]⟩ [(C1, [.int .i64 9, .int .i64 n, .string s, .slice la lt.len lc, .slice da dt.len dc])] X ∧ q ≤ 8 ∧ RowW w v0 X vx (l0 ++ [Tr.kB 9] ++ (Tr.be8 n).take q) ∧ ∀ k, vx.ownBlock = some k → k ≠ C1) (fun a _ => (intOf (a.eval (.tmp 6)) + 8).toNat) ⟨0, _, hf.sub (sub_cons rfl (sub_cons rfl (sub_cons rfl (sub_nil)))), hX, Nat.zero_le _, (by rw [List.take_zero, List.append_nil]; exact hR), hnC1⟩ ?_)
 clear hf hX hR
 rintro a W ⟨q, vx, hf, hX, hq, hR, hnC1⟩
 have hm6 : a.eval (.tmp 6) = .int .i64 (56 - 8 * (q : Int)) := hf.rel 6 _ rfl
 rcases Decidable.em ((0 : Int) ≤ 56 - 8 * (q : Int)) with hgo | hgo
 ·
  refine wp_seq (wp_seq ?_)
  refine gc hf ?_
  intro a hf
  refine ct hf hgo fun a hf => ?_
  refine go hf ?_
  intro a hf
  refine wp_block ?_
  have hq8 : q < 8 := by omega
  have h56 : (56 - 8 * (q : Int)) = ((56 - 8 * q : Nat) : Int) := by omega
  rw [h56] at hf
  have htk : ((Tr.be8 n).take q).length = q := by rw [List.length_take, be8_len]; omega
  refine gc hf ?_
  intro a hf
  refine sv_run (v := .int .u64 ((u / 2 ^ (56 - 8 * q) : Nat) : Int)) hf dd (fun a hf => ex_shr64 hf hul (by omega) rfl rfl rfl) (fun a hf => ?_)
  refine sv_run (v := .int .u8 ((Tr.kB ((u / 2 ^ (56 - 8 * q) : Nat) : Int)).toNat : Int)) hf dd (fun a hf => ex_cv648 hf rfl rfl) (fun a hf => ?_)
  refine sv_bs8 (m := (((Tr.kB ((u / 2 ^ (56 - 8 * q) : Nat) : Int))).toNat : Int)) hf hX rfl dd (fun a G4 W hC hf hX hA => ?_)
  have hnG4 := fun k hk => Nat.ne_of_lt (Nat.lt_of_lt_of_eq (hR.row.lt k hk).2 hC.symm)
  replace hR := hR.below hA
  clear hC hA
  replace hX : Bx ⟨bare w, [(w, fun k => v0.ownBlock ≠ some k)]⟩ [(G4, (Lib.byteCells [(Tr.kB ((u / 2 ^ (56 - 8 * q) : Nat) : Int))])), (C1, [.int .i64 9, .int .i64 n, .string s, .slice la lt.len lc, .slice da dt.len dc])] W := hX
  have hlG4 := (hX.get (i := 0) rfl).lt
  have hlC1 := (hX.get (i := 1) rfl).lt
  refine sv_app8 (bs := [(Tr.kB ((u / 2 ^ (56 - 8 * q) : Nat) : Int))]) hf hX rfl rfl hR rfl hbs (by intro k hk x hx e; simp only [List.mem_cons, List.not_mem_nil, or_false] at hx; rcases hx with rfl; exact hnC1 k hk e.symm) (by have := hlen; simp only [List.length_append, List.length_cons, List.length_nil, size_list]; omega) dd (fun a v5 W hf hX hR hg hsrc => ?_)
  replace hnC1 : ∀ k, (v5).ownBlock = some k → k ≠ C1 := fun k hk => by rcases hsrc k hk with h | h; exact hnC1 k h; omega
  clear hg hsrc
  refine go hf ?_
  intro a hf
  refine sv_sub (((56 - 8 * q : Nat) : Int) - 8) hf rfl rfl (wrap_in (by omega)) dd (fun a hf => ?_)
  refine go hf ?_
  intro a hf
  have hls : l0 ++ [Tr.kB 9] ++ (Tr.be8 n).take q ++ [Tr.kB ((u / 2 ^ (56 - 8 * q) : Nat) : Int)] = l0 ++ [Tr.kB 9] ++ (Tr.be8 n).take (q + 1) := by rw [be8_step huq hq8]; simp only [List.append_assoc]
  rw [hls] at hR
  have h56b : ((56 - 8 * q : Nat) : Int) - 8 = 56 - 8 * ((q + 1 : Nat) : Int) := by omega
  rw [h56b] at hf
  refine ⟨⟨q + 1, _, hf.sub (sub_cons rfl (sub_cons rfl (sub_cons rfl (sub_nil)))), hX, by omega, hR, hnC1⟩, ?_⟩
  have h5 : a.eval (.tmp 6) = .int .i64 (56 - 8 * ((q + 1 : Nat) : Int)) := hf.rel 6 _ rfl
  rw [h5, hm6]; simp only [intOf]; omega
 ·
  refine wp_seq (wp_seq ?_)
  refine gc hf ?_
  intro a hf
  refine cf hf hgo fun a hf => ?_
  refine go hf ?_
  intro a hf
  refine wp_exit ?_
  simp only [Exit.inBlock, Exit.then, ↓reduceIte]
  obtain rfl : q = 8 := by omega
  rw [show (Tr.be8 n).take 8 = Tr.be8 n from List.take_of_length_le (by rw [be8_len]; exact Nat.le_refl _)] at hR
  refine gc hf ?_
  intro a hf
  have hfin : l0 ++ [Tr.kB 9] ++ Tr.be8 n = l0 ++ (Tr.kB 9 :: Tr.be8 n) := by simp only [List.append_assoc]; rfl
  rw [hfin] at hR
  exact rt hf rfl rfl ⟨_, rfl, hR.row, ⟨hX.low.os, hX.low.tape, hX.low.output, (hX.bas _ List.mem_cons_self).1, fun k hk hne => (hX.bas _ List.mem_cons_self).2 k hk (fun e => hne e.symm)⟩, hR.src⟩
theorem kap_K10 {n0 : Nat} (hn : KapC n0) (n : Int) (s : ByteArray) (lt dt : Tr) (hsz0 : (Tr.mk 10 n s lt dt).sz ≤ n0 + 1) (w : World) (F0 : Nat → Prop) (v0 : Value) (l0 : List UInt8) (cs : List Value) (hrow : RowB 0 w v0 l0) (hv0 : VAt w F0 (Tr.mk 10 n s lt dt) cs) (hF0 : ∀ k, F0 k → v0.ownBlock ≠ some k) (htot : l0.length + (Tr.mk 10 n s lt dt).kb.length ≤ 1000000000) : Calls Tryz.prog 16 #[v0, .agg cs.toArray] w fun e w' => ∃ v', e = .returned v' ∧ RowB 0 w' v' (l0 ++ (Tr.mk 10 n s lt dt).kb) ∧ w.grownBy w' v0.ownBlock ∧ Src v0 v' w := by
 obtain ⟨F, hFd⟩ : ∃ F : Nat → Prop, F = fun k => F0 k ∧ k < w.heap.size := ⟨_, rfl⟩
 have hv : VAt w F (Tr.mk 10 n s lt dt) cs := hv0.kept (Nat.le_refl _) (fun _ _ _ => rfl) (fun k h hl => by rw [hFd]; exact ⟨h, hl⟩)
 have hFv : ∀ k, F k → v0.ownBlock ≠ some k := fun k h => by rw [hFd] at h; exact hF0 k h.1
 have hFl : ∀ k, F k → k < w.heap.size := fun k h => by rw [hFd] at h; exact h.2
 clear hFd hF0 hv0
 obtain ⟨la, lc, da, dc, rfl, wk, wn, ws, hL, hD⟩ := hv.parts
 obtain ⟨_, _, e1, hlL, hl1, hl2, _⟩ := id hL
 obtain ⟨_, _, rfl⟩ := Value.slice.inj e1
 obtain ⟨_, _, e2, hdF, hd1, hd2, _⟩ := id hD
 obtain ⟨_, _, rfl⟩ := Value.slice.inj e2
 unfold maxLen at hl2 hd2 ws
 simp only [Tr.sz] at hsz0
 have hR := RowW.start hrow
 have hkb : (Tr.mk 10 n s lt dt).kb = (Tr.kB 10 :: Tr.be8 n) := rfl
 rw [hkb] at htot ⊢
 have hlen := htot
 simp only [List.length_append, List.length_cons, List.length_nil, be8_len] at hlen
 refine cv2 Tryz.func16 rfl rfl rfl fun a hf => ?_
 have hX := Bx.start w
 clear hX
 have hX := Bx.bare w (fun k => v0.ownBlock ≠ some k)
 have hbs : ∀ p ∈ (⟨bare w, [(w, fun k => v0.ownBlock ≠ some k)]⟩ : Base).bs, p.1.heap.size ≤ w.heap.size ∧ ∀ k, v0.ownBlock = some k → ¬ p.2 k := (fun p hp => by rw [List.mem_singleton.1 hp]; exact ⟨Nat.le_refl _, fun k hk h => h hk⟩)
 refine gc hf ?_
 intro a hf
 refine sv_box hf hX rfl dd (fun a C1 W hC hf hX hA => ?_)
 have hnC1 := fun k hk => Nat.ne_of_lt (Nat.lt_of_lt_of_eq (hR.row.lt k hk).2 hC.symm)
 replace hR := hR.below hA
 clear hC hA
 refine go hf ?_
 intro a hf
 refine sv_run (v := .int .u8 ((Tr.kB 10).toNat : Int)) hf dd (fun a hf => ex_cvu8 hf rfl rfl) (fun a hf => ?_)
 refine sv_bs8 (m := (((Tr.kB 10)).toNat : Int)) hf hX rfl dd (fun a G2 W hC hf hX hA => ?_)
 have hnG2 := fun k hk => Nat.ne_of_lt (Nat.lt_of_lt_of_eq (hR.row.lt k hk).2 hC.symm)
 replace hR := hR.below hA
 clear hC hA
 replace hX : Bx ⟨bare w, [(w, fun k => v0.ownBlock ≠ some k)]⟩ [(G2, (Lib.byteCells [(Tr.kB 10)])), (C1, [.int .i64 10, .int .i64 n, .string s, .slice la lt.len lc, .slice da dt.len dc])] W := hX
 have hlG2 := (hX.get (i := 0) rfl).lt
 have hlC1 := (hX.get (i := 1) rfl).lt
 refine sv_app8 (bs := [(Tr.kB 10)]) hf hX rfl rfl hR rfl hbs (by intro k hk x hx e; simp only [List.mem_cons, List.not_mem_nil, or_false] at hx; rcases hx with rfl; exact hnC1 k hk e.symm) (by have := hlen; simp only [List.length_append, List.length_cons, List.length_nil, size_list]; omega) dd (fun a v3 W hf hX hR hg hsrc => ?_)
 replace hnC1 : ∀ k, (v3).ownBlock = some k → k ≠ C1 := fun k hk => by rcases hsrc k hk with h | h; exact hnC1 k h; omega
 clear hg hsrc
 refine go hf ?_
 intro a hf
 refine wp_block ?_
 refine gc hf ?_
 intro a hf
 obtain ⟨u, hun, hul, huq⟩ := un_nat wn
 first | refine gc hf ?_ | refine go hf ?_
 intro a hf
 refine sv_run (v := .int .u64 (n % 18446744073709551616)) hf dd (fun a hf => ex_cvu64 hf rfl rfl) (fun a hf => ?_)
 refine sv_run (v := .int .u64 (u : Int)) hf dd (fun a hf => by rw [← hun]; exact ex_xor63 hf wn rfl rfl rfl) (fun a hf => ?_)
 refine go hf ?_
 intro a hf
 refine wp_block (wp_loop (fun a X => ∃ (q : Nat) (vx : Value), FrV 113 [(0, vx), (5, .int .u64 (u : Int)), (6, .int .i64 (56 - 8 * (q : Int)))] a ∧ Bx ⟨bare w, [(w, fun k => v0.ownBlock ≠ some k)]⟩ [(C1, [.int .i64 10, .int .i64 n, .string s, .slice la lt.len lc, .slice da dt.len dc])] X ∧ q ≤ 8 ∧ RowW w v0 X vx (l0 ++ [Tr.kB 10] ++ (Tr.be8 n).take q) ∧ ∀ k, vx.ownBlock = some k → k ≠ C1) (fun a _ => (intOf (a.eval (.tmp 6)) + 8).toNat) ⟨0, _, hf.sub (sub_cons rfl (sub_cons rfl (sub_cons rfl (sub_nil)))), hX, Nat.zero_le _, (by rw [List.take_zero, List.append_nil]; exact hR), hnC1⟩ ?_)
 clear hf hX hR
 rintro a W ⟨q, vx, hf, hX, hq, hR, hnC1⟩
 have hm6 : a.eval (.tmp 6) = .int .i64 (56 - 8 * (q : Int)) := hf.rel 6 _ rfl
 rcases Decidable.em ((0 : Int) ≤ 56 - 8 * (q : Int)) with hgo | hgo
 ·
  refine wp_seq (wp_seq ?_)
  refine gc hf ?_
  intro a hf
  refine ct hf hgo fun a hf => ?_
  refine go hf ?_
  intro a hf
  refine wp_block ?_
  have hq8 : q < 8 := by omega
  have h56 : (56 - 8 * (q : Int)) = ((56 - 8 * q : Nat) : Int) := by omega
  rw [h56] at hf
  have htk : ((Tr.be8 n).take q).length = q := by rw [List.length_take, be8_len]; omega
  refine gc hf ?_
  intro a hf
  refine sv_run (v := .int .u64 ((u / 2 ^ (56 - 8 * q) : Nat) : Int)) hf dd (fun a hf => ex_shr64 hf hul (by omega) rfl rfl rfl) (fun a hf => ?_)
  refine sv_run (v := .int .u8 ((Tr.kB ((u / 2 ^ (56 - 8 * q) : Nat) : Int)).toNat : Int)) hf dd (fun a hf => ex_cv648 hf rfl rfl) (fun a hf => ?_)
  refine sv_bs8 (m := (((Tr.kB ((u / 2 ^ (56 - 8 * q) : Nat) : Int))).toNat : Int)) hf hX rfl dd (fun a G4 W hC hf hX hA => ?_)
  have hnG4 := fun k hk => Nat.ne_of_lt (Nat.lt_of_lt_of_eq (hR.row.lt k hk).2 hC.symm)
  replace hR := hR.below hA
  clear hC hA
  replace hX : Bx ⟨bare w, [(w, fun k => v0.ownBlock ≠ some k)]⟩ [(G4, (Lib.byteCells [(Tr.kB ((u / 2 ^ (56 - 8 * q) : Nat) : Int))])), (C1, [.int .i64 10, .int .i64 n, .string s, .slice la lt.len lc, .slice da dt.len dc])] W := hX
  have hlG4 := (hX.get (i := 0) rfl).lt
  have hlC1 := (hX.get (i := 1) rfl).lt
  refine sv_app8 (bs := [(Tr.kB ((u / 2 ^ (56 - 8 * q) : Nat) : Int))]) hf hX rfl rfl hR rfl hbs (by intro k hk x hx e; simp only [List.mem_cons, List.not_mem_nil, or_false] at hx; rcases hx with rfl; exact hnC1 k hk e.symm) (by have := hlen; simp only [List.length_append, List.length_cons, List.length_nil, size_list]; omega) dd (fun a v5 W hf hX hR hg hsrc => ?_)
  replace hnC1 : ∀ k, (v5).ownBlock = some k → k ≠ C1 := fun k hk => by rcases hsrc k hk with h | h; exact hnC1 k h; omega
  clear hg hsrc
  refine go hf ?_
  intro a hf
  refine sv_sub (((56 - 8 * q : Nat) : Int) - 8) hf rfl rfl (wrap_in (by omega)) dd (fun a hf => ?_)
  refine go hf ?_
  intro a hf
  have hls : l0 ++ [Tr.kB 10] ++ (Tr.be8 n).take q ++ [Tr.kB ((u / 2 ^ (56 - 8 * q) : Nat) : Int)] = l0 ++ [Tr.kB 10] ++ (Tr.be8 n).take (q + 1) := by rw [be8_step huq hq8]; simp only [List.append_assoc]
  rw [hls] at hR
  have h56b : ((56 - 8 * q : Nat) : Int) - 8 = 56 - 8 * ((q + 1 : Nat) : Int) := by omega
  rw [h56b] at hf
  refine ⟨⟨q + 1, _, hf.sub (sub_cons rfl (sub_cons rfl (sub_cons rfl (sub_nil)))), hX, by omega, hR, hnC1⟩, ?_⟩
  have h5 : a.eval (.tmp 6) = .int .i64 (56 - 8 * ((q + 1 : Nat) : Int)) := hf.rel 6 _ rfl
  rw [h5, hm6]; simp only [intOf]; omega
 ·
  refine wp_seq (wp_seq ?_)
  refine gc hf ?_
  intro a hf
  refine cf hf hgo fun a hf => ?_
  refine go hf ?_
  intro a hf
  refine wp_exit ?_
  simp only [Exit.inBlock, Exit.then, ↓reduceIte]
  obtain rfl : q = 8 := by omega
  rw [show (Tr.be8 n).take 8 = Tr.be8 n from List.take_of_length_le (by rw [be8_len]; exact Nat.le_refl _)] at hR
  refine gc hf ?_
  intro a hf
  have hfin : l0 ++ [Tr.kB 10] ++ Tr.be8 n = l0 ++ (Tr.kB 10 :: Tr.be8 n) := by simp only [List.append_assoc]; rfl
  rw [hfin] at hR
  exact rt hf rfl rfl ⟨_, rfl, hR.row, ⟨hX.low.os, hX.low.tape, hX.low.output, (hX.bas _ List.mem_cons_self).1, fun k hk hne => (hX.bas _ List.mem_cons_self).2 k hk (fun e => hne e.symm)⟩, hR.src⟩
theorem kap_K4 {n0 : Nat} (hn : KapC n0) (n : Int) (s : ByteArray) (lt dt : Tr) (hsz0 : (Tr.mk 4 n s lt dt).sz ≤ n0 + 1) (w : World) (F0 : Nat → Prop) (v0 : Value) (l0 : List UInt8) (cs : List Value) (hrow : RowB 0 w v0 l0) (hv0 : VAt w F0 (Tr.mk 4 n s lt dt) cs) (hF0 : ∀ k, F0 k → v0.ownBlock ≠ some k) (htot : l0.length + (Tr.mk 4 n s lt dt).kb.length ≤ 1000000000) : Calls Tryz.prog 16 #[v0, .agg cs.toArray] w fun e w' => ∃ v', e = .returned v' ∧ RowB 0 w' v' (l0 ++ (Tr.mk 4 n s lt dt).kb) ∧ w.grownBy w' v0.ownBlock ∧ Src v0 v' w := by
 obtain ⟨F, hFd⟩ : ∃ F : Nat → Prop, F = fun k => F0 k ∧ k < w.heap.size := ⟨_, rfl⟩
 have hv : VAt w F (Tr.mk 4 n s lt dt) cs := hv0.kept (Nat.le_refl _) (fun _ _ _ => rfl) (fun k h hl => by rw [hFd]; exact ⟨h, hl⟩)
 have hFv : ∀ k, F k → v0.ownBlock ≠ some k := fun k h => by rw [hFd] at h; exact hF0 k h.1
 have hFl : ∀ k, F k → k < w.heap.size := fun k h => by rw [hFd] at h; exact h.2
 clear hFd hF0 hv0
 obtain ⟨la, lc, da, dc, rfl, wk, wn, ws, hL, hD⟩ := hv.parts
 obtain ⟨_, _, e1, hlL, hl1, hl2, _⟩ := id hL
 obtain ⟨_, _, rfl⟩ := Value.slice.inj e1
 obtain ⟨_, _, e2, hdF, hd1, hd2, _⟩ := id hD
 obtain ⟨_, _, rfl⟩ := Value.slice.inj e2
 unfold maxLen at hl2 hd2 ws
 simp only [Tr.sz] at hsz0
 have hR := RowW.start hrow
 have hkb : (Tr.mk 4 n s lt dt).kb = (Tr.kB 4 :: (s.data.toList.flatMap escC ++ [0, 0])) := rfl
 rw [hkb] at htot ⊢
 have hlen := htot
 simp only [List.length_append, List.length_cons, List.length_nil] at hlen
 refine cv2 Tryz.func16 rfl rfl rfl fun a hf => ?_
 have hX := Bx.start w
 clear hX
 have hX := Bx.bare w (fun k => v0.ownBlock ≠ some k)
 have hbs : ∀ p ∈ (⟨bare w, [(w, fun k => v0.ownBlock ≠ some k)]⟩ : Base).bs, p.1.heap.size ≤ w.heap.size ∧ ∀ k, v0.ownBlock = some k → ¬ p.2 k := (fun p hp => by rw [List.mem_singleton.1 hp]; exact ⟨Nat.le_refl _, fun k hk h => h hk⟩)
 refine gc hf ?_
 intro a hf
 refine sv_box hf hX rfl dd (fun a C1 W hC hf hX hA => ?_)
 have hnC1 := fun k hk => Nat.ne_of_lt (Nat.lt_of_lt_of_eq (hR.row.lt k hk).2 hC.symm)
 replace hR := hR.below hA
 clear hC hA
 refine go hf ?_
 intro a hf
 refine sv_run (v := .int .u8 ((Tr.kB 4).toNat : Int)) hf dd (fun a hf => ex_cvu8 hf rfl rfl) (fun a hf => ?_)
 refine sv_bs8 (m := (((Tr.kB 4)).toNat : Int)) hf hX rfl dd (fun a G2 W hC hf hX hA => ?_)
 have hnG2 := fun k hk => Nat.ne_of_lt (Nat.lt_of_lt_of_eq (hR.row.lt k hk).2 hC.symm)
 replace hR := hR.below hA
 clear hC hA
 replace hX : Bx ⟨bare w, [(w, fun k => v0.ownBlock ≠ some k)]⟩ [(G2, (Lib.byteCells [(Tr.kB 4)])), (C1, [.int .i64 4, .int .i64 n, .string s, .slice la lt.len lc, .slice da dt.len dc])] W := hX
 have hlG2 := (hX.get (i := 0) rfl).lt
 have hlC1 := (hX.get (i := 1) rfl).lt
 refine sv_app8 (bs := [(Tr.kB 4)]) hf hX rfl rfl hR rfl hbs (by intro k hk x hx e; simp only [List.mem_cons, List.not_mem_nil, or_false] at hx; rcases hx with rfl; exact hnC1 k hk e.symm) (by have := hlen; simp only [List.length_append, List.length_cons, List.length_nil, size_list]; omega) dd (fun a v3 W hf hX hR hg hsrc => ?_)
 replace hnC1 : ∀ k, (v3).ownBlock = some k → k ≠ C1 := fun k hk => by rcases hsrc k hk with h | h; exact hnC1 k h; omega
 clear hg hsrc
 refine go hf ?_
 intro a hf
 refine wp_block ?_
 refine gc hf ?_
 intro a hf
 refine sv_lens hf rfl u9 dd (fun a hf => ?_)
 refine go hf ?_
 intro a hf
 refine wp_block (wp_loop (fun a X => ∃ (q : Nat) (vx : Value), FrV 113 [(0, vx), (3, .pointer (some ⟨C1, 0, none⟩)), (45, .int .i64 ((s).size : Int)), (46, .int .i64 (q : Int))] a ∧ Bx ⟨bare w, [(w, fun k => v0.ownBlock ≠ some k)]⟩ [(C1, [.int .i64 4, .int .i64 n, .string s, .slice la lt.len lc, .slice da dt.len dc])] X ∧ q ≤ s.size ∧ RowW w v0 X vx (l0 ++ [Tr.kB 4] ++ (s.data.toList.take q).flatMap escC) ∧ ∀ k, vx.ownBlock = some k → k ≠ C1) (fun a _ => s.size - (intOf (a.eval (.tmp 46))).toNat) ⟨0, _, hf.sub (sub_cons rfl (sub_cons rfl (sub_cons rfl (sub_cons rfl (sub_nil))))), hX, Nat.zero_le _, (by rw [List.take_zero, List.flatMap_nil, List.append_nil]; exact hR), hnC1⟩ ?_)
 clear hf hX hR
 rintro a W ⟨q, vx, hf, hX, hq, hR, hnC1⟩
 have hm46 : a.eval (.tmp 46) = .int .i64 (q : Int) := hf.rel 46 _ rfl
 rcases Decidable.em ((q : Int) < ((s).size : Int)) with hgo | hgo
 ·
  refine gc hf ?_
  intro a hf
  refine ct hf hgo fun a hf => ?_
  refine go hf ?_
  intro a hf
  refine wp_block ?_
  refine gc hf ?_
  intro a hf
  have hcq' : q < s.size := by omega
  obtain ⟨cq, hcq⟩ : ∃ c : UInt8, s[q]'hcq' = c := ⟨_, rfl⟩
  have hcs : s.data.toList[q]? = some cq := by rw [str_at hcq', hcq]
  have hE := flat_take_le escC s.data.toList (q + 1)
  rw [flat_step hcs, List.length_append] at hE
  refine sv_run (v := .int .u8 ((cq.toNat : Nat) : Int)) hf dd (fun a hf => (by rw [← hcq]; exact ex_chr (k := q) hf rfl rfl rfl u9 hcq')) (fun a hf => ?_)
  refine sv_bs8 (m := ((cq).toNat : Int)) hf hX rfl dd (fun a G4 W hC hf hX hA => ?_)
  have hnG4 := fun k hk => Nat.ne_of_lt (Nat.lt_of_lt_of_eq (hR.row.lt k hk).2 hC.symm)
  replace hR := hR.below hA
  clear hC hA
  replace hX : Bx ⟨bare w, [(w, fun k => v0.ownBlock ≠ some k)]⟩ [(G4, (Lib.byteCells [cq])), (C1, [.int .i64 4, .int .i64 n, .string s, .slice la lt.len lc, .slice da dt.len dc])] W := hX
  have hlG4 := (hX.get (i := 0) rfl).lt
  have hlC1 := (hX.get (i := 1) rfl).lt
  refine sv_app8 (bs := [cq]) hf hX rfl rfl hR rfl hbs (by intro k hk x hx e; simp only [List.mem_cons, List.not_mem_nil, or_false] at hx; rcases hx with rfl; exact hnC1 k hk e.symm) (by have := hlen; simp only [List.length_append, List.length_cons, List.length_nil, size_list]; omega) dd (fun a v5 W hf hX hR hg hsrc => ?_)
  replace hnC1 : ∀ k, (v5).ownBlock = some k → k ≠ C1 := fun k hk => by rcases hsrc k hk with h | h; exact hnC1 k h; omega
  clear hg hsrc
  refine go hf ?_
  intro a hf
  refine sv_run (v := .int .u8 ((cq.toNat : Nat) : Int)) hf dd (fun a hf => (by rw [← hcq]; exact ex_chr (k := q) hf rfl rfl rfl u9 hcq')) (fun a hf => ?_)
  rcases Decidable.em (((cq.toNat : Nat) : Int) = 0) with hq6 | hq6
  ·
   refine sv_run (v := .bool true) hf dd (fun a hf => ex_cmpk hf rfl rfl rfl (congrArg some (decide_eq_true hq6))) (fun a hf => ?_)
   refine go hf ?_
   intro a hf
   refine sv_bs8 (m := (((255 : UInt8)).toNat : Int)) hf hX rfl dd (fun a G7 W hC hf hX hA => ?_)
   have hnG7 := fun k hk => Nat.ne_of_lt (Nat.lt_of_lt_of_eq (hR.row.lt k hk).2 hC.symm)
   replace hR := hR.below hA
   clear hC hA
   replace hX : Bx ⟨bare w, [(w, fun k => v0.ownBlock ≠ some k)]⟩ [(G7, (Lib.byteCells [(255 : UInt8)])), (C1, [.int .i64 4, .int .i64 n, .string s, .slice la lt.len lc, .slice da dt.len dc])] W := hX
   have hlG7 := (hX.get (i := 0) rfl).lt
   have hlC1 := (hX.get (i := 1) rfl).lt
   refine sv_app8 (bs := [(255 : UInt8)]) hf hX rfl rfl hR rfl hbs (by intro k hk x hx e; simp only [List.mem_cons, List.not_mem_nil, or_false] at hx; rcases hx with rfl; exact hnC1 k hk e.symm) (by have := hlen; simp only [List.length_append, List.length_cons, List.length_nil, size_list]; omega) dd (fun a v8 W hf hX hR hg hsrc => ?_)
   replace hnC1 : ∀ k, (v8).ownBlock = some k → k ≠ C1 := fun k hk => by rcases hsrc k hk with h | h; exact hnC1 k h; omega
   clear hg hsrc
   refine go hf ?_
   intro a hf
   refine sv_add ((q + 1 : Nat) : Int) hf rfl rfl (by rw [wrap_in (by omega)]; rfl) dd (fun a hf => ?_)
   refine go hf ?_
   intro a hf
   have hc0 : cq = 0 := UInt8.toNat_inj.1 (by have := hq6; show cq.toNat = 0; omega)
   have hls : l0 ++ [Tr.kB 4] ++ (s.data.toList.take q).flatMap escC ++ [cq] ++ [255] = l0 ++ [Tr.kB 4] ++ (s.data.toList.take (q + 1)).flatMap escC := by rw [flat_step hcs, escC, if_pos hc0, hc0]; simp only [List.append_assoc]; rfl
   rw [hls] at hR
   refine ⟨⟨q + 1, _, hf.sub (sub_cons rfl (sub_cons rfl (sub_cons rfl (sub_cons rfl (sub_nil))))), hX, by omega, hR, hnC1⟩, ?_⟩
   have h5 : a.eval (.tmp 46) = .int .i64 ((q + 1 : Nat) : Int) := hf.rel 46 _ rfl
   rw [h5, hm46]; simp only [intOf, Int.toNat_natCast]; omega
  ·
   refine sv_run (v := .bool false) hf dd (fun a hf => ex_cmpk hf rfl rfl rfl (congrArg some (decide_eq_false hq6))) (fun a hf => ?_)
   refine go hf ?_
   intro a hf
   refine sv_add ((q + 1 : Nat) : Int) hf rfl rfl (by rw [wrap_in (by omega)]; rfl) dd (fun a hf => ?_)
   refine go hf ?_
   intro a hf
   have hc0 : ¬ cq = 0 := fun e => hq6 (by rw [e]; rfl)
   have hls : l0 ++ [Tr.kB 4] ++ (s.data.toList.take q).flatMap escC ++ [cq] = l0 ++ [Tr.kB 4] ++ (s.data.toList.take (q + 1)).flatMap escC := by rw [flat_step hcs, escC, if_neg hc0]; simp only [List.append_assoc]
   rw [hls] at hR
   refine ⟨⟨q + 1, _, hf.sub (sub_cons rfl (sub_cons rfl (sub_cons rfl (sub_cons rfl (sub_nil))))), hX, by omega, hR, hnC1⟩, ?_⟩
   have h5 : a.eval (.tmp 46) = .int .i64 ((q + 1 : Nat) : Int) := hf.rel 46 _ rfl
   rw [h5, hm46]; simp only [intOf, Int.toNat_natCast]; omega
 ·
  refine gc hf ?_
  intro a hf
  refine cf hf hgo fun a hf => ?_
  refine go hf ?_
  intro a hf
  refine wp_exit ?_
  simp only [Exit.inBlock, Exit.then, ↓reduceIte]
  have hqe : q = s.size := by omega
  rw [hqe, List.take_of_length_le (by rw [size_list]; exact Nat.le_refl _)] at hR
  refine gc hf ?_
  intro a hf
  refine sv_bs82 (m := (((0 : UInt8)).toNat : Int)) (n := (((0 : UInt8)).toNat : Int)) hf hX rfl rfl dd (fun a G9 W hC hf hX hA => ?_)
  have hnG9 := fun k hk => Nat.ne_of_lt (Nat.lt_of_lt_of_eq (hR.row.lt k hk).2 hC.symm)
  replace hR := hR.below hA
  clear hC hA
  replace hX : Bx ⟨bare w, [(w, fun k => v0.ownBlock ≠ some k)]⟩ [(G9, (Lib.byteCells [(0 : UInt8), (0 : UInt8)])), (C1, [.int .i64 4, .int .i64 n, .string s, .slice la lt.len lc, .slice da dt.len dc])] W := hX
  have hlG9 := (hX.get (i := 0) rfl).lt
  have hlC1 := (hX.get (i := 1) rfl).lt
  refine sv_app8 (bs := [(0 : UInt8), (0 : UInt8)]) hf hX rfl rfl hR rfl hbs (by intro k hk x hx e; simp only [List.mem_cons, List.not_mem_nil, or_false] at hx; rcases hx with rfl; exact hnC1 k hk e.symm) (by have := hlen; simp only [List.length_append, List.length_cons, List.length_nil, size_list]; omega) dd (fun a v10 W hf hX hR hg hsrc => ?_)
  replace hnC1 : ∀ k, (v10).ownBlock = some k → k ≠ C1 := fun k hk => by rcases hsrc k hk with h | h; exact hnC1 k h; omega
  clear hg hsrc
  refine go hf ?_
  intro a hf
  have hfin : (l0 ++ [Tr.kB 4] ++ s.data.toList.flatMap escC) ++ [(0 : UInt8), (0 : UInt8)] = l0 ++ (Tr.kB 4 :: (s.data.toList.flatMap escC ++ [0, 0])) := by simp only [List.append_assoc]; rfl
  rw [hfin] at hR
  exact rt hf rfl rfl ⟨_, rfl, hR.row, ⟨hX.low.os, hX.low.tape, hX.low.output, (hX.bas _ List.mem_cons_self).1, fun k hk hne => (hX.bas _ List.mem_cons_self).2 k hk (fun e => hne e.symm)⟩, hR.src⟩
theorem kap_K7 {n0 : Nat} (hn : KapC n0) (n : Int) (s : ByteArray) (lt dt : Tr) (hsz0 : (Tr.mk 7 n s lt dt).sz ≤ n0 + 1) (w : World) (F0 : Nat → Prop) (v0 : Value) (l0 : List UInt8) (cs : List Value) (hrow : RowB 0 w v0 l0) (hv0 : VAt w F0 (Tr.mk 7 n s lt dt) cs) (hF0 : ∀ k, F0 k → v0.ownBlock ≠ some k) (htot : l0.length + (Tr.mk 7 n s lt dt).kb.length ≤ 1000000000) : Calls Tryz.prog 16 #[v0, .agg cs.toArray] w fun e w' => ∃ v', e = .returned v' ∧ RowB 0 w' v' (l0 ++ (Tr.mk 7 n s lt dt).kb) ∧ w.grownBy w' v0.ownBlock ∧ Src v0 v' w := by
 obtain ⟨F, hFd⟩ : ∃ F : Nat → Prop, F = fun k => F0 k ∧ k < w.heap.size := ⟨_, rfl⟩
 have hv : VAt w F (Tr.mk 7 n s lt dt) cs := hv0.kept (Nat.le_refl _) (fun _ _ _ => rfl) (fun k h hl => by rw [hFd]; exact ⟨h, hl⟩)
 have hFv : ∀ k, F k → v0.ownBlock ≠ some k := fun k h => by rw [hFd] at h; exact hF0 k h.1
 have hFl : ∀ k, F k → k < w.heap.size := fun k h => by rw [hFd] at h; exact h.2
 clear hFd hF0 hv0
 obtain ⟨la, lc, da, dc, rfl, wk, wn, ws, hL, hD⟩ := hv.parts
 obtain ⟨_, _, e1, hlL, hl1, hl2, _⟩ := id hL
 obtain ⟨_, _, rfl⟩ := Value.slice.inj e1
 obtain ⟨_, _, e2, hdF, hd1, hd2, _⟩ := id hD
 obtain ⟨_, _, rfl⟩ := Value.slice.inj e2
 unfold maxLen at hl2 hd2 ws
 simp only [Tr.sz] at hsz0
 have hR := RowW.start hrow
 have hkb : (Tr.mk 7 n s lt dt).kb = (Tr.kB 7 :: (s.data.toList.flatMap escC ++ [0, 0])) := rfl
 rw [hkb] at htot ⊢
 have hlen := htot
 simp only [List.length_append, List.length_cons, List.length_nil] at hlen
 refine cv2 Tryz.func16 rfl rfl rfl fun a hf => ?_
 have hX := Bx.start w
 clear hX
 have hX := Bx.bare w (fun k => v0.ownBlock ≠ some k)
 have hbs : ∀ p ∈ (⟨bare w, [(w, fun k => v0.ownBlock ≠ some k)]⟩ : Base).bs, p.1.heap.size ≤ w.heap.size ∧ ∀ k, v0.ownBlock = some k → ¬ p.2 k := (fun p hp => by rw [List.mem_singleton.1 hp]; exact ⟨Nat.le_refl _, fun k hk h => h hk⟩)
 refine gc hf ?_
 intro a hf
 refine sv_box hf hX rfl dd (fun a C1 W hC hf hX hA => ?_)
 have hnC1 := fun k hk => Nat.ne_of_lt (Nat.lt_of_lt_of_eq (hR.row.lt k hk).2 hC.symm)
 replace hR := hR.below hA
 clear hC hA
 refine go hf ?_
 intro a hf
 refine sv_run (v := .int .u8 ((Tr.kB 7).toNat : Int)) hf dd (fun a hf => ex_cvu8 hf rfl rfl) (fun a hf => ?_)
 refine sv_bs8 (m := (((Tr.kB 7)).toNat : Int)) hf hX rfl dd (fun a G2 W hC hf hX hA => ?_)
 have hnG2 := fun k hk => Nat.ne_of_lt (Nat.lt_of_lt_of_eq (hR.row.lt k hk).2 hC.symm)
 replace hR := hR.below hA
 clear hC hA
 replace hX : Bx ⟨bare w, [(w, fun k => v0.ownBlock ≠ some k)]⟩ [(G2, (Lib.byteCells [(Tr.kB 7)])), (C1, [.int .i64 7, .int .i64 n, .string s, .slice la lt.len lc, .slice da dt.len dc])] W := hX
 have hlG2 := (hX.get (i := 0) rfl).lt
 have hlC1 := (hX.get (i := 1) rfl).lt
 refine sv_app8 (bs := [(Tr.kB 7)]) hf hX rfl rfl hR rfl hbs (by intro k hk x hx e; simp only [List.mem_cons, List.not_mem_nil, or_false] at hx; rcases hx with rfl; exact hnC1 k hk e.symm) (by have := hlen; simp only [List.length_append, List.length_cons, List.length_nil, size_list]; omega) dd (fun a v3 W hf hX hR hg hsrc => ?_)
 replace hnC1 : ∀ k, (v3).ownBlock = some k → k ≠ C1 := fun k hk => by rcases hsrc k hk with h | h; exact hnC1 k h; omega
 clear hg hsrc
 refine go hf ?_
 intro a hf
 refine wp_block ?_
 refine gc hf ?_
 intro a hf
 refine sv_lens hf rfl u9 dd (fun a hf => ?_)
 refine go hf ?_
 intro a hf
 refine wp_block (wp_loop (fun a X => ∃ (q : Nat) (vx : Value), FrV 113 [(0, vx), (3, .pointer (some ⟨C1, 0, none⟩)), (45, .int .i64 ((s).size : Int)), (46, .int .i64 (q : Int))] a ∧ Bx ⟨bare w, [(w, fun k => v0.ownBlock ≠ some k)]⟩ [(C1, [.int .i64 7, .int .i64 n, .string s, .slice la lt.len lc, .slice da dt.len dc])] X ∧ q ≤ s.size ∧ RowW w v0 X vx (l0 ++ [Tr.kB 7] ++ (s.data.toList.take q).flatMap escC) ∧ ∀ k, vx.ownBlock = some k → k ≠ C1) (fun a _ => s.size - (intOf (a.eval (.tmp 46))).toNat) ⟨0, _, hf.sub (sub_cons rfl (sub_cons rfl (sub_cons rfl (sub_cons rfl (sub_nil))))), hX, Nat.zero_le _, (by rw [List.take_zero, List.flatMap_nil, List.append_nil]; exact hR), hnC1⟩ ?_)
 clear hf hX hR
 rintro a W ⟨q, vx, hf, hX, hq, hR, hnC1⟩
 have hm46 : a.eval (.tmp 46) = .int .i64 (q : Int) := hf.rel 46 _ rfl
 rcases Decidable.em ((q : Int) < ((s).size : Int)) with hgo | hgo
 ·
  refine gc hf ?_
  intro a hf
  refine ct hf hgo fun a hf => ?_
  refine go hf ?_
  intro a hf
  refine wp_block ?_
  refine gc hf ?_
  intro a hf
  have hcq' : q < s.size := by omega
  obtain ⟨cq, hcq⟩ : ∃ c : UInt8, s[q]'hcq' = c := ⟨_, rfl⟩
  have hcs : s.data.toList[q]? = some cq := by rw [str_at hcq', hcq]
  have hE := flat_take_le escC s.data.toList (q + 1)
  rw [flat_step hcs, List.length_append] at hE
  refine sv_run (v := .int .u8 ((cq.toNat : Nat) : Int)) hf dd (fun a hf => (by rw [← hcq]; exact ex_chr (k := q) hf rfl rfl rfl u9 hcq')) (fun a hf => ?_)
  refine sv_bs8 (m := ((cq).toNat : Int)) hf hX rfl dd (fun a G4 W hC hf hX hA => ?_)
  have hnG4 := fun k hk => Nat.ne_of_lt (Nat.lt_of_lt_of_eq (hR.row.lt k hk).2 hC.symm)
  replace hR := hR.below hA
  clear hC hA
  replace hX : Bx ⟨bare w, [(w, fun k => v0.ownBlock ≠ some k)]⟩ [(G4, (Lib.byteCells [cq])), (C1, [.int .i64 7, .int .i64 n, .string s, .slice la lt.len lc, .slice da dt.len dc])] W := hX
  have hlG4 := (hX.get (i := 0) rfl).lt
  have hlC1 := (hX.get (i := 1) rfl).lt
  refine sv_app8 (bs := [cq]) hf hX rfl rfl hR rfl hbs (by intro k hk x hx e; simp only [List.mem_cons, List.not_mem_nil, or_false] at hx; rcases hx with rfl; exact hnC1 k hk e.symm) (by have := hlen; simp only [List.length_append, List.length_cons, List.length_nil, size_list]; omega) dd (fun a v5 W hf hX hR hg hsrc => ?_)
  replace hnC1 : ∀ k, (v5).ownBlock = some k → k ≠ C1 := fun k hk => by rcases hsrc k hk with h | h; exact hnC1 k h; omega
  clear hg hsrc
  refine go hf ?_
  intro a hf
  refine sv_run (v := .int .u8 ((cq.toNat : Nat) : Int)) hf dd (fun a hf => (by rw [← hcq]; exact ex_chr (k := q) hf rfl rfl rfl u9 hcq')) (fun a hf => ?_)
  rcases Decidable.em (((cq.toNat : Nat) : Int) = 0) with hq6 | hq6
  ·
   refine sv_run (v := .bool true) hf dd (fun a hf => ex_cmpk hf rfl rfl rfl (congrArg some (decide_eq_true hq6))) (fun a hf => ?_)
   refine go hf ?_
   intro a hf
   refine sv_bs8 (m := (((255 : UInt8)).toNat : Int)) hf hX rfl dd (fun a G7 W hC hf hX hA => ?_)
   have hnG7 := fun k hk => Nat.ne_of_lt (Nat.lt_of_lt_of_eq (hR.row.lt k hk).2 hC.symm)
   replace hR := hR.below hA
   clear hC hA
   replace hX : Bx ⟨bare w, [(w, fun k => v0.ownBlock ≠ some k)]⟩ [(G7, (Lib.byteCells [(255 : UInt8)])), (C1, [.int .i64 7, .int .i64 n, .string s, .slice la lt.len lc, .slice da dt.len dc])] W := hX
   have hlG7 := (hX.get (i := 0) rfl).lt
   have hlC1 := (hX.get (i := 1) rfl).lt
   refine sv_app8 (bs := [(255 : UInt8)]) hf hX rfl rfl hR rfl hbs (by intro k hk x hx e; simp only [List.mem_cons, List.not_mem_nil, or_false] at hx; rcases hx with rfl; exact hnC1 k hk e.symm) (by have := hlen; simp only [List.length_append, List.length_cons, List.length_nil, size_list]; omega) dd (fun a v8 W hf hX hR hg hsrc => ?_)
   replace hnC1 : ∀ k, (v8).ownBlock = some k → k ≠ C1 := fun k hk => by rcases hsrc k hk with h | h; exact hnC1 k h; omega
   clear hg hsrc
   refine go hf ?_
   intro a hf
   refine sv_add ((q + 1 : Nat) : Int) hf rfl rfl (by rw [wrap_in (by omega)]; rfl) dd (fun a hf => ?_)
   refine go hf ?_
   intro a hf
   have hc0 : cq = 0 := UInt8.toNat_inj.1 (by have := hq6; show cq.toNat = 0; omega)
   have hls : l0 ++ [Tr.kB 7] ++ (s.data.toList.take q).flatMap escC ++ [cq] ++ [255] = l0 ++ [Tr.kB 7] ++ (s.data.toList.take (q + 1)).flatMap escC := by rw [flat_step hcs, escC, if_pos hc0, hc0]; simp only [List.append_assoc]; rfl
   rw [hls] at hR
   refine ⟨⟨q + 1, _, hf.sub (sub_cons rfl (sub_cons rfl (sub_cons rfl (sub_cons rfl (sub_nil))))), hX, by omega, hR, hnC1⟩, ?_⟩
   have h5 : a.eval (.tmp 46) = .int .i64 ((q + 1 : Nat) : Int) := hf.rel 46 _ rfl
   rw [h5, hm46]; simp only [intOf, Int.toNat_natCast]; omega
  ·
   refine sv_run (v := .bool false) hf dd (fun a hf => ex_cmpk hf rfl rfl rfl (congrArg some (decide_eq_false hq6))) (fun a hf => ?_)
   refine go hf ?_
   intro a hf
   refine sv_add ((q + 1 : Nat) : Int) hf rfl rfl (by rw [wrap_in (by omega)]; rfl) dd (fun a hf => ?_)
   refine go hf ?_
   intro a hf
   have hc0 : ¬ cq = 0 := fun e => hq6 (by rw [e]; rfl)
   have hls : l0 ++ [Tr.kB 7] ++ (s.data.toList.take q).flatMap escC ++ [cq] = l0 ++ [Tr.kB 7] ++ (s.data.toList.take (q + 1)).flatMap escC := by rw [flat_step hcs, escC, if_neg hc0]; simp only [List.append_assoc]
   rw [hls] at hR
   refine ⟨⟨q + 1, _, hf.sub (sub_cons rfl (sub_cons rfl (sub_cons rfl (sub_cons rfl (sub_nil))))), hX, by omega, hR, hnC1⟩, ?_⟩
   have h5 : a.eval (.tmp 46) = .int .i64 ((q + 1 : Nat) : Int) := hf.rel 46 _ rfl
   rw [h5, hm46]; simp only [intOf, Int.toNat_natCast]; omega
 ·
  refine gc hf ?_
  intro a hf
  refine cf hf hgo fun a hf => ?_
  refine go hf ?_
  intro a hf
  refine wp_exit ?_
  simp only [Exit.inBlock, Exit.then, ↓reduceIte]
  have hqe : q = s.size := by omega
  rw [hqe, List.take_of_length_le (by rw [size_list]; exact Nat.le_refl _)] at hR
  refine gc hf ?_
  intro a hf
  refine sv_bs82 (m := (((0 : UInt8)).toNat : Int)) (n := (((0 : UInt8)).toNat : Int)) hf hX rfl rfl dd (fun a G9 W hC hf hX hA => ?_)
  have hnG9 := fun k hk => Nat.ne_of_lt (Nat.lt_of_lt_of_eq (hR.row.lt k hk).2 hC.symm)
  replace hR := hR.below hA
  clear hC hA
  replace hX : Bx ⟨bare w, [(w, fun k => v0.ownBlock ≠ some k)]⟩ [(G9, (Lib.byteCells [(0 : UInt8), (0 : UInt8)])), (C1, [.int .i64 7, .int .i64 n, .string s, .slice la lt.len lc, .slice da dt.len dc])] W := hX
  have hlG9 := (hX.get (i := 0) rfl).lt
  have hlC1 := (hX.get (i := 1) rfl).lt
  refine sv_app8 (bs := [(0 : UInt8), (0 : UInt8)]) hf hX rfl rfl hR rfl hbs (by intro k hk x hx e; simp only [List.mem_cons, List.not_mem_nil, or_false] at hx; rcases hx with rfl; exact hnC1 k hk e.symm) (by have := hlen; simp only [List.length_append, List.length_cons, List.length_nil, size_list]; omega) dd (fun a v10 W hf hX hR hg hsrc => ?_)
  replace hnC1 : ∀ k, (v10).ownBlock = some k → k ≠ C1 := fun k hk => by rcases hsrc k hk with h | h; exact hnC1 k h; omega
  clear hg hsrc
  refine go hf ?_
  intro a hf
  have hfin : (l0 ++ [Tr.kB 7] ++ s.data.toList.flatMap escC) ++ [(0 : UInt8), (0 : UInt8)] = l0 ++ (Tr.kB 7 :: (s.data.toList.flatMap escC ++ [0, 0])) := by simp only [List.append_assoc]; rfl
  rw [hfin] at hR
  exact rt hf rfl rfl ⟨_, rfl, hR.row, ⟨hX.low.os, hX.low.tape, hX.low.output, (hX.bas _ List.mem_cons_self).1, fun k hk hne => (hX.bas _ List.mem_cons_self).2 k hk (fun e => hne e.symm)⟩, hR.src⟩
theorem kap_K8 {n0 : Nat} (hn : KapC n0) (n : Int) (s : ByteArray) (lt dt : Tr) (hsz0 : (Tr.mk 8 n s lt dt).sz ≤ n0 + 1) (w : World) (F0 : Nat → Prop) (v0 : Value) (l0 : List UInt8) (cs : List Value) (hrow : RowB 0 w v0 l0) (hv0 : VAt w F0 (Tr.mk 8 n s lt dt) cs) (hF0 : ∀ k, F0 k → v0.ownBlock ≠ some k) (htot : l0.length + (Tr.mk 8 n s lt dt).kb.length ≤ 1000000000) : Calls Tryz.prog 16 #[v0, .agg cs.toArray] w fun e w' => ∃ v', e = .returned v' ∧ RowB 0 w' v' (l0 ++ (Tr.mk 8 n s lt dt).kb) ∧ w.grownBy w' v0.ownBlock ∧ Src v0 v' w := by
 obtain ⟨F, hFd⟩ : ∃ F : Nat → Prop, F = fun k => F0 k ∧ k < w.heap.size := ⟨_, rfl⟩
 have hv : VAt w F (Tr.mk 8 n s lt dt) cs := hv0.kept (Nat.le_refl _) (fun _ _ _ => rfl) (fun k h hl => by rw [hFd]; exact ⟨h, hl⟩)
 have hFv : ∀ k, F k → v0.ownBlock ≠ some k := fun k h => by rw [hFd] at h; exact hF0 k h.1
 have hFl : ∀ k, F k → k < w.heap.size := fun k h => by rw [hFd] at h; exact h.2
 clear hFd hF0 hv0
 obtain ⟨la, lc, da, dc, rfl, wk, wn, ws, hL, hD⟩ := hv.parts
 obtain ⟨_, _, e1, hlL, hl1, hl2, _⟩ := id hL
 obtain ⟨_, _, rfl⟩ := Value.slice.inj e1
 obtain ⟨_, _, e2, hdF, hd1, hd2, _⟩ := id hD
 obtain ⟨_, _, rfl⟩ := Value.slice.inj e2
 unfold maxLen at hl2 hd2 ws
 simp only [Tr.sz] at hsz0
 have hR := RowW.start hrow
 have hkb : (Tr.mk 8 n s lt dt).kb = (Tr.kB 8 :: (s.data.toList.flatMap escC ++ [0, 0])) := rfl
 rw [hkb] at htot ⊢
 have hlen := htot
 simp only [List.length_append, List.length_cons, List.length_nil] at hlen
 refine cv2 Tryz.func16 rfl rfl rfl fun a hf => ?_
 have hX := Bx.start w
 clear hX
 have hX := Bx.bare w (fun k => v0.ownBlock ≠ some k)
 have hbs : ∀ p ∈ (⟨bare w, [(w, fun k => v0.ownBlock ≠ some k)]⟩ : Base).bs, p.1.heap.size ≤ w.heap.size ∧ ∀ k, v0.ownBlock = some k → ¬ p.2 k := (fun p hp => by rw [List.mem_singleton.1 hp]; exact ⟨Nat.le_refl _, fun k hk h => h hk⟩)
 refine gc hf ?_
 intro a hf
 refine sv_box hf hX rfl dd (fun a C1 W hC hf hX hA => ?_)
 have hnC1 := fun k hk => Nat.ne_of_lt (Nat.lt_of_lt_of_eq (hR.row.lt k hk).2 hC.symm)
 replace hR := hR.below hA
 clear hC hA
 refine go hf ?_
 intro a hf
 refine sv_run (v := .int .u8 ((Tr.kB 8).toNat : Int)) hf dd (fun a hf => ex_cvu8 hf rfl rfl) (fun a hf => ?_)
 refine sv_bs8 (m := (((Tr.kB 8)).toNat : Int)) hf hX rfl dd (fun a G2 W hC hf hX hA => ?_)
 have hnG2 := fun k hk => Nat.ne_of_lt (Nat.lt_of_lt_of_eq (hR.row.lt k hk).2 hC.symm)
 replace hR := hR.below hA
 clear hC hA
 replace hX : Bx ⟨bare w, [(w, fun k => v0.ownBlock ≠ some k)]⟩ [(G2, (Lib.byteCells [(Tr.kB 8)])), (C1, [.int .i64 8, .int .i64 n, .string s, .slice la lt.len lc, .slice da dt.len dc])] W := hX
 have hlG2 := (hX.get (i := 0) rfl).lt
 have hlC1 := (hX.get (i := 1) rfl).lt
 refine sv_app8 (bs := [(Tr.kB 8)]) hf hX rfl rfl hR rfl hbs (by intro k hk x hx e; simp only [List.mem_cons, List.not_mem_nil, or_false] at hx; rcases hx with rfl; exact hnC1 k hk e.symm) (by have := hlen; simp only [List.length_append, List.length_cons, List.length_nil, size_list]; omega) dd (fun a v3 W hf hX hR hg hsrc => ?_)
 replace hnC1 : ∀ k, (v3).ownBlock = some k → k ≠ C1 := fun k hk => by rcases hsrc k hk with h | h; exact hnC1 k h; omega
 clear hg hsrc
 refine go hf ?_
 intro a hf
 refine wp_block ?_
 refine gc hf ?_
 intro a hf
 refine sv_lens hf rfl u9 dd (fun a hf => ?_)
 refine go hf ?_
 intro a hf
 refine wp_block (wp_loop (fun a X => ∃ (q : Nat) (vx : Value), FrV 113 [(0, vx), (3, .pointer (some ⟨C1, 0, none⟩)), (45, .int .i64 ((s).size : Int)), (46, .int .i64 (q : Int))] a ∧ Bx ⟨bare w, [(w, fun k => v0.ownBlock ≠ some k)]⟩ [(C1, [.int .i64 8, .int .i64 n, .string s, .slice la lt.len lc, .slice da dt.len dc])] X ∧ q ≤ s.size ∧ RowW w v0 X vx (l0 ++ [Tr.kB 8] ++ (s.data.toList.take q).flatMap escC) ∧ ∀ k, vx.ownBlock = some k → k ≠ C1) (fun a _ => s.size - (intOf (a.eval (.tmp 46))).toNat) ⟨0, _, hf.sub (sub_cons rfl (sub_cons rfl (sub_cons rfl (sub_cons rfl (sub_nil))))), hX, Nat.zero_le _, (by rw [List.take_zero, List.flatMap_nil, List.append_nil]; exact hR), hnC1⟩ ?_)
 clear hf hX hR
 rintro a W ⟨q, vx, hf, hX, hq, hR, hnC1⟩
 have hm46 : a.eval (.tmp 46) = .int .i64 (q : Int) := hf.rel 46 _ rfl
 rcases Decidable.em ((q : Int) < ((s).size : Int)) with hgo | hgo
 ·
  refine gc hf ?_
  intro a hf
  refine ct hf hgo fun a hf => ?_
  refine go hf ?_
  intro a hf
  refine wp_block ?_
  refine gc hf ?_
  intro a hf
  have hcq' : q < s.size := by omega
  obtain ⟨cq, hcq⟩ : ∃ c : UInt8, s[q]'hcq' = c := ⟨_, rfl⟩
  have hcs : s.data.toList[q]? = some cq := by rw [str_at hcq', hcq]
  have hE := flat_take_le escC s.data.toList (q + 1)
  rw [flat_step hcs, List.length_append] at hE
  refine sv_run (v := .int .u8 ((cq.toNat : Nat) : Int)) hf dd (fun a hf => (by rw [← hcq]; exact ex_chr (k := q) hf rfl rfl rfl u9 hcq')) (fun a hf => ?_)
  refine sv_bs8 (m := ((cq).toNat : Int)) hf hX rfl dd (fun a G4 W hC hf hX hA => ?_)
  have hnG4 := fun k hk => Nat.ne_of_lt (Nat.lt_of_lt_of_eq (hR.row.lt k hk).2 hC.symm)
  replace hR := hR.below hA
  clear hC hA
  replace hX : Bx ⟨bare w, [(w, fun k => v0.ownBlock ≠ some k)]⟩ [(G4, (Lib.byteCells [cq])), (C1, [.int .i64 8, .int .i64 n, .string s, .slice la lt.len lc, .slice da dt.len dc])] W := hX
  have hlG4 := (hX.get (i := 0) rfl).lt
  have hlC1 := (hX.get (i := 1) rfl).lt
  refine sv_app8 (bs := [cq]) hf hX rfl rfl hR rfl hbs (by intro k hk x hx e; simp only [List.mem_cons, List.not_mem_nil, or_false] at hx; rcases hx with rfl; exact hnC1 k hk e.symm) (by have := hlen; simp only [List.length_append, List.length_cons, List.length_nil, size_list]; omega) dd (fun a v5 W hf hX hR hg hsrc => ?_)
  replace hnC1 : ∀ k, (v5).ownBlock = some k → k ≠ C1 := fun k hk => by rcases hsrc k hk with h | h; exact hnC1 k h; omega
  clear hg hsrc
  refine go hf ?_
  intro a hf
  refine sv_run (v := .int .u8 ((cq.toNat : Nat) : Int)) hf dd (fun a hf => (by rw [← hcq]; exact ex_chr (k := q) hf rfl rfl rfl u9 hcq')) (fun a hf => ?_)
  rcases Decidable.em (((cq.toNat : Nat) : Int) = 0) with hq6 | hq6
  ·
   refine sv_run (v := .bool true) hf dd (fun a hf => ex_cmpk hf rfl rfl rfl (congrArg some (decide_eq_true hq6))) (fun a hf => ?_)
   refine go hf ?_
   intro a hf
   refine sv_bs8 (m := (((255 : UInt8)).toNat : Int)) hf hX rfl dd (fun a G7 W hC hf hX hA => ?_)
   have hnG7 := fun k hk => Nat.ne_of_lt (Nat.lt_of_lt_of_eq (hR.row.lt k hk).2 hC.symm)
   replace hR := hR.below hA
   clear hC hA
   replace hX : Bx ⟨bare w, [(w, fun k => v0.ownBlock ≠ some k)]⟩ [(G7, (Lib.byteCells [(255 : UInt8)])), (C1, [.int .i64 8, .int .i64 n, .string s, .slice la lt.len lc, .slice da dt.len dc])] W := hX
   have hlG7 := (hX.get (i := 0) rfl).lt
   have hlC1 := (hX.get (i := 1) rfl).lt
   refine sv_app8 (bs := [(255 : UInt8)]) hf hX rfl rfl hR rfl hbs (by intro k hk x hx e; simp only [List.mem_cons, List.not_mem_nil, or_false] at hx; rcases hx with rfl; exact hnC1 k hk e.symm) (by have := hlen; simp only [List.length_append, List.length_cons, List.length_nil, size_list]; omega) dd (fun a v8 W hf hX hR hg hsrc => ?_)
   replace hnC1 : ∀ k, (v8).ownBlock = some k → k ≠ C1 := fun k hk => by rcases hsrc k hk with h | h; exact hnC1 k h; omega
   clear hg hsrc
   refine go hf ?_
   intro a hf
   refine sv_add ((q + 1 : Nat) : Int) hf rfl rfl (by rw [wrap_in (by omega)]; rfl) dd (fun a hf => ?_)
   refine go hf ?_
   intro a hf
   have hc0 : cq = 0 := UInt8.toNat_inj.1 (by have := hq6; show cq.toNat = 0; omega)
   have hls : l0 ++ [Tr.kB 8] ++ (s.data.toList.take q).flatMap escC ++ [cq] ++ [255] = l0 ++ [Tr.kB 8] ++ (s.data.toList.take (q + 1)).flatMap escC := by rw [flat_step hcs, escC, if_pos hc0, hc0]; simp only [List.append_assoc]; rfl
   rw [hls] at hR
   refine ⟨⟨q + 1, _, hf.sub (sub_cons rfl (sub_cons rfl (sub_cons rfl (sub_cons rfl (sub_nil))))), hX, by omega, hR, hnC1⟩, ?_⟩
   have h5 : a.eval (.tmp 46) = .int .i64 ((q + 1 : Nat) : Int) := hf.rel 46 _ rfl
   rw [h5, hm46]; simp only [intOf, Int.toNat_natCast]; omega
  ·
   refine sv_run (v := .bool false) hf dd (fun a hf => ex_cmpk hf rfl rfl rfl (congrArg some (decide_eq_false hq6))) (fun a hf => ?_)
   refine go hf ?_
   intro a hf
   refine sv_add ((q + 1 : Nat) : Int) hf rfl rfl (by rw [wrap_in (by omega)]; rfl) dd (fun a hf => ?_)
   refine go hf ?_
   intro a hf
   have hc0 : ¬ cq = 0 := fun e => hq6 (by rw [e]; rfl)
   have hls : l0 ++ [Tr.kB 8] ++ (s.data.toList.take q).flatMap escC ++ [cq] = l0 ++ [Tr.kB 8] ++ (s.data.toList.take (q + 1)).flatMap escC := by rw [flat_step hcs, escC, if_neg hc0]; simp only [List.append_assoc]
   rw [hls] at hR
   refine ⟨⟨q + 1, _, hf.sub (sub_cons rfl (sub_cons rfl (sub_cons rfl (sub_cons rfl (sub_nil))))), hX, by omega, hR, hnC1⟩, ?_⟩
   have h5 : a.eval (.tmp 46) = .int .i64 ((q + 1 : Nat) : Int) := hf.rel 46 _ rfl
   rw [h5, hm46]; simp only [intOf, Int.toNat_natCast]; omega
 ·
  refine gc hf ?_
  intro a hf
  refine cf hf hgo fun a hf => ?_
  refine go hf ?_
  intro a hf
  refine wp_exit ?_
  simp only [Exit.inBlock, Exit.then, ↓reduceIte]
  have hqe : q = s.size := by omega
  rw [hqe, List.take_of_length_le (by rw [size_list]; exact Nat.le_refl _)] at hR
  refine gc hf ?_
  intro a hf
  refine sv_bs82 (m := (((0 : UInt8)).toNat : Int)) (n := (((0 : UInt8)).toNat : Int)) hf hX rfl rfl dd (fun a G9 W hC hf hX hA => ?_)
  have hnG9 := fun k hk => Nat.ne_of_lt (Nat.lt_of_lt_of_eq (hR.row.lt k hk).2 hC.symm)
  replace hR := hR.below hA
  clear hC hA
  replace hX : Bx ⟨bare w, [(w, fun k => v0.ownBlock ≠ some k)]⟩ [(G9, (Lib.byteCells [(0 : UInt8), (0 : UInt8)])), (C1, [.int .i64 8, .int .i64 n, .string s, .slice la lt.len lc, .slice da dt.len dc])] W := hX
  have hlG9 := (hX.get (i := 0) rfl).lt
  have hlC1 := (hX.get (i := 1) rfl).lt
  refine sv_app8 (bs := [(0 : UInt8), (0 : UInt8)]) hf hX rfl rfl hR rfl hbs (by intro k hk x hx e; simp only [List.mem_cons, List.not_mem_nil, or_false] at hx; rcases hx with rfl; exact hnC1 k hk e.symm) (by have := hlen; simp only [List.length_append, List.length_cons, List.length_nil, size_list]; omega) dd (fun a v10 W hf hX hR hg hsrc => ?_)
  replace hnC1 : ∀ k, (v10).ownBlock = some k → k ≠ C1 := fun k hk => by rcases hsrc k hk with h | h; exact hnC1 k h; omega
  clear hg hsrc
  refine go hf ?_
  intro a hf
  have hfin : (l0 ++ [Tr.kB 8] ++ s.data.toList.flatMap escC) ++ [(0 : UInt8), (0 : UInt8)] = l0 ++ (Tr.kB 8 :: (s.data.toList.flatMap escC ++ [0, 0])) := by simp only [List.append_assoc]; rfl
  rw [hfin] at hR
  exact rt hf rfl rfl ⟨_, rfl, hR.row, ⟨hX.low.os, hX.low.tape, hX.low.output, (hX.bas _ List.mem_cons_self).1, fun k hk hne => (hX.bas _ List.mem_cons_self).2 k hk (fun e => hne e.symm)⟩, hR.src⟩
theorem kap_K6 {n0 : Nat} (hn : KapC n0) (n : Int) (s : ByteArray) (lt dt : Tr) (hsz0 : (Tr.mk 6 n s lt dt).sz ≤ n0 + 1) (w : World) (F0 : Nat → Prop) (v0 : Value) (l0 : List UInt8) (cs : List Value) (hrow : RowB 0 w v0 l0) (hv0 : VAt w F0 (Tr.mk 6 n s lt dt) cs) (hF0 : ∀ k, F0 k → v0.ownBlock ≠ some k) (htot : l0.length + (Tr.mk 6 n s lt dt).kb.length ≤ 1000000000) : Calls Tryz.prog 16 #[v0, .agg cs.toArray] w fun e w' => ∃ v', e = .returned v' ∧ RowB 0 w' v' (l0 ++ (Tr.mk 6 n s lt dt).kb) ∧ w.grownBy w' v0.ownBlock ∧ Src v0 v' w := by
 obtain ⟨F, hFd⟩ : ∃ F : Nat → Prop, F = fun k => F0 k ∧ k < w.heap.size := ⟨_, rfl⟩
 have hv : VAt w F (Tr.mk 6 n s lt dt) cs := hv0.kept (Nat.le_refl _) (fun _ _ _ => rfl) (fun k h hl => by rw [hFd]; exact ⟨h, hl⟩)
 have hFv : ∀ k, F k → v0.ownBlock ≠ some k := fun k h => by rw [hFd] at h; exact hF0 k h.1
 have hFl : ∀ k, F k → k < w.heap.size := fun k h => by rw [hFd] at h; exact h.2
 clear hFd hF0 hv0
 obtain ⟨la, lc, da, dc, rfl, wk, wn, ws, hL, hD⟩ := hv.parts
 obtain ⟨_, _, e1, hlL, hl1, hl2, _⟩ := id hL
 obtain ⟨_, _, rfl⟩ := Value.slice.inj e1
 obtain ⟨_, _, e2, hdF, hd1, hd2, _⟩ := id hD
 obtain ⟨_, _, rfl⟩ := Value.slice.inj e2
 unfold maxLen at hl2 hd2 ws
 simp only [Tr.sz] at hsz0
 have hR := RowW.start hrow
 have hkb : (Tr.mk 6 n s lt dt).kb = (Tr.kB 6 :: ((lt.lst.flatMap fun p => 1 :: p.kb) ++ [0])) := by show _ :: lt.kb = _; rw [kb_lst lt hlL]
 rw [hkb] at htot ⊢
 have hlen := htot
 simp only [List.length_append, List.length_cons, List.length_nil] at hlen
 refine cv2 Tryz.func16 rfl rfl rfl fun a hf => ?_
 have hX := Bx.start w
 clear hX
 have hX := Bx.bare w (fun k => v0.ownBlock ≠ some k)
 have hbs : ∀ p ∈ (⟨bare w, [(w, fun k => v0.ownBlock ≠ some k)]⟩ : Base).bs, p.1.heap.size ≤ w.heap.size ∧ ∀ k, v0.ownBlock = some k → ¬ p.2 k := (fun p hp => by rw [List.mem_singleton.1 hp]; exact ⟨Nat.le_refl _, fun k hk h => h hk⟩)
 refine gc hf ?_
 intro a hf
 refine sv_box hf hX rfl dd (fun a C1 W hC hf hX hA => ?_)
 have hnC1 := fun k hk => Nat.ne_of_lt (Nat.lt_of_lt_of_eq (hR.row.lt k hk).2 hC.symm)
 replace hR := hR.below hA
 clear hC hA
 refine go hf ?_
 intro a hf
 refine sv_run (v := .int .u8 ((Tr.kB 6).toNat : Int)) hf dd (fun a hf => ex_cvu8 hf rfl rfl) (fun a hf => ?_)
 refine sv_bs8 (m := (((Tr.kB 6)).toNat : Int)) hf hX rfl dd (fun a G2 W hC hf hX hA => ?_)
 have hnG2 := fun k hk => Nat.ne_of_lt (Nat.lt_of_lt_of_eq (hR.row.lt k hk).2 hC.symm)
 replace hR := hR.below hA
 clear hC hA
 replace hX : Bx ⟨bare w, [(w, fun k => v0.ownBlock ≠ some k)]⟩ [(G2, (Lib.byteCells [(Tr.kB 6)])), (C1, [.int .i64 6, .int .i64 n, .string s, .slice la lt.len lc, .slice da dt.len dc])] W := hX
 have hlG2 := (hX.get (i := 0) rfl).lt
 have hlC1 := (hX.get (i := 1) rfl).lt
 refine sv_app8 (bs := [(Tr.kB 6)]) hf hX rfl rfl hR rfl hbs (by intro k hk x hx e; simp only [List.mem_cons, List.not_mem_nil, or_false] at hx; rcases hx with rfl; exact hnC1 k hk e.symm) (by have := hlen; simp only [List.length_append, List.length_cons, List.length_nil, size_list]; omega) dd (fun a v3 W hf hX hR hg hsrc => ?_)
 replace hnC1 : ∀ k, (v3).ownBlock = some k → k ≠ C1 := fun k hk => by rcases hsrc k hk with h | h; exact hnC1 k h; omega
 clear hg hsrc
 refine go hf ?_
 intro a hf
 refine wp_block ?_
 refine gc hf ?_
 intro a hf
 refine sv_len hf rfl u26 dd (fun a hf => ?_)
 refine go hf ?_
 intro a hf
 refine wp_block (wp_loop (fun a X => ∃ (q : Nat) (vx : Value), FrV 113 [(0, vx), (71, .slice la lt.len lc), (72, .int .i64 ((lt.len : Nat) : Int)), (73, .int .i64 (q : Int))] a ∧ Bx ⟨bare w, [(w, fun k => v0.ownBlock ≠ some k)]⟩ [(C1, [.int .i64 6, .int .i64 n, .string s, .slice la lt.len lc, .slice da dt.len dc])] X ∧ q ≤ lt.len ∧ RowW w v0 X vx (l0 ++ [Tr.kB 6] ++ (lt.lst.take q).flatMap (fun p : Tr => 1 :: p.kb)) ∧ ∀ k, vx.ownBlock = some k → k ≠ C1) (fun a _ => lt.len - (intOf (a.eval (.tmp 73))).toNat) ⟨0, _, hf.sub (sub_cons rfl (sub_cons rfl (sub_cons rfl (sub_cons rfl (sub_nil))))), hX, Nat.zero_le _, (by rw [List.take_zero, List.flatMap_nil, List.append_nil]; exact hR), hnC1⟩ ?_)
 clear hf hX hR
 rintro a W ⟨q, vx, hf, hX, hq, hR, hnC1⟩
 have hm73 : a.eval (.tmp 73) = .int .i64 (q : Int) := hf.rel 73 _ rfl
 rcases Decidable.em ((q : Int) < ((lt.len : Nat) : Int)) with hgo | hgo
 ·
  refine gc hf ?_
  intro a hf
  refine ct hf hgo fun a hf => ?_
  refine go hf ?_
  intro a hf
  refine wp_block ?_
  have hqx : q < lt.len := by omega
  obtain ⟨LB, LO, _, p, ps, hsl, hFB, hLB, hpq, hps, hr, hvp⟩ := hL.get hqx
  have hpp := hpq
  obtain ⟨hla, _, _⟩ := Value.slice.inj hsl
  have hones := hvp.ones
  have hE := flat_take_le (fun p : Tr => 1 :: p.kb) lt.lst (q + 1)
  rw [flat_step hpp, List.length_append] at hE
  simp only [List.length_cons, List.length_append] at hE
  refine gc hf ?_
  intro a hf
  refine sv_idx (k := 5) (q := q) (B := LB) (o := LO) hf (show _ = some (Value.slice (some ⟨LB, LO, none⟩) lt.len lc) from by rw [← hla]; rfl) rfl hqx u26 einfo_vals dd (fun a hf => ?_)
  refine sv_lrr (cs := ps) hf rfl (rep_row_mono hr (hX.bas _ List.mem_cons_self |>.2 LB hLB (hFv LB hFB))) u29 (by show _ = some (ps.length); rw [hps]; exact info_val) dd (fun a hf => ?_)
  refine sv_alloc (zs := [.int .i64 0, .int .i64 0, .string ⟨#[]⟩, .slice none 0 0, .slice none 0 0]) hf hX zero_val dd (fun a C4 W hC hf hX hA => ?_)
  have hnC4 := fun k hk => Nat.ne_of_lt (Nat.lt_of_lt_of_eq (hR.row.lt k hk).2 hC.symm)
  replace hR := hR.below hA
  clear hC hA
  refine sv_sr hf hX rfl rfl 0 rfl (by show ps.length = _; rw [hps]; rfl) (by show _ = some (ps.length); rw [hps]; exact info_val) hones [(C4, ps), (C1, [.int .i64 6, .int .i64 n, .string s, .slice la lt.len lc, .slice da dt.len dc])] rfl (fun W hX hO => ?_)
  replace hR := hR.only hO hnC4
  clear hO
  refine go hf ?_
  intro a hf
  refine wp_region_ordW 6 5 [(0, 0), (3, 1), (1, 2), (2, 2), (4, 2), (5, 3)] (fun X => Bx ⟨bare w, [(w, fun k => v0.ownBlock ≠ some k)]⟩ [(C4, ps), (C1, [.int .i64 6, .int .i64 n, .string s, .slice la lt.len lc, .slice da dt.len dc])] X) mixed (by kernel_rfl) hX.drew (fun c a d v w h => by cases d <;> exact h) ?_
  replace hX := hX.drew
  replace hR := hR.below (Below.refl _ _).drew
  refine o0 hf fun a hf => ?_
  refine ov1 hf rfl rfl dd rfl (fun X hS => ex_vlr (cs := ps) hf rfl rfl (hS.get (i := 0) rfl) u29 (by rw [hps]; exact info_val)) (fun a hf => ?_)
  refine ov2_bs8 (m := (((1 : UInt8)).toNat : Int)) hf hX rfl rfl dd rfl rfl rfl (fun _ h => h) (fun a G5 W hC hf hX hA => ?_)
  have hnG5 := fun k hk => Nat.ne_of_lt (Nat.lt_of_lt_of_eq (hR.row.lt k hk).2 hC.symm)
  replace hR := hR.below hA
  clear hC hA
  replace hX : Bx ⟨bare w, [(w, fun k => v0.ownBlock ≠ some k)]⟩ [(G5, (Lib.byteCells [(1 : UInt8)])), (C4, ps), (C1, [.int .i64 6, .int .i64 n, .string s, .slice la lt.len lc, .slice da dt.len dc])] W := hX
  have hlG5 := (hX.get (i := 0) rfl).lt
  have hlC4 := (hX.get (i := 1) rfl).lt
  have hlC1 := (hX.get (i := 2) rfl).lt
  refine ov2_app8 (bs := [(1 : UInt8)]) hf hX rfl rfl dd rfl rfl rfl rfl hR rfl hbs (by intro k hk x hx e; simp only [List.mem_cons, List.not_mem_nil, or_false] at hx; rcases hx with rfl | rfl; exact hnC4 k hk e.symm; exact hnC1 k hk e.symm) (by have := hlen; simp only [List.length_append, List.length_cons, List.length_nil, size_list]; omega) (fun _ h => h) (fun a v6 W hf hX hR hg hsrc => ?_)
  replace hnC4 : ∀ k, (v6).ownBlock = some k → k ≠ C4 := fun k hk => by rcases hsrc k hk with h | h; exact hnC4 k h; omega
  replace hnC1 : ∀ k, (v6).ownBlock = some k → k ≠ C1 := fun k hk => by rcases hsrc k hk with h | h; exact hnC1 k h; omega
  clear hg hsrc
  have hlC4 := (hX.get (i := 0) rfl).lt
  have hlC1 := (hX.get (i := 1) rfl).lt
  refine ov2c hf rfl rfl dd rfl rfl fnOK_16 rfl (hn p (by have := Tr.sz_lst lt p (List.mem_of_getElem? hpq); omega) _ F v6 _ ps hR.row (hvp.kept (hX.bas _ List.mem_cons_self).1 (fun k hk hlt => (hX.bas _ List.mem_cons_self).2 k hlt (hFv k hk)) (fun _ h _ => h)) (fun k hk e => by rcases hR.src k e with h | h; exact hFv k hk h; have := hFl k hk; omega) (by have := hlen; simp only [List.length_append, List.length_cons, List.length_nil, size_list]; omega)) ?_
  rintro e W2 ⟨v7, rfl, hrw, hg, hsrc⟩
  replace hX := grow_bx hX hR rfl hbs (by intro k hk x hx e; simp only [List.mem_cons, List.not_mem_nil, or_false] at hx; rcases hx with rfl | rfl; exact hnC4 k hk e.symm; exact hnC1 k hk e.symm) hg
  replace hR := hR.next hrw hg hsrc
  clear hrw
  replace hnC4 : ∀ k, (v7).ownBlock = some k → k ≠ C4 := fun k hk => by rcases hsrc k hk with h | h; exact hnC4 k h; omega
  replace hnC1 : ∀ k, (v7).ownBlock = some k → k ≠ C1 := fun k hk => by rcases hsrc k hk with h | h; exact hnC1 k h; omega
  clear hg hsrc
  obtain ⟨W, hWW⟩ : ∃ X, X = W2 := ⟨_, rfl⟩
  subst hWW
  refine ⟨_, rfl, hX, fun a hf => ?_⟩
  refine ov3v hf rfl rfl dd rfl (ex_vas hf rfl rfl) (fun a hf => ?_)
  refine wpOrd_nil ?_
  refine gc hf ?_
  intro a hf
  refine sv_add ((q + 1 : Nat) : Int) hf rfl rfl (by rw [wrap_in (by omega)]; rfl) dd (fun a hf => ?_)
  refine go hf ?_
  intro a hf
  have hls : l0 ++ [Tr.kB 6] ++ (lt.lst.take q).flatMap (fun p : Tr => 1 :: p.kb) ++ [(1 : UInt8)] ++ p.kb = l0 ++ [Tr.kB 6] ++ (lt.lst.take (q + 1)).flatMap (fun p : Tr => 1 :: p.kb) := by rw [flat_step hpp]; simp only [List.append_assoc]; rfl
  rw [hls] at hR
  refine ⟨⟨q + 1, _, hf.sub (sub_cons rfl (sub_cons rfl (sub_cons rfl (sub_cons rfl (sub_nil))))), hX.sub, by omega, hR, hnC1⟩, ?_⟩
  have h5 : a.eval (.tmp 73) = .int .i64 ((q + 1 : Nat) : Int) := hf.rel 73 _ rfl
  rw [h5, hm73]; simp only [intOf, Int.toNat_natCast]; omega
 ·
  refine gc hf ?_
  intro a hf
  refine cf hf hgo fun a hf => ?_
  refine go hf ?_
  intro a hf
  refine wp_exit ?_
  simp only [Exit.inBlock, Exit.then, ↓reduceIte]
  have hqe : q = lt.len := by omega
  rw [hqe, List.take_length] at hR
  refine gc hf ?_
  intro a hf
  refine sv_bs8 (m := (((0 : UInt8)).toNat : Int)) hf hX rfl dd (fun a G8 W hC hf hX hA => ?_)
  have hnG8 := fun k hk => Nat.ne_of_lt (Nat.lt_of_lt_of_eq (hR.row.lt k hk).2 hC.symm)
  replace hR := hR.below hA
  clear hC hA
  replace hX : Bx ⟨bare w, [(w, fun k => v0.ownBlock ≠ some k)]⟩ [(G8, (Lib.byteCells [(0 : UInt8)])), (C1, [.int .i64 6, .int .i64 n, .string s, .slice la lt.len lc, .slice da dt.len dc])] W := hX
  have hlG8 := (hX.get (i := 0) rfl).lt
  have hlC1 := (hX.get (i := 1) rfl).lt
  refine sv_app8 (bs := [(0 : UInt8)]) hf hX rfl rfl hR rfl hbs (by intro k hk x hx e; simp only [List.mem_cons, List.not_mem_nil, or_false] at hx; rcases hx with rfl; exact hnC1 k hk e.symm) (by have := hlen; simp only [List.length_append, List.length_cons, List.length_nil, size_list]; omega) dd (fun a v9 W hf hX hR hg hsrc => ?_)
  replace hnC1 : ∀ k, (v9).ownBlock = some k → k ≠ C1 := fun k hk => by rcases hsrc k hk with h | h; exact hnC1 k h; omega
  clear hg hsrc
  refine go hf ?_
  intro a hf
  have hfin : (l0 ++ [Tr.kB 6] ++ lt.lst.flatMap (fun p : Tr => 1 :: p.kb)) ++ [(0 : UInt8)] = l0 ++ (Tr.kB 6 :: ((lt.lst.flatMap fun p => 1 :: p.kb) ++ [0])) := by simp only [List.append_assoc]; rfl
  rw [hfin] at hR
  exact rt hf rfl rfl ⟨_, rfl, hR.row, ⟨hX.low.os, hX.low.tape, hX.low.output, (hX.bas _ List.mem_cons_self).1, fun k hk hne => (hX.bas _ List.mem_cons_self).2 k hk (fun e => hne e.symm)⟩, hR.src⟩
theorem kap_K5 {n0 : Nat} (hn : KapC n0) (n : Int) (s : ByteArray) (lt dt : Tr) (hsz0 : (Tr.mk 5 n s lt dt).sz ≤ n0 + 1) (w : World) (F0 : Nat → Prop) (v0 : Value) (l0 : List UInt8) (cs : List Value) (hrow : RowB 0 w v0 l0) (hv0 : VAt w F0 (Tr.mk 5 n s lt dt) cs) (hF0 : ∀ k, F0 k → v0.ownBlock ≠ some k) (htot : l0.length + (Tr.mk 5 n s lt dt).kb.length ≤ 1000000000) : Calls Tryz.prog 16 #[v0, .agg cs.toArray] w fun e w' => ∃ v', e = .returned v' ∧ RowB 0 w' v' (l0 ++ (Tr.mk 5 n s lt dt).kb) ∧ w.grownBy w' v0.ownBlock ∧ Src v0 v' w := by
 obtain ⟨F, hFd⟩ : ∃ F : Nat → Prop, F = fun k => F0 k ∧ k < w.heap.size := ⟨_, rfl⟩
 have hv : VAt w F (Tr.mk 5 n s lt dt) cs := hv0.kept (Nat.le_refl _) (fun _ _ _ => rfl) (fun k h hl => by rw [hFd]; exact ⟨h, hl⟩)
 have hFv : ∀ k, F k → v0.ownBlock ≠ some k := fun k h => by rw [hFd] at h; exact hF0 k h.1
 have hFl : ∀ k, F k → k < w.heap.size := fun k h => by rw [hFd] at h; exact h.2
 clear hFd hF0 hv0
 obtain ⟨la, lc, da, dc, rfl, wk, wn, ws, hL, hD⟩ := hv.parts
 obtain ⟨_, _, e1, hlL, hl1, hl2, _⟩ := id hL
 obtain ⟨_, _, rfl⟩ := Value.slice.inj e1
 obtain ⟨_, _, e2, hdF, hd1, hd2, _⟩ := id hD
 obtain ⟨_, _, rfl⟩ := Value.slice.inj e2
 unfold maxLen at hl2 hd2 ws
 simp only [Tr.sz] at hsz0
 have hR := RowW.start hrow
 have hkb : (Tr.mk 5 n s lt dt).kb = (Tr.kB 5 :: ((dt.prs.flatMap fun p => 1 :: (p.1.data.toList ++ (0 :: p.2.kb))) ++ [0])) := by show _ :: dt.kb = _; rw [kb_prs dt hdF]
 rw [hkb] at htot ⊢
 have hlen := htot
 simp only [List.length_append, List.length_cons, List.length_nil] at hlen
 refine cv2 Tryz.func16 rfl rfl rfl fun a hf => ?_
 have hX := Bx.start w
 clear hX
 have hX := Bx.bare w (fun k => v0.ownBlock ≠ some k)
 have hbs : ∀ p ∈ (⟨bare w, [(w, fun k => v0.ownBlock ≠ some k)]⟩ : Base).bs, p.1.heap.size ≤ w.heap.size ∧ ∀ k, v0.ownBlock = some k → ¬ p.2 k := (fun p hp => by rw [List.mem_singleton.1 hp]; exact ⟨Nat.le_refl _, fun k hk h => h hk⟩)
 refine gc hf ?_
 intro a hf
 refine sv_box hf hX rfl dd (fun a C1 W hC hf hX hA => ?_)
 have hnC1 := fun k hk => Nat.ne_of_lt (Nat.lt_of_lt_of_eq (hR.row.lt k hk).2 hC.symm)
 replace hR := hR.below hA
 clear hC hA
 refine go hf ?_
 intro a hf
 refine sv_run (v := .int .u8 ((Tr.kB 5).toNat : Int)) hf dd (fun a hf => ex_cvu8 hf rfl rfl) (fun a hf => ?_)
 refine sv_bs8 (m := (((Tr.kB 5)).toNat : Int)) hf hX rfl dd (fun a G2 W hC hf hX hA => ?_)
 have hnG2 := fun k hk => Nat.ne_of_lt (Nat.lt_of_lt_of_eq (hR.row.lt k hk).2 hC.symm)
 replace hR := hR.below hA
 clear hC hA
 replace hX : Bx ⟨bare w, [(w, fun k => v0.ownBlock ≠ some k)]⟩ [(G2, (Lib.byteCells [(Tr.kB 5)])), (C1, [.int .i64 5, .int .i64 n, .string s, .slice la lt.len lc, .slice da dt.len dc])] W := hX
 have hlG2 := (hX.get (i := 0) rfl).lt
 have hlC1 := (hX.get (i := 1) rfl).lt
 refine sv_app8 (bs := [(Tr.kB 5)]) hf hX rfl rfl hR rfl hbs (by intro k hk x hx e; simp only [List.mem_cons, List.not_mem_nil, or_false] at hx; rcases hx with rfl; exact hnC1 k hk e.symm) (by have := hlen; simp only [List.length_append, List.length_cons, List.length_nil, size_list]; omega) dd (fun a v3 W hf hX hR hg hsrc => ?_)
 replace hnC1 : ∀ k, (v3).ownBlock = some k → k ≠ C1 := fun k hk => by rcases hsrc k hk with h | h; exact hnC1 k h; omega
 clear hg hsrc
 refine go hf ?_
 intro a hf
 refine wp_block ?_
 refine gc hf ?_
 intro a hf
 refine sv_len hf rfl u27 dd (fun a hf => ?_)
 refine go hf ?_
 intro a hf
 refine wp_block (wp_loop (fun a X => ∃ (q : Nat) (vx : Value), FrV 113 [(0, vx), (89, .slice da dt.len dc), (90, .int .i64 ((dt.len : Nat) : Int)), (91, .int .i64 (q : Int))] a ∧ Bx ⟨bare w, [(w, fun k => v0.ownBlock ≠ some k)]⟩ [(C1, [.int .i64 5, .int .i64 n, .string s, .slice la lt.len lc, .slice da dt.len dc])] X ∧ q ≤ dt.len ∧ RowW w v0 X vx (l0 ++ [Tr.kB 5] ++ (dt.prs.take q).flatMap (fun p : ByteArray × Tr => 1 :: (p.1.data.toList ++ (0 :: p.2.kb)))) ∧ ∀ k, vx.ownBlock = some k → k ≠ C1) (fun a _ => dt.len - (intOf (a.eval (.tmp 91))).toNat) ⟨0, _, hf.sub (sub_cons rfl (sub_cons rfl (sub_cons rfl (sub_cons rfl (sub_nil))))), hX, Nat.zero_le _, (by rw [List.take_zero, List.flatMap_nil, List.append_nil]; exact hR), hnC1⟩ ?_)
 clear hf hX hR
 rintro a W ⟨q, vx, hf, hX, hq, hR, hnC1⟩
 have hm91 : a.eval (.tmp 91) = .int .i64 (q : Int) := hf.rel 91 _ rfl
 rcases Decidable.em ((q : Int) < ((dt.len : Nat) : Int)) with hgo | hgo
 ·
  refine gc hf ?_
  intro a hf
  refine ct hf hgo fun a hf => ?_
  refine go hf ?_
  intro a hf
  refine wp_block ?_
  have hqx : q < dt.len := by omega
  obtain ⟨LB, LO, _, p, mn, ps, hsl, hFB, hLB, hpq, hmq, hms, hps, hr, hvp⟩ := hD.get hqx
  unfold maxLen at hms
  have hpp := prs_get dt q mn p hmq hpq hdF
  obtain ⟨hla, _, _⟩ := Value.slice.inj hsl
  have hones := hvp.ones
  have hE := flat_take_le (fun p : ByteArray × Tr => 1 :: (p.1.data.toList ++ (0 :: p.2.kb))) dt.prs (q + 1)
  rw [flat_step hpp, List.length_append] at hE
  simp only [List.length_cons, List.length_append] at hE
  rw [size_list] at hE
  refine gc hf ?_
  intro a hf
  refine sv_idx (k := 6) (q := q) (B := LB) (o := LO) hf (show _ = some (Value.slice (some ⟨LB, LO, none⟩) dt.len dc) from by rw [← hla]; rfl) rfl hqx u27 einfo_flds dd (fun a hf => ?_)
  refine sv_lrr (cs := (.string mn :: ps)) hf rfl (rep_row_mono hr (hX.bas _ List.mem_cons_self |>.2 LB hLB (hFv LB hFB))) u78 (by show _ = some (ps.length + 1); rw [hps]; exact info_fld) dd (fun a hf => ?_)
  refine sv_alloc (zs := [.string ⟨#[]⟩, .int .i64 0, .int .i64 0, .string ⟨#[]⟩, .slice none 0 0, .slice none 0 0]) hf hX zero_fld dd (fun a C4 W hC hf hX hA => ?_)
  have hnC4 := fun k hk => Nat.ne_of_lt (Nat.lt_of_lt_of_eq (hR.row.lt k hk).2 hC.symm)
  replace hR := hR.below hA
  clear hC hA
  refine sv_sr hf hX rfl rfl 0 rfl (by show ps.length + 1 = _; rw [hps]; rfl) (by show _ = some (ps.length + 1); rw [hps]; exact info_fld) (fun v hv => by rcases List.mem_cons.1 hv with rfl | hv; rfl; exact hones v hv) [(C4, (.string mn :: ps)), (C1, [.int .i64 5, .int .i64 n, .string s, .slice la lt.len lc, .slice da dt.len dc])] rfl (fun W hX hO => ?_)
  replace hR := hR.only hO hnC4
  clear hO
  refine go hf ?_
  intro a hf
  refine sv_bs8 (m := (((1 : UInt8)).toNat : Int)) hf hX rfl dd (fun a G5 W hC hf hX hA => ?_)
  have hnG5 := fun k hk => Nat.ne_of_lt (Nat.lt_of_lt_of_eq (hR.row.lt k hk).2 hC.symm)
  replace hR := hR.below hA
  clear hC hA
  replace hX : Bx ⟨bare w, [(w, fun k => v0.ownBlock ≠ some k)]⟩ [(G5, (Lib.byteCells [(1 : UInt8)])), (C4, (.string mn :: ps)), (C1, [.int .i64 5, .int .i64 n, .string s, .slice la lt.len lc, .slice da dt.len dc])] W := hX
  have hlG5 := (hX.get (i := 0) rfl).lt
  have hlC4 := (hX.get (i := 1) rfl).lt
  have hlC1 := (hX.get (i := 2) rfl).lt
  refine sv_app8 (bs := [(1 : UInt8)]) hf hX rfl rfl hR rfl hbs (by intro k hk x hx e; simp only [List.mem_cons, List.not_mem_nil, or_false] at hx; rcases hx with rfl | rfl; exact hnC4 k hk e.symm; exact hnC1 k hk e.symm) (by have := hlen; simp only [List.length_append, List.length_cons, List.length_nil, size_list]; omega) dd (fun a v6 W hf hX hR hg hsrc => ?_)
  replace hnC4 : ∀ k, (v6).ownBlock = some k → k ≠ C4 := fun k hk => by rcases hsrc k hk with h | h; exact hnC4 k h; omega
  replace hnC1 : ∀ k, (v6).ownBlock = some k → k ≠ C1 := fun k hk => by rcases hsrc k hk with h | h; exact hnC1 k h; omega
  clear hg hsrc
  refine go hf ?_
  intro a hf
  refine sv_fld hf rfl u78 rfl sz_str (0) rfl dd (fun a hf => ?_)
  refine go hf ?_
  intro a hf
  have hlC4 := (hX.get (i := 0) rfl).lt
  have hlC1 := (hX.get (i := 1) rfl).lt
  refine sv_app8s hf hX rfl rfl hR rfl hbs (by intro k hk x hx e; simp only [List.mem_cons, List.not_mem_nil, or_false] at hx; rcases hx with rfl | rfl; exact hnC4 k hk e.symm; exact hnC1 k hk e.symm) (by have := hlen; simp only [List.length_append, List.length_cons, List.length_nil, size_list]; omega) dd (fun a v7 W hf hX hR hg hsrc => ?_)
  replace hnC4 : ∀ k, (v7).ownBlock = some k → k ≠ C4 := fun k hk => by rcases hsrc k hk with h | h; exact hnC4 k h; omega
  replace hnC1 : ∀ k, (v7).ownBlock = some k → k ≠ C1 := fun k hk => by rcases hsrc k hk with h | h; exact hnC1 k h; omega
  clear hg hsrc
  refine go hf ?_
  intro a hf
  refine wp_region_ordW 7 6 [(0, 0), (3, 0), (4, 1), (1, 2), (2, 2), (5, 2), (6, 3)] (fun X => Bx ⟨bare w, [(w, fun k => v0.ownBlock ≠ some k)]⟩ [(C4, (.string mn :: ps)), (C1, [.int .i64 5, .int .i64 n, .string s, .slice la lt.len lc, .slice da dt.len dc])] X) mixed (by kernel_rfl) hX.drew (fun c a d v w h => by cases d <;> exact h) ?_
  replace hX := hX.drew
  replace hR := hR.below (Below.refl _ _).drew
  refine o0 hf fun a hf => ?_
  refine ov0 hf rfl rfl dd rfl (fun X => ex_vfld (1) hf rfl rfl u78 rfl sz_val rfl) (fun a hf => ?_)
  refine ov1 hf rfl rfl dd rfl (fun X hS => ex_load_row _ (.tmp 105) _ _ ps _ rfl (hf.rel _ _ rfl) (fun j u hu => by have := (hS.get (i := 0) rfl).cell (j + 1) u hu; rwa [Nat.add_comm j 1] at this) u29 rfl (by rw [hps]; exact info_val)) (fun a hf => ?_)
  refine ov2_bs8 (m := (((0 : UInt8)).toNat : Int)) hf hX rfl rfl dd rfl rfl rfl (fun _ h => h) (fun a G8 W hC hf hX hA => ?_)
  have hnG8 := fun k hk => Nat.ne_of_lt (Nat.lt_of_lt_of_eq (hR.row.lt k hk).2 hC.symm)
  replace hR := hR.below hA
  clear hC hA
  replace hX : Bx ⟨bare w, [(w, fun k => v0.ownBlock ≠ some k)]⟩ [(G8, (Lib.byteCells [(0 : UInt8)])), (C4, (.string mn :: ps)), (C1, [.int .i64 5, .int .i64 n, .string s, .slice la lt.len lc, .slice da dt.len dc])] W := hX
  have hlG8 := (hX.get (i := 0) rfl).lt
  have hlC4 := (hX.get (i := 1) rfl).lt
  have hlC1 := (hX.get (i := 2) rfl).lt
  refine ov2_app8 (bs := [(0 : UInt8)]) hf hX rfl rfl dd rfl rfl rfl rfl hR rfl hbs (by intro k hk x hx e; simp only [List.mem_cons, List.not_mem_nil, or_false] at hx; rcases hx with rfl | rfl; exact hnC4 k hk e.symm; exact hnC1 k hk e.symm) (by have := hlen; simp only [List.length_append, List.length_cons, List.length_nil, size_list]; omega) (fun _ h => h) (fun a v9 W hf hX hR hg hsrc => ?_)
  replace hnC4 : ∀ k, (v9).ownBlock = some k → k ≠ C4 := fun k hk => by rcases hsrc k hk with h | h; exact hnC4 k h; omega
  replace hnC1 : ∀ k, (v9).ownBlock = some k → k ≠ C1 := fun k hk => by rcases hsrc k hk with h | h; exact hnC1 k h; omega
  clear hg hsrc
  have hlC4 := (hX.get (i := 0) rfl).lt
  have hlC1 := (hX.get (i := 1) rfl).lt
  refine ov2c hf rfl rfl dd rfl rfl fnOK_16 rfl (hn p (by have := Tr.sz_lst dt p (List.mem_of_getElem? hpq); omega) _ F v9 _ ps hR.row (hvp.kept (hX.bas _ List.mem_cons_self).1 (fun k hk hlt => (hX.bas _ List.mem_cons_self).2 k hlt (hFv k hk)) (fun _ h _ => h)) (fun k hk e => by rcases hR.src k e with h | h; exact hFv k hk h; have := hFl k hk; omega) (by have := hlen; simp only [List.length_append, List.length_cons, List.length_nil, size_list]; omega)) ?_
  rintro e W2 ⟨v10, rfl, hrw, hg, hsrc⟩
  replace hX := grow_bx hX hR rfl hbs (by intro k hk x hx e; simp only [List.mem_cons, List.not_mem_nil, or_false] at hx; rcases hx with rfl | rfl; exact hnC4 k hk e.symm; exact hnC1 k hk e.symm) hg
  replace hR := hR.next hrw hg hsrc
  clear hrw
  replace hnC4 : ∀ k, (v10).ownBlock = some k → k ≠ C4 := fun k hk => by rcases hsrc k hk with h | h; exact hnC4 k h; omega
  replace hnC1 : ∀ k, (v10).ownBlock = some k → k ≠ C1 := fun k hk => by rcases hsrc k hk with h | h; exact hnC1 k h; omega
  clear hg hsrc
  obtain ⟨W, hWW⟩ : ∃ X, X = W2 := ⟨_, rfl⟩
  subst hWW
  refine ⟨_, rfl, hX, fun a hf => ?_⟩
  refine ov3v hf rfl rfl dd rfl (ex_vas hf rfl rfl) (fun a hf => ?_)
  refine wpOrd_nil ?_
  refine gc hf ?_
  intro a hf
  refine sv_add ((q + 1 : Nat) : Int) hf rfl rfl (by rw [wrap_in (by omega)]; rfl) dd (fun a hf => ?_)
  refine go hf ?_
  intro a hf
  have hls : l0 ++ [Tr.kB 5] ++ (dt.prs.take q).flatMap (fun p : ByteArray × Tr => 1 :: (p.1.data.toList ++ (0 :: p.2.kb))) ++ [(1 : UInt8)] ++ mn.data.toList ++ [(0 : UInt8)] ++ p.kb = l0 ++ [Tr.kB 5] ++ (dt.prs.take (q + 1)).flatMap (fun p : ByteArray × Tr => 1 :: (p.1.data.toList ++ (0 :: p.2.kb))) := by rw [flat_step hpp]; simp only [List.append_assoc]; rfl
  rw [hls] at hR
  refine ⟨⟨q + 1, _, hf.sub (sub_cons rfl (sub_cons rfl (sub_cons rfl (sub_cons rfl (sub_nil))))), hX.sub, by omega, hR, hnC1⟩, ?_⟩
  have h5 : a.eval (.tmp 91) = .int .i64 ((q + 1 : Nat) : Int) := hf.rel 91 _ rfl
  rw [h5, hm91]; simp only [intOf, Int.toNat_natCast]; omega
 ·
  refine gc hf ?_
  intro a hf
  refine cf hf hgo fun a hf => ?_
  refine go hf ?_
  intro a hf
  refine wp_exit ?_
  simp only [Exit.inBlock, Exit.then, ↓reduceIte]
  have hqe : q = dt.len := by omega
  rw [hqe, ← prs_len dt hdF, List.take_length] at hR
  refine gc hf ?_
  intro a hf
  refine sv_bs8 (m := (((0 : UInt8)).toNat : Int)) hf hX rfl dd (fun a G11 W hC hf hX hA => ?_)
  have hnG11 := fun k hk => Nat.ne_of_lt (Nat.lt_of_lt_of_eq (hR.row.lt k hk).2 hC.symm)
  replace hR := hR.below hA
  clear hC hA
  replace hX : Bx ⟨bare w, [(w, fun k => v0.ownBlock ≠ some k)]⟩ [(G11, (Lib.byteCells [(0 : UInt8)])), (C1, [.int .i64 5, .int .i64 n, .string s, .slice la lt.len lc, .slice da dt.len dc])] W := hX
  have hlG11 := (hX.get (i := 0) rfl).lt
  have hlC1 := (hX.get (i := 1) rfl).lt
  refine sv_app8 (bs := [(0 : UInt8)]) hf hX rfl rfl hR rfl hbs (by intro k hk x hx e; simp only [List.mem_cons, List.not_mem_nil, or_false] at hx; rcases hx with rfl; exact hnC1 k hk e.symm) (by have := hlen; simp only [List.length_append, List.length_cons, List.length_nil, size_list]; omega) dd (fun a v12 W hf hX hR hg hsrc => ?_)
  replace hnC1 : ∀ k, (v12).ownBlock = some k → k ≠ C1 := fun k hk => by rcases hsrc k hk with h | h; exact hnC1 k h; omega
  clear hg hsrc
  refine go hf ?_
  intro a hf
  have hfin : (l0 ++ [Tr.kB 5] ++ dt.prs.flatMap (fun p : ByteArray × Tr => 1 :: (p.1.data.toList ++ (0 :: p.2.kb)))) ++ [(0 : UInt8)] = l0 ++ (Tr.kB 5 :: ((dt.prs.flatMap fun p => 1 :: (p.1.data.toList ++ (0 :: p.2.kb))) ++ [0])) := by simp only [List.append_assoc]; rfl
  rw [hfin] at hR
  exact rt hf rfl rfl ⟨_, rfl, hR.row, ⟨hX.low.os, hX.low.tape, hX.low.output, (hX.bas _ List.mem_cons_self).1, fun k hk hne => (hX.bas _ List.mem_cons_self).2 k hk (fun e => hne e.symm)⟩, hR.src⟩
theorem kap_Kk {n0 : Nat} (hn : KapC n0) (k : Int) (hk : k ≠ 3 ∧ k ≠ 9 ∧ k ≠ 10 ∧ k ≠ 4 ∧ k ≠ 7 ∧ k ≠ 8 ∧ k ≠ 6 ∧ k ≠ 5) (n : Int) (s : ByteArray) (lt dt : Tr) (hsz0 : (Tr.mk k n s lt dt).sz ≤ n0 + 1) (w : World) (F0 : Nat → Prop) (v0 : Value) (l0 : List UInt8) (cs : List Value) (hrow : RowB 0 w v0 l0) (hv0 : VAt w F0 (Tr.mk k n s lt dt) cs) (hF0 : ∀ k, F0 k → v0.ownBlock ≠ some k) (htot : l0.length + (Tr.mk k n s lt dt).kb.length ≤ 1000000000) : Calls Tryz.prog 16 #[v0, .agg cs.toArray] w fun e w' => ∃ v', e = .returned v' ∧ RowB 0 w' v' (l0 ++ (Tr.mk k n s lt dt).kb) ∧ w.grownBy w' v0.ownBlock ∧ Src v0 v' w := by
 obtain ⟨F, hFd⟩ : ∃ F : Nat → Prop, F = fun k => F0 k ∧ k < w.heap.size := ⟨_, rfl⟩
 have hv : VAt w F (Tr.mk k n s lt dt) cs := hv0.kept (Nat.le_refl _) (fun _ _ _ => rfl) (fun k h hl => by rw [hFd]; exact ⟨h, hl⟩)
 have hFv : ∀ k, F k → v0.ownBlock ≠ some k := fun k h => by rw [hFd] at h; exact hF0 k h.1
 have hFl : ∀ k, F k → k < w.heap.size := fun k h => by rw [hFd] at h; exact h.2
 clear hFd hF0 hv0
 obtain ⟨la, lc, da, dc, rfl, wk, wn, ws, hL, hD⟩ := hv.parts
 obtain ⟨_, _, e1, hlL, hl1, hl2, _⟩ := id hL
 obtain ⟨_, _, rfl⟩ := Value.slice.inj e1
 obtain ⟨_, _, e2, hdF, hd1, hd2, _⟩ := id hD
 obtain ⟨_, _, rfl⟩ := Value.slice.inj e2
 unfold maxLen at hl2 hd2 ws
 simp only [Tr.sz] at hsz0
 have hR := RowW.start hrow
 have hkb : (Tr.mk k n s lt dt).kb = [Tr.kB k] := by obtain ⟨y1, y2, y3, y4, y5, y6, y7, y8⟩ := hk; unfold Tr.kb; simp [y1, y2, y3, y4, y5, y6, y7, y8]
 rw [hkb] at htot ⊢
 have hlen := htot
 simp only [List.length_append, List.length_cons, List.length_nil] at hlen
 refine cv2 Tryz.func16 rfl rfl rfl fun a hf => ?_
 have hX := Bx.start w
 clear hX
 have hX := Bx.bare w (fun k => v0.ownBlock ≠ some k)
 have hbs : ∀ p ∈ (⟨bare w, [(w, fun k => v0.ownBlock ≠ some k)]⟩ : Base).bs, p.1.heap.size ≤ w.heap.size ∧ ∀ k, v0.ownBlock = some k → ¬ p.2 k := (fun p hp => by rw [List.mem_singleton.1 hp]; exact ⟨Nat.le_refl _, fun k hk h => h hk⟩)
 refine gc hf ?_
 intro a hf
 refine sv_box hf hX rfl dd (fun a C1 W hC hf hX hA => ?_)
 have hnC1 := fun k hk => Nat.ne_of_lt (Nat.lt_of_lt_of_eq (hR.row.lt k hk).2 hC.symm)
 replace hR := hR.below hA
 clear hC hA
 refine go hf ?_
 intro a hf
 refine sv_run (v := .int .u8 ((Tr.kB k).toNat : Int)) hf dd (fun a hf => ex_cvu8 hf rfl rfl) (fun a hf => ?_)
 refine sv_bs8 (m := (((Tr.kB k)).toNat : Int)) hf hX rfl dd (fun a G2 W hC hf hX hA => ?_)
 have hnG2 := fun k hk => Nat.ne_of_lt (Nat.lt_of_lt_of_eq (hR.row.lt k hk).2 hC.symm)
 replace hR := hR.below hA
 clear hC hA
 replace hX : Bx ⟨bare w, [(w, fun k => v0.ownBlock ≠ some k)]⟩ [(G2, (Lib.byteCells [(Tr.kB k)])), (C1, [.int .i64 k, .int .i64 n, .string s, .slice la lt.len lc, .slice da dt.len dc])] W := hX
 have hlG2 := (hX.get (i := 0) rfl).lt
 have hlC1 := (hX.get (i := 1) rfl).lt
 refine sv_app8 (bs := [(Tr.kB k)]) hf hX rfl rfl hR rfl hbs (by intro k hk x hx e; simp only [List.mem_cons, List.not_mem_nil, or_false] at hx; rcases hx with rfl; exact hnC1 k hk e.symm) (by have := hlen; simp only [List.length_append, List.length_cons, List.length_nil, size_list]; omega) dd (fun a v3 W hf hX hR hg hsrc => ?_)
 replace hnC1 : ∀ k, (v3).ownBlock = some k → k ≠ C1 := fun k hk => by rcases hsrc k hk with h | h; exact hnC1 k h; omega
 clear hg hsrc
 refine go hf ?_
 intro a hf
 refine wp_block ?_
 refine gc hf ?_
 intro a hf
 refine sv_cmp hf rfl rfl false (congrArg some (decide_eq_false hk.1)) dd (fun a hf => ?_)
 refine go hf ?_
 intro a hf
 refine sv_cmp hf rfl rfl false (congrArg some (decide_eq_false hk.2.1)) dd (fun a hf => ?_)
 refine go hf ?_
 intro a hf
 refine sv_cmp hf rfl rfl false (congrArg some (decide_eq_false hk.2.2.1)) dd (fun a hf => ?_)
 refine go hf ?_
 intro a hf
 refine sv_cmp hf rfl rfl false (congrArg some (decide_eq_false hk.2.2.2.1)) dd (fun a hf => ?_)
 refine go hf ?_
 intro a hf
 refine sv_cmp hf rfl rfl false (congrArg some (decide_eq_false hk.2.2.2.2.1)) dd (fun a hf => ?_)
 refine go hf ?_
 intro a hf
 refine sv_cmp hf rfl rfl false (congrArg some (decide_eq_false hk.2.2.2.2.2.1)) dd (fun a hf => ?_)
 refine go hf ?_
 intro a hf
 refine sv_cmp hf rfl rfl false (congrArg some (decide_eq_false hk.2.2.2.2.2.2.1)) dd (fun a hf => ?_)
 refine go hf ?_
 intro a hf
 refine sv_cmp hf rfl rfl false (congrArg some (decide_eq_false hk.2.2.2.2.2.2.2)) dd (fun a hf => ?_)
 refine go hf ?_
 intro a hf
 have hfin : l0 ++ [(Tr.kB k)] = l0 ++ [Tr.kB k] := rfl
 rw [hfin] at hR
 exact rt hf rfl rfl ⟨_, rfl, hR.row, ⟨hX.low.os, hX.low.tape, hX.low.output, (hX.bas _ List.mem_cons_self).1, fun k hk hne => (hX.bas _ List.mem_cons_self).2 k hk (fun e => hne e.symm)⟩, hR.src⟩
theorem kapC_all : ∀ n, KapC n
 | 0, t, ht, _, _, _, _, _, _, hv, _, _ => by obtain ⟨k, m, s, l, d, rfl⟩ := hv.isV; simp only [Tr.sz] at ht; omega
 | n + 1, t, ht, w, F, v, l, cs, hr, hv, hF, htot => by
  have hn := kapC_all n
  obtain ⟨k, m, s, lt, d, rfl⟩ := hv.isV
  by_cases h3 : k = 3
  ·subst h3; exact kap_K3 hn m s lt d ht w F v l cs hr hv hF htot
  by_cases h9 : k = 9
  ·subst h9; exact kap_K9 hn m s lt d ht w F v l cs hr hv hF htot
  by_cases h10 : k = 10
  ·subst h10; exact kap_K10 hn m s lt d ht w F v l cs hr hv hF htot
  by_cases h4 : k = 4
  ·subst h4; exact kap_K4 hn m s lt d ht w F v l cs hr hv hF htot
  by_cases h7 : k = 7
  ·subst h7; exact kap_K7 hn m s lt d ht w F v l cs hr hv hF htot
  by_cases h8 : k = 8
  ·subst h8; exact kap_K8 hn m s lt d ht w F v l cs hr hv hF htot
  by_cases h6 : k = 6
  ·subst h6; exact kap_K6 hn m s lt d ht w F v l cs hr hv hF htot
  by_cases h5 : k = 5
  ·subst h5; exact kap_K5 hn m s lt d ht w F v l cs hr hv hF htot
  exact kap_Kk hn k ⟨h3, h9, h10, h4, h7, h8, h6, h5⟩ m s lt d ht w F v l cs hr hv hF htot
theorem res_two {fn : Func} {c d : Nat} {u v : Value} {a : Act} {w : World} (hr : fn.results = #[.tmp c, .tmp d]) (hc : a.eval (.tmp c) = u) (hd : a.eval (.tmp d) = v) : (results fn a.tmps).run Tryz.prog w = .ok (.tuple #[u, v]) w := by
 have h3 : a.tmps[c]?.getD undef = u := by simpa [Act.eval] using hc
 have h4 : a.tmps[d]?.getD undef = v := by simpa [Act.eval] using hd
 simp [results, hr, h3, h4]
theorem einfo_bools : (Tryz.prog.info? 4).map (·.size) = some 1 := info_bool
theorem cell_of_block2 {W W' : World} {k i : Nat} (h : W'.heap[k]? = W.heap[k]?) : W'.cell? ⟨k, i, none⟩ = W.cell? ⟨k, i, none⟩ := by
 simp only [World.cell?, h]
theorem ex_cvstr {w : World} {N : Nat} {env : VEnv} {a : Act} {o : Oper} {x : Operand} {B : Nat} {v : Value} {l : List UInt8} (hf : FrV N env a) (ho : o.op = .convert 53 9 x) (hx : ev env x = some v) (hR : RowB B w v l) (h0 : 0 < l.length) : (execOp a.eval o).run Tryz.prog w = .ok (.value (.string (mkS l))) w := by
 unfold execOp
 simp only [ho, hf.ev hx, Sem.run_bind]
 rw [conv_row hR h0]
 rfl
theorem kap_any (t : Tr) (w : World) (F : Nat → Prop) (v : Value) (l : List UInt8) (cs : List Value) (hr : RowB 0 w v l) (hv : VAt w F t cs) (hF : ∀ k, F k → v.ownBlock ≠ some k) (hl : l.length + t.kb.length ≤ 1000000000) : Calls Tryz.prog 16 #[v, .agg cs.toArray] w fun e w' => ∃ v', e = .returned v' ∧ RowB 0 w' v' (l ++ t.kb) ∧ w.grownBy w' v.ownBlock ∧ Src v v' w := kapC_all t.sz t (Nat.le_refl _) w F v l cs hr hv hF hl
theorem kb_pos (t : Tr) : 0 < t.kb.length ∨ t.isV = false := by cases t <;> simp [Tr.kb, Tr.isV]
theorem Encode_any (t : Tr) (w : World) (F : Nat → Prop) (LB LO lc DB DO dc : Nat) (ps : List Value) (hU : U8 w) (hv0 : VAt w F t ps) (hr0 : w.rangeAt LB LO ps) (hLB : LB < w.heap.size) (hdc : w.cell? ⟨DB, DO, none⟩ = some (.bool false)) (hDB : DB < w.heap.size) (hlen : t.allowed = true → t.kb.length ≤ 1000000000) : Calls Tryz.prog 5 #[.slice (some ⟨LB, LO, none⟩) 1 lc, .slice (some ⟨DB, DO, none⟩) 1 dc] w fun e w' => e = .returned (if t.allowed then .tuple #[.string (mkS t.kb), .int .i64 0] else .tuple #[.string ⟨#[]⟩, .int .i64 8]) ∧ Below w.heap.size w w' := by
 have hv := hv0.low
 have hps := hv.len
 have hones := hv.ones
 have hkp : 0 < t.kb.length := by rcases kb_pos t with h | h; exact h; obtain ⟨_, _, _, _, _, rfl⟩ := hv.isV; cases h
 obtain ⟨al, hal⟩ : ∃ b, b = t.allowed := ⟨_, rfl⟩
 rw [← hal]
 rw [← hal] at hlen
 have hR : RowW w (.slice none 0 0) w (.slice none 0 0) [] := RowW.start (RowB.nil _ _)
 refine cv2 Tryz.func5 rfl rfl rfl fun a hf => ?_
 have hX := Bx.start w
 clear hX
 have hX := Bx.bare w (fun k => (Value.slice none 0 0).ownBlock ≠ some k)
 have hbs : ∀ p ∈ (⟨bare w, [(w, fun k => (Value.slice none 0 0).ownBlock ≠ some k)]⟩ : Base).bs, p.1.heap.size ≤ w.heap.size ∧ ∀ k, (Value.slice none 0 0).ownBlock = some k → ¬ p.2 k := (fun p hp => by rw [List.mem_singleton.1 hp]; exact ⟨Nat.le_refl _, fun k hk h => h hk⟩)
 refine gc hf ?_
 intro a hf
 refine sv_len hf rfl u26 dd (fun a hf => ?_)
 refine go hf ?_
 intro a hf
 refine sv_len hf rfl Tryz.underlying35 dd (fun a hf => ?_)
 refine go hf ?_
 intro a hf
 refine sv_len hf rfl u26 dd (fun a hf => ?_)
 refine go hf ?_
 intro a hf
 refine wp_block (wp_loop (fun a X => ∃ (q : Nat) (vx : Value), FrV 53 [(1, .slice (some ⟨DB, DO, none⟩) 1 dc), (6, vx), (16, .slice (some ⟨LB, LO, none⟩) 1 lc), (17, .int .i64 1), (18, .int .i64 (q : Int))] a ∧ Bx ⟨bare w, [(w, fun k => (Value.slice none 0 0).ownBlock ≠ some k)]⟩ [] X ∧ q ≤ 1 ∧ RowW w (.slice none 0 0) X vx (if q = 0 then [] else t.kb) ∧ (¬ q = 0 → al = true)) (fun a _ => 1 - (intOf (a.eval (.tmp 18))).toNat) ⟨0, _, hf.sub (sub_cons rfl (sub_cons rfl (sub_cons rfl (sub_cons rfl (sub_cons rfl (sub_nil)))))), hX, Nat.zero_le _, hR, fun h => absurd rfl h⟩ ?_)
 clear hf hX hR
 rintro a W ⟨q, vx, hf, hX, hq, hR, halq⟩
 have hm18 : a.eval (.tmp 18) = .int .i64 (q : Int) := hf.rel 18 _ rfl
 rcases Decidable.em ((q : Int) < 1) with hgo | hgo
 ·
  refine gc hf ?_
  intro a hf
  refine ct hf hgo fun a hf => ?_
  refine go hf ?_
  intro a hf
  refine wp_block ?_
  have hq0 : q = 0 := by omega
  refine gc hf ?_
  intro a hf
  refine sv_idx (k := 5) (q := q) hf rfl rfl (by omega) u26 einfo_vals dd (fun a hf => ?_)
  refine sv_lrr (cs := ps) hf rfl (by rw [hq0, Nat.zero_mul, Nat.add_zero]; exact rep_row_mono hr0 (hX.bas _ List.mem_cons_self |>.2 LB hLB (fun h => by cases h))) u29 (by rw [hps]; exact info_val) dd (fun a hf => ?_)
  refine sv_alloc (zs := [.int .i64 0, .int .i64 0, .string ⟨#[]⟩, .slice none 0 0, .slice none 0 0]) hf hX zero_val dd (fun a C1 W hC hf hX hA => ?_)
  have hnC1 := fun k hk => Nat.ne_of_lt (Nat.lt_of_lt_of_eq (hR.row.lt k hk).2 hC.symm)
  replace hR := hR.below hA
  clear hC hA
  refine go hf ?_
  intro a hf
  refine sv_sr hf hX rfl rfl 0 rfl (by show ps.length = _; rw [hps]; rfl) (by show _ = some (ps.length); rw [hps]; exact info_val) hones [(C1, ps)] rfl (fun W hX hO => ?_)
  replace hR := hR.only hO hnC1
  clear hO
  refine go hf ?_
  intro a hf
  refine sv_lr hf hX rfl 0 rfl u29 (by rw [hps]; exact info_val) dd (fun a hf => ?_)
  have hcc := allowed_any t W (LowF w) ps (hU.below ⟨hX.low.os, hX.low.tape, hX.low.output, (hX.bas _ List.mem_cons_self).1, fun k hk => (hX.bas _ List.mem_cons_self).2 k hk (fun h => by cases h)⟩) (hv.kept (hX.bas _ List.mem_cons_self).1 (fun k hk hlt => (hX.bas _ List.mem_cons_self).2 k hlt (fun h => by cases h)) (fun _ h _ => h))
  rw [← hal] at hcc
  refine sv_call hf fnOK_15 rfl (hcc) dd ?_
  rintro e W ⟨rfl, hb⟩
  replace hX := hX.keep hb
  replace hR := hR.below hb
  clear hb hcc
  refine ⟨_, rfl, fun a hf => ?_⟩
  cases al
  ·
   refine go hf ?_
   intro a hf
   exact bodyPost_ret (res_two (c := 4) (d := 5) (u := .string ⟨#[]⟩) (v := .int .i64 8) rfl (hf.rel 4 _ rfl) (hf.rel 5 _ rfl)) hf.defers ⟨rfl, ⟨hX.low.os, hX.low.tape, hX.low.output, (hX.bas _ List.mem_cons_self).1, fun k hk => (hX.bas _ List.mem_cons_self).2 k hk (fun h => by cases h)⟩⟩
  ·
   refine go hf ?_
   intro a hf
   obtain ⟨ra, rc, hvs⟩ := hR.row.sl
   refine sv_run (v := .int .i64 (((if q = 0 then [] else t.kb : List UInt8).length : Nat) : Int)) hf dd (fun a hf => by rw [hvs] at hf; exact ex_len hf rfl rfl u53) (fun a hf => ?_)
   refine go hf ?_
   intro a hf
   refine sv_lr hf hX rfl 0 rfl u29 (by rw [hps]; exact info_val) dd (fun a hf => ?_)
   have hlC1 := (hX.get (i := 0) rfl).lt
   have hlen2 := hlen rfl
   rw [hq0] at hR
   refine sv_call hf fnOK_16 rfl (kap_any t _ (LowF w) vx [] ps hR.row (hv.kept (hX.bas _ List.mem_cons_self).1 (fun k hk hlt => (hX.bas _ List.mem_cons_self).2 k hlt (fun h => by cases h)) (fun _ h _ => h)) (fun k hk e => by rcases hR.src k e with h | h; cases h; have : k < w.heap.size := hk; omega) (by simpa using hlen2)) dd ?_
   rintro e W2 ⟨v3, rfl, hrw, hg, hsrc⟩
   replace hX := grow_bx hX hR rfl hbs (by intro k hk x hx e; simp only [List.mem_cons, List.not_mem_nil, or_false] at hx; rcases hx with rfl; exact hnC1 k hk e.symm) hg
   replace hR := hR.next hrw hg hsrc
   clear hrw
   replace hnC1 : ∀ k, (v3).ownBlock = some k → k ≠ C1 := fun k hk => by rcases hsrc k hk with h | h; exact hnC1 k h; omega
   clear hg hsrc
   obtain ⟨W, hWW⟩ : ∃ X, X = W2 := ⟨_, rfl⟩
   subst hWW
   refine ⟨_, rfl, fun a hf => ?_⟩
   refine go hf ?_
   intro a hf
   refine sv_idx (k := 1) (q := q) hf rfl rfl (by omega) Tryz.underlying35 einfo_bools dd (fun a hf => ?_)
   refine sv_lm hf rfl (by rw [hq0, Nat.zero_mul, Nat.add_zero]; exact (cell_of_block2 (hX.bas _ List.mem_cons_self |>.2 DB hDB (fun h => by cases h))).trans hdc) u4 rfl dd (fun a hf => ?_)
   refine go hf ?_
   intro a hf
   refine sv_add ((q + 1 : Nat) : Int) hf rfl rfl (by rw [wrap_in (by omega)]; rfl) dd (fun a hf => ?_)
   refine go hf ?_
   intro a hf
   have hR2 : RowW w (.slice none 0 0) W v3 (if q + 1 = 0 then [] else t.kb) := by rw [if_neg (by omega)]; exact hR
   refine ⟨⟨q + 1, _, hf.sub (sub_cons rfl (sub_cons rfl (sub_cons rfl (sub_cons rfl (sub_cons rfl (sub_nil)))))), hX.sub, by omega, hR2, fun _ => rfl⟩, ?_⟩
   have h5 : a.eval (.tmp 18) = .int .i64 ((q + 1 : Nat) : Int) := hf.rel 18 _ rfl
   rw [h5, hm18]; simp only [intOf, Int.toNat_natCast]; omega
 ·
  refine gc hf ?_
  intro a hf
  refine cf hf hgo fun a hf => ?_
  refine go hf ?_
  intro a hf
  refine wp_exit ?_
  simp only [Exit.inBlock, Exit.then, ↓reduceIte]
  obtain rfl : q = 1 := by omega
  rw [if_neg (by decide)] at hR
  have hat := halq (by decide)
  refine gc hf ?_
  intro a hf
  refine sv_run (v := .string (mkS t.kb)) hf dd (fun a hf => ex_cvstr hf rfl rfl hR.row hkp) (fun a hf => ?_)
  refine go hf ?_
  intro a hf
  exact bodyPost_ret (res_two (c := 4) (d := 5) (u := .string (mkS t.kb)) (v := .int .i64 0) rfl (hf.rel 4 _ rfl) (hf.rel 5 _ rfl)) hf.defers ⟨by rw [hat]; rfl, ⟨hX.low.os, hX.low.tape, hX.low.output, (hX.bas _ List.mem_cons_self).1, fun k hk => (hX.bas _ List.mem_cons_self).2 k hk (fun h => by cases h)⟩⟩
theorem xor_ones (a : Nat) (h : a < 18446744073709551616) : a ^^^ 18446744073709551615 = 18446744073709551615 - a := by
 have e : (18446744073709551615 : Nat) = 2 ^ 64 - 1 := by decide
 have h2 : a < 2 ^ 64 := h
 rw [e]
 apply Nat.eq_of_testBit_eq
 intro i
 have e3 : 2 ^ 64 - 1 - a = 2 ^ 64 - (a + 1) := by omega
 rw [Nat.testBit_xor, Nat.testBit_two_pow_sub_one, e3, Nat.testBit_two_pow_sub_succ h2]
 by_cases hi : i < 64
 ·simp [hi]
 ·have : a.testBit i = false := Nat.testBit_lt_two_pow (Nat.lt_of_lt_of_le h2 (Nat.pow_le_pow_right (by decide) (by omega)))
  simp [hi, this]
theorem wfI_r {n : Int} (hn : wfI n) : -9223372036854775808 ≤ n ∧ n ≤ 9223372036854775807 := by
 unfold wfI Lit.wf at hn
 simp only [Bool.and_eq_true, decide_eq_true_eq] at hn
 exact hn
theorem zz_lt {n : Int} (hn : wfI n) : Tr.zz n < 18446744073709551616 := by
 have := wfI_r hn
 unfold Tr.zz
 split <;> omega
theorem zig_any (n : Int) (w : World) (hn : wfI n) :
  Calls Tryz.prog 60 #[.int .i64 n] w fun e w' => e = .returned (.int .u64 ((Tr.zz n : Nat) : Int)) ∧ w = w' := by
 have hr := wfI_r hn
 go_enter Tryz.func60, Tryz.ntmps60
 go_wp2
 go_ret
 refine ⟨?_, rfl⟩
 have key : bits .xor .u64 (IntKind.u64.wrap (IntKind.u64.wrap n * 2)) (IntKind.u64.wrap (n / 9223372036854775808)) = ((Tr.zz n : Nat) : Int) := by
  by_cases h0 : 0 ≤ n
  ·have e0 : Tr.zz n = (2 * n).toNat := by unfold Tr.zz; rw [if_pos h0]
   have e1 : IntKind.u64.wrap (IntKind.u64.wrap n * 2) = ((Tr.zz n : Nat) : Int) := by rw [IntKind.wrap_u64, IntKind.wrap_u64]; omega
   have e2 : IntKind.u64.wrap (n / 9223372036854775808) = ((0 : Nat) : Int) := by rw [IntKind.wrap_u64]; omega
   rw [e1, e2, u64_xor_nat _ _ (zz_lt hn) (by omega), Nat.xor_zero]
  ·have e0 : Tr.zz n = (-2 * n - 1).toNat := by unfold Tr.zz; rw [if_neg h0]
   have hz := zz_lt hn
   have e1 : IntKind.u64.wrap (IntKind.u64.wrap n * 2) = ((18446744073709551615 - Tr.zz n : Nat) : Int) := by rw [IntKind.wrap_u64, IntKind.wrap_u64]; omega
   have e2 : IntKind.u64.wrap (n / 9223372036854775808) = ((18446744073709551615 : Nat) : Int) := by rw [IntKind.wrap_u64]; omega
   rw [e1, e2, u64_xor_nat _ _ (by omega) (by omega), xor_ones _ (by omega)]
   congr 1
   omega
 rw [key]
 rfl
section
variable {w : World} {N : Nat} {env : VEnv} {a : Act} {oo : Oper} {x z : Operand}
theorem ex_or8 {u : Nat} (hf : FrV N env a) {xT zT : TypeId} (ho : oo.op = .binOp .or xT x z zT) (hx : ev env x = some (.int .u8 (((Tr.kB (u : Int)).toNat : Nat) : Int))) (hz : ev env z = some (.int .u8 128)) : (execOp a.eval oo).run Tryz.prog w = .ok (.value (.int .u8 (((UInt8.ofNat (u % 128 + 128)).toNat : Nat) : Int))) w := by
 rw [kB_nat] at hx
 have hb := byte_or u
 unfold execOp
 simp only [ho, hf.ev hx, hf.ev hz]
 simp [go_sem, hb]
theorem ex_shr7 {u : Nat} (hf : FrV N env a) (hu : u < 18446744073709551616) {xT zT : TypeId} (ho : oo.op = .binOp .shr xT x z zT) (hx : ev env x = some (.int .u64 (u : Int))) (hz : ev env z = some (.int .u64 7)) : (execOp a.eval oo).run Tryz.prog w = .ok (.value (.int .u64 ((u / 128 : Nat) : Int))) w := by
 unfold execOp
 simp only [ho, hf.ev hx, hf.ev hz]
 simp [go_sem]
end
theorem kB_small {u : Nat} (h : u < 128) : [Tr.kB (u : Int)] = vlq u := by
 rw [vlq_small h]
 unfold Tr.kB
 congr 2
 omega
def intOf64 : Value → Int
 | .int _ n => n
 | _ => 0
theorem num_row (n : Int) (hn : wfI n) (w : World) (v0 : Value) (l0 : List UInt8) (hrow : RowB 0 w v0 l0) (hlen : l0.length + (Tr.nb n).length ≤ 1000000000) : Calls Tryz.prog 34 #[v0, .int .i64 n] w fun e w' => ∃ v', e = .returned v' ∧ RowB 0 w' v' (l0 ++ Tr.nb n) ∧ w.grownBy w' v0.ownBlock ∧ Src v0 v' w := by
 have hR := RowW.start hrow
 refine cv2 Tryz.func34 rfl rfl rfl fun a hf => ?_
 have hX := Bx.start w
 clear hX
 have hX := Bx.bare w (fun k => v0.ownBlock ≠ some k)
 have hbs : ∀ p ∈ (⟨bare w, [(w, fun k => v0.ownBlock ≠ some k)]⟩ : Base).bs, p.1.heap.size ≤ w.heap.size ∧ ∀ k, v0.ownBlock = some k → ¬ p.2 k := (fun p hp => by rw [List.mem_singleton.1 hp]; exact ⟨Nat.le_refl _, fun k hk h => h hk⟩)
 refine gc hf ?_
 intro a hf
 refine sv_call hf fnOK_60 rfl (zig_any n _ hn) dd ?_
 rintro e W' ⟨rfl, hw⟩
 subst hw
 refine ⟨_, rfl, fun a hf => ?_⟩
 refine go hf ?_
 intro a hf
 refine wp_block (wp_loop (fun a X => ∃ (u : Nat) (vx : Value) (L : List UInt8), FrV 23 [(0, vx), (5, .int .u64 (u : Int))] a ∧ Bx ⟨bare w, [(w, fun k => v0.ownBlock ≠ some k)]⟩ [] X ∧ RowW w v0 X vx L ∧ L ++ vlq u = l0 ++ Tr.nb n ∧ u < 18446744073709551616) (fun a _ => (intOf64 (a.eval (.tmp 5))).toNat) ⟨_, _, _, hf.sub (sub_cons rfl (sub_cons rfl (sub_nil))), hX, hR, rfl, zz_lt hn⟩ ?_)
 clear hf hX hR
 rintro a W ⟨u, vx, L, hf, hX, hR, hLu, hul⟩
 have hm5 : a.eval (.tmp 5) = .int .u64 (u : Int) := hf.rel 5 _ rfl
 have hll := congrArg List.length hLu
 rw [List.length_append, List.length_append] at hll
 have hvp := vlq_pos u
 rcases Decidable.em ((128 : Int) ≤ (u : Int)) with hgo | hgo
 ·
  refine wp_seq (wp_seq ?_)
  refine gc hf ?_
  intro a hf
  refine sv_run (v := .bool true) hf dd (fun a hf => ex_cmpk hf rfl rfl rfl (congrArg some (decide_eq_true hgo))) (fun a hf => ?_)
  refine go hf ?_
  intro a hf
  refine wp_block ?_
  refine gc hf ?_
  intro a hf
  refine sv_run (v := .int .u8 ((Tr.kB (u : Int)).toNat : Int)) hf dd (fun a hf => ex_cv648 hf rfl rfl) (fun a hf => ?_)
  refine sv_run (v := .int .u8 ((UInt8.ofNat (u % 128 + 128)).toNat : Int)) hf dd (fun a hf => ex_or8 hf rfl rfl rfl) (fun a hf => ?_)
  refine sv_bs8 (m := (((UInt8.ofNat (u % 128 + 128))).toNat : Int)) hf hX rfl dd (fun a G1 W hC hf hX hA => ?_)
  have hnG1 := fun k hk => Nat.ne_of_lt (Nat.lt_of_lt_of_eq (hR.row.lt k hk).2 hC.symm)
  replace hR := hR.below hA
  clear hC hA
  replace hX : Bx ⟨bare w, [(w, fun k => v0.ownBlock ≠ some k)]⟩ [(G1, (Lib.byteCells [(UInt8.ofNat (u % 128 + 128))]))] W := hX
  have hlG1 := (hX.get (i := 0) rfl).lt
  refine sv_app8 (bs := [(UInt8.ofNat (u % 128 + 128))]) hf hX rfl rfl hR rfl hbs (fun k hk x hx => by cases hx) (by have := hlen; simp only [List.length_cons, List.length_nil]; omega) dd (fun a v2 W hf hX hR hg hsrc => ?_)
  clear hg hsrc
  refine go hf ?_
  intro a hf
  refine sv_run (v := .int .u64 ((u / 128 : Nat) : Int)) hf dd (fun a hf => ex_shr7 hf hul rfl rfl rfl) (fun a hf => ?_)
  refine go hf ?_
  intro a hf
  have hbig := vlq_big (u := u) (by omega)
  refine ⟨⟨u / 128, _, _, hf.sub (sub_cons rfl (sub_cons rfl (sub_nil))), hX, hR, by rw [← hLu, hbig, List.append_assoc]; rfl, by omega⟩, ?_⟩
  have h5 : a.eval (.tmp 5) = .int .u64 ((u / 128 : Nat) : Int) := hf.rel 5 _ rfl
  rw [h5, hm5]; simp only [intOf64, Int.toNat_natCast]; omega
 ·
  refine wp_seq (wp_seq ?_)
  refine gc hf ?_
  intro a hf
  refine sv_run (v := .bool false) hf dd (fun a hf => ex_cmpk hf rfl rfl rfl (congrArg some (decide_eq_false hgo))) (fun a hf => ?_)
  refine go hf ?_
  intro a hf
  refine wp_exit ?_
  simp only [Exit.inBlock, Exit.then, ↓reduceIte]
  refine gc hf ?_
  intro a hf
  refine sv_run (v := .int .u8 ((Tr.kB (u : Int)).toNat : Int)) hf dd (fun a hf => ex_cv648 hf rfl rfl) (fun a hf => ?_)
  refine sv_bs8 (m := (((Tr.kB (u : Int))).toNat : Int)) hf hX rfl dd (fun a G3 W hC hf hX hA => ?_)
  have hnG3 := fun k hk => Nat.ne_of_lt (Nat.lt_of_lt_of_eq (hR.row.lt k hk).2 hC.symm)
  replace hR := hR.below hA
  clear hC hA
  replace hX : Bx ⟨bare w, [(w, fun k => v0.ownBlock ≠ some k)]⟩ [(G3, (Lib.byteCells [(Tr.kB (u : Int))]))] W := hX
  have hlG3 := (hX.get (i := 0) rfl).lt
  refine sv_app8 (bs := [(Tr.kB (u : Int))]) hf hX rfl rfl hR rfl hbs (fun k hk x hx => by cases hx) (by have := hlen; simp only [List.length_cons, List.length_nil]; omega) dd (fun a v4 W hf hX hR hg hsrc => ?_)
  clear hg hsrc
  refine go hf ?_
  intro a hf
  rw [kB_small (by omega), hLu] at hR
  exact rt hf rfl rfl ⟨_, rfl, hR.row, ⟨hX.low.os, hX.low.tape, hX.low.output, (hX.bas _ List.mem_cons_self).1, fun k hk hne => (hX.bas _ List.mem_cons_self).2 k hk (fun e => hne e.symm)⟩, hR.src⟩
theorem wf_nat {m : Nat} (h : m ≤ 9223372036854775807) : wfI (m : Int) := by
 unfold wfI Lit.wf
 simp only [Bool.and_eq_true, decide_eq_true_eq]
 have e1 : IntKind.i64.min = -9223372036854775808 := by decide
 have e2 : IntKind.i64.max = 9223372036854775807 := by decide
 omega
theorem text_row (s : ByteArray) (hs : s.size ≤ maxLen) (w : World) (v0 : Value) (l0 : List UInt8) (hrow : RowB 0 w v0 l0) (hlen : l0.length + ((Tr.nb s.size).length + s.size) ≤ 1000000000) : Calls Tryz.prog 35 #[v0, .string s] w fun e w' => ∃ v', e = .returned v' ∧ RowB 0 w' v' (l0 ++ (Tr.nb s.size ++ s.data.toList)) ∧ w.grownBy w' v0.ownBlock ∧ Src v0 v' w := by
 have hR := RowW.start hrow
 unfold maxLen at hs
 refine cv2 Tryz.func35 rfl rfl rfl fun a hf => ?_
 have hX := Bx.start w
 clear hX
 have hX := Bx.bare w (fun k => v0.ownBlock ≠ some k)
 have hbs : ∀ p ∈ (⟨bare w, [(w, fun k => v0.ownBlock ≠ some k)]⟩ : Base).bs, p.1.heap.size ≤ w.heap.size ∧ ∀ k, v0.ownBlock = some k → ¬ p.2 k := (fun p hp => by rw [List.mem_singleton.1 hp]; exact ⟨Nat.le_refl _, fun k hk h => h hk⟩)
 refine gc hf ?_
 intro a hf
 refine sv_lens hf rfl u9 dd (fun a hf => ?_)
 refine sv_call hf fnOK_34 rfl (num_row ((s).size : Int) (wf_nat (by omega)) _ v0 _ hR.row (by have := hlen; omega)) dd ?_
 rintro e W2 ⟨v1, rfl, hrw, hg, hsrc⟩
 replace hX := grow_bx hX hR rfl hbs (fun k hk x hx => by cases hx) hg
 replace hR := hR.next hrw hg hsrc
 clear hrw
 clear hg hsrc
 obtain ⟨W, hWW⟩ : ∃ X, X = W2 := ⟨_, rfl⟩
 subst hWW
 refine ⟨_, rfl, fun a hf => ?_⟩
 refine go hf ?_
 intro a hf
 refine sv_app8s hf hX rfl rfl hR rfl hbs (fun k hk x hx => by cases hx) (by have := hlen; simp only [List.length_append]; omega) dd (fun a v2 W hf hX hR hg hsrc => ?_)
 clear hg hsrc
 refine go hf ?_
 intro a hf
 rw [List.append_assoc] at hR
 exact rt hf rfl rfl ⟨_, rfl, hR.row, ⟨hX.low.os, hX.low.tape, hX.low.output, (hX.bas _ List.mem_cons_self).1, fun k hk hne => (hX.bas _ List.mem_cons_self).2 k hk (fun e => hne e.symm)⟩, hR.src⟩
theorem cb_lst : ∀ l : Tr, l.isL = true → l.cb = l.lst.flatMap Tr.cb
 | .nil, _ => rfl
 | .lcons t r, h => by
  have := cb_lst r h
  show t.cb ++ r.cb = _
  rw [this]; rfl
 | .mk _ _ _ _ _, h => by cases h
 | .fcons _ _ _, h => by cases h
abbrev fcb (p : ByteArray × Tr) : List UInt8 := (Tr.nb p.1.size ++ p.1.data.toList) ++ p.2.cb
theorem cb_prs : ∀ l : Tr, l.isF = true → l.cb = l.prs.flatMap fcb
 | .nil, _ => rfl
 | .fcons m t r, h => by
  have := cb_prs r h
  show (Tr.nb m.size ++ m.data.toList) ++ (t.cb ++ r.cb) = _
  rw [this]
  show _ = fcb (m, t) ++ r.prs.flatMap fcb
  simp only [List.append_assoc]
 | .mk _ _ _ _ _, h => by cases h
 | .lcons _ _, h => by cases h
def CapC (n : Nat) : Prop := ∀ (t : Tr), t.sz ≤ n → ∀ (w : World) (F : Nat → Prop) (v : Value) (l : List UInt8) (cs : List Value), RowB 0 w v l → VAt w F t cs → (∀ k, F k → v.ownBlock ≠ some k) → l.length + t.cb.length ≤ 1000000000 → Calls Tryz.prog 18 #[v, .agg cs.toArray] w fun e w' => ∃ v', e = .returned v' ∧ RowB 0 w' v' (l ++ t.cb) ∧ w.grownBy w' v.ownBlock ∧ Src v v' w
theorem cap_K3 {n0 : Nat} (hn : CapC n0) (n : Int) (s : ByteArray) (lt dt : Tr) (hsz0 : (Tr.mk 3 n s lt dt).sz ≤ n0 + 1) (w : World) (F0 : Nat → Prop) (v0 : Value) (l0 : List UInt8) (cs : List Value) (hrow : RowB 0 w v0 l0) (hv0 : VAt w F0 (Tr.mk 3 n s lt dt) cs) (hF0 : ∀ k, F0 k → v0.ownBlock ≠ some k) (htot : l0.length + (Tr.mk 3 n s lt dt).cb.length ≤ 1000000000) : Calls Tryz.prog 18 #[v0, .agg cs.toArray] w fun e w' => ∃ v', e = .returned v' ∧ RowB 0 w' v' (l0 ++ (Tr.mk 3 n s lt dt).cb) ∧ w.grownBy w' v0.ownBlock ∧ Src v0 v' w := by
 obtain ⟨F, hFd⟩ : ∃ F : Nat → Prop, F = fun k => F0 k ∧ k < w.heap.size := ⟨_, rfl⟩
 have hv : VAt w F (Tr.mk 3 n s lt dt) cs := hv0.kept (Nat.le_refl _) (fun _ _ _ => rfl) (fun k h hl => by rw [hFd]; exact ⟨h, hl⟩)
 have hFv : ∀ k, F k → v0.ownBlock ≠ some k := fun k h => by rw [hFd] at h; exact hF0 k h.1
 have hFl : ∀ k, F k → k < w.heap.size := fun k h => by rw [hFd] at h; exact h.2
 clear hFd hF0 hv0
 obtain ⟨la, lc, da, dc, rfl, wk, wn, ws, hL, hD⟩ := hv.parts
 obtain ⟨_, _, e1, hlL, hl1, hl2, _⟩ := id hL
 obtain ⟨_, _, rfl⟩ := Value.slice.inj e1
 obtain ⟨_, _, e2, hdF, hd1, hd2, _⟩ := id hD
 obtain ⟨_, _, rfl⟩ := Value.slice.inj e2
 have wsm := ws
 unfold maxLen at hl2 hd2 ws
 simp only [Tr.sz] at hsz0
 have hR := RowW.start hrow
 have hkb : (Tr.mk 3 n s lt dt).cb = (Tr.kB 3 :: Tr.nb n) := rfl
 rw [hkb] at htot ⊢
 have hlen := htot
 simp only [List.length_append, List.length_cons, List.length_nil] at hlen
 refine cv2 Tryz.func18 rfl rfl rfl fun a hf => ?_
 have hX := Bx.start w
 clear hX
 have hX := Bx.bare w (fun k => v0.ownBlock ≠ some k)
 have hbs : ∀ p ∈ (⟨bare w, [(w, fun k => v0.ownBlock ≠ some k)]⟩ : Base).bs, p.1.heap.size ≤ w.heap.size ∧ ∀ k, v0.ownBlock = some k → ¬ p.2 k := (fun p hp => by rw [List.mem_singleton.1 hp]; exact ⟨Nat.le_refl _, fun k hk h => h hk⟩)
 refine gc hf ?_
 intro a hf
 refine sv_box hf hX rfl dd (fun a C1 W hC hf hX hA => ?_)
 have hnC1 := fun k hk => Nat.ne_of_lt (Nat.lt_of_lt_of_eq (hR.row.lt k hk).2 hC.symm)
 replace hR := hR.below hA
 clear hC hA
 refine go hf ?_
 intro a hf
 refine sv_run (v := .int .u8 ((Tr.kB 3).toNat : Int)) hf dd (fun a hf => ex_cvu8 hf rfl rfl) (fun a hf => ?_)
 refine sv_bs8 (m := (((Tr.kB 3)).toNat : Int)) hf hX rfl dd (fun a G2 W hC hf hX hA => ?_)
 have hnG2 := fun k hk => Nat.ne_of_lt (Nat.lt_of_lt_of_eq (hR.row.lt k hk).2 hC.symm)
 replace hR := hR.below hA
 clear hC hA
 replace hX : Bx ⟨bare w, [(w, fun k => v0.ownBlock ≠ some k)]⟩ [(G2, (Lib.byteCells [(Tr.kB 3)])), (C1, [.int .i64 3, .int .i64 n, .string s, .slice la lt.len lc, .slice da dt.len dc])] W := hX
 have hlG2 := (hX.get (i := 0) rfl).lt
 have hlC1 := (hX.get (i := 1) rfl).lt
 refine sv_app8 (bs := [(Tr.kB 3)]) hf hX rfl rfl hR rfl hbs (by intro k hk x hx e; simp only [List.mem_cons, List.not_mem_nil, or_false] at hx; rcases hx with rfl; exact hnC1 k hk e.symm) (by have := hlen; simp only [List.length_append, List.length_cons, List.length_nil, size_list]; omega) dd (fun a v3 W hf hX hR hg hsrc => ?_)
 replace hnC1 : ∀ k, (v3).ownBlock = some k → k ≠ C1 := fun k hk => by rcases hsrc k hk with h | h; exact hnC1 k h; omega
 clear hg hsrc
 refine go hf ?_
 intro a hf
 refine wp_block ?_
 refine gc hf ?_
 intro a hf
 have hlC1 := (hX.get (i := 0) rfl).lt
 refine sv_call hf fnOK_34 rfl (num_row n wn _ v3 _ hR.row (by have := hlen; simp only [List.length_append, List.length_cons, List.length_nil, size_list]; omega)) dd ?_
 rintro e W2 ⟨v4, rfl, hrw, hg, hsrc⟩
 replace hX := grow_bx hX hR rfl hbs (by intro k hk x hx e; simp only [List.mem_cons, List.not_mem_nil, or_false] at hx; rcases hx with rfl; exact hnC1 k hk e.symm) hg
 replace hR := hR.next hrw hg hsrc
 clear hrw
 replace hnC1 : ∀ k, (v4).ownBlock = some k → k ≠ C1 := fun k hk => by rcases hsrc k hk with h | h; exact hnC1 k h; omega
 clear hg hsrc
 obtain ⟨W, hWW⟩ : ∃ X, X = W2 := ⟨_, rfl⟩
 subst hWW
 refine ⟨_, rfl, fun a hf => ?_⟩
 refine go hf ?_
 intro a hf
 have hfin : l0 ++ [(Tr.kB 3)] ++ Tr.nb n = l0 ++ (Tr.kB 3 :: Tr.nb n) := by simp only [List.append_assoc]; rfl
 rw [hfin] at hR
 exact rt hf rfl rfl ⟨_, rfl, hR.row, ⟨hX.low.os, hX.low.tape, hX.low.output, (hX.bas _ List.mem_cons_self).1, fun k hk hne => (hX.bas _ List.mem_cons_self).2 k hk (fun e => hne e.symm)⟩, hR.src⟩
theorem cap_K10 {n0 : Nat} (hn : CapC n0) (n : Int) (s : ByteArray) (lt dt : Tr) (hsz0 : (Tr.mk 10 n s lt dt).sz ≤ n0 + 1) (w : World) (F0 : Nat → Prop) (v0 : Value) (l0 : List UInt8) (cs : List Value) (hrow : RowB 0 w v0 l0) (hv0 : VAt w F0 (Tr.mk 10 n s lt dt) cs) (hF0 : ∀ k, F0 k → v0.ownBlock ≠ some k) (htot : l0.length + (Tr.mk 10 n s lt dt).cb.length ≤ 1000000000) : Calls Tryz.prog 18 #[v0, .agg cs.toArray] w fun e w' => ∃ v', e = .returned v' ∧ RowB 0 w' v' (l0 ++ (Tr.mk 10 n s lt dt).cb) ∧ w.grownBy w' v0.ownBlock ∧ Src v0 v' w := by
 obtain ⟨F, hFd⟩ : ∃ F : Nat → Prop, F = fun k => F0 k ∧ k < w.heap.size := ⟨_, rfl⟩
 have hv : VAt w F (Tr.mk 10 n s lt dt) cs := hv0.kept (Nat.le_refl _) (fun _ _ _ => rfl) (fun k h hl => by rw [hFd]; exact ⟨h, hl⟩)
 have hFv : ∀ k, F k → v0.ownBlock ≠ some k := fun k h => by rw [hFd] at h; exact hF0 k h.1
 have hFl : ∀ k, F k → k < w.heap.size := fun k h => by rw [hFd] at h; exact h.2
 clear hFd hF0 hv0
 obtain ⟨la, lc, da, dc, rfl, wk, wn, ws, hL, hD⟩ := hv.parts
 obtain ⟨_, _, e1, hlL, hl1, hl2, _⟩ := id hL
 obtain ⟨_, _, rfl⟩ := Value.slice.inj e1
 obtain ⟨_, _, e2, hdF, hd1, hd2, _⟩ := id hD
 obtain ⟨_, _, rfl⟩ := Value.slice.inj e2
 have wsm := ws
 unfold maxLen at hl2 hd2 ws
 simp only [Tr.sz] at hsz0
 have hR := RowW.start hrow
 have hkb : (Tr.mk 10 n s lt dt).cb = (Tr.kB 10 :: Tr.nb n) := rfl
 rw [hkb] at htot ⊢
 have hlen := htot
 simp only [List.length_append, List.length_cons, List.length_nil] at hlen
 refine cv2 Tryz.func18 rfl rfl rfl fun a hf => ?_
 have hX := Bx.start w
 clear hX
 have hX := Bx.bare w (fun k => v0.ownBlock ≠ some k)
 have hbs : ∀ p ∈ (⟨bare w, [(w, fun k => v0.ownBlock ≠ some k)]⟩ : Base).bs, p.1.heap.size ≤ w.heap.size ∧ ∀ k, v0.ownBlock = some k → ¬ p.2 k := (fun p hp => by rw [List.mem_singleton.1 hp]; exact ⟨Nat.le_refl _, fun k hk h => h hk⟩)
 refine gc hf ?_
 intro a hf
 refine sv_box hf hX rfl dd (fun a C1 W hC hf hX hA => ?_)
 have hnC1 := fun k hk => Nat.ne_of_lt (Nat.lt_of_lt_of_eq (hR.row.lt k hk).2 hC.symm)
 replace hR := hR.below hA
 clear hC hA
 refine go hf ?_
 intro a hf
 refine sv_run (v := .int .u8 ((Tr.kB 10).toNat : Int)) hf dd (fun a hf => ex_cvu8 hf rfl rfl) (fun a hf => ?_)
 refine sv_bs8 (m := (((Tr.kB 10)).toNat : Int)) hf hX rfl dd (fun a G2 W hC hf hX hA => ?_)
 have hnG2 := fun k hk => Nat.ne_of_lt (Nat.lt_of_lt_of_eq (hR.row.lt k hk).2 hC.symm)
 replace hR := hR.below hA
 clear hC hA
 replace hX : Bx ⟨bare w, [(w, fun k => v0.ownBlock ≠ some k)]⟩ [(G2, (Lib.byteCells [(Tr.kB 10)])), (C1, [.int .i64 10, .int .i64 n, .string s, .slice la lt.len lc, .slice da dt.len dc])] W := hX
 have hlG2 := (hX.get (i := 0) rfl).lt
 have hlC1 := (hX.get (i := 1) rfl).lt
 refine sv_app8 (bs := [(Tr.kB 10)]) hf hX rfl rfl hR rfl hbs (by intro k hk x hx e; simp only [List.mem_cons, List.not_mem_nil, or_false] at hx; rcases hx with rfl; exact hnC1 k hk e.symm) (by have := hlen; simp only [List.length_append, List.length_cons, List.length_nil, size_list]; omega) dd (fun a v3 W hf hX hR hg hsrc => ?_)
 replace hnC1 : ∀ k, (v3).ownBlock = some k → k ≠ C1 := fun k hk => by rcases hsrc k hk with h | h; exact hnC1 k h; omega
 clear hg hsrc
 refine go hf ?_
 intro a hf
 refine wp_block ?_
 refine gc hf ?_
 intro a hf
 have hlC1 := (hX.get (i := 0) rfl).lt
 refine sv_call hf fnOK_34 rfl (num_row n wn _ v3 _ hR.row (by have := hlen; simp only [List.length_append, List.length_cons, List.length_nil, size_list]; omega)) dd ?_
 rintro e W2 ⟨v4, rfl, hrw, hg, hsrc⟩
 replace hX := grow_bx hX hR rfl hbs (by intro k hk x hx e; simp only [List.mem_cons, List.not_mem_nil, or_false] at hx; rcases hx with rfl; exact hnC1 k hk e.symm) hg
 replace hR := hR.next hrw hg hsrc
 clear hrw
 replace hnC1 : ∀ k, (v4).ownBlock = some k → k ≠ C1 := fun k hk => by rcases hsrc k hk with h | h; exact hnC1 k h; omega
 clear hg hsrc
 obtain ⟨W, hWW⟩ : ∃ X, X = W2 := ⟨_, rfl⟩
 subst hWW
 refine ⟨_, rfl, fun a hf => ?_⟩
 refine go hf ?_
 intro a hf
 have hfin : l0 ++ [(Tr.kB 10)] ++ Tr.nb n = l0 ++ (Tr.kB 10 :: Tr.nb n) := by simp only [List.append_assoc]; rfl
 rw [hfin] at hR
 exact rt hf rfl rfl ⟨_, rfl, hR.row, ⟨hX.low.os, hX.low.tape, hX.low.output, (hX.bas _ List.mem_cons_self).1, fun k hk hne => (hX.bas _ List.mem_cons_self).2 k hk (fun e => hne e.symm)⟩, hR.src⟩
theorem cap_K9 {n0 : Nat} (hn : CapC n0) (n : Int) (s : ByteArray) (lt dt : Tr) (hsz0 : (Tr.mk 9 n s lt dt).sz ≤ n0 + 1) (w : World) (F0 : Nat → Prop) (v0 : Value) (l0 : List UInt8) (cs : List Value) (hrow : RowB 0 w v0 l0) (hv0 : VAt w F0 (Tr.mk 9 n s lt dt) cs) (hF0 : ∀ k, F0 k → v0.ownBlock ≠ some k) (htot : l0.length + (Tr.mk 9 n s lt dt).cb.length ≤ 1000000000) : Calls Tryz.prog 18 #[v0, .agg cs.toArray] w fun e w' => ∃ v', e = .returned v' ∧ RowB 0 w' v' (l0 ++ (Tr.mk 9 n s lt dt).cb) ∧ w.grownBy w' v0.ownBlock ∧ Src v0 v' w := by
 obtain ⟨F, hFd⟩ : ∃ F : Nat → Prop, F = fun k => F0 k ∧ k < w.heap.size := ⟨_, rfl⟩
 have hv : VAt w F (Tr.mk 9 n s lt dt) cs := hv0.kept (Nat.le_refl _) (fun _ _ _ => rfl) (fun k h hl => by rw [hFd]; exact ⟨h, hl⟩)
 have hFv : ∀ k, F k → v0.ownBlock ≠ some k := fun k h => by rw [hFd] at h; exact hF0 k h.1
 have hFl : ∀ k, F k → k < w.heap.size := fun k h => by rw [hFd] at h; exact h.2
 clear hFd hF0 hv0
 obtain ⟨la, lc, da, dc, rfl, wk, wn, ws, hL, hD⟩ := hv.parts
 obtain ⟨_, _, e1, hlL, hl1, hl2, _⟩ := id hL
 obtain ⟨_, _, rfl⟩ := Value.slice.inj e1
 obtain ⟨_, _, e2, hdF, hd1, hd2, _⟩ := id hD
 obtain ⟨_, _, rfl⟩ := Value.slice.inj e2
 have wsm := ws
 unfold maxLen at hl2 hd2 ws
 simp only [Tr.sz] at hsz0
 have hR := RowW.start hrow
 have hkb : (Tr.mk 9 n s lt dt).cb = (Tr.kB 9 :: [Tr.kB n]) := rfl
 rw [hkb] at htot ⊢
 have hlen := htot
 simp only [List.length_append, List.length_cons, List.length_nil] at hlen
 refine cv2 Tryz.func18 rfl rfl rfl fun a hf => ?_
 have hX := Bx.start w
 clear hX
 have hX := Bx.bare w (fun k => v0.ownBlock ≠ some k)
 have hbs : ∀ p ∈ (⟨bare w, [(w, fun k => v0.ownBlock ≠ some k)]⟩ : Base).bs, p.1.heap.size ≤ w.heap.size ∧ ∀ k, v0.ownBlock = some k → ¬ p.2 k := (fun p hp => by rw [List.mem_singleton.1 hp]; exact ⟨Nat.le_refl _, fun k hk h => h hk⟩)
 refine gc hf ?_
 intro a hf
 refine sv_box hf hX rfl dd (fun a C1 W hC hf hX hA => ?_)
 have hnC1 := fun k hk => Nat.ne_of_lt (Nat.lt_of_lt_of_eq (hR.row.lt k hk).2 hC.symm)
 replace hR := hR.below hA
 clear hC hA
 refine go hf ?_
 intro a hf
 refine sv_run (v := .int .u8 ((Tr.kB 9).toNat : Int)) hf dd (fun a hf => ex_cvu8 hf rfl rfl) (fun a hf => ?_)
 refine sv_bs8 (m := (((Tr.kB 9)).toNat : Int)) hf hX rfl dd (fun a G2 W hC hf hX hA => ?_)
 have hnG2 := fun k hk => Nat.ne_of_lt (Nat.lt_of_lt_of_eq (hR.row.lt k hk).2 hC.symm)
 replace hR := hR.below hA
 clear hC hA
 replace hX : Bx ⟨bare w, [(w, fun k => v0.ownBlock ≠ some k)]⟩ [(G2, (Lib.byteCells [(Tr.kB 9)])), (C1, [.int .i64 9, .int .i64 n, .string s, .slice la lt.len lc, .slice da dt.len dc])] W := hX
 have hlG2 := (hX.get (i := 0) rfl).lt
 have hlC1 := (hX.get (i := 1) rfl).lt
 refine sv_app8 (bs := [(Tr.kB 9)]) hf hX rfl rfl hR rfl hbs (by intro k hk x hx e; simp only [List.mem_cons, List.not_mem_nil, or_false] at hx; rcases hx with rfl; exact hnC1 k hk e.symm) (by have := hlen; simp only [List.length_append, List.length_cons, List.length_nil, size_list]; omega) dd (fun a v3 W hf hX hR hg hsrc => ?_)
 replace hnC1 : ∀ k, (v3).ownBlock = some k → k ≠ C1 := fun k hk => by rcases hsrc k hk with h | h; exact hnC1 k h; omega
 clear hg hsrc
 refine go hf ?_
 intro a hf
 refine wp_block ?_
 refine gc hf ?_
 intro a hf
 refine sv_run (v := .int .u8 ((Tr.kB n).toNat : Int)) hf dd (fun a hf => ex_cvu8 hf rfl rfl) (fun a hf => ?_)
 refine sv_bs8 (m := (((Tr.kB n)).toNat : Int)) hf hX rfl dd (fun a G4 W hC hf hX hA => ?_)
 have hnG4 := fun k hk => Nat.ne_of_lt (Nat.lt_of_lt_of_eq (hR.row.lt k hk).2 hC.symm)
 replace hR := hR.below hA
 clear hC hA
 replace hX : Bx ⟨bare w, [(w, fun k => v0.ownBlock ≠ some k)]⟩ [(G4, (Lib.byteCells [(Tr.kB n)])), (C1, [.int .i64 9, .int .i64 n, .string s, .slice la lt.len lc, .slice da dt.len dc])] W := hX
 have hlG4 := (hX.get (i := 0) rfl).lt
 have hlC1 := (hX.get (i := 1) rfl).lt
 refine sv_app8 (bs := [(Tr.kB n)]) hf hX rfl rfl hR rfl hbs (by intro k hk x hx e; simp only [List.mem_cons, List.not_mem_nil, or_false] at hx; rcases hx with rfl; exact hnC1 k hk e.symm) (by have := hlen; simp only [List.length_append, List.length_cons, List.length_nil, size_list]; omega) dd (fun a v5 W hf hX hR hg hsrc => ?_)
 replace hnC1 : ∀ k, (v5).ownBlock = some k → k ≠ C1 := fun k hk => by rcases hsrc k hk with h | h; exact hnC1 k h; omega
 clear hg hsrc
 refine go hf ?_
 intro a hf
 have hfin : l0 ++ [(Tr.kB 9)] ++ [(Tr.kB n)] = l0 ++ (Tr.kB 9 :: [Tr.kB n]) := by simp only [List.append_assoc]; rfl
 rw [hfin] at hR
 exact rt hf rfl rfl ⟨_, rfl, hR.row, ⟨hX.low.os, hX.low.tape, hX.low.output, (hX.bas _ List.mem_cons_self).1, fun k hk hne => (hX.bas _ List.mem_cons_self).2 k hk (fun e => hne e.symm)⟩, hR.src⟩
theorem cap_K4 {n0 : Nat} (hn : CapC n0) (n : Int) (s : ByteArray) (lt dt : Tr) (hsz0 : (Tr.mk 4 n s lt dt).sz ≤ n0 + 1) (w : World) (F0 : Nat → Prop) (v0 : Value) (l0 : List UInt8) (cs : List Value) (hrow : RowB 0 w v0 l0) (hv0 : VAt w F0 (Tr.mk 4 n s lt dt) cs) (hF0 : ∀ k, F0 k → v0.ownBlock ≠ some k) (htot : l0.length + (Tr.mk 4 n s lt dt).cb.length ≤ 1000000000) : Calls Tryz.prog 18 #[v0, .agg cs.toArray] w fun e w' => ∃ v', e = .returned v' ∧ RowB 0 w' v' (l0 ++ (Tr.mk 4 n s lt dt).cb) ∧ w.grownBy w' v0.ownBlock ∧ Src v0 v' w := by
 obtain ⟨F, hFd⟩ : ∃ F : Nat → Prop, F = fun k => F0 k ∧ k < w.heap.size := ⟨_, rfl⟩
 have hv : VAt w F (Tr.mk 4 n s lt dt) cs := hv0.kept (Nat.le_refl _) (fun _ _ _ => rfl) (fun k h hl => by rw [hFd]; exact ⟨h, hl⟩)
 have hFv : ∀ k, F k → v0.ownBlock ≠ some k := fun k h => by rw [hFd] at h; exact hF0 k h.1
 have hFl : ∀ k, F k → k < w.heap.size := fun k h => by rw [hFd] at h; exact h.2
 clear hFd hF0 hv0
 obtain ⟨la, lc, da, dc, rfl, wk, wn, ws, hL, hD⟩ := hv.parts
 obtain ⟨_, _, e1, hlL, hl1, hl2, _⟩ := id hL
 obtain ⟨_, _, rfl⟩ := Value.slice.inj e1
 obtain ⟨_, _, e2, hdF, hd1, hd2, _⟩ := id hD
 obtain ⟨_, _, rfl⟩ := Value.slice.inj e2
 have wsm := ws
 unfold maxLen at hl2 hd2 ws
 simp only [Tr.sz] at hsz0
 have hR := RowW.start hrow
 have hkb : (Tr.mk 4 n s lt dt).cb = (Tr.kB 4 :: (Tr.nb s.size ++ s.data.toList)) := rfl
 rw [hkb] at htot ⊢
 have hlen := htot
 simp only [List.length_append, List.length_cons, List.length_nil, size_list] at hlen
 refine cv2 Tryz.func18 rfl rfl rfl fun a hf => ?_
 have hX := Bx.start w
 clear hX
 have hX := Bx.bare w (fun k => v0.ownBlock ≠ some k)
 have hbs : ∀ p ∈ (⟨bare w, [(w, fun k => v0.ownBlock ≠ some k)]⟩ : Base).bs, p.1.heap.size ≤ w.heap.size ∧ ∀ k, v0.ownBlock = some k → ¬ p.2 k := (fun p hp => by rw [List.mem_singleton.1 hp]; exact ⟨Nat.le_refl _, fun k hk h => h hk⟩)
 refine gc hf ?_
 intro a hf
 refine sv_box hf hX rfl dd (fun a C1 W hC hf hX hA => ?_)
 have hnC1 := fun k hk => Nat.ne_of_lt (Nat.lt_of_lt_of_eq (hR.row.lt k hk).2 hC.symm)
 replace hR := hR.below hA
 clear hC hA
 refine go hf ?_
 intro a hf
 refine sv_run (v := .int .u8 ((Tr.kB 4).toNat : Int)) hf dd (fun a hf => ex_cvu8 hf rfl rfl) (fun a hf => ?_)
 refine sv_bs8 (m := (((Tr.kB 4)).toNat : Int)) hf hX rfl dd (fun a G2 W hC hf hX hA => ?_)
 have hnG2 := fun k hk => Nat.ne_of_lt (Nat.lt_of_lt_of_eq (hR.row.lt k hk).2 hC.symm)
 replace hR := hR.below hA
 clear hC hA
 replace hX : Bx ⟨bare w, [(w, fun k => v0.ownBlock ≠ some k)]⟩ [(G2, (Lib.byteCells [(Tr.kB 4)])), (C1, [.int .i64 4, .int .i64 n, .string s, .slice la lt.len lc, .slice da dt.len dc])] W := hX
 have hlG2 := (hX.get (i := 0) rfl).lt
 have hlC1 := (hX.get (i := 1) rfl).lt
 refine sv_app8 (bs := [(Tr.kB 4)]) hf hX rfl rfl hR rfl hbs (by intro k hk x hx e; simp only [List.mem_cons, List.not_mem_nil, or_false] at hx; rcases hx with rfl; exact hnC1 k hk e.symm) (by have := hlen; simp only [List.length_append, List.length_cons, List.length_nil, size_list]; omega) dd (fun a v3 W hf hX hR hg hsrc => ?_)
 replace hnC1 : ∀ k, (v3).ownBlock = some k → k ≠ C1 := fun k hk => by rcases hsrc k hk with h | h; exact hnC1 k h; omega
 clear hg hsrc
 refine go hf ?_
 intro a hf
 refine wp_block ?_
 refine gc hf ?_
 intro a hf
 have hlC1 := (hX.get (i := 0) rfl).lt
 refine sv_call hf fnOK_35 rfl (text_row s wsm _ v3 _ hR.row (by have := hlen; simp only [List.length_append, List.length_cons, List.length_nil, size_list]; omega)) dd ?_
 rintro e W2 ⟨v4, rfl, hrw, hg, hsrc⟩
 replace hX := grow_bx hX hR rfl hbs (by intro k hk x hx e; simp only [List.mem_cons, List.not_mem_nil, or_false] at hx; rcases hx with rfl; exact hnC1 k hk e.symm) hg
 replace hR := hR.next hrw hg hsrc
 clear hrw
 replace hnC1 : ∀ k, (v4).ownBlock = some k → k ≠ C1 := fun k hk => by rcases hsrc k hk with h | h; exact hnC1 k h; omega
 clear hg hsrc
 obtain ⟨W, hWW⟩ : ∃ X, X = W2 := ⟨_, rfl⟩
 subst hWW
 refine ⟨_, rfl, fun a hf => ?_⟩
 refine go hf ?_
 intro a hf
 have hfin : l0 ++ [(Tr.kB 4)] ++ (Tr.nb s.size ++ s.data.toList) = l0 ++ (Tr.kB 4 :: (Tr.nb s.size ++ s.data.toList)) := by simp only [List.append_assoc]; rfl
 rw [hfin] at hR
 exact rt hf rfl rfl ⟨_, rfl, hR.row, ⟨hX.low.os, hX.low.tape, hX.low.output, (hX.bas _ List.mem_cons_self).1, fun k hk hne => (hX.bas _ List.mem_cons_self).2 k hk (fun e => hne e.symm)⟩, hR.src⟩
theorem cap_K7 {n0 : Nat} (hn : CapC n0) (n : Int) (s : ByteArray) (lt dt : Tr) (hsz0 : (Tr.mk 7 n s lt dt).sz ≤ n0 + 1) (w : World) (F0 : Nat → Prop) (v0 : Value) (l0 : List UInt8) (cs : List Value) (hrow : RowB 0 w v0 l0) (hv0 : VAt w F0 (Tr.mk 7 n s lt dt) cs) (hF0 : ∀ k, F0 k → v0.ownBlock ≠ some k) (htot : l0.length + (Tr.mk 7 n s lt dt).cb.length ≤ 1000000000) : Calls Tryz.prog 18 #[v0, .agg cs.toArray] w fun e w' => ∃ v', e = .returned v' ∧ RowB 0 w' v' (l0 ++ (Tr.mk 7 n s lt dt).cb) ∧ w.grownBy w' v0.ownBlock ∧ Src v0 v' w := by
 obtain ⟨F, hFd⟩ : ∃ F : Nat → Prop, F = fun k => F0 k ∧ k < w.heap.size := ⟨_, rfl⟩
 have hv : VAt w F (Tr.mk 7 n s lt dt) cs := hv0.kept (Nat.le_refl _) (fun _ _ _ => rfl) (fun k h hl => by rw [hFd]; exact ⟨h, hl⟩)
 have hFv : ∀ k, F k → v0.ownBlock ≠ some k := fun k h => by rw [hFd] at h; exact hF0 k h.1
 have hFl : ∀ k, F k → k < w.heap.size := fun k h => by rw [hFd] at h; exact h.2
 clear hFd hF0 hv0
 obtain ⟨la, lc, da, dc, rfl, wk, wn, ws, hL, hD⟩ := hv.parts
 obtain ⟨_, _, e1, hlL, hl1, hl2, _⟩ := id hL
 obtain ⟨_, _, rfl⟩ := Value.slice.inj e1
 obtain ⟨_, _, e2, hdF, hd1, hd2, _⟩ := id hD
 obtain ⟨_, _, rfl⟩ := Value.slice.inj e2
 have wsm := ws
 unfold maxLen at hl2 hd2 ws
 simp only [Tr.sz] at hsz0
 have hR := RowW.start hrow
 have hkb : (Tr.mk 7 n s lt dt).cb = (Tr.kB 7 :: (Tr.nb s.size ++ s.data.toList)) := rfl
 rw [hkb] at htot ⊢
 have hlen := htot
 simp only [List.length_append, List.length_cons, List.length_nil, size_list] at hlen
 refine cv2 Tryz.func18 rfl rfl rfl fun a hf => ?_
 have hX := Bx.start w
 clear hX
 have hX := Bx.bare w (fun k => v0.ownBlock ≠ some k)
 have hbs : ∀ p ∈ (⟨bare w, [(w, fun k => v0.ownBlock ≠ some k)]⟩ : Base).bs, p.1.heap.size ≤ w.heap.size ∧ ∀ k, v0.ownBlock = some k → ¬ p.2 k := (fun p hp => by rw [List.mem_singleton.1 hp]; exact ⟨Nat.le_refl _, fun k hk h => h hk⟩)
 refine gc hf ?_
 intro a hf
 refine sv_box hf hX rfl dd (fun a C1 W hC hf hX hA => ?_)
 have hnC1 := fun k hk => Nat.ne_of_lt (Nat.lt_of_lt_of_eq (hR.row.lt k hk).2 hC.symm)
 replace hR := hR.below hA
 clear hC hA
 refine go hf ?_
 intro a hf
 refine sv_run (v := .int .u8 ((Tr.kB 7).toNat : Int)) hf dd (fun a hf => ex_cvu8 hf rfl rfl) (fun a hf => ?_)
 refine sv_bs8 (m := (((Tr.kB 7)).toNat : Int)) hf hX rfl dd (fun a G2 W hC hf hX hA => ?_)
 have hnG2 := fun k hk => Nat.ne_of_lt (Nat.lt_of_lt_of_eq (hR.row.lt k hk).2 hC.symm)
 replace hR := hR.below hA
 clear hC hA
 replace hX : Bx ⟨bare w, [(w, fun k => v0.ownBlock ≠ some k)]⟩ [(G2, (Lib.byteCells [(Tr.kB 7)])), (C1, [.int .i64 7, .int .i64 n, .string s, .slice la lt.len lc, .slice da dt.len dc])] W := hX
 have hlG2 := (hX.get (i := 0) rfl).lt
 have hlC1 := (hX.get (i := 1) rfl).lt
 refine sv_app8 (bs := [(Tr.kB 7)]) hf hX rfl rfl hR rfl hbs (by intro k hk x hx e; simp only [List.mem_cons, List.not_mem_nil, or_false] at hx; rcases hx with rfl; exact hnC1 k hk e.symm) (by have := hlen; simp only [List.length_append, List.length_cons, List.length_nil, size_list]; omega) dd (fun a v3 W hf hX hR hg hsrc => ?_)
 replace hnC1 : ∀ k, (v3).ownBlock = some k → k ≠ C1 := fun k hk => by rcases hsrc k hk with h | h; exact hnC1 k h; omega
 clear hg hsrc
 refine go hf ?_
 intro a hf
 refine wp_block ?_
 refine gc hf ?_
 intro a hf
 have hlC1 := (hX.get (i := 0) rfl).lt
 refine sv_call hf fnOK_35 rfl (text_row s wsm _ v3 _ hR.row (by have := hlen; simp only [List.length_append, List.length_cons, List.length_nil, size_list]; omega)) dd ?_
 rintro e W2 ⟨v4, rfl, hrw, hg, hsrc⟩
 replace hX := grow_bx hX hR rfl hbs (by intro k hk x hx e; simp only [List.mem_cons, List.not_mem_nil, or_false] at hx; rcases hx with rfl; exact hnC1 k hk e.symm) hg
 replace hR := hR.next hrw hg hsrc
 clear hrw
 replace hnC1 : ∀ k, (v4).ownBlock = some k → k ≠ C1 := fun k hk => by rcases hsrc k hk with h | h; exact hnC1 k h; omega
 clear hg hsrc
 obtain ⟨W, hWW⟩ : ∃ X, X = W2 := ⟨_, rfl⟩
 subst hWW
 refine ⟨_, rfl, fun a hf => ?_⟩
 refine go hf ?_
 intro a hf
 have hfin : l0 ++ [(Tr.kB 7)] ++ (Tr.nb s.size ++ s.data.toList) = l0 ++ (Tr.kB 7 :: (Tr.nb s.size ++ s.data.toList)) := by simp only [List.append_assoc]; rfl
 rw [hfin] at hR
 exact rt hf rfl rfl ⟨_, rfl, hR.row, ⟨hX.low.os, hX.low.tape, hX.low.output, (hX.bas _ List.mem_cons_self).1, fun k hk hne => (hX.bas _ List.mem_cons_self).2 k hk (fun e => hne e.symm)⟩, hR.src⟩
theorem cap_K8 {n0 : Nat} (hn : CapC n0) (n : Int) (s : ByteArray) (lt dt : Tr) (hsz0 : (Tr.mk 8 n s lt dt).sz ≤ n0 + 1) (w : World) (F0 : Nat → Prop) (v0 : Value) (l0 : List UInt8) (cs : List Value) (hrow : RowB 0 w v0 l0) (hv0 : VAt w F0 (Tr.mk 8 n s lt dt) cs) (hF0 : ∀ k, F0 k → v0.ownBlock ≠ some k) (htot : l0.length + (Tr.mk 8 n s lt dt).cb.length ≤ 1000000000) : Calls Tryz.prog 18 #[v0, .agg cs.toArray] w fun e w' => ∃ v', e = .returned v' ∧ RowB 0 w' v' (l0 ++ (Tr.mk 8 n s lt dt).cb) ∧ w.grownBy w' v0.ownBlock ∧ Src v0 v' w := by
 obtain ⟨F, hFd⟩ : ∃ F : Nat → Prop, F = fun k => F0 k ∧ k < w.heap.size := ⟨_, rfl⟩
 have hv : VAt w F (Tr.mk 8 n s lt dt) cs := hv0.kept (Nat.le_refl _) (fun _ _ _ => rfl) (fun k h hl => by rw [hFd]; exact ⟨h, hl⟩)
 have hFv : ∀ k, F k → v0.ownBlock ≠ some k := fun k h => by rw [hFd] at h; exact hF0 k h.1
 have hFl : ∀ k, F k → k < w.heap.size := fun k h => by rw [hFd] at h; exact h.2
 clear hFd hF0 hv0
 obtain ⟨la, lc, da, dc, rfl, wk, wn, ws, hL, hD⟩ := hv.parts
 obtain ⟨_, _, e1, hlL, hl1, hl2, _⟩ := id hL
 obtain ⟨_, _, rfl⟩ := Value.slice.inj e1
 obtain ⟨_, _, e2, hdF, hd1, hd2, _⟩ := id hD
 obtain ⟨_, _, rfl⟩ := Value.slice.inj e2
 have wsm := ws
 unfold maxLen at hl2 hd2 ws
 simp only [Tr.sz] at hsz0
 have hR := RowW.start hrow
 have hkb : (Tr.mk 8 n s lt dt).cb = (Tr.kB 8 :: s.data.toList) := rfl
 rw [hkb] at htot ⊢
 have hlen := htot
 simp only [List.length_append, List.length_cons, List.length_nil, size_list] at hlen
 refine cv2 Tryz.func18 rfl rfl rfl fun a hf => ?_
 have hX := Bx.start w
 clear hX
 have hX := Bx.bare w (fun k => v0.ownBlock ≠ some k)
 have hbs : ∀ p ∈ (⟨bare w, [(w, fun k => v0.ownBlock ≠ some k)]⟩ : Base).bs, p.1.heap.size ≤ w.heap.size ∧ ∀ k, v0.ownBlock = some k → ¬ p.2 k := (fun p hp => by rw [List.mem_singleton.1 hp]; exact ⟨Nat.le_refl _, fun k hk h => h hk⟩)
 refine gc hf ?_
 intro a hf
 refine sv_box hf hX rfl dd (fun a C1 W hC hf hX hA => ?_)
 have hnC1 := fun k hk => Nat.ne_of_lt (Nat.lt_of_lt_of_eq (hR.row.lt k hk).2 hC.symm)
 replace hR := hR.below hA
 clear hC hA
 refine go hf ?_
 intro a hf
 refine sv_run (v := .int .u8 ((Tr.kB 8).toNat : Int)) hf dd (fun a hf => ex_cvu8 hf rfl rfl) (fun a hf => ?_)
 refine sv_bs8 (m := (((Tr.kB 8)).toNat : Int)) hf hX rfl dd (fun a G2 W hC hf hX hA => ?_)
 have hnG2 := fun k hk => Nat.ne_of_lt (Nat.lt_of_lt_of_eq (hR.row.lt k hk).2 hC.symm)
 replace hR := hR.below hA
 clear hC hA
 replace hX : Bx ⟨bare w, [(w, fun k => v0.ownBlock ≠ some k)]⟩ [(G2, (Lib.byteCells [(Tr.kB 8)])), (C1, [.int .i64 8, .int .i64 n, .string s, .slice la lt.len lc, .slice da dt.len dc])] W := hX
 have hlG2 := (hX.get (i := 0) rfl).lt
 have hlC1 := (hX.get (i := 1) rfl).lt
 refine sv_app8 (bs := [(Tr.kB 8)]) hf hX rfl rfl hR rfl hbs (by intro k hk x hx e; simp only [List.mem_cons, List.not_mem_nil, or_false] at hx; rcases hx with rfl; exact hnC1 k hk e.symm) (by have := hlen; simp only [List.length_append, List.length_cons, List.length_nil, size_list]; omega) dd (fun a v3 W hf hX hR hg hsrc => ?_)
 replace hnC1 : ∀ k, (v3).ownBlock = some k → k ≠ C1 := fun k hk => by rcases hsrc k hk with h | h; exact hnC1 k h; omega
 clear hg hsrc
 refine go hf ?_
 intro a hf
 refine wp_block ?_
 refine gc hf ?_
 intro a hf
 have hlC1 := (hX.get (i := 0) rfl).lt
 refine sv_app8s hf hX rfl rfl hR rfl hbs (by intro k hk x hx e; simp only [List.mem_cons, List.not_mem_nil, or_false] at hx; rcases hx with rfl; exact hnC1 k hk e.symm) (by have := hlen; simp only [List.length_append, List.length_cons, List.length_nil, size_list]; omega) dd (fun a v4 W hf hX hR hg hsrc => ?_)
 replace hnC1 : ∀ k, (v4).ownBlock = some k → k ≠ C1 := fun k hk => by rcases hsrc k hk with h | h; exact hnC1 k h; omega
 clear hg hsrc
 refine go hf ?_
 intro a hf
 have hfin : l0 ++ [(Tr.kB 8)] ++ s.data.toList = l0 ++ (Tr.kB 8 :: s.data.toList) := by simp only [List.append_assoc]; rfl
 rw [hfin] at hR
 exact rt hf rfl rfl ⟨_, rfl, hR.row, ⟨hX.low.os, hX.low.tape, hX.low.output, (hX.bas _ List.mem_cons_self).1, fun k hk hne => (hX.bas _ List.mem_cons_self).2 k hk (fun e => hne e.symm)⟩, hR.src⟩
theorem cap_K6 {n0 : Nat} (hn : CapC n0) (n : Int) (s : ByteArray) (lt dt : Tr) (hsz0 : (Tr.mk 6 n s lt dt).sz ≤ n0 + 1) (w : World) (F0 : Nat → Prop) (v0 : Value) (l0 : List UInt8) (cs : List Value) (hrow : RowB 0 w v0 l0) (hv0 : VAt w F0 (Tr.mk 6 n s lt dt) cs) (hF0 : ∀ k, F0 k → v0.ownBlock ≠ some k) (htot : l0.length + (Tr.mk 6 n s lt dt).cb.length ≤ 1000000000) : Calls Tryz.prog 18 #[v0, .agg cs.toArray] w fun e w' => ∃ v', e = .returned v' ∧ RowB 0 w' v' (l0 ++ (Tr.mk 6 n s lt dt).cb) ∧ w.grownBy w' v0.ownBlock ∧ Src v0 v' w := by
 obtain ⟨F, hFd⟩ : ∃ F : Nat → Prop, F = fun k => F0 k ∧ k < w.heap.size := ⟨_, rfl⟩
 have hv : VAt w F (Tr.mk 6 n s lt dt) cs := hv0.kept (Nat.le_refl _) (fun _ _ _ => rfl) (fun k h hl => by rw [hFd]; exact ⟨h, hl⟩)
 have hFv : ∀ k, F k → v0.ownBlock ≠ some k := fun k h => by rw [hFd] at h; exact hF0 k h.1
 have hFl : ∀ k, F k → k < w.heap.size := fun k h => by rw [hFd] at h; exact h.2
 clear hFd hF0 hv0
 obtain ⟨la, lc, da, dc, rfl, wk, wn, ws, hL, hD⟩ := hv.parts
 obtain ⟨_, _, e1, hlL, hl1, hl2, _⟩ := id hL
 obtain ⟨_, _, rfl⟩ := Value.slice.inj e1
 obtain ⟨_, _, e2, hdF, hd1, hd2, _⟩ := id hD
 obtain ⟨_, _, rfl⟩ := Value.slice.inj e2
 have wsm := ws
 unfold maxLen at hl2 hd2 ws
 simp only [Tr.sz] at hsz0
 have hR := RowW.start hrow
 have hkb : (Tr.mk 6 n s lt dt).cb = (Tr.kB 6 :: (Tr.nb lt.len ++ lt.lst.flatMap Tr.cb)) := by show _ :: (Tr.nb lt.len ++ lt.cb) = _; rw [cb_lst lt hlL]
 rw [hkb] at htot ⊢
 have hlen := htot
 simp only [List.length_append, List.length_cons, List.length_nil] at hlen
 refine cv2 Tryz.func18 rfl rfl rfl fun a hf => ?_
 have hX := Bx.start w
 clear hX
 have hX := Bx.bare w (fun k => v0.ownBlock ≠ some k)
 have hbs : ∀ p ∈ (⟨bare w, [(w, fun k => v0.ownBlock ≠ some k)]⟩ : Base).bs, p.1.heap.size ≤ w.heap.size ∧ ∀ k, v0.ownBlock = some k → ¬ p.2 k := (fun p hp => by rw [List.mem_singleton.1 hp]; exact ⟨Nat.le_refl _, fun k hk h => h hk⟩)
 refine gc hf ?_
 intro a hf
 refine sv_box hf hX rfl dd (fun a C1 W hC hf hX hA => ?_)
 have hnC1 := fun k hk => Nat.ne_of_lt (Nat.lt_of_lt_of_eq (hR.row.lt k hk).2 hC.symm)
 replace hR := hR.below hA
 clear hC hA
 refine go hf ?_
 intro a hf
 refine sv_run (v := .int .u8 ((Tr.kB 6).toNat : Int)) hf dd (fun a hf => ex_cvu8 hf rfl rfl) (fun a hf => ?_)
 refine sv_bs8 (m := (((Tr.kB 6)).toNat : Int)) hf hX rfl dd (fun a G2 W hC hf hX hA => ?_)
 have hnG2 := fun k hk => Nat.ne_of_lt (Nat.lt_of_lt_of_eq (hR.row.lt k hk).2 hC.symm)
 replace hR := hR.below hA
 clear hC hA
 replace hX : Bx ⟨bare w, [(w, fun k => v0.ownBlock ≠ some k)]⟩ [(G2, (Lib.byteCells [(Tr.kB 6)])), (C1, [.int .i64 6, .int .i64 n, .string s, .slice la lt.len lc, .slice da dt.len dc])] W := hX
 have hlG2 := (hX.get (i := 0) rfl).lt
 have hlC1 := (hX.get (i := 1) rfl).lt
 refine sv_app8 (bs := [(Tr.kB 6)]) hf hX rfl rfl hR rfl hbs (by intro k hk x hx e; simp only [List.mem_cons, List.not_mem_nil, or_false] at hx; rcases hx with rfl; exact hnC1 k hk e.symm) (by have := hlen; simp only [List.length_append, List.length_cons, List.length_nil, size_list]; omega) dd (fun a v3 W hf hX hR hg hsrc => ?_)
 replace hnC1 : ∀ k, (v3).ownBlock = some k → k ≠ C1 := fun k hk => by rcases hsrc k hk with h | h; exact hnC1 k h; omega
 clear hg hsrc
 refine go hf ?_
 intro a hf
 refine wp_block ?_
 refine gc hf ?_
 intro a hf
 refine sv_len hf rfl u26 dd (fun a hf => ?_)
 have hlC1 := (hX.get (i := 0) rfl).lt
 refine sv_call hf fnOK_34 rfl (num_row ((lt.len : Nat) : Int) (wf_nat (by omega)) _ v3 _ hR.row (by have := hlen; simp only [List.length_append, List.length_cons, List.length_nil, size_list]; omega)) dd ?_
 rintro e W2 ⟨v4, rfl, hrw, hg, hsrc⟩
 replace hX := grow_bx hX hR rfl hbs (by intro k hk x hx e; simp only [List.mem_cons, List.not_mem_nil, or_false] at hx; rcases hx with rfl; exact hnC1 k hk e.symm) hg
 replace hR := hR.next hrw hg hsrc
 clear hrw
 replace hnC1 : ∀ k, (v4).ownBlock = some k → k ≠ C1 := fun k hk => by rcases hsrc k hk with h | h; exact hnC1 k h; omega
 clear hg hsrc
 obtain ⟨W, hWW⟩ : ∃ X, X = W2 := ⟨_, rfl⟩
 subst hWW
 refine ⟨_, rfl, fun a hf => ?_⟩
 refine go hf ?_
 intro a hf
 refine sv_len hf rfl u26 dd (fun a hf => ?_)
 refine go hf ?_
 intro a hf
 refine wp_block (wp_loop (fun a X => ∃ (q : Nat) (vx : Value), FrV 86 [(0, vx), (53, .slice la lt.len lc), (54, .int .i64 ((lt.len : Nat) : Int)), (55, .int .i64 (q : Int))] a ∧ Bx ⟨bare w, [(w, fun k => v0.ownBlock ≠ some k)]⟩ [(C1, [.int .i64 6, .int .i64 n, .string s, .slice la lt.len lc, .slice da dt.len dc])] X ∧ q ≤ lt.len ∧ RowW w v0 X vx (l0 ++ [Tr.kB 6] ++ Tr.nb lt.len ++ (lt.lst.take q).flatMap Tr.cb) ∧ ∀ k, vx.ownBlock = some k → k ≠ C1) (fun a _ => lt.len - (intOf (a.eval (.tmp 55))).toNat) ⟨0, _, hf.sub (sub_cons rfl (sub_cons rfl (sub_cons rfl (sub_cons rfl (sub_nil))))), hX, Nat.zero_le _, (by rw [List.take_zero, List.flatMap_nil, List.append_nil]; exact hR), hnC1⟩ ?_)
 clear hf hX hR
 rintro a W ⟨q, vx, hf, hX, hq, hR, hnC1⟩
 have hm55 : a.eval (.tmp 55) = .int .i64 (q : Int) := hf.rel 55 _ rfl
 rcases Decidable.em ((q : Int) < ((lt.len : Nat) : Int)) with hgo | hgo
 ·
  refine gc hf ?_
  intro a hf
  refine ct hf hgo fun a hf => ?_
  refine go hf ?_
  intro a hf
  refine wp_block ?_
  have hqx : q < lt.len := by omega
  obtain ⟨LB, LO, _, p, ps, hsl, hFB, hLB, hpq, hps, hr, hvp⟩ := hL.get hqx
  have hpp := hpq
  obtain ⟨hla, _, _⟩ := Value.slice.inj hsl
  have hones := hvp.ones
  have hE := flat_take_le Tr.cb lt.lst (q + 1)
  rw [flat_step hpp, List.length_append] at hE
  refine gc hf ?_
  intro a hf
  refine sv_idx (k := 5) (q := q) (B := LB) (o := LO) hf (show _ = some (Value.slice (some ⟨LB, LO, none⟩) lt.len lc) from by rw [← hla]; rfl) rfl hqx u26 einfo_vals dd (fun a hf => ?_)
  refine sv_lrr (cs := ps) hf rfl (rep_row_mono hr (hX.bas _ List.mem_cons_self |>.2 LB hLB (hFv LB hFB))) u29 (by show _ = some (ps.length); rw [hps]; exact info_val) dd (fun a hf => ?_)
  refine sv_alloc (zs := [.int .i64 0, .int .i64 0, .string ⟨#[]⟩, .slice none 0 0, .slice none 0 0]) hf hX zero_val dd (fun a C5 W hC hf hX hA => ?_)
  have hnC5 := fun k hk => Nat.ne_of_lt (Nat.lt_of_lt_of_eq (hR.row.lt k hk).2 hC.symm)
  replace hR := hR.below hA
  clear hC hA
  refine sv_sr hf hX rfl rfl 0 rfl (by show ps.length = _; rw [hps]; rfl) (by show _ = some (ps.length); rw [hps]; exact info_val) hones [(C5, ps), (C1, [.int .i64 6, .int .i64 n, .string s, .slice la lt.len lc, .slice da dt.len dc])] rfl (fun W hX hO => ?_)
  replace hR := hR.only hO hnC5
  clear hO
  refine go hf ?_
  intro a hf
  refine sv_lr hf hX rfl 0 rfl u29 (by rw [hps]; exact info_val) dd (fun a hf => ?_)
  have hlC5 := (hX.get (i := 0) rfl).lt
  have hlC1 := (hX.get (i := 1) rfl).lt
  refine sv_call hf fnOK_18 rfl (hn p (by have := Tr.sz_lst lt p (List.mem_of_getElem? hpq); omega) _ F vx _ ps hR.row (hvp.kept (hX.bas _ List.mem_cons_self).1 (fun k hk hlt => (hX.bas _ List.mem_cons_self).2 k hlt (hFv k hk)) (fun _ h _ => h)) (fun k hk e => by rcases hR.src k e with h | h; exact hFv k hk h; have := hFl k hk; omega) (by have := hlen; simp only [List.length_append, List.length_cons, List.length_nil, size_list]; omega)) dd ?_
  rintro e W2 ⟨v6, rfl, hrw, hg, hsrc⟩
  replace hX := grow_bx hX hR rfl hbs (by intro k hk x hx e; simp only [List.mem_cons, List.not_mem_nil, or_false] at hx; rcases hx with rfl | rfl; exact hnC5 k hk e.symm; exact hnC1 k hk e.symm) hg
  replace hR := hR.next hrw hg hsrc
  clear hrw
  replace hnC5 : ∀ k, (v6).ownBlock = some k → k ≠ C5 := fun k hk => by rcases hsrc k hk with h | h; exact hnC5 k h; omega
  replace hnC1 : ∀ k, (v6).ownBlock = some k → k ≠ C1 := fun k hk => by rcases hsrc k hk with h | h; exact hnC1 k h; omega
  clear hg hsrc
  obtain ⟨W, hWW⟩ : ∃ X, X = W2 := ⟨_, rfl⟩
  subst hWW
  refine ⟨_, rfl, fun a hf => ?_⟩
  refine go hf ?_
  intro a hf
  refine sv_add ((q + 1 : Nat) : Int) hf rfl rfl (by rw [wrap_in (by omega)]; rfl) dd (fun a hf => ?_)
  refine go hf ?_
  intro a hf
  have hls : l0 ++ [Tr.kB 6] ++ Tr.nb lt.len ++ (lt.lst.take q).flatMap Tr.cb ++ p.cb = l0 ++ [Tr.kB 6] ++ Tr.nb lt.len ++ (lt.lst.take (q + 1)).flatMap Tr.cb := by rw [flat_step hpp]; simp only [List.append_assoc]
  rw [hls] at hR
  refine ⟨⟨q + 1, _, hf.sub (sub_cons rfl (sub_cons rfl (sub_cons rfl (sub_cons rfl (sub_nil))))), hX.sub, by omega, hR, hnC1⟩, ?_⟩
  have h5 : a.eval (.tmp 55) = .int .i64 ((q + 1 : Nat) : Int) := hf.rel 55 _ rfl
  rw [h5, hm55]; simp only [intOf, Int.toNat_natCast]; omega
 ·
  refine gc hf ?_
  intro a hf
  refine cf hf hgo fun a hf => ?_
  refine go hf ?_
  intro a hf
  refine wp_exit ?_
  simp only [Exit.inBlock, Exit.then, ↓reduceIte]
  have hqe : q = lt.len := by omega
  rw [hqe, List.take_length] at hR
  refine gc hf ?_
  intro a hf
  have hfin : (l0 ++ [Tr.kB 6] ++ Tr.nb lt.len ++ lt.lst.flatMap Tr.cb) = l0 ++ (Tr.kB 6 :: (Tr.nb lt.len ++ lt.lst.flatMap Tr.cb)) := by simp only [List.append_assoc]; rfl
  rw [hfin] at hR
  exact rt hf rfl rfl ⟨_, rfl, hR.row, ⟨hX.low.os, hX.low.tape, hX.low.output, (hX.bas _ List.mem_cons_self).1, fun k hk hne => (hX.bas _ List.mem_cons_self).2 k hk (fun e => hne e.symm)⟩, hR.src⟩
theorem cap_K5 {n0 : Nat} (hn : CapC n0) (n : Int) (s : ByteArray) (lt dt : Tr) (hsz0 : (Tr.mk 5 n s lt dt).sz ≤ n0 + 1) (w : World) (F0 : Nat → Prop) (v0 : Value) (l0 : List UInt8) (cs : List Value) (hrow : RowB 0 w v0 l0) (hv0 : VAt w F0 (Tr.mk 5 n s lt dt) cs) (hF0 : ∀ k, F0 k → v0.ownBlock ≠ some k) (htot : l0.length + (Tr.mk 5 n s lt dt).cb.length ≤ 1000000000) : Calls Tryz.prog 18 #[v0, .agg cs.toArray] w fun e w' => ∃ v', e = .returned v' ∧ RowB 0 w' v' (l0 ++ (Tr.mk 5 n s lt dt).cb) ∧ w.grownBy w' v0.ownBlock ∧ Src v0 v' w := by
 obtain ⟨F, hFd⟩ : ∃ F : Nat → Prop, F = fun k => F0 k ∧ k < w.heap.size := ⟨_, rfl⟩
 have hv : VAt w F (Tr.mk 5 n s lt dt) cs := hv0.kept (Nat.le_refl _) (fun _ _ _ => rfl) (fun k h hl => by rw [hFd]; exact ⟨h, hl⟩)
 have hFv : ∀ k, F k → v0.ownBlock ≠ some k := fun k h => by rw [hFd] at h; exact hF0 k h.1
 have hFl : ∀ k, F k → k < w.heap.size := fun k h => by rw [hFd] at h; exact h.2
 clear hFd hF0 hv0
 obtain ⟨la, lc, da, dc, rfl, wk, wn, ws, hL, hD⟩ := hv.parts
 obtain ⟨_, _, e1, hlL, hl1, hl2, _⟩ := id hL
 obtain ⟨_, _, rfl⟩ := Value.slice.inj e1
 obtain ⟨_, _, e2, hdF, hd1, hd2, _⟩ := id hD
 obtain ⟨_, _, rfl⟩ := Value.slice.inj e2
 have wsm := ws
 unfold maxLen at hl2 hd2 ws
 simp only [Tr.sz] at hsz0
 have hR := RowW.start hrow
 have hkb : (Tr.mk 5 n s lt dt).cb = (Tr.kB 5 :: (Tr.nb dt.len ++ dt.prs.flatMap fcb)) := by show _ :: (Tr.nb dt.len ++ dt.cb) = _; rw [cb_prs dt hdF]
 rw [hkb] at htot ⊢
 have hlen := htot
 simp only [List.length_append, List.length_cons, List.length_nil] at hlen
 refine cv2 Tryz.func18 rfl rfl rfl fun a hf => ?_
 have hX := Bx.start w
 clear hX
 have hX := Bx.bare w (fun k => v0.ownBlock ≠ some k)
 have hbs : ∀ p ∈ (⟨bare w, [(w, fun k => v0.ownBlock ≠ some k)]⟩ : Base).bs, p.1.heap.size ≤ w.heap.size ∧ ∀ k, v0.ownBlock = some k → ¬ p.2 k := (fun p hp => by rw [List.mem_singleton.1 hp]; exact ⟨Nat.le_refl _, fun k hk h => h hk⟩)
 refine gc hf ?_
 intro a hf
 refine sv_box hf hX rfl dd (fun a C1 W hC hf hX hA => ?_)
 have hnC1 := fun k hk => Nat.ne_of_lt (Nat.lt_of_lt_of_eq (hR.row.lt k hk).2 hC.symm)
 replace hR := hR.below hA
 clear hC hA
 refine go hf ?_
 intro a hf
 refine sv_run (v := .int .u8 ((Tr.kB 5).toNat : Int)) hf dd (fun a hf => ex_cvu8 hf rfl rfl) (fun a hf => ?_)
 refine sv_bs8 (m := (((Tr.kB 5)).toNat : Int)) hf hX rfl dd (fun a G2 W hC hf hX hA => ?_)
 have hnG2 := fun k hk => Nat.ne_of_lt (Nat.lt_of_lt_of_eq (hR.row.lt k hk).2 hC.symm)
 replace hR := hR.below hA
 clear hC hA
 replace hX : Bx ⟨bare w, [(w, fun k => v0.ownBlock ≠ some k)]⟩ [(G2, (Lib.byteCells [(Tr.kB 5)])), (C1, [.int .i64 5, .int .i64 n, .string s, .slice la lt.len lc, .slice da dt.len dc])] W := hX
 have hlG2 := (hX.get (i := 0) rfl).lt
 have hlC1 := (hX.get (i := 1) rfl).lt
 refine sv_app8 (bs := [(Tr.kB 5)]) hf hX rfl rfl hR rfl hbs (by intro k hk x hx e; simp only [List.mem_cons, List.not_mem_nil, or_false] at hx; rcases hx with rfl; exact hnC1 k hk e.symm) (by have := hlen; simp only [List.length_append, List.length_cons, List.length_nil, size_list]; omega) dd (fun a v3 W hf hX hR hg hsrc => ?_)
 replace hnC1 : ∀ k, (v3).ownBlock = some k → k ≠ C1 := fun k hk => by rcases hsrc k hk with h | h; exact hnC1 k h; omega
 clear hg hsrc
 refine go hf ?_
 intro a hf
 refine wp_block ?_
 refine gc hf ?_
 intro a hf
 refine sv_len hf rfl u27 dd (fun a hf => ?_)
 have hlC1 := (hX.get (i := 0) rfl).lt
 refine sv_call hf fnOK_34 rfl (num_row ((dt.len : Nat) : Int) (wf_nat (by omega)) _ v3 _ hR.row (by have := hlen; simp only [List.length_append, List.length_cons, List.length_nil, size_list]; omega)) dd ?_
 rintro e W2 ⟨v4, rfl, hrw, hg, hsrc⟩
 replace hX := grow_bx hX hR rfl hbs (by intro k hk x hx e; simp only [List.mem_cons, List.not_mem_nil, or_false] at hx; rcases hx with rfl; exact hnC1 k hk e.symm) hg
 replace hR := hR.next hrw hg hsrc
 clear hrw
 replace hnC1 : ∀ k, (v4).ownBlock = some k → k ≠ C1 := fun k hk => by rcases hsrc k hk with h | h; exact hnC1 k h; omega
 clear hg hsrc
 obtain ⟨W, hWW⟩ : ∃ X, X = W2 := ⟨_, rfl⟩
 subst hWW
 refine ⟨_, rfl, fun a hf => ?_⟩
 refine go hf ?_
 intro a hf
 refine sv_len hf rfl u27 dd (fun a hf => ?_)
 refine go hf ?_
 intro a hf
 refine wp_block (wp_loop (fun a X => ∃ (q : Nat) (vx : Value), FrV 86 [(0, vx), (71, .slice da dt.len dc), (72, .int .i64 ((dt.len : Nat) : Int)), (73, .int .i64 (q : Int))] a ∧ Bx ⟨bare w, [(w, fun k => v0.ownBlock ≠ some k)]⟩ [(C1, [.int .i64 5, .int .i64 n, .string s, .slice la lt.len lc, .slice da dt.len dc])] X ∧ q ≤ dt.len ∧ RowW w v0 X vx (l0 ++ [Tr.kB 5] ++ Tr.nb dt.len ++ (dt.prs.take q).flatMap fcb) ∧ ∀ k, vx.ownBlock = some k → k ≠ C1) (fun a _ => dt.len - (intOf (a.eval (.tmp 73))).toNat) ⟨0, _, hf.sub (sub_cons rfl (sub_cons rfl (sub_cons rfl (sub_cons rfl (sub_nil))))), hX, Nat.zero_le _, (by rw [List.take_zero, List.flatMap_nil, List.append_nil]; exact hR), hnC1⟩ ?_)
 clear hf hX hR
 rintro a W ⟨q, vx, hf, hX, hq, hR, hnC1⟩
 have hm73 : a.eval (.tmp 73) = .int .i64 (q : Int) := hf.rel 73 _ rfl
 rcases Decidable.em ((q : Int) < ((dt.len : Nat) : Int)) with hgo | hgo
 ·
  refine gc hf ?_
  intro a hf
  refine ct hf hgo fun a hf => ?_
  refine go hf ?_
  intro a hf
  refine wp_block ?_
  have hqx : q < dt.len := by omega
  obtain ⟨LB, LO, _, p, mn, ps, hsl, hFB, hLB, hpq, hmq, hms0, hps, hr, hvp⟩ := hD.get hqx
  have hms := hms0
  unfold maxLen at hms
  have hpp := prs_get dt q mn p hmq hpq hdF
  obtain ⟨hla, _, _⟩ := Value.slice.inj hsl
  have hones := hvp.ones
  have hE := flat_take_le fcb dt.prs (q + 1)
  rw [flat_step hpp, List.length_append] at hE
  simp only [List.length_append, size_list] at hE
  refine gc hf ?_
  intro a hf
  refine sv_idx (k := 6) (q := q) (B := LB) (o := LO) hf (show _ = some (Value.slice (some ⟨LB, LO, none⟩) dt.len dc) from by rw [← hla]; rfl) rfl hqx u27 einfo_flds dd (fun a hf => ?_)
  refine sv_lrr (cs := (.string mn :: ps)) hf rfl (rep_row_mono hr (hX.bas _ List.mem_cons_self |>.2 LB hLB (hFv LB hFB))) u78 (by show _ = some (ps.length + 1); rw [hps]; exact info_fld) dd (fun a hf => ?_)
  refine sv_alloc (zs := [.string ⟨#[]⟩, .int .i64 0, .int .i64 0, .string ⟨#[]⟩, .slice none 0 0, .slice none 0 0]) hf hX zero_fld dd (fun a C5 W hC hf hX hA => ?_)
  have hnC5 := fun k hk => Nat.ne_of_lt (Nat.lt_of_lt_of_eq (hR.row.lt k hk).2 hC.symm)
  replace hR := hR.below hA
  clear hC hA
  refine sv_sr hf hX rfl rfl 0 rfl (by show ps.length + 1 = _; rw [hps]; rfl) (by show _ = some (ps.length + 1); rw [hps]; exact info_fld) (fun v hv => by rcases List.mem_cons.1 hv with rfl | hv; rfl; exact hones v hv) [(C5, (.string mn :: ps)), (C1, [.int .i64 5, .int .i64 n, .string s, .slice la lt.len lc, .slice da dt.len dc])] rfl (fun W hX hO => ?_)
  replace hR := hR.only hO hnC5
  clear hO
  refine go hf ?_
  intro a hf
  refine wp_region_ordW 8 7 [(0, 0), (1, 0), (2, 1), (4, 0), (5, 1), (3, 2), (6, 2), (7, 3)] (fun X => Bx ⟨bare w, [(w, fun k => v0.ownBlock ≠ some k)]⟩ [(C5, (.string mn :: ps)), (C1, [.int .i64 5, .int .i64 n, .string s, .slice la lt.len lc, .slice da dt.len dc])] X) mixed (by kernel_rfl) hX.drew (fun c a d v w h => by cases d <;> exact h) ?_
  replace hX := hX.drew
  replace hR := hR.below (Below.refl _ _).drew
  refine o0 hf fun a hf => ?_
  refine ov0 hf rfl rfl dd rfl (fun X => ex_vfld (0) hf rfl rfl u78 rfl sz_str rfl) (fun a hf => ?_)
  refine ov1 hf rfl rfl dd rfl (fun X hS => ex_vlc (cs := (.string mn :: ps)) hf rfl rfl (hS.get (i := 0) rfl) rfl u9 rfl) (fun a hf => ?_)
  refine ov0 hf rfl rfl dd rfl (fun X => ex_vfld (1) hf rfl rfl u78 rfl sz_val rfl) (fun a hf => ?_)
  refine ov1 hf rfl rfl dd rfl (fun X hS => ex_load_row _ (.tmp 81) _ _ ps _ rfl (hf.rel _ _ rfl) (fun j u hu => by have := (hS.get (i := 0) rfl).cell (j + 1) u hu; rwa [Nat.add_comm j 1] at this) u29 rfl (by rw [hps]; exact info_val)) (fun a hf => ?_)
  have hlC5 := (hX.get (i := 0) rfl).lt
  have hlC1 := (hX.get (i := 1) rfl).lt
  refine ov2c hf rfl rfl dd rfl rfl fnOK_35 rfl (text_row mn hms0 _ vx _ hR.row (by have := hlen; simp only [List.length_append, List.length_cons, List.length_nil, size_list]; omega)) ?_
  rintro e W2 ⟨v6, rfl, hrw, hg, hsrc⟩
  replace hX := grow_bx hX hR rfl hbs (by intro k hk x hx e; simp only [List.mem_cons, List.not_mem_nil, or_false] at hx; rcases hx with rfl | rfl; exact hnC5 k hk e.symm; exact hnC1 k hk e.symm) hg
  replace hR := hR.next hrw hg hsrc
  clear hrw
  replace hnC5 : ∀ k, (v6).ownBlock = some k → k ≠ C5 := fun k hk => by rcases hsrc k hk with h | h; exact hnC5 k h; omega
  replace hnC1 : ∀ k, (v6).ownBlock = some k → k ≠ C1 := fun k hk => by rcases hsrc k hk with h | h; exact hnC1 k h; omega
  clear hg hsrc
  obtain ⟨W, hWW⟩ : ∃ X, X = W2 := ⟨_, rfl⟩
  subst hWW
  refine ⟨_, rfl, hX, fun a hf => ?_⟩
  have hlC5 := (hX.get (i := 0) rfl).lt
  have hlC1 := (hX.get (i := 1) rfl).lt
  refine ov2c hf rfl rfl dd rfl rfl fnOK_18 rfl (hn p (by have := Tr.sz_lst dt p (List.mem_of_getElem? hpq); omega) _ F v6 _ ps hR.row (hvp.kept (hX.bas _ List.mem_cons_self).1 (fun k hk hlt => (hX.bas _ List.mem_cons_self).2 k hlt (hFv k hk)) (fun _ h _ => h)) (fun k hk e => by rcases hR.src k e with h | h; exact hFv k hk h; have := hFl k hk; omega) (by have := hlen; simp only [List.length_append, List.length_cons, List.length_nil, size_list]; omega)) ?_
  rintro e W2 ⟨v7, rfl, hrw, hg, hsrc⟩
  replace hX := grow_bx hX hR rfl hbs (by intro k hk x hx e; simp only [List.mem_cons, List.not_mem_nil, or_false] at hx; rcases hx with rfl | rfl; exact hnC5 k hk e.symm; exact hnC1 k hk e.symm) hg
  replace hR := hR.next hrw hg hsrc
  clear hrw
  replace hnC5 : ∀ k, (v7).ownBlock = some k → k ≠ C5 := fun k hk => by rcases hsrc k hk with h | h; exact hnC5 k h; omega
  replace hnC1 : ∀ k, (v7).ownBlock = some k → k ≠ C1 := fun k hk => by rcases hsrc k hk with h | h; exact hnC1 k h; omega
  clear hg hsrc
  obtain ⟨W, hWW⟩ : ∃ X, X = W2 := ⟨_, rfl⟩
  subst hWW
  refine ⟨_, rfl, hX, fun a hf => ?_⟩
  refine ov3v hf rfl rfl dd rfl (ex_vas hf rfl rfl) (fun a hf => ?_)
  refine wpOrd_nil ?_
  refine gc hf ?_
  intro a hf
  refine sv_add ((q + 1 : Nat) : Int) hf rfl rfl (by rw [wrap_in (by omega)]; rfl) dd (fun a hf => ?_)
  refine go hf ?_
  intro a hf
  have hls : l0 ++ [Tr.kB 5] ++ Tr.nb dt.len ++ (dt.prs.take q).flatMap fcb ++ (Tr.nb mn.size ++ mn.data.toList) ++ p.cb = l0 ++ [Tr.kB 5] ++ Tr.nb dt.len ++ (dt.prs.take (q + 1)).flatMap fcb := by rw [flat_step hpp]; simp only [List.append_assoc]
  rw [hls] at hR
  refine ⟨⟨q + 1, _, hf.sub (sub_cons rfl (sub_cons rfl (sub_cons rfl (sub_cons rfl (sub_nil))))), hX.sub, by omega, hR, hnC1⟩, ?_⟩
  have h5 : a.eval (.tmp 73) = .int .i64 ((q + 1 : Nat) : Int) := hf.rel 73 _ rfl
  rw [h5, hm73]; simp only [intOf, Int.toNat_natCast]; omega
 ·
  refine gc hf ?_
  intro a hf
  refine cf hf hgo fun a hf => ?_
  refine go hf ?_
  intro a hf
  refine wp_exit ?_
  simp only [Exit.inBlock, Exit.then, ↓reduceIte]
  have hqe : q = dt.len := by omega
  rw [hqe, ← prs_len dt hdF, List.take_length] at hR
  rw [prs_len dt hdF] at hR
  refine gc hf ?_
  intro a hf
  have hfin : (l0 ++ [Tr.kB 5] ++ Tr.nb dt.len ++ dt.prs.flatMap fcb) = l0 ++ (Tr.kB 5 :: (Tr.nb dt.len ++ dt.prs.flatMap fcb)) := by simp only [List.append_assoc]; rfl
  rw [hfin] at hR
  exact rt hf rfl rfl ⟨_, rfl, hR.row, ⟨hX.low.os, hX.low.tape, hX.low.output, (hX.bas _ List.mem_cons_self).1, fun k hk hne => (hX.bas _ List.mem_cons_self).2 k hk (fun e => hne e.symm)⟩, hR.src⟩
theorem cap_Kk {n0 : Nat} (hn : CapC n0) (k : Int) (hk : k ≠ 3 ∧ k ≠ 10 ∧ k ≠ 9 ∧ k ≠ 4 ∧ k ≠ 7 ∧ k ≠ 8 ∧ k ≠ 6 ∧ k ≠ 5) (n : Int) (s : ByteArray) (lt dt : Tr) (hsz0 : (Tr.mk k n s lt dt).sz ≤ n0 + 1) (w : World) (F0 : Nat → Prop) (v0 : Value) (l0 : List UInt8) (cs : List Value) (hrow : RowB 0 w v0 l0) (hv0 : VAt w F0 (Tr.mk k n s lt dt) cs) (hF0 : ∀ k, F0 k → v0.ownBlock ≠ some k) (htot : l0.length + (Tr.mk k n s lt dt).cb.length ≤ 1000000000) : Calls Tryz.prog 18 #[v0, .agg cs.toArray] w fun e w' => ∃ v', e = .returned v' ∧ RowB 0 w' v' (l0 ++ (Tr.mk k n s lt dt).cb) ∧ w.grownBy w' v0.ownBlock ∧ Src v0 v' w := by
 obtain ⟨F, hFd⟩ : ∃ F : Nat → Prop, F = fun k => F0 k ∧ k < w.heap.size := ⟨_, rfl⟩
 have hv : VAt w F (Tr.mk k n s lt dt) cs := hv0.kept (Nat.le_refl _) (fun _ _ _ => rfl) (fun k h hl => by rw [hFd]; exact ⟨h, hl⟩)
 have hFv : ∀ k, F k → v0.ownBlock ≠ some k := fun k h => by rw [hFd] at h; exact hF0 k h.1
 have hFl : ∀ k, F k → k < w.heap.size := fun k h => by rw [hFd] at h; exact h.2
 clear hFd hF0 hv0
 obtain ⟨la, lc, da, dc, rfl, wk, wn, ws, hL, hD⟩ := hv.parts
 obtain ⟨_, _, e1, hlL, hl1, hl2, _⟩ := id hL
 obtain ⟨_, _, rfl⟩ := Value.slice.inj e1
 obtain ⟨_, _, e2, hdF, hd1, hd2, _⟩ := id hD
 obtain ⟨_, _, rfl⟩ := Value.slice.inj e2
 have wsm := ws
 unfold maxLen at hl2 hd2 ws
 simp only [Tr.sz] at hsz0
 have hR := RowW.start hrow
 have hkb : (Tr.mk k n s lt dt).cb = [Tr.kB k] := by obtain ⟨y1, y2, y3, y4, y5, y6, y7, y8⟩ := hk; unfold Tr.cb; simp [y1, y2, y3, y4, y5, y6, y7, y8]
 rw [hkb] at htot ⊢
 have hlen := htot
 simp only [List.length_append, List.length_cons, List.length_nil] at hlen
 refine cv2 Tryz.func18 rfl rfl rfl fun a hf => ?_
 have hX := Bx.start w
 clear hX
 have hX := Bx.bare w (fun k => v0.ownBlock ≠ some k)
 have hbs : ∀ p ∈ (⟨bare w, [(w, fun k => v0.ownBlock ≠ some k)]⟩ : Base).bs, p.1.heap.size ≤ w.heap.size ∧ ∀ k, v0.ownBlock = some k → ¬ p.2 k := (fun p hp => by rw [List.mem_singleton.1 hp]; exact ⟨Nat.le_refl _, fun k hk h => h hk⟩)
 refine gc hf ?_
 intro a hf
 refine sv_box hf hX rfl dd (fun a C1 W hC hf hX hA => ?_)
 have hnC1 := fun k hk => Nat.ne_of_lt (Nat.lt_of_lt_of_eq (hR.row.lt k hk).2 hC.symm)
 replace hR := hR.below hA
 clear hC hA
 refine go hf ?_
 intro a hf
 refine sv_run (v := .int .u8 ((Tr.kB k).toNat : Int)) hf dd (fun a hf => ex_cvu8 hf rfl rfl) (fun a hf => ?_)
 refine sv_bs8 (m := (((Tr.kB k)).toNat : Int)) hf hX rfl dd (fun a G2 W hC hf hX hA => ?_)
 have hnG2 := fun k hk => Nat.ne_of_lt (Nat.lt_of_lt_of_eq (hR.row.lt k hk).2 hC.symm)
 replace hR := hR.below hA
 clear hC hA
 replace hX : Bx ⟨bare w, [(w, fun k => v0.ownBlock ≠ some k)]⟩ [(G2, (Lib.byteCells [(Tr.kB k)])), (C1, [.int .i64 k, .int .i64 n, .string s, .slice la lt.len lc, .slice da dt.len dc])] W := hX
 have hlG2 := (hX.get (i := 0) rfl).lt
 have hlC1 := (hX.get (i := 1) rfl).lt
 refine sv_app8 (bs := [(Tr.kB k)]) hf hX rfl rfl hR rfl hbs (by intro k hk x hx e; simp only [List.mem_cons, List.not_mem_nil, or_false] at hx; rcases hx with rfl; exact hnC1 k hk e.symm) (by have := hlen; simp only [List.length_append, List.length_cons, List.length_nil, size_list]; omega) dd (fun a v3 W hf hX hR hg hsrc => ?_)
 replace hnC1 : ∀ k, (v3).ownBlock = some k → k ≠ C1 := fun k hk => by rcases hsrc k hk with h | h; exact hnC1 k h; omega
 clear hg hsrc
 refine go hf ?_
 intro a hf
 refine wp_block ?_
 refine gc hf ?_
 intro a hf
 refine sv_cmp hf rfl rfl false (congrArg some (decide_eq_false hk.1)) dd (fun a hf => ?_)
 refine go hf ?_
 intro a hf
 refine sv_cmp hf rfl rfl false (congrArg some (decide_eq_false hk.2.1)) dd (fun a hf => ?_)
 refine go hf ?_
 intro a hf
 refine sv_cmp hf rfl rfl false (congrArg some (decide_eq_false hk.2.2.1)) dd (fun a hf => ?_)
 refine go hf ?_
 intro a hf
 refine sv_cmp hf rfl rfl false (congrArg some (decide_eq_false hk.2.2.2.1)) dd (fun a hf => ?_)
 refine go hf ?_
 intro a hf
 refine sv_cmp hf rfl rfl false (congrArg some (decide_eq_false hk.2.2.2.2.1)) dd (fun a hf => ?_)
 refine go hf ?_
 intro a hf
 refine sv_cmp hf rfl rfl false (congrArg some (decide_eq_false hk.2.2.2.2.2.1)) dd (fun a hf => ?_)
 refine go hf ?_
 intro a hf
 refine sv_cmp hf rfl rfl false (congrArg some (decide_eq_false hk.2.2.2.2.2.2.1)) dd (fun a hf => ?_)
 refine go hf ?_
 intro a hf
 refine sv_cmp hf rfl rfl false (congrArg some (decide_eq_false hk.2.2.2.2.2.2.2)) dd (fun a hf => ?_)
 refine go hf ?_
 intro a hf
 have hfin : l0 ++ [(Tr.kB k)] = l0 ++ [Tr.kB k] := rfl
 rw [hfin] at hR
 exact rt hf rfl rfl ⟨_, rfl, hR.row, ⟨hX.low.os, hX.low.tape, hX.low.output, (hX.bas _ List.mem_cons_self).1, fun k hk hne => (hX.bas _ List.mem_cons_self).2 k hk (fun e => hne e.symm)⟩, hR.src⟩
theorem capC_all : ∀ n, CapC n
 | 0, t, ht, _, _, _, _, _, _, hv, _, _ => by obtain ⟨k, m, s, l, d, rfl⟩ := hv.isV; simp only [Tr.sz] at ht; omega
 | n + 1, t, ht, w, F, v, l, cs, hr, hv, hF, htot => by
  have hn := capC_all n
  obtain ⟨k, m, s, lt, d, rfl⟩ := hv.isV
  by_cases h3 : k = 3
  ·subst h3; exact cap_K3 hn m s lt d ht w F v l cs hr hv hF htot
  by_cases h10 : k = 10
  ·subst h10; exact cap_K10 hn m s lt d ht w F v l cs hr hv hF htot
  by_cases h9 : k = 9
  ·subst h9; exact cap_K9 hn m s lt d ht w F v l cs hr hv hF htot
  by_cases h4 : k = 4
  ·subst h4; exact cap_K4 hn m s lt d ht w F v l cs hr hv hF htot
  by_cases h7 : k = 7
  ·subst h7; exact cap_K7 hn m s lt d ht w F v l cs hr hv hF htot
  by_cases h8 : k = 8
  ·subst h8; exact cap_K8 hn m s lt d ht w F v l cs hr hv hF htot
  by_cases h6 : k = 6
  ·subst h6; exact cap_K6 hn m s lt d ht w F v l cs hr hv hF htot
  by_cases h5 : k = 5
  ·subst h5; exact cap_K5 hn m s lt d ht w F v l cs hr hv hF htot
  exact cap_Kk hn k ⟨h3, h10, h9, h4, h7, h8, h6, h5⟩ m s lt d ht w F v l cs hr hv hF htot
theorem cap_any (t : Tr) (w : World) (F : Nat → Prop) (v : Value) (l : List UInt8) (cs : List Value) (hr : RowB 0 w v l) (hv : VAt w F t cs) (hF : ∀ k, F k → v.ownBlock ≠ some k) (hl : l.length + t.cb.length ≤ 1000000000) : Calls Tryz.prog 18 #[v, .agg cs.toArray] w fun e w' => ∃ v', e = .returned v' ∧ RowB 0 w' v' (l ++ t.cb) ∧ w.grownBy w' v.ownBlock ∧ Src v v' w := capC_all t.sz t (Nat.le_refl _) w F v l cs hr hv hF hl
theorem cb_pos {t : Tr} {k n : Int} {s : ByteArray} {l d : Tr} (h : t = .mk k n s l d) : 0 < t.cb.length := by subst h; simp [Tr.cb]
theorem cEncode_any (t : Tr) (w : World) (F : Nat → Prop) (ps : List Value) (hU : U8 w) (hv0 : VAt w F t ps) (hlen : t.valid = true → t.cb.length ≤ 1000000000) : Calls Tryz.prog 6 #[.agg ps.toArray] w fun e w' => e = .returned (if t.valid then .tuple #[.string (mkS t.cb), .int .i64 0] else .tuple #[.string ⟨#[]⟩, .int .i64 8]) ∧ Below w.heap.size w w' := by
 have hv := hv0.low
 have hps := hv.len
 have hkp : 0 < t.cb.length := by obtain ⟨_, _, _, _, _, h⟩ := hv.isV; exact cb_pos h
 obtain ⟨al, hal⟩ : ∃ b, b = t.valid := ⟨_, rfl⟩
 rw [← hal]
 rw [← hal] at hlen
 have hR : RowW w (.slice none 0 0) w (.slice none 0 0) [] := RowW.start (RowB.nil _ _)
 refine cv1 Tryz.func6 rfl rfl rfl fun a hf => ?_
 have hX := Bx.start w
 clear hX
 have hX := Bx.bare w (fun k => (Value.slice none 0 0).ownBlock ≠ some k)
 have hbs : ∀ p ∈ (⟨bare w, [(w, fun k => (Value.slice none 0 0).ownBlock ≠ some k)]⟩ : Base).bs, p.1.heap.size ≤ w.heap.size ∧ ∀ k, (Value.slice none 0 0).ownBlock = some k → ¬ p.2 k := (fun p hp => by rw [List.mem_singleton.1 hp]; exact ⟨Nat.le_refl _, fun k hk h => h hk⟩)
 refine gc hf ?_
 intro a hf
 refine sv_box hf hX rfl dd (fun a C1 W hC hf hX hA => ?_)
 have hnC1 := fun k hk => Nat.ne_of_lt (Nat.lt_of_lt_of_eq (hR.row.lt k hk).2 hC.symm)
 replace hR := hR.below hA
 clear hC hA
 refine go hf ?_
 intro a hf
 refine sv_lr hf hX rfl 0 rfl u29 (by rw [hps]; exact info_val) dd (fun a hf => ?_)
 have hcc := Valid_any t W (LowF w) ps (hU.below ⟨hX.low.os, hX.low.tape, hX.low.output, (hX.bas _ List.mem_cons_self).1, fun k hk => (hX.bas _ List.mem_cons_self).2 k hk (fun h => by cases h)⟩) (hv.kept (hX.bas _ List.mem_cons_self).1 (fun k hk hlt => (hX.bas _ List.mem_cons_self).2 k hlt (fun h => by cases h)) (fun _ h _ => h))
 rw [← hal] at hcc
 refine sv_call hf fnOK_17 rfl (hcc) dd ?_
 rintro e W ⟨rfl, hb⟩
 replace hX := hX.keep hb
 replace hR := hR.below hb
 clear hb hcc
 refine ⟨_, rfl, fun a hf => ?_⟩
 cases al
 ·
  refine go hf ?_
  intro a hf
  exact bodyPost_ret (res_two (c := 2) (d := 3) (u := .string ⟨#[]⟩) (v := .int .i64 8) rfl (hf.rel 2 _ rfl) (hf.rel 3 _ rfl)) hf.defers ⟨rfl, ⟨hX.low.os, hX.low.tape, hX.low.output, (hX.bas _ List.mem_cons_self).1, fun k hk => (hX.bas _ List.mem_cons_self).2 k hk (fun h => by cases h)⟩⟩
 ·
  refine go hf ?_
  intro a hf
  refine sv_lr hf hX rfl 0 rfl u29 (by rw [hps]; exact info_val) dd (fun a hf => ?_)
  have hlC1 := (hX.get (i := 0) rfl).lt
  have hlen2 := hlen rfl
  refine sv_call hf fnOK_18 rfl (cap_any t _ (LowF w) (.slice none 0 0) [] ps hR.row (hv.kept (hX.bas _ List.mem_cons_self).1 (fun k hk hlt => (hX.bas _ List.mem_cons_self).2 k hlt (fun h => by cases h)) (fun _ h _ => h)) (fun k hk e => by cases e) (by simpa using hlen2)) dd ?_
  rintro e W2 ⟨v3, rfl, hrw, hg, hsrc⟩
  replace hX := grow_bx hX hR rfl hbs (by intro k hk x hx e; simp only [List.mem_cons, List.not_mem_nil, or_false] at hx; rcases hx with rfl; exact hnC1 k hk e.symm) hg
  replace hR := hR.next hrw hg hsrc
  clear hrw
  replace hnC1 : ∀ k, (v3).ownBlock = some k → k ≠ C1 := fun k hk => by rcases hsrc k hk with h | h; exact hnC1 k h; omega
  clear hg hsrc
  obtain ⟨W, hWW⟩ : ∃ X, X = W2 := ⟨_, rfl⟩
  subst hWW
  refine ⟨_, rfl, fun a hf => ?_⟩
  refine sv_run (v := .string (mkS t.cb)) hf dd (fun a hf => ex_cvstr hf rfl rfl hR.row hkp) (fun a hf => ?_)
  refine go hf ?_
  intro a hf
  exact bodyPost_ret (res_two (c := 2) (d := 3) (u := .string (mkS t.cb)) (v := .int .i64 0) rfl (hf.rel 2 _ rfl) (hf.rel 3 _ rfl)) hf.defers ⟨rfl, ⟨hX.low.os, hX.low.tape, hX.low.output, (hX.bas _ List.mem_cons_self).1, fun k hk => (hX.bas _ List.mem_cons_self).2 k hk (fun h => by cases h)⟩⟩
section
variable {w : World} {N : Nat} {env : VEnv} {a : Act} {o : Oper} {x z : Operand}
theorem ex_nilc {b p : Nat} (hf : FrV N env a) (ho : o.op = .nilCheck x) (hx : ev env x = some (.pointer (some ⟨b, p, none⟩))) : (execOp a.eval o).run Tryz.prog w = .ok (.value (.pointer (some ⟨b, p, none⟩))) w := by
 unfold execOp
 simp only [ho, hf.ev hx]
 rfl
theorem ex_xor8 {c : UInt8} (hf : FrV N env a) {xT zT : TypeId} (ho : o.op = .binOp .xor xT x z zT) (hx : ev env x = some (.int .u8 ((c.toNat : Nat) : Int))) (hz : ev env z = some (.int .u8 0)) : (execOp a.eval o).run Tryz.prog w = .ok (.value (.int .u8 ((c.toNat : Nat) : Int))) w := by
 have hb : bits .xor .u8 ((c.toNat : Nat) : Int) 0 = ((c.toNat : Nat) : Int) := by
  have := u8_xor_nat c.toNat 0 c.toNat_lt (by decide)
  rw [Nat.xor_zero] at this
  exact this
 unfold execOp
 simp only [ho, hf.ev hx, hf.ev hz]
 simp [go_sem, hb]
theorem ex_cvrow {B : Nat} {v : Value} {l : List UInt8} (hf : FrV N env a) (ho : o.op = .convert 53 9 x) (hx : ev env x = some v) (hR : RowB B w v l) : (execOp a.eval o).run Tryz.prog w = .ok (.value (.string (mkS l))) w := by
 by_cases h0 : 0 < l.length
 ·exact ex_cvstr hf ho hx hR h0
 ·obtain rfl : l = [] := List.eq_nil_of_length_eq_zero (by omega)
  have key : (convert 53 9 v).run Tryz.prog w = .ok (.string (mkS [])) w := by
   rcases hR.2 with ⟨rfl, _⟩ | ⟨g, cap, cur, rfl, _⟩
   ·rw [run_convert_bytes_string w 53 9 5 none 0 0 Tryz.underlying53 (by kernel_rfl) Tryz.underlying9]
    rfl
   ·exact run_convert_bytes_back w 53 9 5 ⟨g, 0, none⟩ cap [] Tryz.underlying53 (by kernel_rfl) Tryz.underlying9 (fun j hj => absurd hj (Nat.not_lt_zero j))
  unfold execOp
  simp only [ho, hf.ev hx, Sem.run_bind]
  rw [key]
  rfl
theorem ex_cv83 {c : UInt8} (hf : FrV N env a) (ho : o.op = .convert 5 3 x) (hx : ev env x = some (.int .u8 ((c.toNat : Nat) : Int))) : (execOp a.eval o).run Tryz.prog w = .ok (.value (.int .i64 ((c.toNat : Nat) : Int))) w := by
 have h1 : c.toNat < 256 := c.toNat_lt
 have hw : IntKind.i64.wrap ((c.toNat : Nat) : Int) = ((c.toNat : Nat) : Int) := wrap_in (by omega)
 unfold execOp
 simp only [ho, hf.ev hx]
 simp [go_sem, Tryz.underlying5, Tryz.underlying3, hw]
end
theorem next_any (R : Nat) (s : ByteArray) (hs : s.size ≤ maxLen) (p : Nat) (c : UInt8) (hc : s.data.toList[p]? = some c) (w : World) (hRd : Box w R [.string s, .int .i64 (p : Int), .int .u8 0, .int .i64 0]) : Calls Tryz.prog 78 #[.pointer (some ⟨R, 0, none⟩)] w fun e w' => e = .returned (.int .u8 ((c.toNat : Nat) : Int)) ∧ Box w' R [.string s, .int .i64 ((p + 1 : Nat) : Int), .int .u8 0, .int .i64 0] ∧ w.grownBy w' (some R) := by
 have hps : p < s.size := by have := (List.getElem?_eq_some_iff.1 hc).1; rwa [size_list] at this
 have hcs : s[p]'hps = c := Option.some.inj ((str_at hps).symm.trans hc)
 unfold maxLen at hs
 refine cv1 Tryz.func78 rfl rfl rfl fun a hf => ?_
 have hX := Bx.start w
 clear hX
 have hX0 := Bx.bare w (fun k => k ≠ R)
 have hX := hX0.add hRd (Nat.zero_le _) (fun x h => by cases h) (fun p hp _ => by rw [List.mem_singleton.1 hp]; exact fun h => h rfl)
 clear hX0
 refine gc hf ?_
 intro a hf
 refine wp_region_ordW 10 9 [(0, 0), (1, 0), (2, 0), (3, 1), (4, 0), (5, 0), (6, 0), (7, 1), (8, 0), (9, 3)] (fun X => Bx ⟨bare w, [(w, fun k => k ≠ R)]⟩ [(R, [.string s, .int .i64 (p : Int), .int .u8 0, .int .i64 0])] X) mixed (by kernel_rfl) hX.drew (fun c a d v w h => by cases d <;> exact h) ?_
 replace hX := hX.drew
 refine o0 hf fun a hf => ?_
 refine o0 hf fun a hf => ?_
 refine o0 hf fun a hf => ?_
 refine ov1 (v := .int .i64 (p : Int)) hf rfl rfl dd rfl (fun X hS => ex_vlc (cs := [.string s, .int .i64 (p : Int), .int .u8 0, .int .i64 0]) hf rfl rfl (hS.get (i := 0) rfl) rfl u3 rfl) (fun a hf => ?_)
 refine o0 hf fun a hf => ?_
 refine o0 hf fun a hf => ?_
 refine o0 hf fun a hf => ?_
 refine ov1 (v := .string s) hf rfl rfl dd rfl (fun X hS => ex_vlc (cs := [.string s, .int .i64 (p : Int), .int .u8 0, .int .i64 0]) hf rfl rfl (hS.get (i := 0) rfl) rfl u9 rfl) (fun a hf => ?_)
 refine ov0 (v := .int .i64 ((s).size : Int)) hf rfl rfl dd rfl (fun X => ex_lens hf rfl rfl u9) (fun a hf => ?_)
 refine ov3v hf rfl rfl dd rfl (ex_cmp (b := false) hf rfl rfl rfl (congrArg some (decide_eq_false (by omega)))) (fun a hf => ?_)
 refine wpOrd_nil ?_
 refine gc hf ?_
 intro a hf
 refine sv_add ((p + 1 : Nat) : Int) hf rfl rfl (by rw [wrap_in (by omega)]; rfl) dd (fun a hf => ?_)
 refine go hf ?_
 intro a hf
 refine sv_sc (cs' := [.string s, .int .i64 ((p + 1 : Nat) : Int), .int .u8 0, .int .i64 0]) hf hX rfl rfl 0 rfl dd rfl info_int rfl [(R, [.string s, .int .i64 ((p + 1 : Nat) : Int), .int .u8 0, .int .i64 0])] rfl (fun W hX hO => ?_)
 clear hO
 refine go hf ?_
 intro a hf
 refine wp_region_ordW 16 15 [(0, 0), (1, 0), (2, 0), (3, 1), (4, 0), (5, 0), (6, 0), (7, 1), (8, 0), (9, 0), (10, 0), (11, 0), (12, 0), (13, 1), (14, 0), (15, 3)] (fun X => Bx ⟨bare w, [(w, fun k => k ≠ R)]⟩ [(R, [.string s, .int .i64 ((p + 1 : Nat) : Int), .int .u8 0, .int .i64 0])] X) mixed (by kernel_rfl) hX.drew (fun c a d v w h => by cases d <;> exact h) ?_
 replace hX := hX.drew
 refine o0 hf fun a hf => ?_
 refine o0 hf fun a hf => ?_
 refine o0 hf fun a hf => ?_
 refine ov1 (v := .string s) hf rfl rfl dd rfl (fun X hS => ex_vlc (cs := [.string s, .int .i64 ((p + 1 : Nat) : Int), .int .u8 0, .int .i64 0]) hf rfl rfl (hS.get (i := 0) rfl) rfl u9 rfl) (fun a hf => ?_)
 refine o0 hf fun a hf => ?_
 refine o0 hf fun a hf => ?_
 refine o0 hf fun a hf => ?_
 refine ov1 (v := .int .i64 ((p + 1 : Nat) : Int)) hf rfl rfl dd rfl (fun X hS => ex_vlc (cs := [.string s, .int .i64 ((p + 1 : Nat) : Int), .int .u8 0, .int .i64 0]) hf rfl rfl (hS.get (i := 0) rfl) rfl u3 rfl) (fun a hf => ?_)
 refine ov0 (v := .int .i64 (p : Int)) hf rfl rfl dd rfl (fun X => ex_sub hf rfl rfl rfl (by have h9 := wrap_in (m := ((p + 1 : Nat) : Int) - 1) (by omega); omega)) (fun a hf => ?_)
 refine ov0 (v := .int .u8 ((c.toNat : Nat) : Int)) hf rfl rfl dd rfl (fun X => (by rw [← hcs]; exact ex_chr (k := p) hf rfl rfl rfl u9 hps)) (fun a hf => ?_)
 refine o0 hf fun a hf => ?_
 refine o0 hf fun a hf => ?_
 refine o0 hf fun a hf => ?_
 refine ov1 (v := .int .u8 0) hf rfl rfl dd rfl (fun X hS => ex_vlc (cs := [.string s, .int .i64 ((p + 1 : Nat) : Int), .int .u8 0, .int .i64 0]) hf rfl rfl (hS.get (i := 0) rfl) rfl Tryz.underlying5 rfl) (fun a hf => ?_)
 refine ov0 (v := .int .u8 ((c.toNat : Nat) : Int)) hf rfl rfl dd rfl (fun X => ex_xor8 hf rfl rfl rfl) (fun a hf => ?_)
 refine ov3v (v := .int .u8 ((c.toNat : Nat) : Int)) hf rfl rfl dd rfl (ex_vas hf rfl rfl) (fun a hf => ?_)
 refine wpOrd_nil ?_
 refine wp_ret ?_
 try simp only [Exit.inBlock, Exit.then]
 exact rt hf rfl rfl ⟨rfl, hX.get (i := 0) rfl, ⟨hX.low.os, hX.low.tape, hX.low.output, (hX.bas _ List.mem_cons_self).1, fun k hk hne => (hX.bas _ List.mem_cons_self).2 k hk (fun e => hne (by rw [e]))⟩⟩
theorem more_any (R : Nat) (s : ByteArray) (hs : s.size ≤ maxLen) (p : Nat) (b : Bool) (hc : s.data.toList[p]? = some (if b then 1 else 0)) (w : World) (hRd : Box w R [.string s, .int .i64 (p : Int), .int .u8 0, .int .i64 0]) : Calls Tryz.prog 80 #[.pointer (some ⟨R, 0, none⟩)] w fun e w' => e = .returned (.bool b) ∧ Box w' R [.string s, .int .i64 ((p + 1 : Nat) : Int), .int .u8 0, .int .i64 0] ∧ w.grownBy w' (some R) := by
 obtain ⟨c, hcb⟩ : ∃ c : UInt8, c = if b then 1 else 0 := ⟨_, rfl⟩
 rw [← hcb] at hc
 have hc1 : c.toNat ≤ 1 := by rw [hcb]; cases b <;> decide
 have hb1 : (((c.toNat : Nat) : Int) = 1 ∧ b = true) ∨ (¬ ((c.toNat : Nat) : Int) = 1 ∧ b = false) := by rw [hcb]; cases b <;> simp
 refine cv1 Tryz.func80 rfl rfl rfl fun a hf => ?_
 have hX := Bx.start w
 clear hX
 have hX0 := Bx.bare w (fun k => k ≠ R)
 have hX := hX0.add hRd (Nat.zero_le _) (fun x h => by cases h) (fun p hp _ => by rw [List.mem_singleton.1 hp]; exact fun h => h rfl)
 clear hX0
 refine gc hf ?_
 intro a hf
 refine sv_call hf fnOK_78 rfl (next_any R s hs p c hc _ (hX.get (i := 0) rfl)) dd ?_
 rintro e W2 ⟨rfl, hb, hg⟩
 replace hX : Bx ⟨bare w, [(w, fun k => k ≠ R)]⟩ [(R, [.string s, .int .i64 ((p + 1 : Nat) : Int), .int .u8 0, .int .i64 0])] W2 := hX.turn (i := 0) rfl hg hb
 clear hb hg
 obtain ⟨W, hWW⟩ : ∃ X, X = W2 := ⟨_, rfl⟩
 subst hWW
 refine ⟨_, rfl, fun a hf => ?_⟩
 refine go hf ?_
 intro a hf
 refine sv_run (v := .bool false) hf dd (fun a hf => ex_cmpk hf rfl rfl rfl (congrArg some (decide_eq_false (by omega)))) (fun a hf => ?_)
 refine go hf ?_
 intro a hf
 rcases Decidable.em (((c.toNat : Nat) : Int) = 1) with hq1 | hq1
 ·
  refine sv_run (v := .bool true) hf dd (fun a hf => ex_cmpk hf rfl rfl rfl (congrArg some (decide_eq_true hq1))) (fun a hf => ?_)
  refine go hf ?_
  intro a hf
  exact rt hf rfl rfl ⟨by rcases hb1 with ⟨h1, h2⟩ | ⟨h1, h2⟩; rw [h2]; exact absurd hq1 h1, hX.get (i := 0) rfl, ⟨hX.low.os, hX.low.tape, hX.low.output, (hX.bas _ List.mem_cons_self).1, fun k hk hne => (hX.bas _ List.mem_cons_self).2 k hk (fun e => hne (by rw [e]))⟩⟩
 ·
  refine sv_run (v := .bool false) hf dd (fun a hf => ex_cmpk hf rfl rfl rfl (congrArg some (decide_eq_false hq1))) (fun a hf => ?_)
  refine go hf ?_
  intro a hf
  exact rt hf rfl rfl ⟨by rcases hb1 with ⟨h1, h2⟩ | ⟨h1, h2⟩; exact absurd h1 hq1; rw [h2], hX.get (i := 0) rfl, ⟨hX.low.os, hX.low.tape, hX.low.output, (hX.bas _ List.mem_cons_self).1, fun k hk hne => (hX.bas _ List.mem_cons_self).2 k hk (fun e => hne (by rw [e]))⟩⟩
theorem RowW.turn {w W W' : World} {v0 v : Value} {l : List UInt8} {c : Nat} (h : RowW w v0 W v l) (hg : W.grownBy W' (some c)) (hne : ∀ k, v.ownBlock = some k → k ≠ c) : RowW w v0 W' v l := ⟨h.row.keep (fun k hk => hg.block k (h.row.lt k hk).2 (fun e => hne k hk (Option.some.inj e))), h.src, Nat.le_trans h.ge hg.size⟩
def atR (R : Nat) (X : World) : Nat := match X.cell? ⟨R, 1, none⟩ with
 | some (.int _ n) => n.toNat
 | _ => 0
theorem atR_eq {R : Nat} {X : World} {s : ByteArray} {n : Nat} {u e : Value} (h : Box X R [.string s, .int .i64 (n : Int), u, e]) : atR R X = n := by
 unfold atR
 rw [h.cell 1 _ rfl]
 rfl
theorem drop_at {l pre post : List UInt8} {p : Nat} (h : l.drop p = pre ++ post) (j : Nat) : l[p + j]? = (pre ++ post)[j]? := by rw [← h, List.getElem?_drop]
theorem drop_next {l pre post : List UInt8} {p : Nat} (h : l.drop p = pre ++ post) : l.drop (p + pre.length) = post := by rw [← List.drop_drop, h, List.drop_left]
theorem drop_one {l post : List UInt8} {p : Nat} {c : UInt8} (h : l.drop p = c :: post) : l[p]? = some c ∧ l.drop (p + 1) = post := by
 refine ⟨?_, ?_⟩
 ·have := drop_at (pre := [c]) (post := post) h 0
  simpa using this
 ·exact drop_next (pre := [c]) h
theorem name_any (R : Nat) (s : ByteArray) (hs : s.size ≤ maxLen) (p : Nat) (m post : List UInt8) (hm : ∀ c ∈ m, c ≠ 0) (hml : m.length ≤ 100000000) (hp : s.data.toList.drop p = m ++ (0 :: post)) (w : World) (hRd : Box w R [.string s, .int .i64 (p : Int), .int .u8 0, .int .i64 0]) : Calls Tryz.prog 81 #[.pointer (some ⟨R, 0, none⟩)] w fun e w' => e = .returned (.string (mkS m)) ∧ Box w' R [.string s, .int .i64 ((p + m.length + 1 : Nat) : Int), .int .u8 0, .int .i64 0] ∧ w.grownBy w' (some R) := by
 have hRw := hRd.lt
 have hR : RowW w (.slice none 0 0) w (.slice none 0 0) [] := RowW.start (RowB.nil _ _)
 have hnR : ∀ k, (Value.slice none 0 0).ownBlock = some k → k ≠ R := fun k hk => by cases hk
 refine cv1 Tryz.func81 rfl rfl rfl fun a hf => ?_
 have hX := Bx.start w
 clear hX
 have hX0 := Bx.bare w (fun k => k ≠ R)
 have hX := hX0.add hRd (Nat.zero_le _) (fun x h => by cases h) (fun p hp _ => by rw [List.mem_singleton.1 hp]; exact fun h => h rfl)
 clear hX0
 have hbs : ∀ p ∈ (⟨bare w, [(w, fun k => k ≠ R)]⟩ : Base).bs, p.1.heap.size ≤ w.heap.size ∧ ∀ k, (Value.slice none 0 0).ownBlock = some k → ¬ p.2 k := fun p hp => by rw [List.mem_singleton.1 hp]; exact ⟨Nat.le_refl _, fun k hk => by cases hk⟩
 refine gc hf ?_
 intro a hf
 refine wp_block (wp_loop (fun a X => ∃ (j : Nat) (vx : Value), FrV 20 [(0, .pointer (some ⟨R, 0, none⟩)), (3, vx)] a ∧ Bx ⟨bare w, [(w, fun k => k ≠ R)]⟩ [(R, [.string s, .int .i64 ((p + j : Nat) : Int), .int .u8 0, .int .i64 0])] X ∧ j ≤ m.length ∧ RowW w (.slice none 0 0) X vx (m.take j) ∧ (∀ k, vx.ownBlock = some k → k ≠ R)) (fun _ X => p + m.length + 1 - atR R X) ⟨0, _, hf.sub (sub_cons rfl (sub_cons rfl (sub_nil))), hX, Nat.zero_le _, hR, hnR⟩ ?_)
 clear hf hX hR hnR
 rintro a W ⟨j, vx, hf, hX, hj, hR, hnR⟩
 have hat0 := atR_eq (hX.get (i := 0) rfl)
 refine wp_block ?_
 rcases Nat.lt_or_ge j m.length with hjl | hjl
 ·
  obtain ⟨c, hcm⟩ : ∃ c, m[j]? = some c := ⟨_, List.getElem?_eq_getElem hjl⟩
  have hc0 := hm c (List.mem_of_getElem? hcm)
  have hcb : s.data.toList[p + j]? = some c := by rw [drop_at hp, List.getElem?_append_left hjl]; exact hcm
  have hcz : ¬ ((c.toNat : Nat) : Int) = 0 := fun e => hc0 (UInt8.toNat_inj.1 (by show c.toNat = 0; omega))
  refine gc hf ?_
  intro a hf
  refine sv_call hf fnOK_78 rfl (next_any R s hs (p + j) c hcb _ (hX.get (i := 0) rfl)) dd ?_
  rintro e W2 ⟨rfl, hb, hg⟩
  replace hR := hR.turn hg hnR
  replace hX : Bx ⟨bare w, [(w, fun k => k ≠ R)]⟩ [(R, [.string s, .int .i64 ((p + j + 1 : Nat) : Int), .int .u8 0, .int .i64 0])] W2 := hX.turn (i := 0) rfl hg hb
  clear hb hg
  obtain ⟨W, hWW⟩ : ∃ X, X = W2 := ⟨_, rfl⟩
  subst hWW
  refine ⟨_, rfl, fun a hf => ?_⟩
  refine go hf ?_
  intro a hf
  refine sv_run (v := .bool false) hf dd (fun a hf => ex_cmpk hf rfl rfl rfl (congrArg some (decide_eq_false hcz))) (fun a hf => ?_)
  refine go hf ?_
  intro a hf
  refine sv_bs8 (m := ((c).toNat : Int)) hf hX rfl dd (fun a G1 W hC hf hX hA => ?_)
  have hnG1 := fun k hk => Nat.ne_of_lt (Nat.lt_of_lt_of_eq (hR.row.lt k hk).2 hC.symm)
  replace hR := hR.below hA
  clear hC hA
  replace hX : Bx ⟨bare w, [(w, fun k => k ≠ R)]⟩ [(G1, (Lib.byteCells [c])), (R, [.string s, .int .i64 ((p + j + 1 : Nat) : Int), .int .u8 0, .int .i64 0])] W := hX
  have hlG1 := (hX.get (i := 0) rfl).lt
  have hlR := (hX.get (i := 1) rfl).lt
  refine sv_app8 (bs := [c]) hf hX rfl rfl hR rfl hbs (by intro k hk x hx e; simp only [List.mem_cons, List.not_mem_nil, or_false] at hx; rcases hx with rfl; exact hnR k hk e.symm) (by rw [List.length_take]; show min j m.length + 1 ≤ _; omega) dd (fun a v2 W hf hX hR hg hsrc => ?_)
  replace hnR : ∀ k, (v2).ownBlock = some k → k ≠ R := fun k hk => by rcases hsrc k hk with h | h; exact hnR k h; omega
  clear hg hsrc
  refine go hf ?_
  intro a hf
  have hls : m.take j ++ [c] = m.take (j + 1) := by rw [List.take_add_one, hcm]; rfl
  rw [hls] at hR
  have hat1 := atR_eq (hX.get (i := 0) rfl)
  exact ⟨⟨j + 1, _, hf.sub (sub_cons rfl (sub_cons rfl (sub_nil))), hX, hjl, hR, hnR⟩, by show p + m.length + 1 - atR R W < _; rw [hat1, hat0]; omega⟩
 ·
  obtain rfl : j = m.length := by omega
  have hcb : s.data.toList[p + m.length]? = some 0 := (drop_one (drop_next hp)).1
  rw [List.take_length] at hR
  refine gc hf ?_
  intro a hf
  refine sv_call hf fnOK_78 rfl (next_any R s hs (p + m.length) (0 : UInt8) hcb _ (hX.get (i := 0) rfl)) dd ?_
  rintro e W2 ⟨rfl, hb, hg⟩
  replace hR := hR.turn hg hnR
  replace hX : Bx ⟨bare w, [(w, fun k => k ≠ R)]⟩ [(R, [.string s, .int .i64 ((p + m.length + 1 : Nat) : Int), .int .u8 0, .int .i64 0])] W2 := hX.turn (i := 0) rfl hg hb
  clear hb hg
  obtain ⟨W, hWW⟩ : ∃ X, X = W2 := ⟨_, rfl⟩
  subst hWW
  refine ⟨_, rfl, fun a hf => ?_⟩
  refine go hf ?_
  intro a hf
  refine sv_run (v := .bool true) hf dd (fun a hf => ex_cmpk hf rfl rfl rfl (congrArg some (decide_eq_true rfl))) (fun a hf => ?_)
  refine go hf ?_
  intro a hf
  refine sv_run (v := .string (mkS m)) hf dd (fun a hf => ex_cvrow hf rfl rfl hR.row) (fun a hf => ?_)
  refine go hf ?_
  intro a hf
  exact rt hf rfl rfl ⟨rfl, hX.get (i := 0) rfl, ⟨hX.low.os, hX.low.tape, hX.low.output, (hX.bas _ List.mem_cons_self).1, fun k hk hne => (hX.bas _ List.mem_cons_self).2 k hk (fun e => hne (by rw [e]))⟩⟩
theorem u0z : (((0 : UInt8).toNat : Nat) : Int) = 0 := rfl
theorem u255 : (((255 : UInt8).toNat : Nat) : Int) = 255 := rfl
theorem u255n : ¬ (((255 : UInt8).toNat : Nat) : Int) = 0 := by decide
theorem esc_drop (l : List UInt8) (j : Nat) : l.flatMap escC = (l.take j).flatMap escC ++ (l.drop j).flatMap escC := by rw [← List.flatMap_append, List.take_append_drop]
theorem ktext_any (R : Nat) (s : ByteArray) (hs : s.size ≤ maxLen) (p : Nat) (l post : List UInt8) (hll : l.length ≤ 100000000) (hp : s.data.toList.drop p = l.flatMap escC ++ (0 :: 0 :: post)) (w : World) (hRd : Box w R [.string s, .int .i64 (p : Int), .int .u8 0, .int .i64 0]) : Calls Tryz.prog 79 #[.pointer (some ⟨R, 0, none⟩)] w fun e w' => e = .returned (.string (mkS l)) ∧ Box w' R [.string s, .int .i64 ((p + (l.flatMap escC).length + 2 : Nat) : Int), .int .u8 0, .int .i64 0] ∧ w.grownBy w' (some R) := by
 have hRw := hRd.lt
 have hR : RowW w (.slice none 0 0) w (.slice none 0 0) [] := RowW.start (RowB.nil _ _)
 have hnR : ∀ k, (Value.slice none 0 0).ownBlock = some k → k ≠ R := fun k hk => by cases hk
 refine cv1 Tryz.func79 rfl rfl rfl fun a hf => ?_
 have hX := Bx.start w
 clear hX
 have hX0 := Bx.bare w (fun k => k ≠ R)
 have hX := hX0.add hRd (Nat.zero_le _) (fun x h => by cases h) (fun p hp _ => by rw [List.mem_singleton.1 hp]; exact fun h => h rfl)
 clear hX0
 have hbs : ∀ p ∈ (⟨bare w, [(w, fun k => k ≠ R)]⟩ : Base).bs, p.1.heap.size ≤ w.heap.size ∧ ∀ k, (Value.slice none 0 0).ownBlock = some k → ¬ p.2 k := fun p hp => by rw [List.mem_singleton.1 hp]; exact ⟨Nat.le_refl _, fun k hk => by cases hk⟩
 refine gc hf ?_
 intro a hf
 refine wp_block (wp_loop (fun a X => ∃ (j e : Nat) (vx : Value), FrV 42 [(0, .pointer (some ⟨R, 0, none⟩)), (3, vx)] a ∧ Bx ⟨bare w, [(w, fun k => k ≠ R)]⟩ [(R, [.string s, .int .i64 ((p + e : Nat) : Int), .int .u8 0, .int .i64 0])] X ∧ j ≤ l.length ∧ e = ((l.take j).flatMap escC).length ∧ RowW w (.slice none 0 0) X vx (l.take j) ∧ (∀ k, vx.ownBlock = some k → k ≠ R)) (fun _ X => p + (l.flatMap escC).length + 2 - atR R X) ⟨0, 0, _, hf.sub (sub_cons rfl (sub_cons rfl (sub_nil))), hX, Nat.zero_le _, rfl, hR, hnR⟩ ?_)
 clear hf hX hR hnR
 rintro a W ⟨j, e, vx, hf, hX, hj, he, hR, hnR⟩
 have hat0 := atR_eq (hX.get (i := 0) rfl)
 have hpe : s.data.toList.drop (p + e) = (l.drop j).flatMap escC ++ (0 :: 0 :: post) := by rw [esc_drop l j, List.append_assoc] at hp; rw [he]; exact drop_next hp
 have hEl : (l.flatMap escC).length = e + ((l.drop j).flatMap escC).length := by rw [esc_drop l j, List.length_append, he]
 rcases Nat.lt_or_ge j l.length with hjl | hjl
 ·
  obtain ⟨c, hcm⟩ : ∃ c, l[j]? = some c := ⟨_, List.getElem?_eq_getElem hjl⟩
  have hdj : l.drop j = c :: l.drop (j + 1) := by rw [List.drop_eq_getElem_cons hjl]; congr 1; exact Option.some.inj ((List.getElem?_eq_getElem hjl).symm.trans hcm)
  have hls : l.take j ++ [c] = l.take (j + 1) := by rw [List.take_add_one, hcm]; rfl
  have hst : ((l.take (j + 1)).flatMap escC).length = e + (escC c).length := by rw [flat_step hcm, List.length_append, he]
  rw [hdj, List.flatMap_cons, List.append_assoc] at hpe
  rw [hdj, List.flatMap_cons, List.length_append] at hEl
  by_cases hc0 : c = 0
  ·
   rw [escC, if_pos hc0] at hpe
   obtain ⟨hb0, hpe1⟩ := drop_one hpe
   obtain ⟨hb1, hpe2⟩ := drop_one hpe1
   refine gc hf ?_
   intro a hf
   refine wp_block ?_
   refine gc hf ?_
   intro a hf
   refine sv_call hf fnOK_78 rfl (next_any R s hs (p + e) (0 : UInt8) hb0 _ (hX.get (i := 0) rfl)) dd ?_
   rintro e W2 ⟨rfl, hb, hg⟩
   replace hR := hR.turn hg hnR
   replace hX : Bx ⟨bare w, [(w, fun k => k ≠ R)]⟩ [(R, [.string s, .int .i64 ((p + e + 1 : Nat) : Int), .int .u8 0, .int .i64 0])] W2 := hX.turn (i := 0) rfl hg hb
   clear hb hg
   obtain ⟨W, hWW⟩ : ∃ X, X = W2 := ⟨_, rfl⟩
   subst hWW
   refine ⟨_, rfl, fun a hf => ?_⟩
   refine go hf ?_
   intro a hf
   refine sv_run (v := .bool false) hf dd (fun a hf => ex_cmpk hf rfl rfl rfl (congrArg some (by rw [decide_eq_true u0z]; rfl))) (fun a hf => ?_)
   refine go hf ?_
   intro a hf
   refine sv_call hf fnOK_78 rfl (next_any R s hs (p + e + 1) (255 : UInt8) hb1 _ (hX.get (i := 0) rfl)) dd ?_
   rintro e W2 ⟨rfl, hb, hg⟩
   replace hR := hR.turn hg hnR
   replace hX : Bx ⟨bare w, [(w, fun k => k ≠ R)]⟩ [(R, [.string s, .int .i64 ((p + e + 1 + 1 : Nat) : Int), .int .u8 0, .int .i64 0])] W2 := hX.turn (i := 0) rfl hg hb
   clear hb hg
   obtain ⟨W, hWW⟩ : ∃ X, X = W2 := ⟨_, rfl⟩
   subst hWW
   refine ⟨_, rfl, fun a hf => ?_⟩
   refine go hf ?_
   intro a hf
   refine sv_run (v := .bool false) hf dd (fun a hf => ex_cmpk hf rfl rfl rfl (congrArg some (decide_eq_false u255n))) (fun a hf => ?_)
   refine go hf ?_
   intro a hf
   refine sv_run (v := .bool false) hf dd (fun a hf => ex_cmpk hf rfl rfl rfl (congrArg some (by rw [decide_eq_true u255]; rfl))) (fun a hf => ?_)
   refine go hf ?_
   intro a hf
   refine sv_bs8 (m := (((0 : UInt8)).toNat : Int)) hf hX rfl dd (fun a G1 W hC hf hX hA => ?_)
   have hnG1 := fun k hk => Nat.ne_of_lt (Nat.lt_of_lt_of_eq (hR.row.lt k hk).2 hC.symm)
   replace hR := hR.below hA
   clear hC hA
   replace hX : Bx ⟨bare w, [(w, fun k => k ≠ R)]⟩ [(G1, (Lib.byteCells [(0 : UInt8)])), (R, [.string s, .int .i64 ((p + e + 1 + 1 : Nat) : Int), .int .u8 0, .int .i64 0])] W := hX
   have hlG1 := (hX.get (i := 0) rfl).lt
   have hlR := (hX.get (i := 1) rfl).lt
   refine sv_app8 (bs := [(0 : UInt8)]) hf hX rfl rfl hR rfl hbs (by intro k hk x hx e; simp only [List.mem_cons, List.not_mem_nil, or_false] at hx; rcases hx with rfl; exact hnR k hk e.symm) (by rw [List.length_take]; show min j l.length + 1 ≤ _; omega) dd (fun a v2 W hf hX hR hg hsrc => ?_)
   replace hnR : ∀ k, (v2).ownBlock = some k → k ≠ R := fun k hk => by rcases hsrc k hk with h | h; exact hnR k h; omega
   clear hg hsrc
   refine go hf ?_
   intro a hf
   have hat1 := atR_eq (hX.get (i := 0) rfl)
   rw [show ([0] : List UInt8) = [c] from by rw [hc0]] at hR
   rw [hls] at hR
   have hec : (escC c).length = 2 := by rw [escC, if_pos hc0]; rfl
   rw [hec] at hst hEl
   have hpp : p + e + 1 + 1 = p + (e + 2) := rfl
   exact ⟨⟨j + 1, e + 2, _, hf.sub (sub_cons rfl (sub_cons rfl (sub_nil))), hX, hjl, hst.symm, hR, hnR⟩, by show p + (l.flatMap escC).length + 2 - atR R W < _; rw [hat1, hat0]; omega⟩
  ·
   rw [escC, if_neg hc0] at hpe
   obtain ⟨hb0, hpe1⟩ := drop_one hpe
   have hcz : ¬ ((c.toNat : Nat) : Int) = 0 := fun e => hc0 (UInt8.toNat_inj.1 (by show c.toNat = 0; omega))
   refine gc hf ?_
   intro a hf
   refine wp_block ?_
   refine gc hf ?_
   intro a hf
   refine sv_call hf fnOK_78 rfl (next_any R s hs (p + e) c hb0 _ (hX.get (i := 0) rfl)) dd ?_
   rintro e W2 ⟨rfl, hb, hg⟩
   replace hR := hR.turn hg hnR
   replace hX : Bx ⟨bare w, [(w, fun k => k ≠ R)]⟩ [(R, [.string s, .int .i64 ((p + e + 1 : Nat) : Int), .int .u8 0, .int .i64 0])] W2 := hX.turn (i := 0) rfl hg hb
   clear hb hg
   obtain ⟨W, hWW⟩ : ∃ X, X = W2 := ⟨_, rfl⟩
   subst hWW
   refine ⟨_, rfl, fun a hf => ?_⟩
   refine go hf ?_
   intro a hf
   refine sv_run (v := .bool true) hf dd (fun a hf => ex_cmpk hf rfl rfl rfl (congrArg some (by rw [decide_eq_false hcz]; rfl))) (fun a hf => ?_)
   refine go hf ?_
   intro a hf
   refine sv_bs8 (m := ((c).toNat : Int)) hf hX rfl dd (fun a G3 W hC hf hX hA => ?_)
   have hnG3 := fun k hk => Nat.ne_of_lt (Nat.lt_of_lt_of_eq (hR.row.lt k hk).2 hC.symm)
   replace hR := hR.below hA
   clear hC hA
   replace hX : Bx ⟨bare w, [(w, fun k => k ≠ R)]⟩ [(G3, (Lib.byteCells [c])), (R, [.string s, .int .i64 ((p + e + 1 : Nat) : Int), .int .u8 0, .int .i64 0])] W := hX
   have hlG3 := (hX.get (i := 0) rfl).lt
   have hlR := (hX.get (i := 1) rfl).lt
   refine sv_app8 (bs := [c]) hf hX rfl rfl hR rfl hbs (by intro k hk x hx e; simp only [List.mem_cons, List.not_mem_nil, or_false] at hx; rcases hx with rfl; exact hnR k hk e.symm) (by rw [List.length_take]; show min j l.length + 1 ≤ _; omega) dd (fun a v4 W hf hX hR hg hsrc => ?_)
   replace hnR : ∀ k, (v4).ownBlock = some k → k ≠ R := fun k hk => by rcases hsrc k hk with h | h; exact hnR k h; omega
   clear hg hsrc
   refine go hf ?_
   intro a hf
   refine wp_exit ?_
   try simp only [Exit.inBlock, Exit.then, ↓reduceIte]
   have hat1 := atR_eq (hX.get (i := 0) rfl)
   rw [hls] at hR
   have hec : (escC c).length = 1 := by rw [escC, if_neg hc0]; rfl
   rw [hec] at hst hEl
   have hpp : p + e + 1 = p + (e + 1) := rfl
   exact ⟨⟨j + 1, e + 1, _, hf.sub (sub_cons rfl (sub_cons rfl (sub_nil))), hX, hjl, hst.symm, hR, hnR⟩, by show p + (l.flatMap escC).length + 2 - atR R W < _; rw [hat1, hat0]; omega⟩
 ·
  obtain rfl : j = l.length := by omega
  rw [List.drop_length, List.flatMap_nil, List.nil_append] at hpe
  rw [List.drop_length] at hEl
  obtain ⟨hb0, hpe1⟩ := drop_one hpe
  obtain ⟨hb1, hpe2⟩ := drop_one hpe1
  rw [List.take_length] at hR
  have hel : p + (l.flatMap escC).length + 2 = p + e + 1 + 1 := by rw [hEl]; rfl
  refine gc hf ?_
  intro a hf
  refine wp_block ?_
  refine gc hf ?_
  intro a hf
  refine sv_call hf fnOK_78 rfl (next_any R s hs (p + e) (0 : UInt8) hb0 _ (hX.get (i := 0) rfl)) dd ?_
  rintro e W2 ⟨rfl, hb, hg⟩
  replace hR := hR.turn hg hnR
  replace hX : Bx ⟨bare w, [(w, fun k => k ≠ R)]⟩ [(R, [.string s, .int .i64 ((p + e + 1 : Nat) : Int), .int .u8 0, .int .i64 0])] W2 := hX.turn (i := 0) rfl hg hb
  clear hb hg
  obtain ⟨W, hWW⟩ : ∃ X, X = W2 := ⟨_, rfl⟩
  subst hWW
  refine ⟨_, rfl, fun a hf => ?_⟩
  refine go hf ?_
  intro a hf
  refine sv_run (v := .bool false) hf dd (fun a hf => ex_cmpk hf rfl rfl rfl (congrArg some (by rw [decide_eq_true u0z]; rfl))) (fun a hf => ?_)
  refine go hf ?_
  intro a hf
  refine sv_call hf fnOK_78 rfl (next_any R s hs (p + e + 1) (0 : UInt8) hb1 _ (hX.get (i := 0) rfl)) dd ?_
  rintro e W2 ⟨rfl, hb, hg⟩
  replace hR := hR.turn hg hnR
  replace hX : Bx ⟨bare w, [(w, fun k => k ≠ R)]⟩ [(R, [.string s, .int .i64 ((p + e + 1 + 1 : Nat) : Int), .int .u8 0, .int .i64 0])] W2 := hX.turn (i := 0) rfl hg hb
  clear hb hg
  obtain ⟨W, hWW⟩ : ∃ X, X = W2 := ⟨_, rfl⟩
  subst hWW
  refine ⟨_, rfl, fun a hf => ?_⟩
  refine go hf ?_
  intro a hf
  refine sv_run (v := .bool true) hf dd (fun a hf => ex_cmpk hf rfl rfl rfl (congrArg some (decide_eq_true u0z))) (fun a hf => ?_)
  refine go hf ?_
  intro a hf
  refine sv_run (v := .string (mkS l)) hf dd (fun a hf => ex_cvrow hf rfl rfl hR.row) (fun a hf => ?_)
  refine go hf ?_
  intro a hf
  exact rt hf rfl rfl ⟨rfl, by rw [hel]; exact hX.get (i := 0) rfl, ⟨hX.low.os, hX.low.tape, hX.low.output, (hX.bas _ List.mem_cons_self).1, fun k hk hne => (hX.bas _ List.mem_cons_self).2 k hk (fun e => hne (by rw [e]))⟩⟩
theorem or_add {v b : Nat} (hb : b < 256) : v * 256 ||| b = v * 256 + b := by
 have := Nat.two_pow_add_eq_or_of_lt (i := 8) (show b < 2 ^ 8 from hb) v
 rw [show (2 : Nat) ^ 8 = 256 by decide, Nat.mul_comm 256 v] at this
 exact this.symm
section
variable {w : World} {N : Nat} {env : VEnv} {a : Act} {oo : Oper} {x z : Operand}
theorem ex_shl8 {v : Nat} (hf : FrV N env a) (hv : v < 72057594037927936) {xT zT : TypeId} (ho : oo.op = .binOp .shl xT x z zT) (hx : ev env x = some (.int .u64 (v : Int))) (hz : ev env z = some (.int .u64 8)) : (execOp a.eval oo).run Tryz.prog w = .ok (.value (.int .u64 ((v * 256 : Nat) : Int))) w := by
 have hw : IntKind.u64.wrap ((v : Int) * 256) = ((v * 256 : Nat) : Int) := by rw [IntKind.wrap_u64]; omega
 unfold execOp
 simp only [ho, hf.ev hx, hf.ev hz]
 simp [go_sem, hw]
theorem ex_cv864 {b : Nat} (hf : FrV N env a) (hb : b < 256) (ho : oo.op = .convert 5 76 x) (hx : ev env x = some (.int .u8 (b : Int))) : (execOp a.eval oo).run Tryz.prog w = .ok (.value (.int .u64 (b : Int))) w := by
 have hw : IntKind.u64.wrap (b : Int) = (b : Int) := by rw [IntKind.wrap_u64]; omega
 unfold execOp
 simp only [ho, hf.ev hx]
 simp [go_sem, Tryz.underlying76, Tryz.underlying5, hw]
theorem ex_or64 {v b : Nat} (hf : FrV N env a) (hv : v < 72057594037927936) (hb : b < 256) {xT zT : TypeId} (ho : oo.op = .binOp .or xT x z zT) (hx : ev env x = some (.int .u64 ((v * 256 : Nat) : Int))) (hz : ev env z = some (.int .u64 (b : Int))) : (execOp a.eval oo).run Tryz.prog w = .ok (.value (.int .u64 ((v * 256 + b : Nat) : Int))) w := by
 have hk : bits .or .u64 ((v * 256 : Nat) : Int) (b : Int) = ((v * 256 + b : Nat) : Int) := by rw [u64_or_nat _ _ (by omega) (by omega), or_add hb]
 unfold execOp
 simp only [ho, hf.ev hx, hf.ev hz]
 simp [go_sem]
 simpa using hk
theorem ex_xor63b {u : Nat} {n : Int} (hf : FrV N env a) (hn : wfI n) (hu : u = (n + 9223372036854775808).toNat) {xT zT : TypeId} (ho : oo.op = .binOp .xor xT x z zT) (hx : ev env x = some (.int .u64 (u : Int))) (hz : ev env z = some (.int .u64 9223372036854775808)) : (execOp a.eval oo).run Tryz.prog w = .ok (.value (.int .u64 (n % 18446744073709551616))) w := by
 have hr := wfI_r hn
 have hk : bits .xor .u64 (u : Int) 9223372036854775808 = n % 18446744073709551616 := by
  rw [show (9223372036854775808 : Int) = ((9223372036854775808 : Nat) : Int) from rfl, u64_xor_nat _ _ (by omega) (by omega), xor63 u (by omega)]
  split <;> omega
 unfold execOp
 simp only [ho, hf.ev hx, hf.ev hz]
 simp [go_sem, hk]
theorem ex_cv643 {n : Int} (hf : FrV N env a) (hn : wfI n) (ho : oo.op = .convert 76 3 x) (hx : ev env x = some (.int .u64 (n % 18446744073709551616))) : (execOp a.eval oo).run Tryz.prog w = .ok (.value (.int .i64 n)) w := by
 have hr := wfI_r hn
 have hw : IntKind.i64.wrap (n % 18446744073709551616) = n := by rw [IntKind.wrap_i64]; omega
 unfold execOp
 simp only [ho, hf.ev hx]
 simp [go_sem, Tryz.underlying76, u3, hw]
end
theorem be8_at {n : Int} {u q : Nat} (hu : u = (n + 9223372036854775808).toNat) (hq : q < 8) : (Tr.be8 n)[q]? = some (UInt8.ofNat (u / 2 ^ (56 - 8 * q) % 256)) := by
 unfold Tr.be8
 rw [List.getElem?_map, List.getElem?_range hq]
 subst hu
 show some (UInt8.ofNat ((n + 9223372036854775808).toNat / 2 ^ (8 * (7 - q)) % 256)) = _
 rw [show 8 * (7 - q) = 56 - 8 * q by omega]
theorem be8_acc {u q : Nat} (hq : q < 8) : u / 2 ^ (64 - 8 * q) * 256 + u / 2 ^ (56 - 8 * q) % 256 = u / 2 ^ (64 - 8 * (q + 1)) := by
 have e1 : 64 - 8 * (q + 1) = 56 - 8 * q := by omega
 have e2 : u / 2 ^ (64 - 8 * q) = u / 2 ^ (56 - 8 * q) / 256 := by rw [Nat.div_div_eq_div_mul, show (256 : Nat) = 2 ^ 8 by decide, ← Nat.pow_add, show 56 - 8 * q + 8 = 64 - 8 * q by omega]
 rw [e1, e2, Nat.mul_comm]
 exact Nat.div_add_mod _ 256
theorem be8_small {u q : Nat} (hu : u < 18446744073709551616) (hq : q < 8) : u / 2 ^ (64 - 8 * q) < 72057594037927936 := by
 have e : (18446744073709551616 : Nat) = 2 ^ 64 := by decide
 rw [Nat.div_lt_iff_lt_mul (Nat.pow_pos (by decide))]
 refine Nat.lt_of_lt_of_le hu ?_
 rw [e, show (72057594037927936 : Nat) = 2 ^ 56 by decide, ← Nat.pow_add]
 exact Nat.pow_le_pow_right (by decide) (by omega)
theorem res_cellV {fn : Func} {T : TypeId} {c C : Nat} {cs : List Value} {a : Act} {w : World} {fs : Array Field} (hr : fn.results = #[.cell c T]) (ha : a.eval (.tmp c) = .pointer (some ⟨C, 0, none⟩)) (hc : Box w C cs) (hu : Tryz.prog.underlying T = some (.struct fs)) (hi : (Tryz.prog.info? T).map (·.size) = some cs.length) : (results fn a.tmps).run Tryz.prog w = .ok (.agg cs.toArray) w := res_cell hr ha hc hu hi
def wfT : Tr → Prop
 | .mk k n s l d => wfI k ∧ wfI n ∧ s.size ≤ maxLen ∧ l.len ≤ maxLen ∧ d.len ≤ maxLen ∧ l.isL = true ∧ d.isF = true ∧ wfT l ∧ wfT d
 | .nil => True
 | .lcons t r => t.isV = true ∧ wfT t ∧ wfT r
 | .fcons m t r => m.size ≤ maxLen ∧ t.isV = true ∧ wfT t ∧ wfT r
def RdC (n : Nat) : Prop := ∀ (t : Tr), t.sz ≤ n → t.isV = true → ∀ (w : World) (R : Nat) (s : ByteArray) (p : Nat) (dp : Int) (post : List UInt8), s.size ≤ 1000000000 → t.snd = true ∨ (dp = 1 ∧ t.allowed = true) → wfT t → 1 ≤ dp → dp + ((t.dep : Nat) : Int) ≤ 17 → s.data.toList.drop p = t.kb ++ post → Box w R [.string s, .int .i64 (p : Int), .int .u8 0, .int .i64 0] → Calls Tryz.prog 54 #[.pointer (some ⟨R, 0, none⟩), .int .i64 dp] w fun e w' => ∃ cs, e = .returned (.agg cs.toArray) ∧ VAt w' (fun k => w.heap.size ≤ k) t cs ∧ Box w' R [.string s, .int .i64 ((p + t.kb.length : Nat) : Int), .int .u8 0, .int .i64 0] ∧ w.grownBy w' (some R)
end Go.Proofs.YtilopjlcgmedgaaGreatDoor
