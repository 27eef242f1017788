/- Btree: the walk of tree.put; Put. -/
import Derived.Test.YtegljepgncicjaaBu14
namespace Go.Proofs.Ytegljepgncicjaa
open Go.ChangeShapes Go.WideShapes Go.ChangeAt Go.RowKit Go.Deep
set_option linter.unusedVariables false
set_option linter.unusedSimpArgs false
theorem ret_b {x y : Bool} (h : x = y) : Ending.returned (.bool x) = .returned (.bool y) := by rw [h]
theorem row1 (W : World) (N : Nat) : RowV 64 0 (W.alloc (.cells #[.pointer (some ⟨N, 0, none⟩)] 64)) (.slice (some ⟨W.heap.size, 0, none⟩) 1 1) (ptrv [N]) := by
  refine .inr ⟨W.heap.size, 1, rfl, Nat.zero_le _, Nat.le_refl _, by decide, rowV_new 64 W _ 1 rfl, fun j hj => ?_⟩
  have : j = 0 := by simpa [ptrv] using hj
  subst this
  have e := heap_new W (.cells #[.pointer (some ⟨N, 0, none⟩)] 64)
  unfold World.cell?
  rw [e]
  rfl
set_option maxRecDepth 100000 in
set_option maxHeartbeats 3200000 in
theorem tput_some (W0 : World) (T o N hx sz : Nat) (b : Bool) (L L' : List Pr) (Y S : Nat → Prop) (σ : Sig) (key val : Bs) (hb : b = (getL L key).isNone) (hsz : sz = L.length) (hsz2 : sz ≤ 5000) (hL' : L' = putL L key val) (ht : TB W0 T [.int .i64 o, .int .i64 sz, .pointer (some ⟨N, 0, none⟩)] σ) (hr : Rest W0 T Y σ) (hY : Y T) (hYl : ∀ k, Y k → k < W0.heap.size) (hs : Srt L) (h4 : 4 ≤ o) (h6 : o ≤ 256)
    (hput : ∀ W', Hp 0 W' σ → Calls Try.prog 42 #[.pointer (some ⟨N, 0, none⟩), .int .i64 o, .string key, .string val] W' (PutT 0 o hx 1 o N L' S σ b W')) :
    Calls Try.prog 31 #[.pointer (some ⟨T, 0, none⟩), .string key, .string val] W0 (PutO W0 T o L Y key val) := by
  have HPUT := Lib.hid hput
  have HT := Lib.hid ht
  have HR := Lib.hid hr
  have HY := Lib.hid (And.intro hY (And.intro hYl hs))
  have HZ := Lib.hid (And.intro hsz hL')
  have HBb := Lib.hid hb
  have HTl := Lib.hid ht.box.lt
  have a0 : W0.cell? ⟨T, 0, none⟩ = some (.int .i64 o) := ht.box.cell 0 _ rfl
  have a2 : W0.cell? ⟨T, 2, none⟩ = some (.pointer (some ⟨N, 0, none⟩)) := ht.box.cell 2 _ rfl
  have HB := Lib.hid (Below.refl 0 W0)
  clear hput ht hr hY hYl hs hsz hL' hb
  go_enter Try.func31, Try.ntmps31
  go_wp2_with fail
  go_still_tail 10, (by kernel_rfl)
  change wpList _ _ _ _ _ W0.drew
  clear a0 a2
  go_wp2_with fail
  refine (HPUT.out _ (HT.out.hp.drewN 1)).mono ?_
  rintro e W1 ⟨rfl, hb1, σ1, hp1, he1, hT1⟩
  have HT1 := Lib.hid ((HT.out.drewN 1).call hp1 he1.frn hb1.size)
  have HB1 := Lib.hid (HB.out.trans ((Below.drew (Below.refl 0 W0)).trans hb1))
  have HI1 := Lib.hid hT1
  have HR1 : Hid (Rest W0 T Y σ1) := Lib.hid (fun k h1 h2 h3 => by rw [he1.frn]; exact HR.out k h1 h2 h3)
  obtain ⟨nd, hN1, hk1, hk2, hv1, _, _, hn0, hn1⟩ := hT1.node
  obtain ⟨lk, lv, ln⟩ := nd
  dsimp only at hk1 hk2 hv1 hn0 hn1
  clear hp1 he1 hT1 hb1 HT HB HPUT HR
  have a0 : W1.cell? ⟨T, 0, none⟩ = some (.int .i64 o) := HT1.out.box.cell 0 _ rfl
  have a1 : W1.cell? ⟨T, 1, none⟩ = some (.int .i64 sz) := HT1.out.box.cell 1 _ rfl
  have a2 : W1.cell? ⟨T, 2, none⟩ = some (.pointer (some ⟨N, 0, none⟩)) := HT1.out.box.cell 2 _ rfl
  have f1 : W1.frozen? ⟨T, 1, none⟩ = false := HT1.out.box.free 1
  have HV := Lib.hid (And.intro hv1 (And.intro hn0 hn1))
  clear hv1 hn0 hn1
  cases b with
  | false =>
    go_wp2_with fail
    go_ret
    have e1 := HBb.out
    have e2 := putL_len L key val
    rw [← e1] at e2
    have hc := Tr.close (W0 := W0) (W := W1) (L := L') (r := some N) (by rw [HZ.out.2, e2]; simp only [Bool.false_eq_true, if_false, Nat.add_zero]; rw [← HZ.out.1]; exact HT1.out) HR1.out ⟨hx, _, HI1.out⟩ HY.out.1 HTl.out (by rw [HZ.out.2]; exact putL_srt HY.out.2.2) h4 h6 HB1.out HY.out.2.1
    exact ⟨ret_b e1, by rw [← HZ.out.2]; exact hc.1, hc.2⟩
  | true =>
    have HK2 := Lib.hid (show lk.length ≤ o + 1 from hk2)
    have hk3 : lk.length ≤ 300 := by have := HK2.out; omega
    clear hk2
    have HN1 := Lib.hid hN1
    go_wp2_with fail
    refine wp_named (fun W0' => ∃ σ2, TB W0' T [.int .i64 o, .int .i64 ((sz : Int) + 1), .pointer (some ⟨N, 0, none⟩)] σ2 ∧ (∀ k, σ2 k = σ1 k) ∧ Rest W0 T Y σ2 ∧ Below 0 W0 W0') (⟨_, HT1.out.set 1 (.int .i64 ((sz : Int) + 1)) (by simp), fun _ => rfl, fun k h1 h2 h3 => (if_neg h1).trans (HR1.out k h1 h2 h3), HB1.out.setCell (p := ⟨T, 1, none⟩) (Nat.zero_le _) _⟩) ?_
    clear a0 a1 a2 f1 HT1 HB1 HR1
    rintro W2 ⟨σ2, ht, hσ2, hr, hb⟩
    have hN2 : σ2 N = some ⟨lk, lv, ln⟩ := (hσ2 N).trans hN1
    have a0 : W2.cell? ⟨T, 0, none⟩ = some (.int .i64 o) := ht.box.cell 0 _ rfl
    have a2 : W2.cell? ⟨T, 2, none⟩ = some (.pointer (some ⟨N, 0, none⟩)) := ht.box.cell 2 _ rfl
    have f2 : W2.frozen? ⟨T, 2, none⟩ = false := ht.box.free 2
    obtain ⟨ka, kc, n0, _, _⟩ := ht.hp.f0 hN2
    have HT2 := Lib.hid ht
    have HB2 := Lib.hid hb
    have HR2 := Lib.hid hr
    have HS2 := Lib.hid hσ2
    clear ht hr hb hσ2 hN1
    by_cases hgt : o < lk.length
    · have hd : decide ((o : Int) < (lk.length : Int)) = true := decide_eq_true (by omega)
      go_quiet (fail)
      have HT3 := Lib.hid (HT2.out.drewN nq)
      have HB3 := Lib.hid (below_drewN'' HB2.out nq)
      obtain ⟨W3, hW3⟩ : ∃ W3, W3 = W2.drewN nq := ⟨_, rfl⟩
      rw [← hW3] at HT3 HB3
      rw [← hW3]
      have a0 : W3.cell? ⟨T, 0, none⟩ = some (.int .i64 o) := HT3.out.box.cell 0 _ rfl
      have a2 : W3.cell? ⟨T, 2, none⟩ = some (.pointer (some ⟨N, 0, none⟩)) := HT3.out.box.cell 2 _ rfl
      have f2 : W3.frozen? ⟨T, 2, none⟩ = false := HT3.out.box.free 2
      have hTl2 : T < W3.heap.size := HT3.out.box.lt
      have hTl3 : T ≠ W3.heap.size := Nat.ne_of_lt hTl2
      have hTl4 : T ≠ W3.heap.size + 1 := by omega
      have hTl5 : T < W3.heap.size + 1 := by omega
      clear HT2 HB2 hW3
      have hbx4 := (HT3.out.box.alloc (.cells #[.pointer (some ⟨N, 0, none⟩)] 64)).alloc (.cells #[.slice none 0 0, .slice none 0 0, .slice (some ⟨W3.heap.size, 0, none⟩) 1 1] 85)
      have d2 := hbx4.cell 2 _ rfl
      have df := hbx4.free 2
      clear hbx4
      go_wp2_with fail
      obtain ⟨M, hM⟩ : ∃ M, M = W3.heap.size + 1 := ⟨_, rfl⟩
      rw [← hM]
      obtain ⟨Ws, hWs⟩ : ∃ Ws, Ws = W3.setCell ⟨T, 2, none⟩ (.pointer (some ⟨M, 0, none⟩)) := ⟨_, rfl⟩
      have hwz : Ws.heap.size = W3.heap.size := by rw [hWs]; simp
      have hT3 := HT3.out.set 2 (.pointer (some ⟨M, 0, none⟩)) (by simp)
      have hb3 : Below 0 W0 Ws := by rw [hWs]; exact HB3.out.setCell (p := ⟨T, 2, none⟩) (Nat.zero_le _) _
      rw [← hWs] at hT3
      rw [← hWs]
      have hk3 : Kept (fun _ => False) Ws (Ws.alloc (.cells #[.pointer (some ⟨N, 0, none⟩)] 64)) := (Kept.refl _ _).alloc _
      have hn4 := hT3.hp.new (Nat.zero_le _) hk3 ⟨[], [], [N]⟩ (.slice none 0 0) (.slice none 0 0) (.slice (some ⟨Ws.heap.size, 0, none⟩) 1 1) 85 (.inl ⟨rfl, rfl⟩) (.inl ⟨rfl, rfl⟩) (row1 Ws N)
        (fun g e => by simp [Value.ownBlock] at e) (fun g e => by simp [Value.ownBlock] at e) (fun g e => Nat.le_of_eq (by simpa [Value.ownBlock] using e)) (fun g e => by simp [Value.ownBlock] at e) (fun g e => by simp [Value.ownBlock] at e) (fun g e => by simp [Value.ownBlock] at e)
      have hsz4 : (Ws.alloc (.cells #[.pointer (some ⟨N, 0, none⟩)] 64)).heap.size = M := by rw [hM, ← hwz]; simp
      rw [hsz4] at hn4
      rw [hwz] at hn4
      have hT5 := hT3.call hn4.1 rfl hn4.2.2.size
      have hM2 : σ2 M = none := hn4.2.1
      have hNM : N ≠ M := fun e => by rw [e, hM2] at hN2; cases hN2
      have hr5 : Rest W0 T Y (upd (setF σ2 T Ws.heap[T]?) M ⟨[], [], [N]⟩) := fun k h1 h2 h3 => (if_neg h1).trans (HR2.out k h1 h2 h3)
      have hb5 := (hb3.alloc (Nat.zero_le _) (.cells #[.pointer (some ⟨N, 0, none⟩)] 64)).alloc (Nat.zero_le _) (.cells #[.slice none 0 0, .slice none 0 0, .slice (some ⟨W3.heap.size, 0, none⟩) 1 1] 85)
      have HX := Lib.hid (And.intro hT5 (And.intro hr5 (And.intro hb5 hM2)))
      clear d2 df HT3 HB3 hT3 hk3 hn4 hsz4 hT5 hr5 hb5 hM hb3 hwz hWs a0 a2 f2 n0 hTl2 hTl3 hTl4 hTl5
      have hln : ln = [] ∨ ln.length = lk.length + 1 := by
        rcases Nat.eq_zero_or_pos hx with h0 | h0
        · exact .inl (HV.out.2.1 h0)
        · exact .inr (HV.out.2.2 (by omega))
      refine (split_any 0 M N 0 _ [] [] [N] lk lv ln _ HX.out.1.hp (Nat.zero_le _) (upd_same _ _ _) ((upd_other _ _ hNM).trans hN2) hNM rfl (Nat.le_refl _) rfl rfl HV.out.1 (by omega) (by have := HK2.out; omega) (by simp) hln).mono ?_
      rintro e W6 ⟨rfl, R, σ6, hp6, hb6, hR6, hRM, hRN, hσ6⟩
      have hT6 := Lib.hid (HX.out.1.call hp6 (by rw [hσ6]; rfl) hb6.size)
      have hlen : lk.length = o + 1 := by have := HK2.out; omega
      have HI6 := Lib.hid (root_split (σ' := σ6) HI1.out HN1.out hlen h4 (by rw [← HS2.out]; exact HX.out.2.2.2) hR6 hRM hRN (fun k => by rw [upd_k, upd_k, setF_k, HS2.out]) (fun k => by rw [hσ6]))
      have hR6' : Hid (Rest W0 T Y σ6) := Lib.hid (fun k h1 h2 h3 => by rw [hσ6]; exact HX.out.2.1 k h1 h2 h3)
      have HB6 := Lib.hid (HX.out.2.2.1.trans hb6)
      clear HX hp6 hb6 hR6 hσ6
      go_wp2_with fail
      go_ret
      have e1 := HBb.out
      have e2 := putL_len L key val
      rw [← e1, if_pos rfl] at e2
      have hc := Tr.close (W0 := W0) (W := W6) (L := L') (r := some M) (by rw [HZ.out.2, e2, ← HZ.out.1]; exact hT6.out) hR6'.out ⟨hx + 1, _, HI6.out.bounds (Nat.le_refl _) (by omega)⟩ HY.out.1 HTl.out (by rw [HZ.out.2]; exact putL_srt HY.out.2.2) h4 h6 HB6.out HY.out.2.1
      exact ⟨ret_b e1, by rw [← HZ.out.2]; exact hc.1, hc.2⟩
    · have hd : decide ((o : Int) < (lk.length : Int)) = false := decide_eq_false (by omega)
      have hle := Lib.hid (Nat.le_of_not_lt hgt)
      have hle2 : lk.length ≤ o := hle.out
      go_quiet (fail)
      go_wp2_with fail
      go_ret
      have e1 := HBb.out
      have e2 := putL_len L key val
      rw [← e1, if_pos rfl] at e2
      have hI := (HI1.out.exact HN1.out).bounds hk1 hle.out
      have hc := Tr.close (W0 := W0) (W := W2.drewN nq) (L := L') (r := some N) (by rw [HZ.out.2, e2, ← HZ.out.1]; exact HT2.out.drewN nq) HR2.out ⟨hx, _, hI.congr (fun k _ => HS2.out k)⟩ HY.out.1 HTl.out (by rw [HZ.out.2]; exact putL_srt HY.out.2.2) h4 h6 (below_drewN'' HB2.out nq) HY.out.2.1
      exact ⟨ret_b e1, by rw [← HZ.out.2]; exact hc.1, hc.2⟩
set_option maxRecDepth 100000 in
set_option maxHeartbeats 3200000 in
theorem tput_none (W0 : World) (T o : Nat) (L : List Pr) (Y : Nat → Prop) (σ : Sig) (key val : Bs) (hL0 : L = []) (ht : TB W0 T [.int .i64 o, .int .i64 (0 : Nat), .pointer none] σ) (hr : Rest W0 T Y σ) (hY : Y T) (hYl : ∀ k, Y k → k < W0.heap.size) (hs : Srt L) (h4 : 4 ≤ o) (h6 : o ≤ 256) :
    Calls Try.prog 31 #[.pointer (some ⟨T, 0, none⟩), .string key, .string val] W0 (PutO W0 T o L Y key val) := by
  have e2 : W0.cell? ⟨T, 2, none⟩ = some (.pointer none) := ht.box.cell 2 _ rfl
  have e2f : W0.frozen? ⟨T, 2, none⟩ = false := ht.box.free 2
  have HTl := Lib.hid ht.box.lt
  have hTl0 := ht.box.lt
  have hTne : T ≠ W0.heap.size := Nat.ne_of_lt ht.box.lt
  have hset := ht.set 2 (.pointer (some ⟨W0.heap.size, 0, none⟩)) (by simp)
  have hnew := hset.hp.new (Nat.zero_le _) (Kept.refl _ _) ⟨[], [], []⟩ (.slice none 0 0) (.slice none 0 0) (.slice none 0 0) 85 (.inl ⟨rfl, rfl⟩) (.inl ⟨rfl, rfl⟩) (.inl ⟨rfl, rfl⟩)
    (fun g e => by simp [Value.ownBlock] at e) (fun g e => by simp [Value.ownBlock] at e) (fun g e => by simp [Value.ownBlock] at e) (fun g e => by simp [Value.ownBlock] at e) (fun g e => by simp [Value.ownBlock] at e) (fun g e => by simp [Value.ownBlock] at e)
  have hsz9 : (W0.setCell ⟨T, 2, none⟩ (.pointer (some ⟨W0.heap.size, 0, none⟩))).heap.size = W0.heap.size := by simp
  rw [hsz9] at hnew
  have HF : Hid (∃ σ2, TB ((W0.setCell ⟨T, 2, none⟩ (.pointer (some ⟨W0.heap.size, 0, none⟩))).alloc (.cells #[.slice none 0 0, .slice none 0 0, .slice none 0 0] 85)) T [.int .i64 o, .int .i64 (0 : Nat), .pointer (some ⟨W0.heap.size, 0, none⟩)] σ2 ∧
      IsT σ2 o 0 0 o W0.heap.size [] (fun k => k = W0.heap.size) ∧ Rest W0 T Y σ2 ∧ Below 0 W0 ((W0.setCell ⟨T, 2, none⟩ (.pointer (some ⟨W0.heap.size, 0, none⟩))).alloc (.cells #[.slice none 0 0, .slice none 0 0, .slice none 0 0] 85))) := Lib.hid (by
    refine ⟨_, hset.call hnew.1 rfl (by simp), ⟨[], [], upd_same _ _ _, rfl, Nat.le_refl _, Nat.zero_le _, rfl, rfl, fun k hk => by rw [hk, upd_same]; simp⟩, fun k hk hl hy => ?_, ((Below.refl 0 W0).setCell (p := ⟨T, 2, none⟩) (Nat.zero_le _) _).alloc (Nat.zero_le _) _⟩
    exact (if_neg hk).trans (hr k hk hl hy))
  have HY := Lib.hid (And.intro hY (And.intro hYl hs))
  have hL2 := Lib.hid hL0
  clear ht hr hY hYl hs hset hnew hsz9 hL0
  go_enter Try.func31, Try.ntmps31
  go_wp2_with fail
  obtain ⟨N, hN⟩ : ∃ N, N = W0.heap.size := ⟨_, rfl⟩
  rw [← hN] at HF
  rw [← hN]
  have HN := Lib.hid hN
  refine wp_named (fun W => ∃ σ2, TB W T [.int .i64 o, .int .i64 (0 : Nat), .pointer (some ⟨N, 0, none⟩)] σ2 ∧ IsT σ2 o 0 0 o N [] (fun k => k = N) ∧ Rest W0 T Y σ2 ∧ Below 0 W0 W) HF.out ?_
  clear HF e2 e2f hTne hTl0 hN
  rintro W ⟨σ, ht, hT, hr, hb⟩
  obtain ⟨S, hS⟩ : ∃ S, S = (fun k => k = N) := ⟨_, rfl⟩
  rw [← hS] at hT
  have HT := Lib.hid ht
  have HR := Lib.hid hr
  have HB := Lib.hid hb
  obtain ⟨hx, hh⟩ : ∃ hx, hx = 0 := ⟨_, rfl⟩
  have hT : IsT σ o hx 0 o N [] S := by rw [hh]; exact hT
  obtain ⟨b, hbb⟩ : ∃ b, b = (getL L key).isNone := ⟨_, rfl⟩
  have HBb := Lib.hid hbb
  obtain ⟨L', hL'⟩ : ∃ L', L' = putL L key val := ⟨_, rfl⟩
  obtain ⟨sz, hsz⟩ : ∃ sz : Nat, sz = L.length := ⟨_, rfl⟩
  have hsz0 : (0 : Nat) = sz := by rw [hsz, hL2.out]; rfl
  have hsz2 : sz ≤ 5000 := by omega
  have HT : Hid (TB W T [.int .i64 o, .int .i64 sz, .pointer (some ⟨N, 0, none⟩)] σ) := Lib.hid (by rw [← hsz0]; exact ht)
  have HZ := Lib.hid (And.intro hsz hL')
  have HPUT : Hid (∀ W', Hp 0 W' σ → Calls Try.prog 42 #[.pointer (some ⟨N, 0, none⟩), .int .i64 o, .string key, .string val] W' (PutT 0 o hx 1 o N L' S σ b W')) := Lib.hid (fun W' hp => by
    have hxx := put_T 0 o key val h4 h6 hx 0 o N [] S σ W' hp (Nat.zero_le _) hT (by simp [Srt]) (Nat.le_refl _)
    refine hxx.mono ?_
    rintro e W2 ⟨rfl, h2, σ2, h3, h5, h7⟩
    have e1 : L' = [(key, val)] := by rw [hL', hL2.out]; rfl
    have e3 : b = (getL [] key).isNone := by rw [hbb, hL2.out]
    subst hh
    refine ⟨by rw [e3], h2, σ2, h3, h5, ?_⟩
    rw [e1, e3]
    exact isT_one h7)
  have a0 : W.cell? ⟨T, 0, none⟩ = some (.int .i64 o) := ht.box.cell 0 _ rfl
  have a2 : W.cell? ⟨T, 2, none⟩ = some (.pointer (some ⟨N, 0, none⟩)) := ht.box.cell 2 _ rfl
  clear ht hT hr hb hS hh hbb hL' hsz hsz0 hL2 HN
  go_still_tail 10, (by kernel_rfl)
  change wpList _ _ _ _ _ W.drew
  clear a0 a2
  go_wp2_with fail
  refine (HPUT.out _ (HT.out.hp.drewN 1)).mono ?_
  rintro e W1 ⟨rfl, hb1, σ1, hp1, he1, hT1⟩
  have HT1 := Lib.hid ((HT.out.drewN 1).call hp1 he1.frn hb1.size)
  have HB1 := Lib.hid (HB.out.trans ((Below.drew (Below.refl 0 W)).trans hb1))
  have HI1 := Lib.hid hT1
  have HR1 : Hid (Rest W0 T Y σ1) := Lib.hid (fun k h1 h2 h3 => by rw [he1.frn]; exact HR.out k h1 h2 h3)
  obtain ⟨nd, hN1, hk1, hk2, hv1, _, _, hn0, hn1⟩ := hT1.node
  obtain ⟨lk, lv, ln⟩ := nd
  dsimp only at hk1 hk2 hv1 hn0 hn1
  clear hp1 he1 hT1 hb1 HT HB HPUT HR
  have a0 : W1.cell? ⟨T, 0, none⟩ = some (.int .i64 o) := HT1.out.box.cell 0 _ rfl
  have a1 : W1.cell? ⟨T, 1, none⟩ = some (.int .i64 sz) := HT1.out.box.cell 1 _ rfl
  have a2 : W1.cell? ⟨T, 2, none⟩ = some (.pointer (some ⟨N, 0, none⟩)) := HT1.out.box.cell 2 _ rfl
  have f1 : W1.frozen? ⟨T, 1, none⟩ = false := HT1.out.box.free 1
  have HV := Lib.hid (And.intro hv1 (And.intro hn0 hn1))
  clear hv1 hn0 hn1
  cases b with
  | false =>
    go_wp2_with fail
    go_ret
    have e1 := HBb.out
    have e2 := putL_len L key val
    rw [← e1] at e2
    have hc := Tr.close (W0 := W0) (W := W1) (L := L') (r := some N) (by rw [HZ.out.2, e2]; simp only [Bool.false_eq_true, if_false, Nat.add_zero]; rw [← HZ.out.1]; exact HT1.out) HR1.out ⟨hx, _, HI1.out⟩ HY.out.1 HTl.out (by rw [HZ.out.2]; exact putL_srt HY.out.2.2) h4 h6 HB1.out HY.out.2.1
    exact ⟨ret_b e1, by rw [← HZ.out.2]; exact hc.1, hc.2⟩
  | true =>
    have HK2 := Lib.hid (show lk.length ≤ o + 1 from hk2)
    have hk3 : lk.length ≤ 300 := by have := HK2.out; omega
    clear hk2
    have HN1 := Lib.hid hN1
    go_wp2_with fail
    refine wp_named (fun W' => ∃ σ2, TB W' T [.int .i64 o, .int .i64 ((sz : Int) + 1), .pointer (some ⟨N, 0, none⟩)] σ2 ∧ (∀ k, σ2 k = σ1 k) ∧ Rest W0 T Y σ2 ∧ Below 0 W0 W') (⟨_, HT1.out.set 1 (.int .i64 ((sz : Int) + 1)) (by simp), fun _ => rfl, fun k h1 h2 h3 => (if_neg h1).trans (HR1.out k h1 h2 h3), HB1.out.setCell (p := ⟨T, 1, none⟩) (Nat.zero_le _) _⟩) ?_
    clear a0 a1 a2 f1 HT1 HB1 HR1
    rintro W2 ⟨σ2, ht, hσ2, hr, hb⟩
    have hN2 : σ2 N = some ⟨lk, lv, ln⟩ := (hσ2 N).trans hN1
    have a0 : W2.cell? ⟨T, 0, none⟩ = some (.int .i64 o) := ht.box.cell 0 _ rfl
    have a2 : W2.cell? ⟨T, 2, none⟩ = some (.pointer (some ⟨N, 0, none⟩)) := ht.box.cell 2 _ rfl
    have f2 : W2.frozen? ⟨T, 2, none⟩ = false := ht.box.free 2
    obtain ⟨ka, kc, n0, _, _⟩ := ht.hp.f0 hN2
    have HT2 := Lib.hid ht
    have HB2 := Lib.hid hb
    have HR2 := Lib.hid hr
    have HS2 := Lib.hid hσ2
    clear ht hr hb hσ2 hN1
    by_cases hgt : o < lk.length
    · have hd : decide ((o : Int) < (lk.length : Int)) = true := decide_eq_true (by omega)
      go_quiet (fail)
      have HT3 := Lib.hid (HT2.out.drewN nq)
      have HB3 := Lib.hid (below_drewN'' HB2.out nq)
      obtain ⟨W3, hW3⟩ : ∃ W3, W3 = W2.drewN nq := ⟨_, rfl⟩
      rw [← hW3] at HT3 HB3
      rw [← hW3]
      have a0 : W3.cell? ⟨T, 0, none⟩ = some (.int .i64 o) := HT3.out.box.cell 0 _ rfl
      have a2 : W3.cell? ⟨T, 2, none⟩ = some (.pointer (some ⟨N, 0, none⟩)) := HT3.out.box.cell 2 _ rfl
      have f2 : W3.frozen? ⟨T, 2, none⟩ = false := HT3.out.box.free 2
      have hTl2 : T < W3.heap.size := HT3.out.box.lt
      have hTl3 : T ≠ W3.heap.size := Nat.ne_of_lt hTl2
      have hTl4 : T ≠ W3.heap.size + 1 := by omega
      have hTl5 : T < W3.heap.size + 1 := by omega
      clear HT2 HB2 hW3
      have hbx4 := (HT3.out.box.alloc (.cells #[.pointer (some ⟨N, 0, none⟩)] 64)).alloc (.cells #[.slice none 0 0, .slice none 0 0, .slice (some ⟨W3.heap.size, 0, none⟩) 1 1] 85)
      have d2 := hbx4.cell 2 _ rfl
      have df := hbx4.free 2
      clear hbx4
      go_wp2_with fail
      obtain ⟨M, hM⟩ : ∃ M, M = W3.heap.size + 1 := ⟨_, rfl⟩
      rw [← hM]
      obtain ⟨Ws, hWs⟩ : ∃ Ws, Ws = W3.setCell ⟨T, 2, none⟩ (.pointer (some ⟨M, 0, none⟩)) := ⟨_, rfl⟩
      have hwz : Ws.heap.size = W3.heap.size := by rw [hWs]; simp
      have hT3 := HT3.out.set 2 (.pointer (some ⟨M, 0, none⟩)) (by simp)
      have hb3 : Below 0 W0 Ws := by rw [hWs]; exact HB3.out.setCell (p := ⟨T, 2, none⟩) (Nat.zero_le _) _
      rw [← hWs] at hT3
      rw [← hWs]
      have hk3 : Kept (fun _ => False) Ws (Ws.alloc (.cells #[.pointer (some ⟨N, 0, none⟩)] 64)) := (Kept.refl _ _).alloc _
      have hn4 := hT3.hp.new (Nat.zero_le _) hk3 ⟨[], [], [N]⟩ (.slice none 0 0) (.slice none 0 0) (.slice (some ⟨Ws.heap.size, 0, none⟩) 1 1) 85 (.inl ⟨rfl, rfl⟩) (.inl ⟨rfl, rfl⟩) (row1 Ws N)
        (fun g e => by simp [Value.ownBlock] at e) (fun g e => by simp [Value.ownBlock] at e) (fun g e => Nat.le_of_eq (by simpa [Value.ownBlock] using e)) (fun g e => by simp [Value.ownBlock] at e) (fun g e => by simp [Value.ownBlock] at e) (fun g e => by simp [Value.ownBlock] at e)
      have hsz4 : (Ws.alloc (.cells #[.pointer (some ⟨N, 0, none⟩)] 64)).heap.size = M := by rw [hM, ← hwz]; simp
      rw [hsz4] at hn4
      rw [hwz] at hn4
      have hT5 := hT3.call hn4.1 rfl hn4.2.2.size
      have hM2 : σ2 M = none := hn4.2.1
      have hNM : N ≠ M := fun e => by rw [e, hM2] at hN2; cases hN2
      have hr5 : Rest W0 T Y (upd (setF σ2 T Ws.heap[T]?) M ⟨[], [], [N]⟩) := fun k h1 h2 h3 => (if_neg h1).trans (HR2.out k h1 h2 h3)
      have hb5 := (hb3.alloc (Nat.zero_le _) (.cells #[.pointer (some ⟨N, 0, none⟩)] 64)).alloc (Nat.zero_le _) (.cells #[.slice none 0 0, .slice none 0 0, .slice (some ⟨W3.heap.size, 0, none⟩) 1 1] 85)
      have HX := Lib.hid (And.intro hT5 (And.intro hr5 (And.intro hb5 hM2)))
      clear d2 df HT3 HB3 hT3 hk3 hn4 hsz4 hT5 hr5 hb5 hM hb3 hwz hWs a0 a2 f2 n0 hTl2 hTl3 hTl4 hTl5
      have hln : ln = [] ∨ ln.length = lk.length + 1 := by
        rcases Nat.eq_zero_or_pos hx with h0 | h0
        · exact .inl (HV.out.2.1 h0)
        · exact .inr (HV.out.2.2 (by omega))
      refine (split_any 0 M N 0 _ [] [] [N] lk lv ln _ HX.out.1.hp (Nat.zero_le _) (upd_same _ _ _) ((upd_other _ _ hNM).trans hN2) hNM rfl (Nat.le_refl _) rfl rfl HV.out.1 (by omega) (by have := HK2.out; omega) (by simp) hln).mono ?_
      rintro e W6 ⟨rfl, R, σ6, hp6, hb6, hR6, hRM, hRN, hσ6⟩
      have hT6 := Lib.hid (HX.out.1.call hp6 (by rw [hσ6]; rfl) hb6.size)
      have hlen : lk.length = o + 1 := by have := HK2.out; omega
      have HI6 := Lib.hid (root_split (σ' := σ6) HI1.out HN1.out hlen h4 (by rw [← HS2.out]; exact HX.out.2.2.2) hR6 hRM hRN (fun k => by rw [upd_k, upd_k, setF_k, HS2.out]) (fun k => by rw [hσ6]))
      have hR6' : Hid (Rest W0 T Y σ6) := Lib.hid (fun k h1 h2 h3 => by rw [hσ6]; exact HX.out.2.1 k h1 h2 h3)
      have HB6 := Lib.hid (HX.out.2.2.1.trans hb6)
      clear HX hp6 hb6 hR6 hσ6
      go_wp2_with fail
      go_ret
      have e1 := HBb.out
      have e2 := putL_len L key val
      rw [← e1, if_pos rfl] at e2
      have hc := Tr.close (W0 := W0) (W := W6) (L := L') (r := some M) (by rw [HZ.out.2, e2, ← HZ.out.1]; exact hT6.out) hR6'.out ⟨hx + 1, _, HI6.out.bounds (Nat.le_refl _) (by omega)⟩ HY.out.1 HTl.out (by rw [HZ.out.2]; exact putL_srt HY.out.2.2) h4 h6 HB6.out HY.out.2.1
      exact ⟨ret_b e1, by rw [← HZ.out.2]; exact hc.1, hc.2⟩
    · have hd : decide ((o : Int) < (lk.length : Int)) = false := decide_eq_false (by omega)
      have hle := Lib.hid (Nat.le_of_not_lt hgt)
      have hle2 : lk.length ≤ o := hle.out
      go_quiet (fail)
      go_wp2_with fail
      go_ret
      have e1 := HBb.out
      have e2 := putL_len L key val
      rw [← e1, if_pos rfl] at e2
      have hI := (HI1.out.exact HN1.out).bounds hk1 hle.out
      have hc := Tr.close (W0 := W0) (W := W2.drewN nq) (L := L') (r := some N) (by rw [HZ.out.2, e2, ← HZ.out.1]; exact HT2.out.drewN nq) HR2.out ⟨hx, _, hI.congr (fun k _ => HS2.out k)⟩ HY.out.1 HTl.out (by rw [HZ.out.2]; exact putL_srt HY.out.2.2) h4 h6 (below_drewN'' HB2.out nq) HY.out.2.1
      exact ⟨ret_b e1, by rw [← HZ.out.2]; exact hc.1, hc.2⟩
theorem tput_any (W : World) (T o : Nat) (L : List Pr) (Y : Nat → Prop) (key val : Bs) (h : Tr W T o L Y) (hl : L.length ≤ 5000) :
    Calls Try.prog 31 #[.pointer (some ⟨T, 0, none⟩), .string key, .string val] W (PutO W T o L Y key val) := by
  have hYl := h.yl
  obtain ⟨r, σ, ht, hr, hR, hY, hs, h4, h6⟩ := h.open
  cases r with
  | none =>
    have hL : L = [] := hR
    rw [hL] at ht
    exact tput_none W T o L Y σ key val hL ht hr hY hYl hs h4 h6
  | some N =>
    obtain ⟨hh, S, hT⟩ := hR
    exact tput_some W T o N hh L.length _ L _ Y S σ key val rfl rfl hl rfl ht hr hY hYl hs h4 h6 (fun W' hp => put_T 0 o key val h4 h6 hh 1 o N L S σ W' hp (Nat.zero_le _) hT hs (Nat.le_refl _))
theorem Put_T (W : World) (T o : Nat) (L : List Pr) (Y : Nat → Prop) (key val : Bs) (h : Tr W T o L Y) (hl : L.length ≤ 5000) :
    Calls Try.prog 20 #[.pointer (some ⟨T, 0, none⟩), .string key, .string val] W (PutO W T o L Y key val) := by
  have H := Lib.hid (tput_any W T o L Y key val h hl)
  clear h
  go_enter Try.func20, Try.ntmps20
  go_wp2_with fail
  refine H.out.mono ?_
  rintro e W1 ⟨rfl, h2⟩
  have H2 := Lib.hid h2
  clear h2 H
  go_wp2_with fail
  go_ret
  exact ⟨rfl, H2.out⟩
end Go.Proofs.Ytegljepgncicjaa
