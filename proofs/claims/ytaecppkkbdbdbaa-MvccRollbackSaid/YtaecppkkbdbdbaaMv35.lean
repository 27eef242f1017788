/- Mvcc: the law Rollback. -/
import Derived.Test.YtaecppkkbdbdbaaMv34
namespace Go.Proofs.Ytaecppkkbdbdbaa
open Go.ChangeShapes Go.WideShapes Go.ChangeAt Go.RowKit Go.ChangeMaps Go.Deep Go.Shelf Go.Sort
set_option linter.unusedVariables false
set_option linter.unusedSimpArgs false
theorem five_cells_new (W : World) (a b c d e : Value) (t : TypeId) : ∀ j z, [a, b, c, d, e][j]? = some z → (W.alloc (.cells #[a, b, c, d, e] t)).cell? ((⟨W.heap.size, 0, none⟩ : Addr).add j) = some z := fun j z hz => by
  rw [addr_add', Nat.zero_add]
  exact (Box.new W [a, b, c, d, e] t).cell j z hz
/-- two rows that grow side by side -/
structure Rw (B : Nat) (W : World) (a b : Value) (w e : List Opv) (W0 : World) : Prop where
  w : ORow B W a w
  e : ORow B W b e
  ap : ∀ k, a.ownBlock = some k → b.ownBlock ≠ some k
  low : Below B W0 W
  bw : B ≤ W.heap.size
section
variable {B : Nat} {W W0 w1 : World} {a b v' : Value} {w e : List Opv}
theorem Rw.swap (h : Rw B W a b w e W0) : Rw B W b a e w W0 := ⟨h.e, h.w, fun k h1 h2 => h.ap k h2 h1, h.low, h.bw⟩
theorem Rw.row (h : Rw B W a b w e W0) (o : Obj) : (W.alloc o).ownsRow B 31 5 a w.length (opr w) := World.ownsRow.alloc h.w o
theorem Rw.push (h : Rw B W a b w e W0) (x : Opv) {o : Obj} (hown : w1.ownsRow B 31 5 v' (w.length + 1) (opr w ++ opl x)) (hg : (W.alloc o).grownBy w1 a.ownBlock) (hat : v'.ownBlock = a.ownBlock ∨ v'.ownBlock = some (W.alloc o).heap.size) : Rw B w1 v' b (w ++ [x]) e W0 := by
  have hle : W.heap.size ≤ w1.heap.size := Nat.le_trans (by simp) hg.size
  have key : ∀ k, k < W.heap.size → a.ownBlock ≠ some k → w1.heap[k]? = W.heap[k]? := fun k hk hn =>
    (hg.block k (by simp; omega) (fun e => hn e.symm)).trans (heap_alloc_old W o hk)
  refine ⟨?_, own_same h.e (fun k hk => key k (World.ownsRow.lt h.e k hk).2 (fun h2 => h.ap k h2 hk)), fun k h1 h2 => ?_, h.low.trans ⟨hg.os, hg.tape, hg.output, hle, fun k hk => key k (Nat.lt_of_lt_of_le hk h.bw) (fun h2 => by have := (World.ownsRow.lt h.w k h2).1; omega)⟩, Nat.le_trans h.bw hle⟩
  · unfold ORow
    rw [List.length_append, opr_app]
    have e1 : opr [x] = opl x := by simp [opr]
    rw [e1]
    exact hown
  · rcases hat with h3 | h3
    · exact h.ap k (by rw [← h3]; exact h1) h2
    · rw [h3] at h1
      cases h1
      have := (World.ownsRow.lt h.e _ h2).2
      simp at this
      omega
end
theorem wrs_len (l : List Opv) : (wrs l).length ≤ l.length := List.length_filter_le _ _
theorem ers_len (t : Int) (l : List Opv) : (ers t l).length ≤ l.length := Nat.le_trans (List.length_filter_le _ _) (wrs_len l)
theorem ORow.below {B : Nat} {W W' : World} {v : Value} {l : List Opv} (h : ORow B W v l) (hb : Below W.heap.size W W') : ORow B W' v l := own_same h (fun k hk => hb.block k (World.ownsRow.lt h k hk).2)
set_option maxRecDepth 100000 in
set_option maxHeartbeats 3200000 in
theorem law_rollback (v : Value) (l : List Opv) (s : Int) (W : World) (h : OpsArg W v l) :
    Calls Try.prog 7 #[v, .int .i64 s] W (AwakeOut W) := by
  obtain ⟨a0, c0, rfl, h'⟩ := h
  have HH : Hid (OpsArg W (.slice a0 l.length c0) l) := Lib.hid ⟨a0, c0, rfl, h'⟩
  clear h'
  obtain ⟨i0, hi0, hz0, hz1, hz2⟩ := info_parts infoO
  by_cases h60 : 60 < l.length
  · go_enter Try.func7, Try.ntmps7
    go_wp2_with fail
    refine (awake_any W).mono ?_
    rintro e W9 ⟨rfl, hb⟩
    have HB9 := Lib.hid hb
    clear hb
    go_wp2_with fail
    go_ret
    exact ⟨rfl, HB9.out⟩
  · obtain ⟨n, hn⟩ : ∃ n, n = l.length := ⟨_, rfl⟩
    have HN := Lib.hid hn
    rw [← hn] at h60 ⊢
    clear hn
    go_enter Try.func7, Try.ntmps7
    go_wp2_with fail
    refine (show Calls Try.prog 38 #[.slice a0 n c0, .func (.func 39) #[] #[]] W (SortOut l W) from by rw [HN.out]; exact sorted_any _ l W HH.out (by rw [← HN.out]; omega)).mono ?_
    rintro e W1 ⟨bb, rfl, hbs, hb1⟩
    cases bb with
    | false =>
      have HB1 := Lib.hid hb1
      clear hb1 hbs
      go_wp2_with fail
      refine (awake_any W1).mono ?_
      rintro e W9 ⟨rfl, hb⟩
      have HB9 := Lib.hid hb
      clear hb
      go_wp2_with fail
      go_ret
      exact ⟨rfl, HB1.out.trans (HB9.out.mono HB1.out.size)⟩
    | true =>
      have HS := Lib.hid (hbs rfl)
      have HB1 := Lib.hid hb1
      clear hbs hb1
      go_wp2_with fail
      obtain ⟨B, hB⟩ : ∃ B, B = W1.heap.size := ⟨_, rfl⟩
      have HBB := Lib.hid hB
      clear hB
      go_loopw [5, 6, 24] (fun a b i wr => ∃ j : Nat, i = .int .i64 j ∧ j ≤ n ∧ Hid (Rw B wr a b (wrs (l.take j)) (ers s (l.take j)) W1)) (fun _ _ i _ => n - iv i)
      case atStart => exact ⟨0, rfl, Nat.zero_le _, Lib.hid ⟨World.ownsRow_nil _ _ _ _, World.ownsRow_nil _ _ _ _, by simp [Value.ownBlock], Below.refl _ _, Nat.le_of_eq HBB.out⟩⟩
      case round =>
        obtain ⟨j, rfl, hj, HR⟩ := hrel
        by_cases hlast : j = n
        · have hlast' := hlast.symm
          subst hlast'
          have HWR : Hid (ORow B wr u5 (wrs l) ∧ ORow B wr u6 (ers s l) ∧ Below B W1 wr) := Lib.hid (by
            have := HR.out
            rw [HN.out, List.take_length] at this
            exact ⟨this.w, this.e, this.low⟩)
          have HLN := Lib.hid (And.intro (show (wrs l).length ≤ 60 by have := wrs_len l; rw [HN.out] at h60; omega) (show (ers s l).length ≤ 60 by have := ers_len s l; rw [HN.out] at h60; omega))
          have HBW := Lib.hid (show Below W.heap.size W wr from HB1.out.trans (HWR.out.2.2.mono (by rw [HBB.out]; exact HB1.out.size)))
          clear HR
          go_wp2_with fail
          refine (build_any _ (wrs l) wr HWR.out.1.arg (by have := HLN.out; omega)).mono ?_
          rintro e W3 ⟨rfl, E3, k3, hk⟩
          have HK3 := Lib.hid hk
          have HE3 := Lib.hid (HWR.out.2.1.below hk.low)
          clear hk
          go_wp2_with fail
          refine (build_any _ (ers s l) W3 HE3.out.arg (by have := HLN.out; omega)).mono ?_
          rintro e W4 ⟨rfl, E4, k4, hk⟩
          have hs4 := HK3.out.below hk.low
          have HTW : Hid (Two wr.heap.size (wr.heap.size + 1) wr.heap.size (W3.heap.size + 1) W3.heap.size E3 E4 k3 k4 (runA noA (wrs l)) (runA noA (ers s l)) (wrs l).length (ers s l).length wr W4) := Lib.hid ⟨hs4, ⟨hk.sto.base HK3.out.bw, hk.lk, hk.tot, hs4.low, hs4.bw⟩, fun k h1 h2 => by have := (HK3.out.sto.foot h1).2; have := (hk.sto.foot h2).1; omega⟩
          have hlk : (fun k => rollF s (lkL E3 k)) = lkL E4 := by rw [HK3.out.lk, hk.lk]; exact roll_law HS.out s
          have HLK := Lib.hid hlk
          clear hk hlk HE3 HK3 hs4
          go_wp2_with fail
          refine (HTW.out.s.versions (by have := HLN.out; omega)).mono ?_
          rintro e W5 ⟨he, hb⟩
          obtain ⟨z, hz⟩ : ∃ z, z = total E3 := ⟨_, rfl⟩
          rw [← hz] at he
          subst he
          have HZ := Lib.hid hz
          have HTW5 := Lib.hid (HTW.out.below hb)
          clear hz hb HTW
          go_wp2_with fail
          refine (HTW5.out.s.roll (by have := HLN.out; omega) s).mono ?_
          rintro e W6 ⟨he, E6, k6, hw6, ht6⟩
          have hl6 : lkL E6 = fun k => rollF s (lkL E3 k) := by rw [hw6.lk, HTW5.out.s.lk]; rfl
          have htp := total_roll HTW5.out.s.sto.gd hw6.sto.gd hl6
          rw [total_same hw6.sto.gd HTW5.out.c.sto.gd (hl6.trans HLK.out), ← HZ.out] at htp
          obtain ⟨p, hp⟩ : ∃ p, p = (E3.map fun e => e.vs.length - upto e.vs s).sum := ⟨_, rfl⟩
          obtain ⟨q, hq⟩ : ∃ q, q = total E4 := ⟨_, rfl⟩
          rw [← hp, ← hq] at htp
          rw [← hp] at he
          subst he
          have hzb : z ≤ 60 := by rw [HZ.out]; have := HTW5.out.s.tot; have := HLN.out; omega
          have hw3 : IntKind.i64.wrap ((z : Int) - (q : Int)) = (p : Int) := by rw [IntKind.wrap_i64]; omega
          have HVW := Lib.hid (vw_same hw6.sto.gd HTW5.out.c.sto.gd (hl6.trans HLK.out))
          have HTW6 := Lib.hid (HTW5.out.step (x := ⟨5, ⟨#[]⟩, ⟨#[]⟩, s, false⟩) ht6 (by rw [hw6.lk, HTW5.out.s.lk]))
          have HQ := Lib.hid hq
          clear hw6 ht6 hl6 htp hp hq hzb HTW5
          go_wp2_with fail
          refine (HTW6.out.c.versions (by have := HLN.out; omega)).mono ?_
          rintro e W7 ⟨he, hb⟩
          rw [← HQ.out] at he
          subst he
          have HTW7 := Lib.hid (HTW6.out.below hb)
          clear hb HTW6
          go_wp2_with fail
          refine (HTW7.out.s.all (by have := HLN.out; omega)).mono ?_
          rintro e W8 ⟨va, rfl, hra, hb⟩
          have RA8 := Lib.hid hra
          have HTW8 := Lib.hid (HTW7.out.below hb)
          clear hra hb HTW7
          go_wp2_with fail
          refine (HTW8.out.c.all (by have := HLN.out; omega)).mono ?_
          rintro e W9 ⟨vb, rfl, hrb, hb⟩
          rw [← HVW.out] at hrb
          have RA9 := Lib.hid (RA8.out.below hb)
          have RB9 := Lib.hid hrb
          have HTW9 := Lib.hid (HTW8.out.below hb)
          clear hrb hb HTW8 RA8
          go_wp2_with fail
          refine (equalP_any _ _ _ _ W9 RA9.out RB9.out).mono ?_
          rintro e W10 ⟨he, hb⟩
          rw [decide_eq_true rfl] at he
          subst he
          have HTW10 := Lib.hid (HTW9.out.below hb)
          clear hb HTW9 RA9 RB9
          go_wp2_with fail
          refine (awake_any W10).mono ?_
          rintro e W11 ⟨rfl, hb⟩
          have H11 := Lib.hid (HBW.out.trans ((HTW10.out.s.low.trans (hb.mono HTW10.out.s.bw)).mono HBW.out.size))
          clear hb HTW10
          go_wp2_with fail
          go_ret
          exact ⟨rfl, H11.out⟩
        · have hjn : j < n := by omega
          have hjl : j < l.length := by rw [← HN.out]; exact hjn
          obtain ⟨a', c', e', hc⟩ := HH.out
          cases e'
          obtain ⟨g, o, rfl, hg, hc⟩ := hc (by omega)
          have hgB : g < B := by rw [HBB.out]; exact Nat.lt_of_lt_of_le hg HB1.out.size
          have hm1 : ∀ (k : Nat) (u : Value), W.cell? ⟨g, k, none⟩ = some u → W1.cell? ⟨g, k, none⟩ = some u := fun k u hu => (HB1.out.cell (p := ⟨g, k, none⟩) hg).trans hu
          have hmv : ∀ (k : Nat) (u : Value), W.cell? ⟨g, k, none⟩ = some u → wr.cell? ⟨g, k, none⟩ = some u := fun k u hu => (HR.out.low.cell (p := ⟨g, k, none⟩) hgB).trans ((HB1.out.cell (p := ⟨g, k, none⟩) hg).trans hu)
          obtain ⟨k0, k1, k2, k3, k4⟩ := hc j hjl
          have HP1 := Lib.hid (And.intro (hm1 _ _ k0) (And.intro (hm1 _ _ k1) (And.intro (hm1 _ _ k2) (And.intro (hm1 _ _ k3) (hm1 _ _ k4)))))
          have q0 := hmv _ _ k0
          have q1 := hmv _ _ k1
          have q2 := hmv _ _ k2
          have q3 := hmv _ _ k3
          have q4 := hmv _ _ k4
          have HTK := Lib.hid (show l.take (j + 1) = l.take j ++ [l[j]] from List.take_succ_eq_append_getElem hjl)
          have HLW := Lib.hid (show (wrs (l.take j)).length ≤ 60 ∧ (ers s (l.take j)).length ≤ 60 from by have := wrs_len (l.take j); have := ers_len s (l.take j); rw [List.length_take] at *; omega)
          have hgw : g < wr.heap.size := Nat.lt_of_lt_of_le hgB HR.out.bw
          have hw1 : IntKind.i64.wrap ((j : Int) + 1) = ((j + 1 : Nat) : Int) := by rw [IntKind.wrap_i64]; omega
          clear hc k0 k1 k2 k3 k4 hmv hm1 hg hlast
          generalize l[j] = x at *
          obtain ⟨xk, xa, xv, xs, xb⟩ := x
          by_cases h1 : xk = 1
          · subst h1
            have hW : isW ⟨1, xa, xv, xs, xb⟩ = true := by unfold isW; rfl
            by_cases h3 : xs ≤ s
            · have d3 : decide (xs ≤ s) = true := decide_eq_true h3
              have HTW := Lib.hid (show wrs (l.take (j + 1)) = wrs (l.take j) ++ [⟨1, xa, xv, xs, xb⟩] from by rw [HTK.out, wrs_snoc, if_pos hW])
              have HTE := Lib.hid (show ers s (l.take (j + 1)) = ers s (l.take j) ++ [⟨1, xa, xv, xs, xb⟩] from by rw [HTK.out, ers_snoc, if_pos ⟨hW, h3⟩])
              clear hW h3
              go_wp2_with (first | (at_builtin; refine wpList_append_own_at _ rfl _ _ 22 rfl B 31 i0 (.agg #[.int .i64 0, .string ⟨#[]⟩, .string ⟨#[]⟩, .int .i64 0, .bool false]) 5 56 Try.underlying22 hi0 hz0 hz1 hz2 rfl (by decide) _ _ _ rfl (HR.out.row _) ⟨wr.heap.size, 0, none⟩ 1 1 [.int .i64 1, .string xa, .string xv, .int .i64 xs, .bool xb] rfl rfl (five_cells_new _ _ _ _ _ _ _) (by simp [Value.oneCell']) (by unfold maxLen; have := HLW.out; omega) (by have := HLW.out; omega) (by have := HR.out.bw; simp; omega) ?_; intro v1 w1 hown hgrow _ hat; have HR1 := Lib.hid (HR.out.push ⟨1, xa, xv, xs, xb⟩ hown hgrow hat); have r0 := (HR1.out.low.cell (p := ⟨g, _, none⟩) hgB).trans HP1.out.1; have r1 := (HR1.out.low.cell (p := ⟨g, _, none⟩) hgB).trans HP1.out.2.1; have r2 := (HR1.out.low.cell (p := ⟨g, _, none⟩) hgB).trans HP1.out.2.2.1; have r3 := (HR1.out.low.cell (p := ⟨g, _, none⟩) hgB).trans HP1.out.2.2.2.1; have r4 := (HR1.out.low.cell (p := ⟨g, _, none⟩) hgB).trans HP1.out.2.2.2.2; have hgw1 : g < w1.heap.size := Nat.lt_of_lt_of_le hgB HR1.out.bw) | (at_builtin; refine wpList_append_own_at _ rfl _ _ 22 rfl B 31 i0 (.agg #[.int .i64 0, .string ⟨#[]⟩, .string ⟨#[]⟩, .int .i64 0, .bool false]) 5 56 Try.underlying22 hi0 hz0 hz1 hz2 rfl (by decide) _ _ _ rfl (HR1.out.swap.row _) ⟨w1.heap.size, 0, none⟩ 1 1 [.int .i64 1, .string xa, .string xv, .int .i64 xs, .bool xb] rfl rfl (five_cells_new _ _ _ _ _ _ _) (by simp [Value.oneCell']) (by unfold maxLen; have := HLW.out; omega) (by have := HLW.out; omega) (by have := HR1.out.bw; simp; omega) ?_; intro v2 w2 hown hgrow _ hat; have HR2 := Lib.hid (HR1.out.swap.push ⟨1, xa, xv, xs, xb⟩ hown hgrow hat)))
              have HR3 : Hid (Rw B w2 v1 v2 (wrs (l.take (j + 1))) (ers s (l.take (j + 1))) W1) := Lib.hid (by rw [HTW.out, HTE.out]; exact HR2.out.swap)
              clear HR HR1 HR2 hown hgrow hat
              go_roundw
              case rel => exact ⟨j + 1, by first | rfl | (push_cast; rfl), hjn, HR3⟩
              case measure => show n - (((j + 1 : Nat) : Int).toNat) < n - ((j : Int)).toNat; omega
            · have d3 : decide (xs ≤ s) = false := decide_eq_false h3
              have HTW := Lib.hid (show wrs (l.take (j + 1)) = wrs (l.take j) ++ [⟨1, xa, xv, xs, xb⟩] from by rw [HTK.out, wrs_snoc, if_pos hW])
              have HTE := Lib.hid (show ers s (l.take (j + 1)) = ers s (l.take j) from by rw [HTK.out, ers_snoc, if_neg (fun e => h3 e.2)])
              clear hW h3
              go_wp2_with ((at_builtin; refine wpList_append_own_at _ rfl _ _ 22 rfl B 31 i0 (.agg #[.int .i64 0, .string ⟨#[]⟩, .string ⟨#[]⟩, .int .i64 0, .bool false]) 5 56 Try.underlying22 hi0 hz0 hz1 hz2 rfl (by decide) _ _ _ rfl (HR.out.row _) ⟨wr.heap.size, 0, none⟩ 1 1 [.int .i64 1, .string xa, .string xv, .int .i64 xs, .bool xb] rfl rfl (five_cells_new _ _ _ _ _ _ _) (by simp [Value.oneCell']) (by unfold maxLen; have := HLW.out; omega) (by have := HLW.out; omega) (by have := HR.out.bw; simp; omega) ?_; intro v1 w1 hown hgrow _ hat; have HR1 := Lib.hid (HR.out.push ⟨1, xa, xv, xs, xb⟩ hown hgrow hat); have r0 := (HR1.out.low.cell (p := ⟨g, _, none⟩) hgB).trans HP1.out.1; have r1 := (HR1.out.low.cell (p := ⟨g, _, none⟩) hgB).trans HP1.out.2.1; have r2 := (HR1.out.low.cell (p := ⟨g, _, none⟩) hgB).trans HP1.out.2.2.1; have r3 := (HR1.out.low.cell (p := ⟨g, _, none⟩) hgB).trans HP1.out.2.2.2.1; have r4 := (HR1.out.low.cell (p := ⟨g, _, none⟩) hgB).trans HP1.out.2.2.2.2; have hgw1 : g < w1.heap.size := Nat.lt_of_lt_of_le hgB HR1.out.bw))
              have HR3 : Hid (Rw B w1 v1 u6 (wrs (l.take (j + 1))) (ers s (l.take (j + 1))) W1) := Lib.hid (by rw [HTW.out, HTE.out]; exact HR1.out)
              clear HR HR1 hown hgrow hat
              go_roundw
              case rel => exact ⟨j + 1, by first | rfl | (push_cast; rfl), hjn, HR3⟩
              case measure => show n - (((j + 1 : Nat) : Int).toNat) < n - ((j : Int)).toNat; omega
          · by_cases h2 : xk = 2
            · subst h2
              clear h1
              have hW : isW ⟨2, xa, xv, xs, xb⟩ = true := by unfold isW; rfl
              by_cases h3 : xs ≤ s
              · have d3 : decide (xs ≤ s) = true := decide_eq_true h3
                have HTW := Lib.hid (show wrs (l.take (j + 1)) = wrs (l.take j) ++ [⟨2, xa, xv, xs, xb⟩] from by rw [HTK.out, wrs_snoc, if_pos hW])
                have HTE := Lib.hid (show ers s (l.take (j + 1)) = ers s (l.take j) ++ [⟨2, xa, xv, xs, xb⟩] from by rw [HTK.out, ers_snoc, if_pos ⟨hW, h3⟩])
                clear hW h3
                go_wp2_with (first | (at_builtin; refine wpList_append_own_at _ rfl _ _ 22 rfl B 31 i0 (.agg #[.int .i64 0, .string ⟨#[]⟩, .string ⟨#[]⟩, .int .i64 0, .bool false]) 5 56 Try.underlying22 hi0 hz0 hz1 hz2 rfl (by decide) _ _ _ rfl (HR.out.row _) ⟨wr.heap.size, 0, none⟩ 1 1 [.int .i64 2, .string xa, .string xv, .int .i64 xs, .bool xb] rfl rfl (five_cells_new _ _ _ _ _ _ _) (by simp [Value.oneCell']) (by unfold maxLen; have := HLW.out; omega) (by have := HLW.out; omega) (by have := HR.out.bw; simp; omega) ?_; intro v1 w1 hown hgrow _ hat; have HR1 := Lib.hid (HR.out.push ⟨2, xa, xv, xs, xb⟩ hown hgrow hat); have r0 := (HR1.out.low.cell (p := ⟨g, _, none⟩) hgB).trans HP1.out.1; have r1 := (HR1.out.low.cell (p := ⟨g, _, none⟩) hgB).trans HP1.out.2.1; have r2 := (HR1.out.low.cell (p := ⟨g, _, none⟩) hgB).trans HP1.out.2.2.1; have r3 := (HR1.out.low.cell (p := ⟨g, _, none⟩) hgB).trans HP1.out.2.2.2.1; have r4 := (HR1.out.low.cell (p := ⟨g, _, none⟩) hgB).trans HP1.out.2.2.2.2; have hgw1 : g < w1.heap.size := Nat.lt_of_lt_of_le hgB HR1.out.bw) | (at_builtin; refine wpList_append_own_at _ rfl _ _ 22 rfl B 31 i0 (.agg #[.int .i64 0, .string ⟨#[]⟩, .string ⟨#[]⟩, .int .i64 0, .bool false]) 5 56 Try.underlying22 hi0 hz0 hz1 hz2 rfl (by decide) _ _ _ rfl (HR1.out.swap.row _) ⟨w1.heap.size, 0, none⟩ 1 1 [.int .i64 2, .string xa, .string xv, .int .i64 xs, .bool xb] rfl rfl (five_cells_new _ _ _ _ _ _ _) (by simp [Value.oneCell']) (by unfold maxLen; have := HLW.out; omega) (by have := HLW.out; omega) (by have := HR1.out.bw; simp; omega) ?_; intro v2 w2 hown hgrow _ hat; have HR2 := Lib.hid (HR1.out.swap.push ⟨2, xa, xv, xs, xb⟩ hown hgrow hat)))
                have HR3 : Hid (Rw B w2 v1 v2 (wrs (l.take (j + 1))) (ers s (l.take (j + 1))) W1) := Lib.hid (by rw [HTW.out, HTE.out]; exact HR2.out.swap)
                clear HR HR1 HR2 hown hgrow hat
                go_roundw
                case rel => exact ⟨j + 1, by first | rfl | (push_cast; rfl), hjn, HR3⟩
                case measure => show n - (((j + 1 : Nat) : Int).toNat) < n - ((j : Int)).toNat; omega
              · have d3 : decide (xs ≤ s) = false := decide_eq_false h3
                have HTW := Lib.hid (show wrs (l.take (j + 1)) = wrs (l.take j) ++ [⟨2, xa, xv, xs, xb⟩] from by rw [HTK.out, wrs_snoc, if_pos hW])
                have HTE := Lib.hid (show ers s (l.take (j + 1)) = ers s (l.take j) from by rw [HTK.out, ers_snoc, if_neg (fun e => h3 e.2)])
                clear hW h3
                go_wp2_with ((at_builtin; refine wpList_append_own_at _ rfl _ _ 22 rfl B 31 i0 (.agg #[.int .i64 0, .string ⟨#[]⟩, .string ⟨#[]⟩, .int .i64 0, .bool false]) 5 56 Try.underlying22 hi0 hz0 hz1 hz2 rfl (by decide) _ _ _ rfl (HR.out.row _) ⟨wr.heap.size, 0, none⟩ 1 1 [.int .i64 2, .string xa, .string xv, .int .i64 xs, .bool xb] rfl rfl (five_cells_new _ _ _ _ _ _ _) (by simp [Value.oneCell']) (by unfold maxLen; have := HLW.out; omega) (by have := HLW.out; omega) (by have := HR.out.bw; simp; omega) ?_; intro v1 w1 hown hgrow _ hat; have HR1 := Lib.hid (HR.out.push ⟨2, xa, xv, xs, xb⟩ hown hgrow hat); have r0 := (HR1.out.low.cell (p := ⟨g, _, none⟩) hgB).trans HP1.out.1; have r1 := (HR1.out.low.cell (p := ⟨g, _, none⟩) hgB).trans HP1.out.2.1; have r2 := (HR1.out.low.cell (p := ⟨g, _, none⟩) hgB).trans HP1.out.2.2.1; have r3 := (HR1.out.low.cell (p := ⟨g, _, none⟩) hgB).trans HP1.out.2.2.2.1; have r4 := (HR1.out.low.cell (p := ⟨g, _, none⟩) hgB).trans HP1.out.2.2.2.2; have hgw1 : g < w1.heap.size := Nat.lt_of_lt_of_le hgB HR1.out.bw))
                have HR3 : Hid (Rw B w1 v1 u6 (wrs (l.take (j + 1))) (ers s (l.take (j + 1))) W1) := Lib.hid (by rw [HTW.out, HTE.out]; exact HR1.out)
                clear HR HR1 hown hgrow hat
                go_roundw
                case rel => exact ⟨j + 1, by first | rfl | (push_cast; rfl), hjn, HR3⟩
                case measure => show n - (((j + 1 : Nat) : Int).toNat) < n - ((j : Int)).toNat; omega
            · have d1 : (xk == 1) = false := beq_eq_false_iff_ne.2 h1
              have d2 : (xk == 2) = false := beq_eq_false_iff_ne.2 h2
              have hW : isW ⟨xk, xa, xv, xs, xb⟩ = false := by unfold isW; rw [d1, d2]; rfl
              have HR3 : Hid (Rw B wr u5 u6 (wrs (l.take (j + 1))) (ers s (l.take (j + 1))) W1) := Lib.hid (by rw [HTK.out, wrs_snoc, ers_snoc, hW]; simpa using HR.out)
              clear hW h1 h2 HR
              go_wp2_with fail
              go_roundw
              case rel => exact ⟨j + 1, by first | rfl | (push_cast; rfl), hjn, HR3⟩
              case measure => show n - (((j + 1 : Nat) : Int).toNat) < n - ((j : Int)).toNat; omega
end Go.Proofs.Ytaecppkkbdbdbaa
