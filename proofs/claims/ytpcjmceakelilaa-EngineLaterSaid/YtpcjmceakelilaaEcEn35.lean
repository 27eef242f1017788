/- Engine: the law of later commits. -/
import Derived.Test.YtpcjmceakelilaaEc9
namespace Go.Proofs.Ytpcjmceakelilaa
open Go.ChangeShapes Go.WideShapes Go.ChangeAt Go.RowKit Go.ChangeMaps Go.Deep Go.Shelf Go.Sort
set_option linter.unusedVariables false
set_option linter.unusedSimpArgs false
attribute [local go_sem] Oper.semAt_some
attribute [local go_sem, local simp] wide_fn
def boxO (x : Opx) : Obj := .cells #[.int .i64 x.kind, x.lv, .int .i64 x.stamp, .string x.table, .string x.key, .string x.lo, .string x.hi, .bool x.back] 25 (0, 0)
theorem opAt_new (W : World) (x : Opx) : OpAt (W.alloc (boxO x)) W.heap.size 0 x := by
  have e : (W.alloc (boxO x)).heap[W.heap.size]? = some (.cells #[.int .i64 x.kind, x.lv, .int .i64 x.stamp, .string x.table, .string x.key, .string x.lo, .string x.hi, .bool x.back] 25 (0, 0)) := heap_alloc_new W _
  exact ⟨Lib.cell_of_heap e 0, Lib.cell_of_heap e 1, Lib.cell_of_heap e 2, Lib.cell_of_heap e 3, Lib.cell_of_heap e 4, Lib.cell_of_heap e 5, Lib.cell_of_heap e 6, Lib.cell_of_heap e 7⟩
theorem opsArg_one {W : World} {x : Opx} (hc : ChsArg W x.lv x.L) : OpsArg (W.alloc (boxO x)) (.slice (some ⟨W.heap.size, 0, none⟩) 1 1) [x] := by
  have e : (W.alloc (boxO x)).heap[W.heap.size]? = some (.cells (opx x).toArray 25 (0, 0)) := heap_alloc_new W _
  refine ⟨_, 1, rfl, fun _ => ⟨W.heap.size, 0, rfl, by simp, fun j hj => ?_⟩⟩
  have h0 : j = 0 := by simpa using hj
  subst h0
  refine ⟨hc.below ((Below.refl _ _).alloc (Nat.le_refl _) _), fun i hi => ?_⟩
  have h2 := Lib.cell_of_heap e i
  simp only [Nat.zero_mul, Nat.zero_add, List.getElem_cons_zero]
  rw [h2]
  simp [hi, opx]
theorem EWk.commitT {B b j mt tc : Nat} {W0 W W' : World} {T : List Tb} {st sy : Int} {dk : Bs} {s : Int} {L : List Chg} (h : EWk B b j W0 W mt T tc st dk sy) (hL : L.length ≤ 256 → L.length ≤ 64) (h0 : refC (cont T) s L = 0) (hf : Fits dk 1 s.toNat L) {mt' tc' : Nat} {T' : List Tb} (ht : ETurn B b (FootE b mt T) W W' mt' T' tc' (stOf st s L.length) (addD dk 1 s.toNat L) sy) (hct : cont T' = addsA (cont T) s L) (hbd : Bud T' (64 * j + L.length)) : EWk B b (j + 1) W0 W' mt' T' tc' (stOf st s L.length) (addD dk 1 s.toNat L) sy := by
  obtain ⟨r1, r2, r3, r4, r5⟩ := refC_zero h0
  have hl := hL r3
  refine h.turn ht ⟨by have := hbd.1; omega, fun t ht => by have := hbd.2 t ht; omega⟩ (addD_fits hf) ?_ ?_
  · have := h.st0
    unfold stOf
    split <;> omega
  · rw [hct]
    exact (h.wt.commit h0 hf hl).mono (by omega)
set_option maxRecDepth 100000 in
set_option maxHeartbeats 6400000 in
theorem law_later_in (n : Nat) (h1 : 8 ≤ n) (v : Value) (l : List Opx) (x : Opx) (stamp : Int) (W : World) (h : OpsArg W v l) (hc : ChsArg W x.lv x.L) :
    CallsIn Fence.wide n Try.prog 3 #[v, .agg #[.int .i64 x.kind, x.lv, .int .i64 x.stamp, .string x.table, .string x.key, .string x.lo, .string x.hi, .bool x.back], .int .i64 stamp] W (YesOut W) := by
  have h1' : 1 ≤ n := by omega
  have hOA := opAt_new W x
  have hOne := fun (w : World) (hw : Below W.heap.size W w) => opsArg_one (W := w) (x := x) (hc.below hw)
  have hbA : Below W.heap.size W (W.alloc (boxO x)) := (Below.refl _ _).alloc (Nat.le_refl _) _
  have HH := Lib.hid (h.below hbA)
  have HC := Lib.hid hc
  have HOA := Lib.hid hOA
  have HONE := Lib.hid hOne
  have HBA := Lib.hid hbA
  obtain ⟨a0, c0, rfl, _⟩ := h
  obtain ⟨kd, lv, L, s, tb, ky, lo, hi, bk⟩ := x
  obtain ⟨la, lc, hlv, _⟩ := hc
  dsimp only at hlv
  subst hlv
  clear hOA hOne hbA
  dsimp only at HC ⊢
  refine callsIn_of_wp Try.func3 rfl trivial ?_ rfl
  simp only [Try.ntmps3, List.size_toArray, List.length_cons, List.length_nil, Nat.reduceAdd, Nat.reduceSub, Array.replicate_succ, Array.replicate_zero, List.push_toArray, List.append_toArray, List.nil_append, List.cons_append]
  dsimp only [boxO] at HOA HBA HH HONE
  gi_wp2_with fail
  refine (callsIn_wide.2 (beyond_any _ l _ HH.out)).mono ?_
  rintro e w0 ⟨d, rfl, hd, hb0⟩
  have HB0 := Lib.hid (show Below W.heap.size W w0 from HBA.out.trans (hb0.mono HBA.out.size))
  have HPS := Lib.hid (show W.heap.size < (W.alloc (.cells #[.int .i64 kd, .slice la L.length lc, .int .i64 s, .string tb, .string ky, .string lo, .string hi, .bool bk] 25)).heap.size by simp)
  have HO0 := Lib.hid (HH.out.below hb0)
  have HP0 := Lib.hid (HOA.out.below hb0 HPS.out)
  have HPW := Lib.hid (show W.heap.size < w0.heap.size from Nat.lt_of_lt_of_le HPS.out hb0.size)
  clear hb0 HH HOA HBA HPS
  cases d with
  | true =>
    gi_wp2_with fail
    go_ret
    exact ⟨rfl, HB0.out⟩
  | false =>
  have HNR := Lib.hid (hd rfl)
  clear hd
  have q0 : w0.cell? ⟨W.heap.size, 0, none⟩ = some (.int .i64 kd) := HP0.out.c0
  have q1 : w0.cell? ⟨W.heap.size, 1, none⟩ = some (.slice la L.length lc) := HP0.out.c1
  have q2 : w0.cell? ⟨W.heap.size, 2, none⟩ = some (.int .i64 s) := HP0.out.c2
  have q3 : w0.cell? ⟨W.heap.size, 3, none⟩ = some (.string tb) := HP0.out.c3
  have q4 : w0.cell? ⟨W.heap.size, 4, none⟩ = some (.string ky) := HP0.out.c4
  have q5 : w0.cell? ⟨W.heap.size, 5, none⟩ = some (.string lo) := HP0.out.c5
  have q6 : w0.cell? ⟨W.heap.size, 6, none⟩ = some (.string hi) := HP0.out.c6
  have q7 : w0.cell? ⟨W.heap.size, 7, none⟩ = some (.bool bk) := HP0.out.c7
  gi_wp2_with fail
  refine (callsIn_wide.2 (beyond_any _ [⟨kd, .slice la L.length lc, L, s, tb, ky, lo, hi, bk⟩] _ (HONE.out w0 HB0.out))).mono ?_
  rintro e w1 ⟨d, rfl, hd, hb1⟩
  have hb01 : Below w0.heap.size w0 w1 := ((Below.refl _ w0).alloc (Nat.le_refl _) (.cells #[.int .i64 kd, .slice la L.length lc, .int .i64 s, .string tb, .string ky, .string lo, .string hi, .bool bk] 25)).trans (hb1.mono (by simp [boxO]))
  have HB1 := Lib.hid (show Below W.heap.size W w1 from HB0.out.trans (hb01.mono HB0.out.size))
  have HO1 := Lib.hid (HO0.out.below hb01)
  have HP1 := Lib.hid (HP0.out.below hb01 HPW.out)
  have HCX1 := Lib.hid (HC.out.below HB1.out)
  have HPW1 := Lib.hid (show W.heap.size < w1.heap.size from Nat.lt_of_lt_of_le HPW.out hb01.size)
  clear hb1 hb01 HONE q0 q1 q2 q3 q4 q5 q6 q7 HO0 HP0 HPW HB0 HC
  cases d with
  | true =>
    gi_wp2_with fail
    go_ret
    exact ⟨rfl, HB1.out⟩
  | false =>
  have HNX := Lib.hid (show L.length ≤ 64 ∨ 256 < L.length ∧ L.length ≤ 264 from (hd rfl).2 ⟨kd, .slice la L.length lc, L, s, tb, ky, lo, hi, bk⟩ (List.mem_singleton.2 rfl))
  clear hd
  gi_wp2_with (first
    | (gi_at_call 7; refine (callsIn_wide.2 (enew_any _)).mono ?_; rintro e w2 ⟨rfl, hE2, hb2⟩))
  have HE0 := Lib.hid (EWk.start hE2 hb2)
  clear hE2 hb2
  obtain ⟨B, hB⟩ : ∃ B, B = w1.heap.size := ⟨_, rfl⟩
  have HBB := Lib.hid (show W.heap.size ≤ B by rw [hB]; exact HB1.out.size)
  rw [← hB] at HE0 HPW1 ⊢
  have HBE := Lib.hid hB
  clear hB
  obtain ⟨m, hm⟩ : ∃ m, m = l.length := ⟨_, rfl⟩
  have hm64 : m ≤ 64 := by rw [hm]; exact HNR.out.1
  rw [← hm]
  have HM := Lib.hid hm
  clear hm
  gi_loopw [26] (fun i wr => ∃ j : Nat, i = .int .i64 j ∧ j ≤ m ∧ Hid (∃ mt T tc st dk sy, EWk B (B + 1) j w1 wr mt T tc st dk sy)) (fun i wr => m - iv i)
  case atStart => exact ⟨0, rfl, Nat.zero_le _, Lib.hid ⟨_, _, _, _, _, _, HE0.out⟩⟩
  case round =>
    obtain ⟨j, rfl, hj, HX⟩ := hrel
    by_cases hlast : j = m
    · subst hlast
      obtain ⟨mt, T, tc, st, dk, sy, hX⟩ := HX.out
      have H5 := Lib.hid hX
      have HJ := Lib.hid (show j ≤ 64 from hm64)
      have hp := HP1.out.below hX.low HPW1.out
      have q3 : wr.cell? ⟨W.heap.size, 3, none⟩ = some (.string tb) := hp.c3
      clear hp hX HX HE0
      gi_wp2_with fail
      refine (callsIn_wide.2 (disk_any H5.out.egs)).mono ?_
      rintro e w5 ⟨rfl, hw⟩
      obtain rfl := hw.symm
      gi_wp2_with fail
      refine (callsIn_wide.2 (stamp_any H5.out.egs)).mono ?_
      rintro e w5 ⟨rfl, hw⟩
      obtain rfl := hw.symm
      gi_wp2_with fail
      refine (H5.out.scan (Nat.le_succ_of_le HJ.out) (n - 1) (by omega) tb _ _ _ _).mono ?_
      rintro e w6 ⟨v6, rfl, hr6, hb6⟩
      have H6 := Lib.hid (And.intro (H5.out.below hb6) hr6)
      clear hr6 hb6 q3
      gi_wp2_with fail
      have hbd : Below w6.heap.size w6 w6.drew := (Below.refl _ _).drew
      have H6d := Lib.hid (And.intro (H6.out.1.below hbd) (H6.out.2.below hbd))
      have hp := HP1.out.below H6d.out.1.low HPW1.out
      have p1 : w6.drew.cell? ⟨W.heap.size, 1, none⟩ = some (.slice la L.length lc) := hp.c1
      have p2 : w6.drew.cell? ⟨W.heap.size, 2, none⟩ = some (.int .i64 s) := hp.c2
      have p3 : w6.drew.cell? ⟨W.heap.size, 3, none⟩ = some (.string tb) := hp.c3
      have HCX := Lib.hid (show ChsArg w6 (.slice la L.length lc) L from HCX1.out.below (HBE.out ▸ H6.out.1.low))
      have HPL := Lib.hid (show W.heap.size < w6.drew.heap.size from Nat.lt_of_lt_of_le HPW1.out H6d.out.1.bw)
      refine wpIn_wide.2 ?_
      refine wp_region_ordW 8 6 [(0, 0), (1, 0), (2, 1), (4, 0), (5, 1), (3, 2), (6, 3), (7, 0)] (fun X => X.cell? ⟨W.heap.size, 1, none⟩ = some (.slice la L.length lc) ∧ X.cell? ⟨W.heap.size, 2, none⟩ = some (.int .i64 s)) (by kernel_rfl) (by kernel_rfl) ⟨p1, p2⟩ (fun c a d v w h => by cases d <;> exact h) ?_
      apply wpOrd_read0
      case hi => rfl
      case hw => rfl
      case hy => (intro w; go_simp; try rfl)
      intro K hK; go_simp; refine hK _ _ ?_; clear hK K
      apply wpOrd_read0
      case hi => rfl
      case hw => rfl
      case hy => (intro w; go_simp; try rfl)
      intro K hK; go_simp; refine hK _ _ ?_; clear hK K
      apply wpOrd_read1
      case hi => rfl
      case hw => rfl
      case hy => (intro w hw; obtain ⟨h1, h2⟩ := hw; go_simp; try rfl)
      intro K hK; go_simp; refine hK _ _ ?_; clear hK K
      apply wpOrd_read0
      case hi => rfl
      case hw => rfl
      case hy => (intro w; go_simp; try rfl)
      intro K hK; go_simp; refine hK _ _ ?_; clear hK K
      apply wpOrd_read1
      case hi => rfl
      case hw => rfl
      case hy => (intro w hw; obtain ⟨h1, h2⟩ := hw; go_simp; try rfl)
      intro K hK; go_simp; refine hK _ _ ?_; clear hK K
      apply wpOrd_eff2
      case hi => rfl
      case hw => rfl
      intro K hK
      go_simp
      refine (changes_any _ L _ (HCX.out.below hbd) (by have := HNX.out; omega)).mono ?_
      rintro e w7 ⟨v2, rfl, ho2, hb2⟩
      have s1 := (hb2.cell (p := ⟨W.heap.size, 1, none⟩) HPL.out).trans p1
      have s2 := (hb2.cell (p := ⟨W.heap.size, 2, none⟩) HPL.out).trans p2
      go_simp
      refine hK _ _ ⟨s1, s2⟩ ?_
      clear hK K
      have HE2 := Lib.hid (H6d.out.1.below hb2)
      have HR2 := Lib.hid (H6d.out.2.below hb2)
      have hvF : ∀ k, v2.ownBlock = some k → ¬ FootE (B + 1) mt T k := fun k hk hf => by
        have h2 := (ho2.lt k hk).1
        have h3 := (H6d.out.1.egs.foot hf).2
        omega
      apply wpOrd_eff3
      case hi => rfl
      case hw => rfl
      intro K hK
      go_simp
      refine (commit_any s v2 L (64 * j) w7 HE2.out.egs (chAt_own ho2) hvF HE2.out.bud (fun _ => by have := HJ.out; have := HNX.out; omega) HE2.out.bw (Nat.le_trans HE2.out.disk (by omega))).mono ?_
      rintro e w8 ⟨rfl, hc3⟩
      go_simp
      refine hK _ _ ?_
      clear hK K
      apply wpOrd_read0
      case hi => rfl
      case hw => rfl
      case hy => (intro w; go_simp; try rfl)
      intro K hK; go_simp; refine hK _ _ (wpOrd_nil ?_); clear hK K
      have HQ := Lib.hid (show OpAt w7 W.heap.size 0 ⟨kd, .slice la L.length lc, L, s, tb, ky, lo, hi, bk⟩ from HP1.out.below HE2.out.low HPW1.out)
      clear s1 s2 ho2 hb2 hvF p1 p2 p3 hp H6d HPL
      rcases hc3 with ⟨hr, hb8⟩ | ⟨hr, h0, hf, T', tc', ht, hct, hbd2⟩
      · have H8 := Lib.hid (And.intro (HE2.out.below hb8) (HR2.out.below hb8))
        have HL8 := Lib.hid (show Below W.heap.size W w8 from HB1.out.trans (H8.out.1.low.mono HBB.out))
        have hp := HP1.out.below H8.out.1.low HPW1.out
        have p2 : w8.cell? ⟨W.heap.size, 2, none⟩ = some (.int .i64 s) := hp.c2
        have p3 : w8.cell? ⟨W.heap.size, 3, none⟩ = some (.string tb) := hp.c3
        clear hb8 hp hbd
        generalize comC (cont T) dk s L = r at *
        have hr1 : (r == 0) = false := by simpa using hr
        have hr2 : (r != 0) = true := by simpa using hr
        go_wp2_with fail
        gi_wp2_with fail
        refine (callsIn_wide.2 (disk_any H8.out.1.egs)).mono ?_
        rintro e w9 ⟨rfl, hw⟩
        obtain rfl := hw.symm
        gi_wp2_with fail
        refine (callsIn_wide.2 (stamp_any H8.out.1.egs)).mono ?_
        rintro e w9 ⟨rfl, hw⟩
        obtain rfl := hw.symm
        gi_wp2_with fail
        refine (H8.out.1.scan (Nat.le_succ_of_le HJ.out) (n - 1) (by omega) tb _ _ _ _).mono ?_
        rintro e w9 ⟨v9, rfl, hr9, hb9⟩
        have H9 := Lib.hid (And.intro (H8.out.2.below hb9) (And.intro hr9 (HL8.out.trans (hb9.mono HL8.out.size))))
        clear hr9 hb9
        gi_wp2_with fail
        refine (callsIn_wide.2 (same_any v6 v9 _ _ (rowS_of H9.out.1) (rowS_of H9.out.2.1))).mono ?_
        rintro e w10 ⟨rfl, hb10⟩
        have HL10 := Lib.hid (H9.out.2.2.trans (hb10.mono H9.out.2.2.size))
        clear hb10
        gi_wp2_with fail
        refine (callsIn_wide.2 (awake_any _)).mono ?_
        rintro e w11 ⟨rfl, hb11⟩
        have HL11 := Lib.hid (HL10.out.trans (hb11.mono HL10.out.size))
        clear hb11
        gi_wp2_with fail
        go_ret
        exact ⟨rfl, HL11.out⟩
      · have H8 := Lib.hid (And.intro (HE2.out.commitT (by have := HNX.out; omega) h0 hf ht hct hbd2) (And.intro (HR2.out.kept ht.kept (fun k hk => (H5.out.egs.foot hk).2)) hct))
        have HL8 := Lib.hid (show Below W.heap.size W w8 from HB1.out.trans (H8.out.1.low.mono HBB.out))
        have hp := HP1.out.below H8.out.1.low HPW1.out
        have p2 : w8.cell? ⟨W.heap.size, 2, none⟩ = some (.int .i64 s) := hp.c2
        have p3 : w8.cell? ⟨W.heap.size, 3, none⟩ = some (.string tb) := hp.c3
        clear hp hbd h0 hf ht hct hbd2
        rw [hr]
        clear hr
        by_cases hst : s ≤ stamp
        · have z1 : decide (s ≤ stamp) = true := decide_eq_true hst
          go_wp2_with fail
          gi_wp2_with fail
          all_goals try (rename_i hq _; cases hq; done)
          all_goals
            refine (callsIn_wide.2 (awake_any _)).mono ?_
            rintro e w11 ⟨rfl, hb11⟩
            have HL11 := Lib.hid (HL8.out.trans (hb11.mono HL8.out.size))
            clear hb11
            gi_wp2_with fail
            go_ret
            exact ⟨rfl, HL11.out⟩
        · have z1 : decide (s ≤ stamp) = false := decide_eq_false hst
          have ET := Lib.hid (scanO_same (t := stamp) H5.out.egs H8.out.1.egs tb (fun k => by rw [H8.out.2.2]; exact (adds_late stamp s (by omega) L _ tb k).symm) false)
          go_wp2_with fail
          gi_wp2_with fail
          all_goals try (rename_i hq _; cases hq; done)
          all_goals
            refine (H8.out.1.scan (by have := HJ.out; omega) (n - 1) (by omega) tb _ _ _ _).mono ?_
            rintro e w9 ⟨v9, rfl, hr9, hb9⟩
            rw [← ET.out] at hr9
            have H9 := Lib.hid (And.intro (H8.out.2.1.below hb9) (And.intro hr9 (HL8.out.trans (hb9.mono HL8.out.size))))
            clear hr9 hb9
            gi_wp2_with fail
            refine (callsIn_wide.2 (same_any v6 v9 _ _ (rowS_of H9.out.1) (rowS_of H9.out.2.1))).mono ?_
            rintro e w10 ⟨rfl, hb10⟩
            have HL10 := Lib.hid (H9.out.2.2.trans (hb10.mono H9.out.2.2.size))
            clear hb10
            gi_wp2_with fail
            refine (callsIn_wide.2 (awake_any _)).mono ?_
            rintro e w11 ⟨rfl, hb11⟩
            have HL11 := Lib.hid (HL10.out.trans (hb11.mono HL10.out.size))
            clear hb11
            gi_wp2_with fail
            go_ret
            exact ⟨rfl, HL11.out⟩
    · have hjm : j < m := by omega
      obtain ⟨mt, T, tc, st, dk, sy, hX⟩ := HX.out
      have HW := Lib.hid hX
      obtain ⟨a1, c1, he1, hop⟩ := HO1.out
      obtain rfl : a0 = a1 := by cases he1; rfl
      obtain ⟨g, o, rfl, hg, hc⟩ := hop (by rw [← HM.out]; omega)
      have hjl : j < l.length := by rw [← HM.out]; exact hjm
      obtain ⟨hca, hc8⟩ := hc j hjl
      have ho := (OpAt.of hc8).below hX.low (by rw [HBE.out]; exact hg)
      have HCA := Lib.hid (hca.below (HBE.out ▸ hX.low))
      have HNY := Lib.hid (HNR.out.2 _ (List.getElem_mem hjl))
      clear hc hc8 hca hop he1 hX HX HE0 hlast
      generalize l[j] = x at *
      obtain ⟨kd2, lv2, L2, s2, tb2, ky2, lo2, hi2, bk2⟩ := x
      obtain ⟨la2, lc2, hlv, _⟩ := HCA.out
      dsimp only at hlv
      subst hlv
      obtain ⟨q0, q1, q2, q3, q4, q5, q6, q7⟩ := ho
      dsimp only at q0 q1 q2 q3 q4 q5 q6 q7
      have hw1 : IntKind.i64.wrap ((j : Int) + 1) = ((j + 1 : Nat) : Int) := by rw [IntKind.wrap_i64]; omega
      obtain ⟨A, hA⟩ : ∃ A, A = Obj.cells #[.int .i64 kd2, .slice la2 L2.length lc2, .int .i64 s2, .string tb2, .string ky2, .string lo2, .string hi2, .bool bk2] 25 (0, 0) := ⟨_, rfl⟩
      have hbA : Below wr.heap.size wr (wr.alloc A) := (Below.refl _ _).alloc (Nat.le_refl _) _
      have HC := Lib.hid (call_in (n - 1) (by omega) ⟨kd2, .slice la2 L2.length lc2, L2, s2, tb2, ky2, lo2, hi2, bk2⟩ (by omega) HNY.out (HCA.out.below hbA) (HW.out.below hbA))
      rw [hA] at HC
      clear hbA hA
      gi_wp2_with (first
        | (gi_at_call 8; refine HC.out.mono ?_; rintro e w3 ⟨vv, rfl, hE3⟩; have HE3 := Lib.hid hE3; clear hE3))
      go_roundw
      case rel => exact ⟨j + 1, by first | rfl | (push_cast; rfl), hjm, HE3⟩
      case measure => show m - (((j + 1 : Nat) : Int).toNat) < m - ((j : Int)).toNat; omega
theorem law_later (v : Value) (l : List Opx) (x : Opx) (stamp : Int) (W : World) (h : OpsArg W v l) (hc : ChsArg W x.lv x.L) : Calls Try.prog 3 #[v, .agg (opx x).toArray, .int .i64 stamp] W (YesOut W) := callsIn_wide.1 (law_later_in 8 (Nat.le_refl _) v l x stamp W h hc)
end Go.Proofs.Ytpcjmceakelilaa
