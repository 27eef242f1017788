/- Merged texts: Eg6. -/
import Derived.Test.YtfpgklhbghahoaaOe1
/- Election: the other copyAll. -/
namespace Go.Proofs.Ytfpgklhbghahoaa
open Go.ChangeShapes Go.WideShapes Go.ChangeAt Go.RowKit Go.ChangeMaps Go.Joins Go.Deep
set_option linter.unusedVariables false
set_option linter.unusedSimpArgs false
set_option maxRecDepth 100000
attribute [local go_sem] Oper.semAt_some
theorem infoField : (Try.prog.info? 104).map (fun i => (i.zero, i.size, i.bytes)) = some (some (.agg #[.string ⟨#[]⟩, .int .i64 0, .int .i64 0, .string ⟨#[]⟩, .slice none 0 0, .slice none 0 0]), 6, 96) := by kernel_rfl
theorem wideField : Wide Try.prog 104 6 := ⟨by kernel_rfl, _, Try.underlying104, rfl⟩
set_option maxHeartbeats 3200000 in
theorem copyAll_Field (n : Nat) (v : Value) (W0 W : World) (hb0 : Below W0.heap.size W0 W) (h : GoodC Try.prog W0 (n + 1) 46 [v]) (hone : OneOK 70 104 n W0) :
    Calls Try.prog 69 #[v, .func (.func 70) #[] #[]] W fun e W' => ∃ v', e = .returned v' ∧ CopyOf W0 W (n + 1) 46 [v] W' [v'] := by
  obtain ⟨i0, hi0, hz0, hz1, hz2⟩ := info_parts infoField
  have e1 : Try.prog.cellsOf 104 = 6 := by kernel_rfl
  have e8 : Try.prog.bytesOf 104 = 96 := by kernel_rfl
  obtain ⟨a, len, cap, rfl, hlc, ⟨hm, hby, hnil⟩, hc⟩ := goodC_slice Try.underlying46 h
  rw [e1] at hc
  rw [e8] at hby
  by_cases h0 : len = 0
  · subst h0
    go_enter Try.func69, Try.ntmps69
    go_wp2_with fail
    go_ret
    exact ⟨_, rfl, eqC_slice Try.underlying46 ⟨a, 0, cap, none, 0, rfl, rfl, hlc, ⟨hm, by omega, hnil⟩, Nat.le_refl _, ⟨by unfold maxLen; omega, by omega, fun _ => rfl⟩, fun h0 => absurd h0 (Nat.lt_irrefl _)⟩, Below.refl _ _⟩
  · obtain ⟨B, o, rfl, hB, hj⟩ := hc (by omega)
    have HB0 := Lib.hid hb0
    have fn : ∀ j : Nat, ∃ ds : List Value, j < len → ds.length = 6 ∧ W0.rangeAt B (o + j * 6) ds ∧ GoodC Try.prog W0 n 104 ds := fun j => by
      by_cases hjl : j < len
      · obtain ⟨ds, h1⟩ := hj j hjl; exact ⟨ds, fun _ => h1⟩
      · exact ⟨[], fun h => absurd h hjl⟩
    obtain ⟨X, hX⟩ := Classical.axiomOfChoice fn
    have HX := Lib.hid hX
    have HO := Lib.hid hone
    have HBY := Lib.hid (And.intro hlc (And.intro hm hby))
    have z1 : ((len : Int) == 0) = false := by simpa using h0
    have hl63 : len ≤ 9223372036854775807 := by have := HBY.out.2.1; unfold maxLen at this; omega
    clear hj fn hX hone h hc hnil hb0 hby hm
    go_enter Try.func69, Try.ntmps69
    go_wp2_with (first
      | (with_reducible refine wpList_make_wide _ rfl _ _ 46 rfl 104 i0 (.agg #[.string ⟨#[]⟩, .int .i64 0, .int .i64 0, .string ⟨#[]⟩, .slice none 0 0, .slice none 0 0]) Try.underlying46 hi0 hz0 len ?ml ?mc ?mb hl63 ?_))
    first | (case ml => rfl) | skip
    first | (case mc => rfl) | skip
    case mb => first | (rw [hz2]; have := HBY.out.2.2; omega) | (have := HBY.out.2.2; omega)
    have hbx : Box (W.alloc (.cells (madeCells #[.string ⟨#[]⟩, .int .i64 0, .int .i64 0, .string ⟨#[]⟩, .slice none 0 0, .slice none 0 0] (len * 6)) 104)) W.heap.size (madeCells #[.string ⟨#[]⟩, .int .i64 0, .int .i64 0, .string ⟨#[]⟩, .slice none 0 0, .slice none 0 0] (len * 6)).toList := by
      have := Box.new W (madeCells #[.string ⟨#[]⟩, .int .i64 0, .int .i64 0, .string ⟨#[]⟩, .slice none 0 0, .slice none 0 0] (len * 6)).toList 104
      simpa using this
    have HP0 : Hid (Cpg W0 W n 104 6 W.heap.size X len 0 (W.alloc (.cells (madeCells #[.string ⟨#[]⟩, .int .i64 0, .int .i64 0, .string ⟨#[]⟩, .slice none 0 0, .slice none 0 0] (len * 6)) 104))) := Lib.hid ⟨(Below.refl _ _).alloc (Nat.le_refl _) _, rfl, _, hbx, by rw [Array.length_toList, size_madeCells], fun j hj => absurd hj (Nat.not_lt_zero _)⟩
    clear hbx
    generalize W.alloc (.cells (madeCells #[.string ⟨#[]⟩, .int .i64 0, .int .i64 0, .string ⟨#[]⟩, .slice none 0 0, .slice none 0 0] (len * 6)) 104) = W1 at *
    obtain ⟨C, hC⟩ : ∃ C, C = W.heap.size := ⟨_, rfl⟩
    rw [← hC] at HP0 ⊢
    have HCC := Lib.hid hC
    clear hC
    go_loopw [16] (fun i wr => ∃ q : Nat, i = .int .i64 q ∧ q ≤ len ∧ Hid (Cpg W0 W n 104 6 C X len q wr)) (fun i wr => len - (intOf i).toNat)
    case atStart => exact ⟨0, rfl, Nat.zero_le _, HP0⟩
    case round =>
      clear HP0
      obtain ⟨q, rfl, hq, HP⟩ := hrel
      by_cases hlast : q = len
      · subst hlast
        go_wp2_with fail
        go_ret
        exact ⟨_, rfl, HP.out.done Try.underlying46 e1 HB0.out hB (fun j hj => ⟨(HX.out j hj).1, (HX.out j hj).2.1⟩) HBY.out.1 HBY.out.2.1 (by rw [e8]; exact HBY.out.2.2)⟩
      · have hql : q < len := by omega
        obtain ⟨x1, x2, x3⟩ := HX.out q hql
        have r1 : wr.rangeAt B (o + q * 6) (X q) := range_below (range_below x2 HB0.out hB) HP.out.low (Nat.lt_of_lt_of_le hB HB0.out.size)
        have HXQ := Lib.hid (And.intro x1 x3)
        have hw1 : IntKind.i64.wrap ((q : Int) + 1) = ((q + 1 : Nat) : Int) := by rw [IntKind.wrap_i64]; omega
        have hx5 : (Try.prog.info? 104).map (·.size) = some (X q).length := by rw [x1]; exact wideField.1
        clear x1 x2 x3
        have HR1 := Lib.hid r1
        have HBX := Lib.hid (BoxN.new wr [.string ⟨#[]⟩, .int .i64 0, .int .i64 0, .string ⟨#[]⟩, .slice none 0 0, .slice none 0 0] 6 104 rfl)
        have HXC := Lib.hid (show Cells 6 (X q) from ⟨HXQ.out.1, List.all_eq_true.2 (good_cells_of (by decide) HXQ.out.2)⟩)
        go_wp2_with (first
          | (with_reducible refine wpList_load_mid rfl 104 (.tmp 19) rfl B (o + q * 6) ?lx (X q) _ HR1.out Try.underlying104 rfl hx5 ?_)
          | (with_reducible refine wpList_box_store 104 7 (.tmp 20) wr.heap.size [.string ⟨#[]⟩, .int .i64 0, .int .i64 0, .string ⟨#[]⟩, .slice none 0 0, .slice none 0 0] (X q) _ _ _ _ _ _ ?sx ?sy HBX.out HXC.out wideField ?_))
        first | (case lx => rfl) | skip
        first | (case sx => rfl) | skip
        first | (case sy => rfl) | skip
        intro w5 hB5 hO5
        have hb5 : Below wr.heap.size wr w5 := ((Below.refl _ _).alloc (Nat.le_refl _) _).trans (hO5.below _ (Nat.le_refl _))
        have HB5 := Lib.hid hB5
        have HL5 := Lib.hid hb5
        have HW5 := Lib.hid (show Below W0.heap.size W0 w5 from (HB0.out.trans (HP.out.low.mono HB0.out.size)).trans (hb5.mono (Nat.le_trans HB0.out.size HP.out.low.size)))
        clear hB5 hO5 hb5 r1 hx5
        go_wp2_with (first
          | (with_reducible refine wpList_box_load 104 7 wr.heap.size (X q) _ _ _ _ _ _ ?bx HB5.out wideField ?_))
        first | (case bx => rfl) | skip
        refine (HO.out w5 (X q) HW5.out HXQ.out.2).mono ?_
        rintro e w6 ⟨ys, rfl, hcp⟩
        have HCP := Lib.hid hcp
        have hyl : ys.length = 6 := by rw [eqC_len Try.underlying104 hcp.1, e1]
        have HY1 := Lib.hid (good_cells_of (by decide) (EqC.good _ _ _ _ (EqC.symm _ _ _ _ hcp.1)))
        clear hcp
        obtain ⟨cs, hbx, hlen, hjj⟩ := HP.out.row
        have hth : w6.there C (q * 6) ys.toArray.size := by
          have h6 := (hbx.keep HL5.out).keep HCP.out.2
          refine h6.there _ _ ?_
          rw [List.size_toArray, hyl, hlen]
          omega
        clear hbx hlen hjj
        go_wp2_with (first
          | (with_reducible refine wpList_store_mid rfl 104 (.tmp 26) (.tmp 25) rfl C (q * 6) ys.toArray ?mx ?my hth ?mi ?m1 ?_))
        first | (case mx => rfl) | skip
        first | (case my => rfl) | skip
        first | (case mi => rw [List.size_toArray, hyl]; exact wideField.1) | skip
        first | (case m1 => exact all_oneCell_toArray HY1.out) | skip
        refine ⟨⟨q + 1, by first | rfl | (push_cast; rfl), hql, Lib.hid (HP.out.step HB0.out.size hql (HL5.out.trans (HCP.out.2.mono HL5.out.size)) hyl ?_)⟩, by simp [intOf]; omega⟩
        exact EqC.kept (Nat.le_refl _) (Nat.le_refl _) (fun _ _ _ => rfl) (fun _ _ _ => rfl) (fun _ h _ => h) (fun i h _ => Nat.le_trans HL5.out.size h) _ _ _ _ HCP.out.1
theorem infoExpr : (Try.prog.info? 63).map (fun i => (i.zero, i.size, i.bytes)) = some (some (.agg #[.int .i64 0, .slice none 0 0, .string ⟨#[]⟩, .slice none 0 0, .int .i64 0, .int .i64 0, .string ⟨#[]⟩, .slice none 0 0, .slice none 0 0, .int .i64 0, .slice none 0 0]), 11, 184) := by kernel_rfl
theorem wideExpr : Wide Try.prog 63 11 := ⟨by kernel_rfl, _, Try.underlying63, rfl⟩
set_option maxHeartbeats 3200000 in
theorem copyAll_Expr (n : Nat) (v : Value) (W0 W : World) (hb0 : Below W0.heap.size W0 W) (h : GoodC Try.prog W0 (n + 1) 61 [v]) (hone : OneOK 81 63 n W0) :
    Calls Try.prog 83 #[v, .func (.func 81) #[] #[]] W fun e W' => ∃ v', e = .returned v' ∧ CopyOf W0 W (n + 1) 61 [v] W' [v'] := by
  obtain ⟨i0, hi0, hz0, hz1, hz2⟩ := info_parts infoExpr
  have e1 : Try.prog.cellsOf 63 = 11 := by kernel_rfl
  have e8 : Try.prog.bytesOf 63 = 184 := by kernel_rfl
  obtain ⟨a, len, cap, rfl, hlc, ⟨hm, hby, hnil⟩, hc⟩ := goodC_slice Try.underlying61 h
  rw [e1] at hc
  rw [e8] at hby
  by_cases h0 : len = 0
  · subst h0
    go_enter Try.func83, Try.ntmps83
    go_wp2_with fail
    go_ret
    exact ⟨_, rfl, eqC_slice Try.underlying61 ⟨a, 0, cap, none, 0, rfl, rfl, hlc, ⟨hm, by omega, hnil⟩, Nat.le_refl _, ⟨by unfold maxLen; omega, by omega, fun _ => rfl⟩, fun h0 => absurd h0 (Nat.lt_irrefl _)⟩, Below.refl _ _⟩
  · obtain ⟨B, o, rfl, hB, hj⟩ := hc (by omega)
    have HB0 := Lib.hid hb0
    have fn : ∀ j : Nat, ∃ ds : List Value, j < len → ds.length = 11 ∧ W0.rangeAt B (o + j * 11) ds ∧ GoodC Try.prog W0 n 63 ds := fun j => by
      by_cases hjl : j < len
      · obtain ⟨ds, h1⟩ := hj j hjl; exact ⟨ds, fun _ => h1⟩
      · exact ⟨[], fun h => absurd h hjl⟩
    obtain ⟨X, hX⟩ := Classical.axiomOfChoice fn
    have HX := Lib.hid hX
    have HO := Lib.hid hone
    have HBY := Lib.hid (And.intro hlc (And.intro hm hby))
    have z1 : ((len : Int) == 0) = false := by simpa using h0
    have hl63 : len ≤ 9223372036854775807 := by have := HBY.out.2.1; unfold maxLen at this; omega
    clear hj fn hX hone h hc hnil hb0 hby hm
    go_enter Try.func83, Try.ntmps83
    go_wp2_with (first
      | (with_reducible refine wpList_make_wide _ rfl _ _ 61 rfl 63 i0 (.agg #[.int .i64 0, .slice none 0 0, .string ⟨#[]⟩, .slice none 0 0, .int .i64 0, .int .i64 0, .string ⟨#[]⟩, .slice none 0 0, .slice none 0 0, .int .i64 0, .slice none 0 0]) Try.underlying61 hi0 hz0 len ?ml ?mc ?mb hl63 ?_))
    first | (case ml => rfl) | skip
    first | (case mc => rfl) | skip
    case mb => first | (rw [hz2]; have := HBY.out.2.2; omega) | (have := HBY.out.2.2; omega)
    have hbx : Box (W.alloc (.cells (madeCells #[.int .i64 0, .slice none 0 0, .string ⟨#[]⟩, .slice none 0 0, .int .i64 0, .int .i64 0, .string ⟨#[]⟩, .slice none 0 0, .slice none 0 0, .int .i64 0, .slice none 0 0] (len * 11)) 63)) W.heap.size (madeCells #[.int .i64 0, .slice none 0 0, .string ⟨#[]⟩, .slice none 0 0, .int .i64 0, .int .i64 0, .string ⟨#[]⟩, .slice none 0 0, .slice none 0 0, .int .i64 0, .slice none 0 0] (len * 11)).toList := by
      have := Box.new W (madeCells #[.int .i64 0, .slice none 0 0, .string ⟨#[]⟩, .slice none 0 0, .int .i64 0, .int .i64 0, .string ⟨#[]⟩, .slice none 0 0, .slice none 0 0, .int .i64 0, .slice none 0 0] (len * 11)).toList 63
      simpa using this
    have HP0 : Hid (Cpg W0 W n 63 11 W.heap.size X len 0 (W.alloc (.cells (madeCells #[.int .i64 0, .slice none 0 0, .string ⟨#[]⟩, .slice none 0 0, .int .i64 0, .int .i64 0, .string ⟨#[]⟩, .slice none 0 0, .slice none 0 0, .int .i64 0, .slice none 0 0] (len * 11)) 63))) := Lib.hid ⟨(Below.refl _ _).alloc (Nat.le_refl _) _, rfl, _, hbx, by rw [Array.length_toList, size_madeCells], fun j hj => absurd hj (Nat.not_lt_zero _)⟩
    clear hbx
    generalize W.alloc (.cells (madeCells #[.int .i64 0, .slice none 0 0, .string ⟨#[]⟩, .slice none 0 0, .int .i64 0, .int .i64 0, .string ⟨#[]⟩, .slice none 0 0, .slice none 0 0, .int .i64 0, .slice none 0 0] (len * 11)) 63) = W1 at *
    obtain ⟨C, hC⟩ : ∃ C, C = W.heap.size := ⟨_, rfl⟩
    rw [← hC] at HP0 ⊢
    have HCC := Lib.hid hC
    clear hC
    go_loopw [16] (fun i wr => ∃ q : Nat, i = .int .i64 q ∧ q ≤ len ∧ Hid (Cpg W0 W n 63 11 C X len q wr)) (fun i wr => len - (intOf i).toNat)
    case atStart => exact ⟨0, rfl, Nat.zero_le _, HP0⟩
    case round =>
      clear HP0
      obtain ⟨q, rfl, hq, HP⟩ := hrel
      by_cases hlast : q = len
      · subst hlast
        go_wp2_with fail
        go_ret
        exact ⟨_, rfl, HP.out.done Try.underlying61 e1 HB0.out hB (fun j hj => ⟨(HX.out j hj).1, (HX.out j hj).2.1⟩) HBY.out.1 HBY.out.2.1 (by rw [e8]; exact HBY.out.2.2)⟩
      · have hql : q < len := by omega
        obtain ⟨x1, x2, x3⟩ := HX.out q hql
        have r1 : wr.rangeAt B (o + q * 11) (X q) := range_below (range_below x2 HB0.out hB) HP.out.low (Nat.lt_of_lt_of_le hB HB0.out.size)
        have HXQ := Lib.hid (And.intro x1 x3)
        have hw1 : IntKind.i64.wrap ((q : Int) + 1) = ((q + 1 : Nat) : Int) := by rw [IntKind.wrap_i64]; omega
        have hx5 : (Try.prog.info? 63).map (·.size) = some (X q).length := by rw [x1]; exact wideExpr.1
        clear x1 x2 x3
        have HR1 := Lib.hid r1
        have HBX := Lib.hid (BoxN.new wr [.int .i64 0, .slice none 0 0, .string ⟨#[]⟩, .slice none 0 0, .int .i64 0, .int .i64 0, .string ⟨#[]⟩, .slice none 0 0, .slice none 0 0, .int .i64 0, .slice none 0 0] 11 63 rfl)
        have HXC := Lib.hid (show Cells 11 (X q) from ⟨HXQ.out.1, List.all_eq_true.2 (good_cells_of (by decide) HXQ.out.2)⟩)
        go_wp2_with (first
          | (with_reducible refine wpList_load_mid rfl 63 (.tmp 19) rfl B (o + q * 11) ?lx (X q) _ HR1.out Try.underlying63 rfl hx5 ?_)
          | (with_reducible refine wpList_box_store 63 7 (.tmp 20) wr.heap.size [.int .i64 0, .slice none 0 0, .string ⟨#[]⟩, .slice none 0 0, .int .i64 0, .int .i64 0, .string ⟨#[]⟩, .slice none 0 0, .slice none 0 0, .int .i64 0, .slice none 0 0] (X q) _ _ _ _ _ _ ?sx ?sy HBX.out HXC.out wideExpr ?_))
        first | (case lx => rfl) | skip
        first | (case sx => rfl) | skip
        first | (case sy => rfl) | skip
        intro w5 hB5 hO5
        have hb5 : Below wr.heap.size wr w5 := ((Below.refl _ _).alloc (Nat.le_refl _) _).trans (hO5.below _ (Nat.le_refl _))
        have HB5 := Lib.hid hB5
        have HL5 := Lib.hid hb5
        have HW5 := Lib.hid (show Below W0.heap.size W0 w5 from (HB0.out.trans (HP.out.low.mono HB0.out.size)).trans (hb5.mono (Nat.le_trans HB0.out.size HP.out.low.size)))
        clear hB5 hO5 hb5 r1 hx5
        go_wp2_with (first
          | (with_reducible refine wpList_box_load 63 7 wr.heap.size (X q) _ _ _ _ _ _ ?bx HB5.out wideExpr ?_))
        first | (case bx => rfl) | skip
        refine (HO.out w5 (X q) HW5.out HXQ.out.2).mono ?_
        rintro e w6 ⟨ys, rfl, hcp⟩
        have HCP := Lib.hid hcp
        have hyl : ys.length = 11 := by rw [eqC_len Try.underlying63 hcp.1, e1]
        have HY1 := Lib.hid (good_cells_of (by decide) (EqC.good _ _ _ _ (EqC.symm _ _ _ _ hcp.1)))
        clear hcp
        obtain ⟨cs, hbx, hlen, hjj⟩ := HP.out.row
        have hth : w6.there C (q * 11) ys.toArray.size := by
          have h6 := (hbx.keep HL5.out).keep HCP.out.2
          refine h6.there _ _ ?_
          rw [List.size_toArray, hyl, hlen]
          omega
        clear hbx hlen hjj
        go_wp2_with (first
          | (with_reducible refine wpList_store_mid rfl 63 (.tmp 26) (.tmp 25) rfl C (q * 11) ys.toArray ?mx ?my hth ?mi ?m1 ?_))
        first | (case mx => rfl) | skip
        first | (case my => rfl) | skip
        first | (case mi => rw [List.size_toArray, hyl]; exact wideExpr.1) | skip
        first | (case m1 => exact all_oneCell_toArray HY1.out) | skip
        refine ⟨⟨q + 1, by first | rfl | (push_cast; rfl), hql, Lib.hid (HP.out.step HB0.out.size hql (HL5.out.trans (HCP.out.2.mono HL5.out.size)) hyl ?_)⟩, by simp [intOf]; omega⟩
        exact EqC.kept (Nat.le_refl _) (Nat.le_refl _) (fun _ _ _ => rfl) (fun _ _ _ => rfl) (fun _ h _ => h) (fun i h _ => Nat.le_trans HL5.out.size h) _ _ _ _ HCP.out.1
theorem infoPred : (Try.prog.info? 66).map (fun i => (i.zero, i.size, i.bytes)) = some (some (.agg #[.int .i64 0, .slice none 0 0, .int .i64 0, .int .i64 0, .string ⟨#[]⟩, .slice none 0 0, .slice none 0 0, .slice none 0 0, .int .i64 0, .int .i64 0, .int .i64 0, .slice none 0 0, .int .i64 0, .int .i64 0, .slice none 0 0, .string ⟨#[]⟩, .slice none 0 0, .int .i64 0, .int .i64 0, .string ⟨#[]⟩, .slice none 0 0, .slice none 0 0, .int .i64 0, .slice none 0 0, .slice none 0 0]), 25, 400) := by kernel_rfl
theorem widePred : Wide Try.prog 66 25 := ⟨by kernel_rfl, _, Try.underlying66, rfl⟩
set_option maxHeartbeats 3200000 in
theorem copyAll_Pred (n : Nat) (v : Value) (W0 W : World) (hb0 : Below W0.heap.size W0 W) (h : GoodC Try.prog W0 (n + 1) 64 [v]) (hone : OneOK 75 66 n W0) :
    Calls Try.prog 82 #[v, .func (.func 75) #[] #[]] W fun e W' => ∃ v', e = .returned v' ∧ CopyOf W0 W (n + 1) 64 [v] W' [v'] := by
  obtain ⟨i0, hi0, hz0, hz1, hz2⟩ := info_parts infoPred
  have e1 : Try.prog.cellsOf 66 = 25 := by kernel_rfl
  have e8 : Try.prog.bytesOf 66 = 400 := by kernel_rfl
  obtain ⟨a, len, cap, rfl, hlc, ⟨hm, hby, hnil⟩, hc⟩ := goodC_slice Try.underlying64 h
  rw [e1] at hc
  rw [e8] at hby
  by_cases h0 : len = 0
  · subst h0
    go_enter Try.func82, Try.ntmps82
    go_wp2_with fail
    go_ret
    exact ⟨_, rfl, eqC_slice Try.underlying64 ⟨a, 0, cap, none, 0, rfl, rfl, hlc, ⟨hm, by omega, hnil⟩, Nat.le_refl _, ⟨by unfold maxLen; omega, by omega, fun _ => rfl⟩, fun h0 => absurd h0 (Nat.lt_irrefl _)⟩, Below.refl _ _⟩
  · obtain ⟨B, o, rfl, hB, hj⟩ := hc (by omega)
    have HB0 := Lib.hid hb0
    have fn : ∀ j : Nat, ∃ ds : List Value, j < len → ds.length = 25 ∧ W0.rangeAt B (o + j * 25) ds ∧ GoodC Try.prog W0 n 66 ds := fun j => by
      by_cases hjl : j < len
      · obtain ⟨ds, h1⟩ := hj j hjl; exact ⟨ds, fun _ => h1⟩
      · exact ⟨[], fun h => absurd h hjl⟩
    obtain ⟨X, hX⟩ := Classical.axiomOfChoice fn
    have HX := Lib.hid hX
    have HO := Lib.hid hone
    have HBY := Lib.hid (And.intro hlc (And.intro hm hby))
    have z1 : ((len : Int) == 0) = false := by simpa using h0
    have hl63 : len ≤ 9223372036854775807 := by have := HBY.out.2.1; unfold maxLen at this; omega
    clear hj fn hX hone h hc hnil hb0 hby hm
    go_enter Try.func82, Try.ntmps82
    go_wp2_with (first
      | (with_reducible refine wpList_make_wide _ rfl _ _ 64 rfl 66 i0 (.agg #[.int .i64 0, .slice none 0 0, .int .i64 0, .int .i64 0, .string ⟨#[]⟩, .slice none 0 0, .slice none 0 0, .slice none 0 0, .int .i64 0, .int .i64 0, .int .i64 0, .slice none 0 0, .int .i64 0, .int .i64 0, .slice none 0 0, .string ⟨#[]⟩, .slice none 0 0, .int .i64 0, .int .i64 0, .string ⟨#[]⟩, .slice none 0 0, .slice none 0 0, .int .i64 0, .slice none 0 0, .slice none 0 0]) Try.underlying64 hi0 hz0 len ?ml ?mc ?mb hl63 ?_))
    first | (case ml => rfl) | skip
    first | (case mc => rfl) | skip
    case mb => first | (rw [hz2]; have := HBY.out.2.2; omega) | (have := HBY.out.2.2; omega)
    have hbx : Box (W.alloc (.cells (madeCells #[.int .i64 0, .slice none 0 0, .int .i64 0, .int .i64 0, .string ⟨#[]⟩, .slice none 0 0, .slice none 0 0, .slice none 0 0, .int .i64 0, .int .i64 0, .int .i64 0, .slice none 0 0, .int .i64 0, .int .i64 0, .slice none 0 0, .string ⟨#[]⟩, .slice none 0 0, .int .i64 0, .int .i64 0, .string ⟨#[]⟩, .slice none 0 0, .slice none 0 0, .int .i64 0, .slice none 0 0, .slice none 0 0] (len * 25)) 66)) W.heap.size (madeCells #[.int .i64 0, .slice none 0 0, .int .i64 0, .int .i64 0, .string ⟨#[]⟩, .slice none 0 0, .slice none 0 0, .slice none 0 0, .int .i64 0, .int .i64 0, .int .i64 0, .slice none 0 0, .int .i64 0, .int .i64 0, .slice none 0 0, .string ⟨#[]⟩, .slice none 0 0, .int .i64 0, .int .i64 0, .string ⟨#[]⟩, .slice none 0 0, .slice none 0 0, .int .i64 0, .slice none 0 0, .slice none 0 0] (len * 25)).toList := by
      have := Box.new W (madeCells #[.int .i64 0, .slice none 0 0, .int .i64 0, .int .i64 0, .string ⟨#[]⟩, .slice none 0 0, .slice none 0 0, .slice none 0 0, .int .i64 0, .int .i64 0, .int .i64 0, .slice none 0 0, .int .i64 0, .int .i64 0, .slice none 0 0, .string ⟨#[]⟩, .slice none 0 0, .int .i64 0, .int .i64 0, .string ⟨#[]⟩, .slice none 0 0, .slice none 0 0, .int .i64 0, .slice none 0 0, .slice none 0 0] (len * 25)).toList 66
      simpa using this
    have HP0 : Hid (Cpg W0 W n 66 25 W.heap.size X len 0 (W.alloc (.cells (madeCells #[.int .i64 0, .slice none 0 0, .int .i64 0, .int .i64 0, .string ⟨#[]⟩, .slice none 0 0, .slice none 0 0, .slice none 0 0, .int .i64 0, .int .i64 0, .int .i64 0, .slice none 0 0, .int .i64 0, .int .i64 0, .slice none 0 0, .string ⟨#[]⟩, .slice none 0 0, .int .i64 0, .int .i64 0, .string ⟨#[]⟩, .slice none 0 0, .slice none 0 0, .int .i64 0, .slice none 0 0, .slice none 0 0] (len * 25)) 66))) := Lib.hid ⟨(Below.refl _ _).alloc (Nat.le_refl _) _, rfl, _, hbx, by rw [Array.length_toList, size_madeCells], fun j hj => absurd hj (Nat.not_lt_zero _)⟩
    clear hbx
    generalize W.alloc (.cells (madeCells #[.int .i64 0, .slice none 0 0, .int .i64 0, .int .i64 0, .string ⟨#[]⟩, .slice none 0 0, .slice none 0 0, .slice none 0 0, .int .i64 0, .int .i64 0, .int .i64 0, .slice none 0 0, .int .i64 0, .int .i64 0, .slice none 0 0, .string ⟨#[]⟩, .slice none 0 0, .int .i64 0, .int .i64 0, .string ⟨#[]⟩, .slice none 0 0, .slice none 0 0, .int .i64 0, .slice none 0 0, .slice none 0 0] (len * 25)) 66) = W1 at *
    obtain ⟨C, hC⟩ : ∃ C, C = W.heap.size := ⟨_, rfl⟩
    rw [← hC] at HP0 ⊢
    have HCC := Lib.hid hC
    clear hC
    go_loopw [16] (fun i wr => ∃ q : Nat, i = .int .i64 q ∧ q ≤ len ∧ Hid (Cpg W0 W n 66 25 C X len q wr)) (fun i wr => len - (intOf i).toNat)
    case atStart => exact ⟨0, rfl, Nat.zero_le _, HP0⟩
    case round =>
      clear HP0
      obtain ⟨q, rfl, hq, HP⟩ := hrel
      by_cases hlast : q = len
      · subst hlast
        go_wp2_with fail
        go_ret
        exact ⟨_, rfl, HP.out.done Try.underlying64 e1 HB0.out hB (fun j hj => ⟨(HX.out j hj).1, (HX.out j hj).2.1⟩) HBY.out.1 HBY.out.2.1 (by rw [e8]; exact HBY.out.2.2)⟩
      · have hql : q < len := by omega
        obtain ⟨x1, x2, x3⟩ := HX.out q hql
        have r1 : wr.rangeAt B (o + q * 25) (X q) := range_below (range_below x2 HB0.out hB) HP.out.low (Nat.lt_of_lt_of_le hB HB0.out.size)
        have HXQ := Lib.hid (And.intro x1 x3)
        have hw1 : IntKind.i64.wrap ((q : Int) + 1) = ((q + 1 : Nat) : Int) := by rw [IntKind.wrap_i64]; omega
        have hx5 : (Try.prog.info? 66).map (·.size) = some (X q).length := by rw [x1]; exact widePred.1
        clear x1 x2 x3
        have HR1 := Lib.hid r1
        have HBX := Lib.hid (BoxN.new wr [.int .i64 0, .slice none 0 0, .int .i64 0, .int .i64 0, .string ⟨#[]⟩, .slice none 0 0, .slice none 0 0, .slice none 0 0, .int .i64 0, .int .i64 0, .int .i64 0, .slice none 0 0, .int .i64 0, .int .i64 0, .slice none 0 0, .string ⟨#[]⟩, .slice none 0 0, .int .i64 0, .int .i64 0, .string ⟨#[]⟩, .slice none 0 0, .slice none 0 0, .int .i64 0, .slice none 0 0, .slice none 0 0] 25 66 rfl)
        have HXC := Lib.hid (show Cells 25 (X q) from ⟨HXQ.out.1, List.all_eq_true.2 (good_cells_of (by decide) HXQ.out.2)⟩)
        go_wp2_with (first
          | (with_reducible refine wpList_load_mid rfl 66 (.tmp 19) rfl B (o + q * 25) ?lx (X q) _ HR1.out Try.underlying66 rfl hx5 ?_)
          | (with_reducible refine wpList_box_store 66 7 (.tmp 20) wr.heap.size [.int .i64 0, .slice none 0 0, .int .i64 0, .int .i64 0, .string ⟨#[]⟩, .slice none 0 0, .slice none 0 0, .slice none 0 0, .int .i64 0, .int .i64 0, .int .i64 0, .slice none 0 0, .int .i64 0, .int .i64 0, .slice none 0 0, .string ⟨#[]⟩, .slice none 0 0, .int .i64 0, .int .i64 0, .string ⟨#[]⟩, .slice none 0 0, .slice none 0 0, .int .i64 0, .slice none 0 0, .slice none 0 0] (X q) _ _ _ _ _ _ ?sx ?sy HBX.out HXC.out widePred ?_))
        first | (case lx => rfl) | skip
        first | (case sx => rfl) | skip
        first | (case sy => rfl) | skip
        intro w5 hB5 hO5
        have hb5 : Below wr.heap.size wr w5 := ((Below.refl _ _).alloc (Nat.le_refl _) _).trans (hO5.below _ (Nat.le_refl _))
        have HB5 := Lib.hid hB5
        have HL5 := Lib.hid hb5
        have HW5 := Lib.hid (show Below W0.heap.size W0 w5 from (HB0.out.trans (HP.out.low.mono HB0.out.size)).trans (hb5.mono (Nat.le_trans HB0.out.size HP.out.low.size)))
        clear hB5 hO5 hb5 r1 hx5
        go_wp2_with (first
          | (with_reducible refine wpList_box_load 66 7 wr.heap.size (X q) _ _ _ _ _ _ ?bx HB5.out widePred ?_))
        first | (case bx => rfl) | skip
        refine (HO.out w5 (X q) HW5.out HXQ.out.2).mono ?_
        rintro e w6 ⟨ys, rfl, hcp⟩
        have HCP := Lib.hid hcp
        have hyl : ys.length = 25 := by rw [eqC_len Try.underlying66 hcp.1, e1]
        have HY1 := Lib.hid (good_cells_of (by decide) (EqC.good _ _ _ _ (EqC.symm _ _ _ _ hcp.1)))
        clear hcp
        obtain ⟨cs, hbx, hlen, hjj⟩ := HP.out.row
        have hth : w6.there C (q * 25) ys.toArray.size := by
          have h6 := (hbx.keep HL5.out).keep HCP.out.2
          refine h6.there _ _ ?_
          rw [List.size_toArray, hyl, hlen]
          omega
        clear hbx hlen hjj
        go_wp2_with (first
          | (with_reducible refine wpList_store_mid rfl 66 (.tmp 26) (.tmp 25) rfl C (q * 25) ys.toArray ?mx ?my hth ?mi ?m1 ?_))
        first | (case mx => rfl) | skip
        first | (case my => rfl) | skip
        first | (case mi => rw [List.size_toArray, hyl]; exact widePred.1) | skip
        first | (case m1 => exact all_oneCell_toArray HY1.out) | skip
        refine ⟨⟨q + 1, by first | rfl | (push_cast; rfl), hql, Lib.hid (HP.out.step HB0.out.size hql (HL5.out.trans (HCP.out.2.mono HL5.out.size)) hyl ?_)⟩, by simp [intOf]; omega⟩
        exact EqC.kept (Nat.le_refl _) (Nat.le_refl _) (fun _ _ _ => rfl) (fun _ _ _ => rfl) (fun _ h _ => h) (fun i h _ => Nat.le_trans HL5.out.size h) _ _ _ _ HCP.out.1
theorem infoOrder : (Try.prog.info? 117).map (fun i => (i.zero, i.size, i.bytes)) = some (some (.agg #[.slice none 0 0, .bool false]), 2, 32) := by kernel_rfl
theorem wideOrder : Wide Try.prog 117 2 := ⟨by kernel_rfl, _, Try.underlying117, rfl⟩
set_option maxHeartbeats 3200000 in
theorem copyAll_Order (n : Nat) (v : Value) (W0 W : World) (hb0 : Below W0.heap.size W0 W) (h : GoodC Try.prog W0 (n + 1) 57 [v]) (hone : OneOK 74 117 n W0) :
    Calls Try.prog 73 #[v, .func (.func 74) #[] #[]] W fun e W' => ∃ v', e = .returned v' ∧ CopyOf W0 W (n + 1) 57 [v] W' [v'] := by
  obtain ⟨i0, hi0, hz0, hz1, hz2⟩ := info_parts infoOrder
  have e1 : Try.prog.cellsOf 117 = 2 := by kernel_rfl
  have e8 : Try.prog.bytesOf 117 = 32 := by kernel_rfl
  obtain ⟨a, len, cap, rfl, hlc, ⟨hm, hby, hnil⟩, hc⟩ := goodC_slice Try.underlying57 h
  rw [e1] at hc
  rw [e8] at hby
  by_cases h0 : len = 0
  · subst h0
    go_enter Try.func73, Try.ntmps73
    go_wp2_with fail
    go_ret
    exact ⟨_, rfl, eqC_slice Try.underlying57 ⟨a, 0, cap, none, 0, rfl, rfl, hlc, ⟨hm, by omega, hnil⟩, Nat.le_refl _, ⟨by unfold maxLen; omega, by omega, fun _ => rfl⟩, fun h0 => absurd h0 (Nat.lt_irrefl _)⟩, Below.refl _ _⟩
  · obtain ⟨B, o, rfl, hB, hj⟩ := hc (by omega)
    have HB0 := Lib.hid hb0
    have fn : ∀ j : Nat, ∃ ds : List Value, j < len → ds.length = 2 ∧ W0.rangeAt B (o + j * 2) ds ∧ GoodC Try.prog W0 n 117 ds := fun j => by
      by_cases hjl : j < len
      · obtain ⟨ds, h1⟩ := hj j hjl; exact ⟨ds, fun _ => h1⟩
      · exact ⟨[], fun h => absurd h hjl⟩
    obtain ⟨X, hX⟩ := Classical.axiomOfChoice fn
    have HX := Lib.hid hX
    have HO := Lib.hid hone
    have HBY := Lib.hid (And.intro hlc (And.intro hm hby))
    have z1 : ((len : Int) == 0) = false := by simpa using h0
    have hl63 : len ≤ 9223372036854775807 := by have := HBY.out.2.1; unfold maxLen at this; omega
    clear hj fn hX hone h hc hnil hb0 hby hm
    go_enter Try.func73, Try.ntmps73
    go_wp2_with (first
      | (with_reducible refine wpList_make_wide _ rfl _ _ 57 rfl 117 i0 (.agg #[.slice none 0 0, .bool false]) Try.underlying57 hi0 hz0 len ?ml ?mc ?mb hl63 ?_))
    first | (case ml => rfl) | skip
    first | (case mc => rfl) | skip
    case mb => first | (rw [hz2]; have := HBY.out.2.2; omega) | (have := HBY.out.2.2; omega)
    have hbx : Box (W.alloc (.cells (madeCells #[.slice none 0 0, .bool false] (len * 2)) 117)) W.heap.size (madeCells #[.slice none 0 0, .bool false] (len * 2)).toList := by
      have := Box.new W (madeCells #[.slice none 0 0, .bool false] (len * 2)).toList 117
      simpa using this
    have HP0 : Hid (Cpg W0 W n 117 2 W.heap.size X len 0 (W.alloc (.cells (madeCells #[.slice none 0 0, .bool false] (len * 2)) 117))) := Lib.hid ⟨(Below.refl _ _).alloc (Nat.le_refl _) _, rfl, _, hbx, by rw [Array.length_toList, size_madeCells], fun j hj => absurd hj (Nat.not_lt_zero _)⟩
    clear hbx
    generalize W.alloc (.cells (madeCells #[.slice none 0 0, .bool false] (len * 2)) 117) = W1 at *
    obtain ⟨C, hC⟩ : ∃ C, C = W.heap.size := ⟨_, rfl⟩
    rw [← hC] at HP0 ⊢
    have HCC := Lib.hid hC
    clear hC
    go_loopw [16] (fun i wr => ∃ q : Nat, i = .int .i64 q ∧ q ≤ len ∧ Hid (Cpg W0 W n 117 2 C X len q wr)) (fun i wr => len - (intOf i).toNat)
    case atStart => exact ⟨0, rfl, Nat.zero_le _, HP0⟩
    case round =>
      clear HP0
      obtain ⟨q, rfl, hq, HP⟩ := hrel
      by_cases hlast : q = len
      · subst hlast
        go_wp2_with fail
        go_ret
        exact ⟨_, rfl, HP.out.done Try.underlying57 e1 HB0.out hB (fun j hj => ⟨(HX.out j hj).1, (HX.out j hj).2.1⟩) HBY.out.1 HBY.out.2.1 (by rw [e8]; exact HBY.out.2.2)⟩
      · have hql : q < len := by omega
        obtain ⟨x1, x2, x3⟩ := HX.out q hql
        have r1 : wr.rangeAt B (o + q * 2) (X q) := range_below (range_below x2 HB0.out hB) HP.out.low (Nat.lt_of_lt_of_le hB HB0.out.size)
        have HXQ := Lib.hid (And.intro x1 x3)
        have hw1 : IntKind.i64.wrap ((q : Int) + 1) = ((q + 1 : Nat) : Int) := by rw [IntKind.wrap_i64]; omega
        have hx5 : (Try.prog.info? 117).map (·.size) = some (X q).length := by rw [x1]; exact wideOrder.1
        clear x1 x2 x3
        have HR1 := Lib.hid r1
        have HBX := Lib.hid (BoxN.new wr [.slice none 0 0, .bool false] 2 117 rfl)
        have HXC := Lib.hid (show Cells 2 (X q) from ⟨HXQ.out.1, List.all_eq_true.2 (good_cells_of (by decide) HXQ.out.2)⟩)
        go_wp2_with (first
          | (with_reducible refine wpList_load_mid rfl 117 (.tmp 19) rfl B (o + q * 2) ?lx (X q) _ HR1.out Try.underlying117 rfl hx5 ?_)
          | (with_reducible refine wpList_box_store 117 7 (.tmp 20) wr.heap.size [.slice none 0 0, .bool false] (X q) _ _ _ _ _ _ ?sx ?sy HBX.out HXC.out wideOrder ?_))
        first | (case lx => rfl) | skip
        first | (case sx => rfl) | skip
        first | (case sy => rfl) | skip
        intro w5 hB5 hO5
        have hb5 : Below wr.heap.size wr w5 := ((Below.refl _ _).alloc (Nat.le_refl _) _).trans (hO5.below _ (Nat.le_refl _))
        have HB5 := Lib.hid hB5
        have HL5 := Lib.hid hb5
        have HW5 := Lib.hid (show Below W0.heap.size W0 w5 from (HB0.out.trans (HP.out.low.mono HB0.out.size)).trans (hb5.mono (Nat.le_trans HB0.out.size HP.out.low.size)))
        clear hB5 hO5 hb5 r1 hx5
        go_wp2_with (first
          | (with_reducible refine wpList_box_load 117 7 wr.heap.size (X q) _ _ _ _ _ _ ?bx HB5.out wideOrder ?_))
        first | (case bx => rfl) | skip
        refine (HO.out w5 (X q) HW5.out HXQ.out.2).mono ?_
        rintro e w6 ⟨ys, rfl, hcp⟩
        have HCP := Lib.hid hcp
        have hyl : ys.length = 2 := by rw [eqC_len Try.underlying117 hcp.1, e1]
        have HY1 := Lib.hid (good_cells_of (by decide) (EqC.good _ _ _ _ (EqC.symm _ _ _ _ hcp.1)))
        clear hcp
        obtain ⟨cs, hbx, hlen, hjj⟩ := HP.out.row
        have hth : w6.there C (q * 2) ys.toArray.size := by
          have h6 := (hbx.keep HL5.out).keep HCP.out.2
          refine h6.there _ _ ?_
          rw [List.size_toArray, hyl, hlen]
          omega
        clear hbx hlen hjj
        go_wp2_with (first
          | (with_reducible refine wpList_store_mid rfl 117 (.tmp 26) (.tmp 25) rfl C (q * 2) ys.toArray ?mx ?my hth ?mi ?m1 ?_))
        first | (case mx => rfl) | skip
        first | (case my => rfl) | skip
        first | (case mi => rw [List.size_toArray, hyl]; exact wideOrder.1) | skip
        first | (case m1 => exact all_oneCell_toArray HY1.out) | skip
        refine ⟨⟨q + 1, by first | rfl | (push_cast; rfl), hql, Lib.hid (HP.out.step HB0.out.size hql (HL5.out.trans (HCP.out.2.mono HL5.out.size)) hyl ?_)⟩, by simp [intOf]; omega⟩
        exact EqC.kept (Nat.le_refl _) (Nat.le_refl _) (fun _ _ _ => rfl) (fun _ _ _ => rfl) (fun _ h _ => h) (fun i h _ => Nat.le_trans HL5.out.size h) _ _ _ _ HCP.out.1
theorem infoIndex : (Try.prog.info? 68).map (fun i => (i.zero, i.size, i.bytes)) = some (some (.agg #[.string ⟨#[]⟩, .int .i64 0, .slice none 0 0, .bool false, .bool false, .bool false, .int .i64 0, .slice none 0 0, .int .i64 0, .int .i64 0, .string ⟨#[]⟩, .slice none 0 0, .slice none 0 0, .slice none 0 0, .int .i64 0, .int .i64 0, .int .i64 0, .slice none 0 0, .int .i64 0, .int .i64 0, .slice none 0 0, .string ⟨#[]⟩, .slice none 0 0, .int .i64 0, .int .i64 0, .string ⟨#[]⟩, .slice none 0 0, .slice none 0 0, .int .i64 0, .slice none 0 0, .slice none 0 0]), 31, 456) := by kernel_rfl
theorem wideIndex : Wide Try.prog 68 31 := ⟨by kernel_rfl, _, Try.underlying68, rfl⟩
set_option maxHeartbeats 3200000 in
theorem copyAll_Index (n : Nat) (v : Value) (W0 W : World) (hb0 : Below W0.heap.size W0 W) (h : GoodC Try.prog W0 (n + 1) 49 [v]) (hone : OneOK 62 68 n W0) :
    Calls Try.prog 71 #[v, .func (.func 62) #[] #[]] W fun e W' => ∃ v', e = .returned v' ∧ CopyOf W0 W (n + 1) 49 [v] W' [v'] := by
  obtain ⟨i0, hi0, hz0, hz1, hz2⟩ := info_parts infoIndex
  have e1 : Try.prog.cellsOf 68 = 31 := by kernel_rfl
  have e8 : Try.prog.bytesOf 68 = 456 := by kernel_rfl
  obtain ⟨a, len, cap, rfl, hlc, ⟨hm, hby, hnil⟩, hc⟩ := goodC_slice Try.underlying49 h
  rw [e1] at hc
  rw [e8] at hby
  by_cases h0 : len = 0
  · subst h0
    go_enter Try.func71, Try.ntmps71
    go_wp2_with fail
    go_ret
    exact ⟨_, rfl, eqC_slice Try.underlying49 ⟨a, 0, cap, none, 0, rfl, rfl, hlc, ⟨hm, by omega, hnil⟩, Nat.le_refl _, ⟨by unfold maxLen; omega, by omega, fun _ => rfl⟩, fun h0 => absurd h0 (Nat.lt_irrefl _)⟩, Below.refl _ _⟩
  · obtain ⟨B, o, rfl, hB, hj⟩ := hc (by omega)
    have HB0 := Lib.hid hb0
    have fn : ∀ j : Nat, ∃ ds : List Value, j < len → ds.length = 31 ∧ W0.rangeAt B (o + j * 31) ds ∧ GoodC Try.prog W0 n 68 ds := fun j => by
      by_cases hjl : j < len
      · obtain ⟨ds, h1⟩ := hj j hjl; exact ⟨ds, fun _ => h1⟩
      · exact ⟨[], fun h => absurd h hjl⟩
    obtain ⟨X, hX⟩ := Classical.axiomOfChoice fn
    have HX := Lib.hid hX
    have HO := Lib.hid hone
    have HBY := Lib.hid (And.intro hlc (And.intro hm hby))
    have z1 : ((len : Int) == 0) = false := by simpa using h0
    have hl63 : len ≤ 9223372036854775807 := by have := HBY.out.2.1; unfold maxLen at this; omega
    clear hj fn hX hone h hc hnil hb0 hby hm
    go_enter Try.func71, Try.ntmps71
    go_wp2_with (first
      | (with_reducible refine wpList_make_wide _ rfl _ _ 49 rfl 68 i0 (.agg #[.string ⟨#[]⟩, .int .i64 0, .slice none 0 0, .bool false, .bool false, .bool false, .int .i64 0, .slice none 0 0, .int .i64 0, .int .i64 0, .string ⟨#[]⟩, .slice none 0 0, .slice none 0 0, .slice none 0 0, .int .i64 0, .int .i64 0, .int .i64 0, .slice none 0 0, .int .i64 0, .int .i64 0, .slice none 0 0, .string ⟨#[]⟩, .slice none 0 0, .int .i64 0, .int .i64 0, .string ⟨#[]⟩, .slice none 0 0, .slice none 0 0, .int .i64 0, .slice none 0 0, .slice none 0 0]) Try.underlying49 hi0 hz0 len ?ml ?mc ?mb hl63 ?_))
    first | (case ml => rfl) | skip
    first | (case mc => rfl) | skip
    case mb => first | (rw [hz2]; have := HBY.out.2.2; omega) | (have := HBY.out.2.2; omega)
    have hbx : Box (W.alloc (.cells (madeCells #[.string ⟨#[]⟩, .int .i64 0, .slice none 0 0, .bool false, .bool false, .bool false, .int .i64 0, .slice none 0 0, .int .i64 0, .int .i64 0, .string ⟨#[]⟩, .slice none 0 0, .slice none 0 0, .slice none 0 0, .int .i64 0, .int .i64 0, .int .i64 0, .slice none 0 0, .int .i64 0, .int .i64 0, .slice none 0 0, .string ⟨#[]⟩, .slice none 0 0, .int .i64 0, .int .i64 0, .string ⟨#[]⟩, .slice none 0 0, .slice none 0 0, .int .i64 0, .slice none 0 0, .slice none 0 0] (len * 31)) 68)) W.heap.size (madeCells #[.string ⟨#[]⟩, .int .i64 0, .slice none 0 0, .bool false, .bool false, .bool false, .int .i64 0, .slice none 0 0, .int .i64 0, .int .i64 0, .string ⟨#[]⟩, .slice none 0 0, .slice none 0 0, .slice none 0 0, .int .i64 0, .int .i64 0, .int .i64 0, .slice none 0 0, .int .i64 0, .int .i64 0, .slice none 0 0, .string ⟨#[]⟩, .slice none 0 0, .int .i64 0, .int .i64 0, .string ⟨#[]⟩, .slice none 0 0, .slice none 0 0, .int .i64 0, .slice none 0 0, .slice none 0 0] (len * 31)).toList := by
      have := Box.new W (madeCells #[.string ⟨#[]⟩, .int .i64 0, .slice none 0 0, .bool false, .bool false, .bool false, .int .i64 0, .slice none 0 0, .int .i64 0, .int .i64 0, .string ⟨#[]⟩, .slice none 0 0, .slice none 0 0, .slice none 0 0, .int .i64 0, .int .i64 0, .int .i64 0, .slice none 0 0, .int .i64 0, .int .i64 0, .slice none 0 0, .string ⟨#[]⟩, .slice none 0 0, .int .i64 0, .int .i64 0, .string ⟨#[]⟩, .slice none 0 0, .slice none 0 0, .int .i64 0, .slice none 0 0, .slice none 0 0] (len * 31)).toList 68
      simpa using this
    have HP0 : Hid (Cpg W0 W n 68 31 W.heap.size X len 0 (W.alloc (.cells (madeCells #[.string ⟨#[]⟩, .int .i64 0, .slice none 0 0, .bool false, .bool false, .bool false, .int .i64 0, .slice none 0 0, .int .i64 0, .int .i64 0, .string ⟨#[]⟩, .slice none 0 0, .slice none 0 0, .slice none 0 0, .int .i64 0, .int .i64 0, .int .i64 0, .slice none 0 0, .int .i64 0, .int .i64 0, .slice none 0 0, .string ⟨#[]⟩, .slice none 0 0, .int .i64 0, .int .i64 0, .string ⟨#[]⟩, .slice none 0 0, .slice none 0 0, .int .i64 0, .slice none 0 0, .slice none 0 0] (len * 31)) 68))) := Lib.hid ⟨(Below.refl _ _).alloc (Nat.le_refl _) _, rfl, _, hbx, by rw [Array.length_toList, size_madeCells], fun j hj => absurd hj (Nat.not_lt_zero _)⟩
    clear hbx
    generalize W.alloc (.cells (madeCells #[.string ⟨#[]⟩, .int .i64 0, .slice none 0 0, .bool false, .bool false, .bool false, .int .i64 0, .slice none 0 0, .int .i64 0, .int .i64 0, .string ⟨#[]⟩, .slice none 0 0, .slice none 0 0, .slice none 0 0, .int .i64 0, .int .i64 0, .int .i64 0, .slice none 0 0, .int .i64 0, .int .i64 0, .slice none 0 0, .string ⟨#[]⟩, .slice none 0 0, .int .i64 0, .int .i64 0, .string ⟨#[]⟩, .slice none 0 0, .slice none 0 0, .int .i64 0, .slice none 0 0, .slice none 0 0] (len * 31)) 68) = W1 at *
    obtain ⟨C, hC⟩ : ∃ C, C = W.heap.size := ⟨_, rfl⟩
    rw [← hC] at HP0 ⊢
    have HCC := Lib.hid hC
    clear hC
    go_loopw [16] (fun i wr => ∃ q : Nat, i = .int .i64 q ∧ q ≤ len ∧ Hid (Cpg W0 W n 68 31 C X len q wr)) (fun i wr => len - (intOf i).toNat)
    case atStart => exact ⟨0, rfl, Nat.zero_le _, HP0⟩
    case round =>
      clear HP0
      obtain ⟨q, rfl, hq, HP⟩ := hrel
      by_cases hlast : q = len
      · subst hlast
        go_wp2_with fail
        go_ret
        exact ⟨_, rfl, HP.out.done Try.underlying49 e1 HB0.out hB (fun j hj => ⟨(HX.out j hj).1, (HX.out j hj).2.1⟩) HBY.out.1 HBY.out.2.1 (by rw [e8]; exact HBY.out.2.2)⟩
      · have hql : q < len := by omega
        obtain ⟨x1, x2, x3⟩ := HX.out q hql
        have r1 : wr.rangeAt B (o + q * 31) (X q) := range_below (range_below x2 HB0.out hB) HP.out.low (Nat.lt_of_lt_of_le hB HB0.out.size)
        have HXQ := Lib.hid (And.intro x1 x3)
        have hw1 : IntKind.i64.wrap ((q : Int) + 1) = ((q + 1 : Nat) : Int) := by rw [IntKind.wrap_i64]; omega
        have hx5 : (Try.prog.info? 68).map (·.size) = some (X q).length := by rw [x1]; exact wideIndex.1
        clear x1 x2 x3
        have HR1 := Lib.hid r1
        have HBX := Lib.hid (BoxN.new wr [.string ⟨#[]⟩, .int .i64 0, .slice none 0 0, .bool false, .bool false, .bool false, .int .i64 0, .slice none 0 0, .int .i64 0, .int .i64 0, .string ⟨#[]⟩, .slice none 0 0, .slice none 0 0, .slice none 0 0, .int .i64 0, .int .i64 0, .int .i64 0, .slice none 0 0, .int .i64 0, .int .i64 0, .slice none 0 0, .string ⟨#[]⟩, .slice none 0 0, .int .i64 0, .int .i64 0, .string ⟨#[]⟩, .slice none 0 0, .slice none 0 0, .int .i64 0, .slice none 0 0, .slice none 0 0] 31 68 rfl)
        have HXC := Lib.hid (show Cells 31 (X q) from ⟨HXQ.out.1, List.all_eq_true.2 (good_cells_of (by decide) HXQ.out.2)⟩)
        go_wp2_with (first
          | (with_reducible refine wpList_load_mid rfl 68 (.tmp 19) rfl B (o + q * 31) ?lx (X q) _ HR1.out Try.underlying68 rfl hx5 ?_)
          | (with_reducible refine wpList_box_store 68 7 (.tmp 20) wr.heap.size [.string ⟨#[]⟩, .int .i64 0, .slice none 0 0, .bool false, .bool false, .bool false, .int .i64 0, .slice none 0 0, .int .i64 0, .int .i64 0, .string ⟨#[]⟩, .slice none 0 0, .slice none 0 0, .slice none 0 0, .int .i64 0, .int .i64 0, .int .i64 0, .slice none 0 0, .int .i64 0, .int .i64 0, .slice none 0 0, .string ⟨#[]⟩, .slice none 0 0, .int .i64 0, .int .i64 0, .string ⟨#[]⟩, .slice none 0 0, .slice none 0 0, .int .i64 0, .slice none 0 0, .slice none 0 0] (X q) _ _ _ _ _ _ ?sx ?sy HBX.out HXC.out wideIndex ?_))
        first | (case lx => rfl) | skip
        first | (case sx => rfl) | skip
        first | (case sy => rfl) | skip
        intro w5 hB5 hO5
        have hb5 : Below wr.heap.size wr w5 := ((Below.refl _ _).alloc (Nat.le_refl _) _).trans (hO5.below _ (Nat.le_refl _))
        have HB5 := Lib.hid hB5
        have HL5 := Lib.hid hb5
        have HW5 := Lib.hid (show Below W0.heap.size W0 w5 from (HB0.out.trans (HP.out.low.mono HB0.out.size)).trans (hb5.mono (Nat.le_trans HB0.out.size HP.out.low.size)))
        clear hB5 hO5 hb5 r1 hx5
        go_wp2_with (first
          | (with_reducible refine wpList_box_load 68 7 wr.heap.size (X q) _ _ _ _ _ _ ?bx HB5.out wideIndex ?_))
        first | (case bx => rfl) | skip
        refine (HO.out w5 (X q) HW5.out HXQ.out.2).mono ?_
        rintro e w6 ⟨ys, rfl, hcp⟩
        have HCP := Lib.hid hcp
        have hyl : ys.length = 31 := by rw [eqC_len Try.underlying68 hcp.1, e1]
        have HY1 := Lib.hid (good_cells_of (by decide) (EqC.good _ _ _ _ (EqC.symm _ _ _ _ hcp.1)))
        clear hcp
        obtain ⟨cs, hbx, hlen, hjj⟩ := HP.out.row
        have hth : w6.there C (q * 31) ys.toArray.size := by
          have h6 := (hbx.keep HL5.out).keep HCP.out.2
          refine h6.there _ _ ?_
          rw [List.size_toArray, hyl, hlen]
          omega
        clear hbx hlen hjj
        go_wp2_with (first
          | (with_reducible refine wpList_store_mid rfl 68 (.tmp 26) (.tmp 25) rfl C (q * 31) ys.toArray ?mx ?my hth ?mi ?m1 ?_))
        first | (case mx => rfl) | skip
        first | (case my => rfl) | skip
        first | (case mi => rw [List.size_toArray, hyl]; exact wideIndex.1) | skip
        first | (case m1 => exact all_oneCell_toArray HY1.out) | skip
        refine ⟨⟨q + 1, by first | rfl | (push_cast; rfl), hql, Lib.hid (HP.out.step HB0.out.size hql (HL5.out.trans (HCP.out.2.mono HL5.out.size)) hyl ?_)⟩, by simp [intOf]; omega⟩
        exact EqC.kept (Nat.le_refl _) (Nat.le_refl _) (fun _ _ _ => rfl) (fun _ _ _ => rfl) (fun _ h _ => h) (fun i h _ => Nat.le_trans HL5.out.size h) _ _ _ _ HCP.out.1
theorem infoSchema : (Try.prog.info? 54).map (fun i => (i.zero, i.size, i.bytes)) = some (some (.agg #[.int .i64 0, .bool false, .int .i64 0, .int .i64 0, .string ⟨#[]⟩, .slice none 0 0, .slice none 0 0, .bool false, .int .i64 0, .int .i64 0, .string ⟨#[]⟩, .slice none 0 0, .slice none 0 0, .slice none 0 0, .int .i64 0, .int .i64 0, .slice none 0 0, .slice none 0 0, .bool false, .slice none 0 0, .bool false]), 21, 312) := by kernel_rfl
theorem wideSchema : Wide Try.prog 54 21 := ⟨by kernel_rfl, _, Try.underlying54, rfl⟩
set_option maxHeartbeats 3200000 in
theorem copyAll_Schema (n : Nat) (v : Value) (W0 W : World) (hb0 : Below W0.heap.size W0 W) (h : GoodC Try.prog W0 (n + 1) 52 [v]) (hone : OneOK 72 54 n W0) :
    Calls Try.prog 80 #[v, .func (.func 72) #[] #[]] W fun e W' => ∃ v', e = .returned v' ∧ CopyOf W0 W (n + 1) 52 [v] W' [v'] := by
  obtain ⟨i0, hi0, hz0, hz1, hz2⟩ := info_parts infoSchema
  have e1 : Try.prog.cellsOf 54 = 21 := by kernel_rfl
  have e8 : Try.prog.bytesOf 54 = 312 := by kernel_rfl
  obtain ⟨a, len, cap, rfl, hlc, ⟨hm, hby, hnil⟩, hc⟩ := goodC_slice Try.underlying52 h
  rw [e1] at hc
  rw [e8] at hby
  by_cases h0 : len = 0
  · subst h0
    go_enter Try.func80, Try.ntmps80
    go_wp2_with fail
    go_ret
    exact ⟨_, rfl, eqC_slice Try.underlying52 ⟨a, 0, cap, none, 0, rfl, rfl, hlc, ⟨hm, by omega, hnil⟩, Nat.le_refl _, ⟨by unfold maxLen; omega, by omega, fun _ => rfl⟩, fun h0 => absurd h0 (Nat.lt_irrefl _)⟩, Below.refl _ _⟩
  · obtain ⟨B, o, rfl, hB, hj⟩ := hc (by omega)
    have HB0 := Lib.hid hb0
    have fn : ∀ j : Nat, ∃ ds : List Value, j < len → ds.length = 21 ∧ W0.rangeAt B (o + j * 21) ds ∧ GoodC Try.prog W0 n 54 ds := fun j => by
      by_cases hjl : j < len
      · obtain ⟨ds, h1⟩ := hj j hjl; exact ⟨ds, fun _ => h1⟩
      · exact ⟨[], fun h => absurd h hjl⟩
    obtain ⟨X, hX⟩ := Classical.axiomOfChoice fn
    have HX := Lib.hid hX
    have HO := Lib.hid hone
    have HBY := Lib.hid (And.intro hlc (And.intro hm hby))
    have z1 : ((len : Int) == 0) = false := by simpa using h0
    have hl63 : len ≤ 9223372036854775807 := by have := HBY.out.2.1; unfold maxLen at this; omega
    clear hj fn hX hone h hc hnil hb0 hby hm
    go_enter Try.func80, Try.ntmps80
    go_wp2_with (first
      | (with_reducible refine wpList_make_wide _ rfl _ _ 52 rfl 54 i0 (.agg #[.int .i64 0, .bool false, .int .i64 0, .int .i64 0, .string ⟨#[]⟩, .slice none 0 0, .slice none 0 0, .bool false, .int .i64 0, .int .i64 0, .string ⟨#[]⟩, .slice none 0 0, .slice none 0 0, .slice none 0 0, .int .i64 0, .int .i64 0, .slice none 0 0, .slice none 0 0, .bool false, .slice none 0 0, .bool false]) Try.underlying52 hi0 hz0 len ?ml ?mc ?mb hl63 ?_))
    first | (case ml => rfl) | skip
    first | (case mc => rfl) | skip
    case mb => first | (rw [hz2]; have := HBY.out.2.2; omega) | (have := HBY.out.2.2; omega)
    have hbx : Box (W.alloc (.cells (madeCells #[.int .i64 0, .bool false, .int .i64 0, .int .i64 0, .string ⟨#[]⟩, .slice none 0 0, .slice none 0 0, .bool false, .int .i64 0, .int .i64 0, .string ⟨#[]⟩, .slice none 0 0, .slice none 0 0, .slice none 0 0, .int .i64 0, .int .i64 0, .slice none 0 0, .slice none 0 0, .bool false, .slice none 0 0, .bool false] (len * 21)) 54)) W.heap.size (madeCells #[.int .i64 0, .bool false, .int .i64 0, .int .i64 0, .string ⟨#[]⟩, .slice none 0 0, .slice none 0 0, .bool false, .int .i64 0, .int .i64 0, .string ⟨#[]⟩, .slice none 0 0, .slice none 0 0, .slice none 0 0, .int .i64 0, .int .i64 0, .slice none 0 0, .slice none 0 0, .bool false, .slice none 0 0, .bool false] (len * 21)).toList := by
      have := Box.new W (madeCells #[.int .i64 0, .bool false, .int .i64 0, .int .i64 0, .string ⟨#[]⟩, .slice none 0 0, .slice none 0 0, .bool false, .int .i64 0, .int .i64 0, .string ⟨#[]⟩, .slice none 0 0, .slice none 0 0, .slice none 0 0, .int .i64 0, .int .i64 0, .slice none 0 0, .slice none 0 0, .bool false, .slice none 0 0, .bool false] (len * 21)).toList 54
      simpa using this
    have HP0 : Hid (Cpg W0 W n 54 21 W.heap.size X len 0 (W.alloc (.cells (madeCells #[.int .i64 0, .bool false, .int .i64 0, .int .i64 0, .string ⟨#[]⟩, .slice none 0 0, .slice none 0 0, .bool false, .int .i64 0, .int .i64 0, .string ⟨#[]⟩, .slice none 0 0, .slice none 0 0, .slice none 0 0, .int .i64 0, .int .i64 0, .slice none 0 0, .slice none 0 0, .bool false, .slice none 0 0, .bool false] (len * 21)) 54))) := Lib.hid ⟨(Below.refl _ _).alloc (Nat.le_refl _) _, rfl, _, hbx, by rw [Array.length_toList, size_madeCells], fun j hj => absurd hj (Nat.not_lt_zero _)⟩
    clear hbx
    generalize W.alloc (.cells (madeCells #[.int .i64 0, .bool false, .int .i64 0, .int .i64 0, .string ⟨#[]⟩, .slice none 0 0, .slice none 0 0, .bool false, .int .i64 0, .int .i64 0, .string ⟨#[]⟩, .slice none 0 0, .slice none 0 0, .slice none 0 0, .int .i64 0, .int .i64 0, .slice none 0 0, .slice none 0 0, .bool false, .slice none 0 0, .bool false] (len * 21)) 54) = W1 at *
    obtain ⟨C, hC⟩ : ∃ C, C = W.heap.size := ⟨_, rfl⟩
    rw [← hC] at HP0 ⊢
    have HCC := Lib.hid hC
    clear hC
    go_loopw [16] (fun i wr => ∃ q : Nat, i = .int .i64 q ∧ q ≤ len ∧ Hid (Cpg W0 W n 54 21 C X len q wr)) (fun i wr => len - (intOf i).toNat)
    case atStart => exact ⟨0, rfl, Nat.zero_le _, HP0⟩
    case round =>
      clear HP0
      obtain ⟨q, rfl, hq, HP⟩ := hrel
      by_cases hlast : q = len
      · subst hlast
        go_wp2_with fail
        go_ret
        exact ⟨_, rfl, HP.out.done Try.underlying52 e1 HB0.out hB (fun j hj => ⟨(HX.out j hj).1, (HX.out j hj).2.1⟩) HBY.out.1 HBY.out.2.1 (by rw [e8]; exact HBY.out.2.2)⟩
      · have hql : q < len := by omega
        obtain ⟨x1, x2, x3⟩ := HX.out q hql
        have r1 : wr.rangeAt B (o + q * 21) (X q) := range_below (range_below x2 HB0.out hB) HP.out.low (Nat.lt_of_lt_of_le hB HB0.out.size)
        have HXQ := Lib.hid (And.intro x1 x3)
        have hw1 : IntKind.i64.wrap ((q : Int) + 1) = ((q + 1 : Nat) : Int) := by rw [IntKind.wrap_i64]; omega
        have hx5 : (Try.prog.info? 54).map (·.size) = some (X q).length := by rw [x1]; exact wideSchema.1
        clear x1 x2 x3
        have HR1 := Lib.hid r1
        have HBX := Lib.hid (BoxN.new wr [.int .i64 0, .bool false, .int .i64 0, .int .i64 0, .string ⟨#[]⟩, .slice none 0 0, .slice none 0 0, .bool false, .int .i64 0, .int .i64 0, .string ⟨#[]⟩, .slice none 0 0, .slice none 0 0, .slice none 0 0, .int .i64 0, .int .i64 0, .slice none 0 0, .slice none 0 0, .bool false, .slice none 0 0, .bool false] 21 54 rfl)
        have HXC := Lib.hid (show Cells 21 (X q) from ⟨HXQ.out.1, List.all_eq_true.2 (good_cells_of (by decide) HXQ.out.2)⟩)
        go_wp2_with (first
          | (with_reducible refine wpList_load_mid rfl 54 (.tmp 19) rfl B (o + q * 21) ?lx (X q) _ HR1.out Try.underlying54 rfl hx5 ?_)
          | (with_reducible refine wpList_box_store 54 7 (.tmp 20) wr.heap.size [.int .i64 0, .bool false, .int .i64 0, .int .i64 0, .string ⟨#[]⟩, .slice none 0 0, .slice none 0 0, .bool false, .int .i64 0, .int .i64 0, .string ⟨#[]⟩, .slice none 0 0, .slice none 0 0, .slice none 0 0, .int .i64 0, .int .i64 0, .slice none 0 0, .slice none 0 0, .bool false, .slice none 0 0, .bool false] (X q) _ _ _ _ _ _ ?sx ?sy HBX.out HXC.out wideSchema ?_))
        first | (case lx => rfl) | skip
        first | (case sx => rfl) | skip
        first | (case sy => rfl) | skip
        intro w5 hB5 hO5
        have hb5 : Below wr.heap.size wr w5 := ((Below.refl _ _).alloc (Nat.le_refl _) _).trans (hO5.below _ (Nat.le_refl _))
        have HB5 := Lib.hid hB5
        have HL5 := Lib.hid hb5
        have HW5 := Lib.hid (show Below W0.heap.size W0 w5 from (HB0.out.trans (HP.out.low.mono HB0.out.size)).trans (hb5.mono (Nat.le_trans HB0.out.size HP.out.low.size)))
        clear hB5 hO5 hb5 r1 hx5
        go_wp2_with (first
          | (with_reducible refine wpList_box_load 54 7 wr.heap.size (X q) _ _ _ _ _ _ ?bx HB5.out wideSchema ?_))
        first | (case bx => rfl) | skip
        refine (HO.out w5 (X q) HW5.out HXQ.out.2).mono ?_
        rintro e w6 ⟨ys, rfl, hcp⟩
        have HCP := Lib.hid hcp
        have hyl : ys.length = 21 := by rw [eqC_len Try.underlying54 hcp.1, e1]
        have HY1 := Lib.hid (good_cells_of (by decide) (EqC.good _ _ _ _ (EqC.symm _ _ _ _ hcp.1)))
        clear hcp
        obtain ⟨cs, hbx, hlen, hjj⟩ := HP.out.row
        have hth : w6.there C (q * 21) ys.toArray.size := by
          have h6 := (hbx.keep HL5.out).keep HCP.out.2
          refine h6.there _ _ ?_
          rw [List.size_toArray, hyl, hlen]
          omega
        clear hbx hlen hjj
        go_wp2_with (first
          | (with_reducible refine wpList_store_mid rfl 54 (.tmp 26) (.tmp 25) rfl C (q * 21) ys.toArray ?mx ?my hth ?mi ?m1 ?_))
        first | (case mx => rfl) | skip
        first | (case my => rfl) | skip
        first | (case mi => rw [List.size_toArray, hyl]; exact wideSchema.1) | skip
        first | (case m1 => exact all_oneCell_toArray HY1.out) | skip
        refine ⟨⟨q + 1, by first | rfl | (push_cast; rfl), hql, Lib.hid (HP.out.step HB0.out.size hql (HL5.out.trans (HCP.out.2.mono HL5.out.size)) hyl ?_)⟩, by simp [intOf]; omega⟩
        exact EqC.kept (Nat.le_refl _) (Nat.le_refl _) (fun _ _ _ => rfl) (fun _ _ _ => rfl) (fun _ h _ => h) (fun i h _ => Nat.le_trans HL5.out.size h) _ _ _ _ HCP.out.1
theorem infoProp : (Try.prog.info? 115).map (fun i => (i.zero, i.size, i.bytes)) = some (some (.agg #[.string ⟨#[]⟩, .int .i64 0, .bool false, .int .i64 0, .int .i64 0, .string ⟨#[]⟩, .slice none 0 0, .slice none 0 0, .bool false, .int .i64 0, .int .i64 0, .string ⟨#[]⟩, .slice none 0 0, .slice none 0 0, .slice none 0 0, .int .i64 0, .int .i64 0, .slice none 0 0, .slice none 0 0, .bool false, .slice none 0 0, .bool false]), 22, 328) := by kernel_rfl
theorem wideProp : Wide Try.prog 115 22 := ⟨by kernel_rfl, _, Try.underlying115, rfl⟩
set_option maxHeartbeats 3200000 in
theorem copyAll_Prop (n : Nat) (v : Value) (W0 W : World) (hb0 : Below W0.heap.size W0 W) (h : GoodC Try.prog W0 (n + 1) 51 [v]) (hone : OneOK 79 115 n W0) :
    Calls Try.prog 78 #[v, .func (.func 79) #[] #[]] W fun e W' => ∃ v', e = .returned v' ∧ CopyOf W0 W (n + 1) 51 [v] W' [v'] := by
  obtain ⟨i0, hi0, hz0, hz1, hz2⟩ := info_parts infoProp
  have e1 : Try.prog.cellsOf 115 = 22 := by kernel_rfl
  have e8 : Try.prog.bytesOf 115 = 328 := by kernel_rfl
  obtain ⟨a, len, cap, rfl, hlc, ⟨hm, hby, hnil⟩, hc⟩ := goodC_slice Try.underlying51 h
  rw [e1] at hc
  rw [e8] at hby
  by_cases h0 : len = 0
  · subst h0
    go_enter Try.func78, Try.ntmps78
    go_wp2_with fail
    go_ret
    exact ⟨_, rfl, eqC_slice Try.underlying51 ⟨a, 0, cap, none, 0, rfl, rfl, hlc, ⟨hm, by omega, hnil⟩, Nat.le_refl _, ⟨by unfold maxLen; omega, by omega, fun _ => rfl⟩, fun h0 => absurd h0 (Nat.lt_irrefl _)⟩, Below.refl _ _⟩
  · obtain ⟨B, o, rfl, hB, hj⟩ := hc (by omega)
    have HB0 := Lib.hid hb0
    have fn : ∀ j : Nat, ∃ ds : List Value, j < len → ds.length = 22 ∧ W0.rangeAt B (o + j * 22) ds ∧ GoodC Try.prog W0 n 115 ds := fun j => by
      by_cases hjl : j < len
      · obtain ⟨ds, h1⟩ := hj j hjl; exact ⟨ds, fun _ => h1⟩
      · exact ⟨[], fun h => absurd h hjl⟩
    obtain ⟨X, hX⟩ := Classical.axiomOfChoice fn
    have HX := Lib.hid hX
    have HO := Lib.hid hone
    have HBY := Lib.hid (And.intro hlc (And.intro hm hby))
    have z1 : ((len : Int) == 0) = false := by simpa using h0
    have hl63 : len ≤ 9223372036854775807 := by have := HBY.out.2.1; unfold maxLen at this; omega
    clear hj fn hX hone h hc hnil hb0 hby hm
    go_enter Try.func78, Try.ntmps78
    go_wp2_with (first
      | (with_reducible refine wpList_make_wide _ rfl _ _ 51 rfl 115 i0 (.agg #[.string ⟨#[]⟩, .int .i64 0, .bool false, .int .i64 0, .int .i64 0, .string ⟨#[]⟩, .slice none 0 0, .slice none 0 0, .bool false, .int .i64 0, .int .i64 0, .string ⟨#[]⟩, .slice none 0 0, .slice none 0 0, .slice none 0 0, .int .i64 0, .int .i64 0, .slice none 0 0, .slice none 0 0, .bool false, .slice none 0 0, .bool false]) Try.underlying51 hi0 hz0 len ?ml ?mc ?mb hl63 ?_))
    first | (case ml => rfl) | skip
    first | (case mc => rfl) | skip
    case mb => first | (rw [hz2]; have := HBY.out.2.2; omega) | (have := HBY.out.2.2; omega)
    have hbx : Box (W.alloc (.cells (madeCells #[.string ⟨#[]⟩, .int .i64 0, .bool false, .int .i64 0, .int .i64 0, .string ⟨#[]⟩, .slice none 0 0, .slice none 0 0, .bool false, .int .i64 0, .int .i64 0, .string ⟨#[]⟩, .slice none 0 0, .slice none 0 0, .slice none 0 0, .int .i64 0, .int .i64 0, .slice none 0 0, .slice none 0 0, .bool false, .slice none 0 0, .bool false] (len * 22)) 115)) W.heap.size (madeCells #[.string ⟨#[]⟩, .int .i64 0, .bool false, .int .i64 0, .int .i64 0, .string ⟨#[]⟩, .slice none 0 0, .slice none 0 0, .bool false, .int .i64 0, .int .i64 0, .string ⟨#[]⟩, .slice none 0 0, .slice none 0 0, .slice none 0 0, .int .i64 0, .int .i64 0, .slice none 0 0, .slice none 0 0, .bool false, .slice none 0 0, .bool false] (len * 22)).toList := by
      have := Box.new W (madeCells #[.string ⟨#[]⟩, .int .i64 0, .bool false, .int .i64 0, .int .i64 0, .string ⟨#[]⟩, .slice none 0 0, .slice none 0 0, .bool false, .int .i64 0, .int .i64 0, .string ⟨#[]⟩, .slice none 0 0, .slice none 0 0, .slice none 0 0, .int .i64 0, .int .i64 0, .slice none 0 0, .slice none 0 0, .bool false, .slice none 0 0, .bool false] (len * 22)).toList 115
      simpa using this
    have HP0 : Hid (Cpg W0 W n 115 22 W.heap.size X len 0 (W.alloc (.cells (madeCells #[.string ⟨#[]⟩, .int .i64 0, .bool false, .int .i64 0, .int .i64 0, .string ⟨#[]⟩, .slice none 0 0, .slice none 0 0, .bool false, .int .i64 0, .int .i64 0, .string ⟨#[]⟩, .slice none 0 0, .slice none 0 0, .slice none 0 0, .int .i64 0, .int .i64 0, .slice none 0 0, .slice none 0 0, .bool false, .slice none 0 0, .bool false] (len * 22)) 115))) := Lib.hid ⟨(Below.refl _ _).alloc (Nat.le_refl _) _, rfl, _, hbx, by rw [Array.length_toList, size_madeCells], fun j hj => absurd hj (Nat.not_lt_zero _)⟩
    clear hbx
    generalize W.alloc (.cells (madeCells #[.string ⟨#[]⟩, .int .i64 0, .bool false, .int .i64 0, .int .i64 0, .string ⟨#[]⟩, .slice none 0 0, .slice none 0 0, .bool false, .int .i64 0, .int .i64 0, .string ⟨#[]⟩, .slice none 0 0, .slice none 0 0, .slice none 0 0, .int .i64 0, .int .i64 0, .slice none 0 0, .slice none 0 0, .bool false, .slice none 0 0, .bool false] (len * 22)) 115) = W1 at *
    obtain ⟨C, hC⟩ : ∃ C, C = W.heap.size := ⟨_, rfl⟩
    rw [← hC] at HP0 ⊢
    have HCC := Lib.hid hC
    clear hC
    go_loopw [16] (fun i wr => ∃ q : Nat, i = .int .i64 q ∧ q ≤ len ∧ Hid (Cpg W0 W n 115 22 C X len q wr)) (fun i wr => len - (intOf i).toNat)
    case atStart => exact ⟨0, rfl, Nat.zero_le _, HP0⟩
    case round =>
      clear HP0
      obtain ⟨q, rfl, hq, HP⟩ := hrel
      by_cases hlast : q = len
      · subst hlast
        go_wp2_with fail
        go_ret
        exact ⟨_, rfl, HP.out.done Try.underlying51 e1 HB0.out hB (fun j hj => ⟨(HX.out j hj).1, (HX.out j hj).2.1⟩) HBY.out.1 HBY.out.2.1 (by rw [e8]; exact HBY.out.2.2)⟩
      · have hql : q < len := by omega
        obtain ⟨x1, x2, x3⟩ := HX.out q hql
        have r1 : wr.rangeAt B (o + q * 22) (X q) := range_below (range_below x2 HB0.out hB) HP.out.low (Nat.lt_of_lt_of_le hB HB0.out.size)
        have HXQ := Lib.hid (And.intro x1 x3)
        have hw1 : IntKind.i64.wrap ((q : Int) + 1) = ((q + 1 : Nat) : Int) := by rw [IntKind.wrap_i64]; omega
        have hx5 : (Try.prog.info? 115).map (·.size) = some (X q).length := by rw [x1]; exact wideProp.1
        clear x1 x2 x3
        have HR1 := Lib.hid r1
        have HBX := Lib.hid (BoxN.new wr [.string ⟨#[]⟩, .int .i64 0, .bool false, .int .i64 0, .int .i64 0, .string ⟨#[]⟩, .slice none 0 0, .slice none 0 0, .bool false, .int .i64 0, .int .i64 0, .string ⟨#[]⟩, .slice none 0 0, .slice none 0 0, .slice none 0 0, .int .i64 0, .int .i64 0, .slice none 0 0, .slice none 0 0, .bool false, .slice none 0 0, .bool false] 22 115 rfl)
        have HXC := Lib.hid (show Cells 22 (X q) from ⟨HXQ.out.1, List.all_eq_true.2 (good_cells_of (by decide) HXQ.out.2)⟩)
        go_wp2_with (first
          | (with_reducible refine wpList_load_mid rfl 115 (.tmp 19) rfl B (o + q * 22) ?lx (X q) _ HR1.out Try.underlying115 rfl hx5 ?_)
          | (with_reducible refine wpList_box_store 115 7 (.tmp 20) wr.heap.size [.string ⟨#[]⟩, .int .i64 0, .bool false, .int .i64 0, .int .i64 0, .string ⟨#[]⟩, .slice none 0 0, .slice none 0 0, .bool false, .int .i64 0, .int .i64 0, .string ⟨#[]⟩, .slice none 0 0, .slice none 0 0, .slice none 0 0, .int .i64 0, .int .i64 0, .slice none 0 0, .slice none 0 0, .bool false, .slice none 0 0, .bool false] (X q) _ _ _ _ _ _ ?sx ?sy HBX.out HXC.out wideProp ?_))
        first | (case lx => rfl) | skip
        first | (case sx => rfl) | skip
        first | (case sy => rfl) | skip
        intro w5 hB5 hO5
        have hb5 : Below wr.heap.size wr w5 := ((Below.refl _ _).alloc (Nat.le_refl _) _).trans (hO5.below _ (Nat.le_refl _))
        have HB5 := Lib.hid hB5
        have HL5 := Lib.hid hb5
        have HW5 := Lib.hid (show Below W0.heap.size W0 w5 from (HB0.out.trans (HP.out.low.mono HB0.out.size)).trans (hb5.mono (Nat.le_trans HB0.out.size HP.out.low.size)))
        clear hB5 hO5 hb5 r1 hx5
        go_wp2_with (first
          | (with_reducible refine wpList_box_load 115 7 wr.heap.size (X q) _ _ _ _ _ _ ?bx HB5.out wideProp ?_))
        first | (case bx => rfl) | skip
        refine (HO.out w5 (X q) HW5.out HXQ.out.2).mono ?_
        rintro e w6 ⟨ys, rfl, hcp⟩
        have HCP := Lib.hid hcp
        have hyl : ys.length = 22 := by rw [eqC_len Try.underlying115 hcp.1, e1]
        have HY1 := Lib.hid (good_cells_of (by decide) (EqC.good _ _ _ _ (EqC.symm _ _ _ _ hcp.1)))
        clear hcp
        obtain ⟨cs, hbx, hlen, hjj⟩ := HP.out.row
        have hth : w6.there C (q * 22) ys.toArray.size := by
          have h6 := (hbx.keep HL5.out).keep HCP.out.2
          refine h6.there _ _ ?_
          rw [List.size_toArray, hyl, hlen]
          omega
        clear hbx hlen hjj
        go_wp2_with (first
          | (with_reducible refine wpList_store_mid rfl 115 (.tmp 26) (.tmp 25) rfl C (q * 22) ys.toArray ?mx ?my hth ?mi ?m1 ?_))
        first | (case mx => rfl) | skip
        first | (case my => rfl) | skip
        first | (case mi => rw [List.size_toArray, hyl]; exact wideProp.1) | skip
        first | (case m1 => exact all_oneCell_toArray HY1.out) | skip
        refine ⟨⟨q + 1, by first | rfl | (push_cast; rfl), hql, Lib.hid (HP.out.step HB0.out.size hql (HL5.out.trans (HCP.out.2.mono HL5.out.size)) hyl ?_)⟩, by simp [intOf]; omega⟩
        exact EqC.kept (Nat.le_refl _) (Nat.le_refl _) (fun _ _ _ => rfl) (fun _ _ _ => rfl) (fun _ h _ => h) (fun i h _ => Nat.le_trans HL5.out.size h) _ _ _ _ HCP.out.1
theorem infoWrite : (Try.prog.info? 71).map (fun i => (i.zero, i.size, i.bytes)) = some (some (.agg #[.int .i64 0, .string ⟨#[]⟩, .int .i64 0, .int .i64 0, .string ⟨#[]⟩, .slice none 0 0, .slice none 0 0, .int .i64 0, .int .i64 0, .string ⟨#[]⟩, .slice none 0 0, .slice none 0 0, .int .i64 0, .int .i64 0, .string ⟨#[]⟩, .slice none 0 0, .slice none 0 0, .string ⟨#[]⟩, .slice none 0 0, .int .i64 0, .bool false, .int .i64 0, .int .i64 0, .string ⟨#[]⟩, .slice none 0 0, .slice none 0 0, .bool false, .int .i64 0, .int .i64 0, .string ⟨#[]⟩, .slice none 0 0, .slice none 0 0, .slice none 0 0, .int .i64 0, .int .i64 0, .slice none 0 0, .slice none 0 0, .bool false, .slice none 0 0, .bool false, .int .i64 0, .int .i64 0, .string ⟨#[]⟩, .int .i64 0, .slice none 0 0, .bool false, .bool false, .bool false, .int .i64 0, .slice none 0 0, .int .i64 0, .int .i64 0, .string ⟨#[]⟩, .slice none 0 0, .slice none 0 0, .slice none 0 0, .int .i64 0, .int .i64 0, .int .i64 0, .slice none 0 0, .int .i64 0, .int .i64 0, .slice none 0 0, .string ⟨#[]⟩, .slice none 0 0, .int .i64 0, .int .i64 0, .string ⟨#[]⟩, .slice none 0 0, .slice none 0 0, .int .i64 0, .slice none 0 0, .slice none 0 0, .string ⟨#[]⟩, .int .i64 0, .slice none 0 0, .slice none 0 0, .bool false]), 78, 1168) := by kernel_rfl
theorem wideWrite : Wide Try.prog 71 78 := ⟨by kernel_rfl, _, Try.underlying71, rfl⟩
set_option maxHeartbeats 3200000 in
theorem copyAll_Write (n : Nat) (v : Value) (W0 W : World) (hb0 : Below W0.heap.size W0 W) (h : GoodC Try.prog W0 (n + 1) 69 [v]) (hone : OneOK 56 71 n W0) :
    Calls Try.prog 63 #[v, .func (.func 56) #[] #[]] W fun e W' => ∃ v', e = .returned v' ∧ CopyOf W0 W (n + 1) 69 [v] W' [v'] := by
  obtain ⟨i0, hi0, hz0, hz1, hz2⟩ := info_parts infoWrite
  have e1 : Try.prog.cellsOf 71 = 78 := by kernel_rfl
  have e8 : Try.prog.bytesOf 71 = 1168 := by kernel_rfl
  obtain ⟨a, len, cap, rfl, hlc, ⟨hm, hby, hnil⟩, hc⟩ := goodC_slice Try.underlying69 h
  rw [e1] at hc
  rw [e8] at hby
  by_cases h0 : len = 0
  · subst h0
    go_enter Try.func63, Try.ntmps63
    go_wp2_with fail
    go_ret
    exact ⟨_, rfl, eqC_slice Try.underlying69 ⟨a, 0, cap, none, 0, rfl, rfl, hlc, ⟨hm, by omega, hnil⟩, Nat.le_refl _, ⟨by unfold maxLen; omega, by omega, fun _ => rfl⟩, fun h0 => absurd h0 (Nat.lt_irrefl _)⟩, Below.refl _ _⟩
  · obtain ⟨B, o, rfl, hB, hj⟩ := hc (by omega)
    have HB0 := Lib.hid hb0
    have fn : ∀ j : Nat, ∃ ds : List Value, j < len → ds.length = 78 ∧ W0.rangeAt B (o + j * 78) ds ∧ GoodC Try.prog W0 n 71 ds := fun j => by
      by_cases hjl : j < len
      · obtain ⟨ds, h1⟩ := hj j hjl; exact ⟨ds, fun _ => h1⟩
      · exact ⟨[], fun h => absurd h hjl⟩
    obtain ⟨X, hX⟩ := Classical.axiomOfChoice fn
    have HX := Lib.hid hX
    have HO := Lib.hid hone
    have HBY := Lib.hid (And.intro hlc (And.intro hm hby))
    have z1 : ((len : Int) == 0) = false := by simpa using h0
    have hl63 : len ≤ 9223372036854775807 := by have := HBY.out.2.1; unfold maxLen at this; omega
    clear hj fn hX hone h hc hnil hb0 hby hm
    go_enter Try.func63, Try.ntmps63
    go_wp2_with (first
      | (with_reducible refine wpList_make_wide _ rfl _ _ 69 rfl 71 i0 (.agg #[.int .i64 0, .string ⟨#[]⟩, .int .i64 0, .int .i64 0, .string ⟨#[]⟩, .slice none 0 0, .slice none 0 0, .int .i64 0, .int .i64 0, .string ⟨#[]⟩, .slice none 0 0, .slice none 0 0, .int .i64 0, .int .i64 0, .string ⟨#[]⟩, .slice none 0 0, .slice none 0 0, .string ⟨#[]⟩, .slice none 0 0, .int .i64 0, .bool false, .int .i64 0, .int .i64 0, .string ⟨#[]⟩, .slice none 0 0, .slice none 0 0, .bool false, .int .i64 0, .int .i64 0, .string ⟨#[]⟩, .slice none 0 0, .slice none 0 0, .slice none 0 0, .int .i64 0, .int .i64 0, .slice none 0 0, .slice none 0 0, .bool false, .slice none 0 0, .bool false, .int .i64 0, .int .i64 0, .string ⟨#[]⟩, .int .i64 0, .slice none 0 0, .bool false, .bool false, .bool false, .int .i64 0, .slice none 0 0, .int .i64 0, .int .i64 0, .string ⟨#[]⟩, .slice none 0 0, .slice none 0 0, .slice none 0 0, .int .i64 0, .int .i64 0, .int .i64 0, .slice none 0 0, .int .i64 0, .int .i64 0, .slice none 0 0, .string ⟨#[]⟩, .slice none 0 0, .int .i64 0, .int .i64 0, .string ⟨#[]⟩, .slice none 0 0, .slice none 0 0, .int .i64 0, .slice none 0 0, .slice none 0 0, .string ⟨#[]⟩, .int .i64 0, .slice none 0 0, .slice none 0 0, .bool false]) Try.underlying69 hi0 hz0 len ?ml ?mc ?mb hl63 ?_))
    first | (case ml => rfl) | skip
    first | (case mc => rfl) | skip
    case mb => first | (rw [hz2]; have := HBY.out.2.2; omega) | (have := HBY.out.2.2; omega)
    have hbx : Box (W.alloc (.cells (madeCells #[.int .i64 0, .string ⟨#[]⟩, .int .i64 0, .int .i64 0, .string ⟨#[]⟩, .slice none 0 0, .slice none 0 0, .int .i64 0, .int .i64 0, .string ⟨#[]⟩, .slice none 0 0, .slice none 0 0, .int .i64 0, .int .i64 0, .string ⟨#[]⟩, .slice none 0 0, .slice none 0 0, .string ⟨#[]⟩, .slice none 0 0, .int .i64 0, .bool false, .int .i64 0, .int .i64 0, .string ⟨#[]⟩, .slice none 0 0, .slice none 0 0, .bool false, .int .i64 0, .int .i64 0, .string ⟨#[]⟩, .slice none 0 0, .slice none 0 0, .slice none 0 0, .int .i64 0, .int .i64 0, .slice none 0 0, .slice none 0 0, .bool false, .slice none 0 0, .bool false, .int .i64 0, .int .i64 0, .string ⟨#[]⟩, .int .i64 0, .slice none 0 0, .bool false, .bool false, .bool false, .int .i64 0, .slice none 0 0, .int .i64 0, .int .i64 0, .string ⟨#[]⟩, .slice none 0 0, .slice none 0 0, .slice none 0 0, .int .i64 0, .int .i64 0, .int .i64 0, .slice none 0 0, .int .i64 0, .int .i64 0, .slice none 0 0, .string ⟨#[]⟩, .slice none 0 0, .int .i64 0, .int .i64 0, .string ⟨#[]⟩, .slice none 0 0, .slice none 0 0, .int .i64 0, .slice none 0 0, .slice none 0 0, .string ⟨#[]⟩, .int .i64 0, .slice none 0 0, .slice none 0 0, .bool false] (len * 78)) 71)) W.heap.size (madeCells #[.int .i64 0, .string ⟨#[]⟩, .int .i64 0, .int .i64 0, .string ⟨#[]⟩, .slice none 0 0, .slice none 0 0, .int .i64 0, .int .i64 0, .string ⟨#[]⟩, .slice none 0 0, .slice none 0 0, .int .i64 0, .int .i64 0, .string ⟨#[]⟩, .slice none 0 0, .slice none 0 0, .string ⟨#[]⟩, .slice none 0 0, .int .i64 0, .bool false, .int .i64 0, .int .i64 0, .string ⟨#[]⟩, .slice none 0 0, .slice none 0 0, .bool false, .int .i64 0, .int .i64 0, .string ⟨#[]⟩, .slice none 0 0, .slice none 0 0, .slice none 0 0, .int .i64 0, .int .i64 0, .slice none 0 0, .slice none 0 0, .bool false, .slice none 0 0, .bool false, .int .i64 0, .int .i64 0, .string ⟨#[]⟩, .int .i64 0, .slice none 0 0, .bool false, .bool false, .bool false, .int .i64 0, .slice none 0 0, .int .i64 0, .int .i64 0, .string ⟨#[]⟩, .slice none 0 0, .slice none 0 0, .slice none 0 0, .int .i64 0, .int .i64 0, .int .i64 0, .slice none 0 0, .int .i64 0, .int .i64 0, .slice none 0 0, .string ⟨#[]⟩, .slice none 0 0, .int .i64 0, .int .i64 0, .string ⟨#[]⟩, .slice none 0 0, .slice none 0 0, .int .i64 0, .slice none 0 0, .slice none 0 0, .string ⟨#[]⟩, .int .i64 0, .slice none 0 0, .slice none 0 0, .bool false] (len * 78)).toList := by
      have := Box.new W (madeCells #[.int .i64 0, .string ⟨#[]⟩, .int .i64 0, .int .i64 0, .string ⟨#[]⟩, .slice none 0 0, .slice none 0 0, .int .i64 0, .int .i64 0, .string ⟨#[]⟩, .slice none 0 0, .slice none 0 0, .int .i64 0, .int .i64 0, .string ⟨#[]⟩, .slice none 0 0, .slice none 0 0, .string ⟨#[]⟩, .slice none 0 0, .int .i64 0, .bool false, .int .i64 0, .int .i64 0, .string ⟨#[]⟩, .slice none 0 0, .slice none 0 0, .bool false, .int .i64 0, .int .i64 0, .string ⟨#[]⟩, .slice none 0 0, .slice none 0 0, .slice none 0 0, .int .i64 0, .int .i64 0, .slice none 0 0, .slice none 0 0, .bool false, .slice none 0 0, .bool false, .int .i64 0, .int .i64 0, .string ⟨#[]⟩, .int .i64 0, .slice none 0 0, .bool false, .bool false, .bool false, .int .i64 0, .slice none 0 0, .int .i64 0, .int .i64 0, .string ⟨#[]⟩, .slice none 0 0, .slice none 0 0, .slice none 0 0, .int .i64 0, .int .i64 0, .int .i64 0, .slice none 0 0, .int .i64 0, .int .i64 0, .slice none 0 0, .string ⟨#[]⟩, .slice none 0 0, .int .i64 0, .int .i64 0, .string ⟨#[]⟩, .slice none 0 0, .slice none 0 0, .int .i64 0, .slice none 0 0, .slice none 0 0, .string ⟨#[]⟩, .int .i64 0, .slice none 0 0, .slice none 0 0, .bool false] (len * 78)).toList 71
      simpa using this
    have HP0 : Hid (Cpg W0 W n 71 78 W.heap.size X len 0 (W.alloc (.cells (madeCells #[.int .i64 0, .string ⟨#[]⟩, .int .i64 0, .int .i64 0, .string ⟨#[]⟩, .slice none 0 0, .slice none 0 0, .int .i64 0, .int .i64 0, .string ⟨#[]⟩, .slice none 0 0, .slice none 0 0, .int .i64 0, .int .i64 0, .string ⟨#[]⟩, .slice none 0 0, .slice none 0 0, .string ⟨#[]⟩, .slice none 0 0, .int .i64 0, .bool false, .int .i64 0, .int .i64 0, .string ⟨#[]⟩, .slice none 0 0, .slice none 0 0, .bool false, .int .i64 0, .int .i64 0, .string ⟨#[]⟩, .slice none 0 0, .slice none 0 0, .slice none 0 0, .int .i64 0, .int .i64 0, .slice none 0 0, .slice none 0 0, .bool false, .slice none 0 0, .bool false, .int .i64 0, .int .i64 0, .string ⟨#[]⟩, .int .i64 0, .slice none 0 0, .bool false, .bool false, .bool false, .int .i64 0, .slice none 0 0, .int .i64 0, .int .i64 0, .string ⟨#[]⟩, .slice none 0 0, .slice none 0 0, .slice none 0 0, .int .i64 0, .int .i64 0, .int .i64 0, .slice none 0 0, .int .i64 0, .int .i64 0, .slice none 0 0, .string ⟨#[]⟩, .slice none 0 0, .int .i64 0, .int .i64 0, .string ⟨#[]⟩, .slice none 0 0, .slice none 0 0, .int .i64 0, .slice none 0 0, .slice none 0 0, .string ⟨#[]⟩, .int .i64 0, .slice none 0 0, .slice none 0 0, .bool false] (len * 78)) 71))) := Lib.hid ⟨(Below.refl _ _).alloc (Nat.le_refl _) _, rfl, _, hbx, by rw [Array.length_toList, size_madeCells], fun j hj => absurd hj (Nat.not_lt_zero _)⟩
    clear hbx
    generalize W.alloc (.cells (madeCells #[.int .i64 0, .string ⟨#[]⟩, .int .i64 0, .int .i64 0, .string ⟨#[]⟩, .slice none 0 0, .slice none 0 0, .int .i64 0, .int .i64 0, .string ⟨#[]⟩, .slice none 0 0, .slice none 0 0, .int .i64 0, .int .i64 0, .string ⟨#[]⟩, .slice none 0 0, .slice none 0 0, .string ⟨#[]⟩, .slice none 0 0, .int .i64 0, .bool false, .int .i64 0, .int .i64 0, .string ⟨#[]⟩, .slice none 0 0, .slice none 0 0, .bool false, .int .i64 0, .int .i64 0, .string ⟨#[]⟩, .slice none 0 0, .slice none 0 0, .slice none 0 0, .int .i64 0, .int .i64 0, .slice none 0 0, .slice none 0 0, .bool false, .slice none 0 0, .bool false, .int .i64 0, .int .i64 0, .string ⟨#[]⟩, .int .i64 0, .slice none 0 0, .bool false, .bool false, .bool false, .int .i64 0, .slice none 0 0, .int .i64 0, .int .i64 0, .string ⟨#[]⟩, .slice none 0 0, .slice none 0 0, .slice none 0 0, .int .i64 0, .int .i64 0, .int .i64 0, .slice none 0 0, .int .i64 0, .int .i64 0, .slice none 0 0, .string ⟨#[]⟩, .slice none 0 0, .int .i64 0, .int .i64 0, .string ⟨#[]⟩, .slice none 0 0, .slice none 0 0, .int .i64 0, .slice none 0 0, .slice none 0 0, .string ⟨#[]⟩, .int .i64 0, .slice none 0 0, .slice none 0 0, .bool false] (len * 78)) 71) = W1 at *
    obtain ⟨C, hC⟩ : ∃ C, C = W.heap.size := ⟨_, rfl⟩
    rw [← hC] at HP0 ⊢
    have HCC := Lib.hid hC
    clear hC
    go_loopw [16] (fun i wr => ∃ q : Nat, i = .int .i64 q ∧ q ≤ len ∧ Hid (Cpg W0 W n 71 78 C X len q wr)) (fun i wr => len - (intOf i).toNat)
    case atStart => exact ⟨0, rfl, Nat.zero_le _, HP0⟩
    case round =>
      clear HP0
      obtain ⟨q, rfl, hq, HP⟩ := hrel
      by_cases hlast : q = len
      · subst hlast
        go_wp2_with fail
        go_ret
        exact ⟨_, rfl, HP.out.done Try.underlying69 e1 HB0.out hB (fun j hj => ⟨(HX.out j hj).1, (HX.out j hj).2.1⟩) HBY.out.1 HBY.out.2.1 (by rw [e8]; exact HBY.out.2.2)⟩
      · have hql : q < len := by omega
        obtain ⟨x1, x2, x3⟩ := HX.out q hql
        have r1 : wr.rangeAt B (o + q * 78) (X q) := range_below (range_below x2 HB0.out hB) HP.out.low (Nat.lt_of_lt_of_le hB HB0.out.size)
        have HXQ := Lib.hid (And.intro x1 x3)
        have hw1 : IntKind.i64.wrap ((q : Int) + 1) = ((q + 1 : Nat) : Int) := by rw [IntKind.wrap_i64]; omega
        have hx5 : (Try.prog.info? 71).map (·.size) = some (X q).length := by rw [x1]; exact wideWrite.1
        clear x1 x2 x3
        have HR1 := Lib.hid r1
        have HBX := Lib.hid (BoxN.new wr [.int .i64 0, .string ⟨#[]⟩, .int .i64 0, .int .i64 0, .string ⟨#[]⟩, .slice none 0 0, .slice none 0 0, .int .i64 0, .int .i64 0, .string ⟨#[]⟩, .slice none 0 0, .slice none 0 0, .int .i64 0, .int .i64 0, .string ⟨#[]⟩, .slice none 0 0, .slice none 0 0, .string ⟨#[]⟩, .slice none 0 0, .int .i64 0, .bool false, .int .i64 0, .int .i64 0, .string ⟨#[]⟩, .slice none 0 0, .slice none 0 0, .bool false, .int .i64 0, .int .i64 0, .string ⟨#[]⟩, .slice none 0 0, .slice none 0 0, .slice none 0 0, .int .i64 0, .int .i64 0, .slice none 0 0, .slice none 0 0, .bool false, .slice none 0 0, .bool false, .int .i64 0, .int .i64 0, .string ⟨#[]⟩, .int .i64 0, .slice none 0 0, .bool false, .bool false, .bool false, .int .i64 0, .slice none 0 0, .int .i64 0, .int .i64 0, .string ⟨#[]⟩, .slice none 0 0, .slice none 0 0, .slice none 0 0, .int .i64 0, .int .i64 0, .int .i64 0, .slice none 0 0, .int .i64 0, .int .i64 0, .slice none 0 0, .string ⟨#[]⟩, .slice none 0 0, .int .i64 0, .int .i64 0, .string ⟨#[]⟩, .slice none 0 0, .slice none 0 0, .int .i64 0, .slice none 0 0, .slice none 0 0, .string ⟨#[]⟩, .int .i64 0, .slice none 0 0, .slice none 0 0, .bool false] 78 71 rfl)
        have HXC := Lib.hid (show Cells 78 (X q) from ⟨HXQ.out.1, List.all_eq_true.2 (good_cells_of (by decide) HXQ.out.2)⟩)
        go_wp2_with (first
          | (with_reducible refine wpList_load_mid rfl 71 (.tmp 19) rfl B (o + q * 78) ?lx (X q) _ HR1.out Try.underlying71 rfl hx5 ?_)
          | (with_reducible refine wpList_box_store 71 7 (.tmp 20) wr.heap.size [.int .i64 0, .string ⟨#[]⟩, .int .i64 0, .int .i64 0, .string ⟨#[]⟩, .slice none 0 0, .slice none 0 0, .int .i64 0, .int .i64 0, .string ⟨#[]⟩, .slice none 0 0, .slice none 0 0, .int .i64 0, .int .i64 0, .string ⟨#[]⟩, .slice none 0 0, .slice none 0 0, .string ⟨#[]⟩, .slice none 0 0, .int .i64 0, .bool false, .int .i64 0, .int .i64 0, .string ⟨#[]⟩, .slice none 0 0, .slice none 0 0, .bool false, .int .i64 0, .int .i64 0, .string ⟨#[]⟩, .slice none 0 0, .slice none 0 0, .slice none 0 0, .int .i64 0, .int .i64 0, .slice none 0 0, .slice none 0 0, .bool false, .slice none 0 0, .bool false, .int .i64 0, .int .i64 0, .string ⟨#[]⟩, .int .i64 0, .slice none 0 0, .bool false, .bool false, .bool false, .int .i64 0, .slice none 0 0, .int .i64 0, .int .i64 0, .string ⟨#[]⟩, .slice none 0 0, .slice none 0 0, .slice none 0 0, .int .i64 0, .int .i64 0, .int .i64 0, .slice none 0 0, .int .i64 0, .int .i64 0, .slice none 0 0, .string ⟨#[]⟩, .slice none 0 0, .int .i64 0, .int .i64 0, .string ⟨#[]⟩, .slice none 0 0, .slice none 0 0, .int .i64 0, .slice none 0 0, .slice none 0 0, .string ⟨#[]⟩, .int .i64 0, .slice none 0 0, .slice none 0 0, .bool false] (X q) _ _ _ _ _ _ ?sx ?sy HBX.out HXC.out wideWrite ?_))
        first | (case lx => rfl) | skip
        first | (case sx => rfl) | skip
        first | (case sy => rfl) | skip
        intro w5 hB5 hO5
        have hb5 : Below wr.heap.size wr w5 := ((Below.refl _ _).alloc (Nat.le_refl _) _).trans (hO5.below _ (Nat.le_refl _))
        have HB5 := Lib.hid hB5
        have HL5 := Lib.hid hb5
        have HW5 := Lib.hid (show Below W0.heap.size W0 w5 from (HB0.out.trans (HP.out.low.mono HB0.out.size)).trans (hb5.mono (Nat.le_trans HB0.out.size HP.out.low.size)))
        clear hB5 hO5 hb5 r1 hx5
        go_wp2_with (first
          | (with_reducible refine wpList_box_load 71 7 wr.heap.size (X q) _ _ _ _ _ _ ?bx HB5.out wideWrite ?_))
        first | (case bx => rfl) | skip
        refine (HO.out w5 (X q) HW5.out HXQ.out.2).mono ?_
        rintro e w6 ⟨ys, rfl, hcp⟩
        have HCP := Lib.hid hcp
        have hyl : ys.length = 78 := by rw [eqC_len Try.underlying71 hcp.1, e1]
        have HY1 := Lib.hid (good_cells_of (by decide) (EqC.good _ _ _ _ (EqC.symm _ _ _ _ hcp.1)))
        clear hcp
        obtain ⟨cs, hbx, hlen, hjj⟩ := HP.out.row
        have hth : w6.there C (q * 78) ys.toArray.size := by
          have h6 := (hbx.keep HL5.out).keep HCP.out.2
          refine h6.there _ _ ?_
          rw [List.size_toArray, hyl, hlen]
          omega
        clear hbx hlen hjj
        go_wp2_with (first
          | (with_reducible refine wpList_store_mid rfl 71 (.tmp 26) (.tmp 25) rfl C (q * 78) ys.toArray ?mx ?my hth ?mi ?m1 ?_))
        first | (case mx => rfl) | skip
        first | (case my => rfl) | skip
        first | (case mi => rw [List.size_toArray, hyl]; exact wideWrite.1) | skip
        first | (case m1 => exact all_oneCell_toArray HY1.out) | skip
        refine ⟨⟨q + 1, by first | rfl | (push_cast; rfl), hql, Lib.hid (HP.out.step HB0.out.size hql (HL5.out.trans (HCP.out.2.mono HL5.out.size)) hyl ?_)⟩, by simp [intOf]; omega⟩
        exact EqC.kept (Nat.le_refl _) (Nat.le_refl _) (fun _ _ _ => rfl) (fun _ _ _ => rfl) (fun _ h _ => h) (fun i h _ => Nat.le_trans HL5.out.size h) _ _ _ _ HCP.out.1
theorem infoEntry : (Try.prog.info? 73).map (fun i => (i.zero, i.size, i.bytes)) = some (some (.agg #[.int .i64 0, .int .i64 0, .string ⟨#[]⟩, .int .i64 0, .int .i64 0, .string ⟨#[]⟩, .int .i64 0, .int .i64 0, .string ⟨#[]⟩, .slice none 0 0, .slice none 0 0, .int .i64 0, .int .i64 0, .string ⟨#[]⟩, .slice none 0 0, .slice none 0 0, .int .i64 0, .int .i64 0, .string ⟨#[]⟩, .slice none 0 0, .slice none 0 0, .string ⟨#[]⟩, .slice none 0 0, .int .i64 0, .bool false, .int .i64 0, .int .i64 0, .string ⟨#[]⟩, .slice none 0 0, .slice none 0 0, .bool false, .int .i64 0, .int .i64 0, .string ⟨#[]⟩, .slice none 0 0, .slice none 0 0, .slice none 0 0, .int .i64 0, .int .i64 0, .slice none 0 0, .slice none 0 0, .bool false, .slice none 0 0, .bool false, .int .i64 0, .int .i64 0, .string ⟨#[]⟩, .int .i64 0, .slice none 0 0, .bool false, .bool false, .bool false, .int .i64 0, .slice none 0 0, .int .i64 0, .int .i64 0, .string ⟨#[]⟩, .slice none 0 0, .slice none 0 0, .slice none 0 0, .int .i64 0, .int .i64 0, .int .i64 0, .slice none 0 0, .int .i64 0, .int .i64 0, .slice none 0 0, .string ⟨#[]⟩, .slice none 0 0, .int .i64 0, .int .i64 0, .string ⟨#[]⟩, .slice none 0 0, .slice none 0 0, .int .i64 0, .slice none 0 0, .slice none 0 0, .string ⟨#[]⟩, .int .i64 0, .slice none 0 0, .slice none 0 0, .bool false]), 82, 1208) := by kernel_rfl
theorem wideEntry : Wide Try.prog 73 82 := ⟨by kernel_rfl, _, Try.underlying73, rfl⟩
set_option maxHeartbeats 3200000 in
theorem copyAll_Entry (n : Nat) (v : Value) (W0 W : World) (hb0 : Below W0.heap.size W0 W) (h : GoodC Try.prog W0 (n + 1) 22 [v]) (hone : OneOK 48 73 n W0) :
    Calls Try.prog 47 #[v, .func (.func 48) #[] #[]] W fun e W' => ∃ v', e = .returned v' ∧ CopyOf W0 W (n + 1) 22 [v] W' [v'] := by
  obtain ⟨i0, hi0, hz0, hz1, hz2⟩ := info_parts infoEntry
  have e1 : Try.prog.cellsOf 73 = 82 := by kernel_rfl
  have e8 : Try.prog.bytesOf 73 = 1208 := by kernel_rfl
  obtain ⟨a, len, cap, rfl, hlc, ⟨hm, hby, hnil⟩, hc⟩ := goodC_slice Try.underlying22 h
  rw [e1] at hc
  rw [e8] at hby
  by_cases h0 : len = 0
  · subst h0
    go_enter Try.func47, Try.ntmps47
    go_wp2_with fail
    go_ret
    exact ⟨_, rfl, eqC_slice Try.underlying22 ⟨a, 0, cap, none, 0, rfl, rfl, hlc, ⟨hm, by omega, hnil⟩, Nat.le_refl _, ⟨by unfold maxLen; omega, by omega, fun _ => rfl⟩, fun h0 => absurd h0 (Nat.lt_irrefl _)⟩, Below.refl _ _⟩
  · obtain ⟨B, o, rfl, hB, hj⟩ := hc (by omega)
    have HB0 := Lib.hid hb0
    have fn : ∀ j : Nat, ∃ ds : List Value, j < len → ds.length = 82 ∧ W0.rangeAt B (o + j * 82) ds ∧ GoodC Try.prog W0 n 73 ds := fun j => by
      by_cases hjl : j < len
      · obtain ⟨ds, h1⟩ := hj j hjl; exact ⟨ds, fun _ => h1⟩
      · exact ⟨[], fun h => absurd h hjl⟩
    obtain ⟨X, hX⟩ := Classical.axiomOfChoice fn
    have HX := Lib.hid hX
    have HO := Lib.hid hone
    have HBY := Lib.hid (And.intro hlc (And.intro hm hby))
    have z1 : ((len : Int) == 0) = false := by simpa using h0
    have hl63 : len ≤ 9223372036854775807 := by have := HBY.out.2.1; unfold maxLen at this; omega
    clear hj fn hX hone h hc hnil hb0 hby hm
    go_enter Try.func47, Try.ntmps47
    go_wp2_with (first
      | (with_reducible refine wpList_make_wide _ rfl _ _ 22 rfl 73 i0 (.agg #[.int .i64 0, .int .i64 0, .string ⟨#[]⟩, .int .i64 0, .int .i64 0, .string ⟨#[]⟩, .int .i64 0, .int .i64 0, .string ⟨#[]⟩, .slice none 0 0, .slice none 0 0, .int .i64 0, .int .i64 0, .string ⟨#[]⟩, .slice none 0 0, .slice none 0 0, .int .i64 0, .int .i64 0, .string ⟨#[]⟩, .slice none 0 0, .slice none 0 0, .string ⟨#[]⟩, .slice none 0 0, .int .i64 0, .bool false, .int .i64 0, .int .i64 0, .string ⟨#[]⟩, .slice none 0 0, .slice none 0 0, .bool false, .int .i64 0, .int .i64 0, .string ⟨#[]⟩, .slice none 0 0, .slice none 0 0, .slice none 0 0, .int .i64 0, .int .i64 0, .slice none 0 0, .slice none 0 0, .bool false, .slice none 0 0, .bool false, .int .i64 0, .int .i64 0, .string ⟨#[]⟩, .int .i64 0, .slice none 0 0, .bool false, .bool false, .bool false, .int .i64 0, .slice none 0 0, .int .i64 0, .int .i64 0, .string ⟨#[]⟩, .slice none 0 0, .slice none 0 0, .slice none 0 0, .int .i64 0, .int .i64 0, .int .i64 0, .slice none 0 0, .int .i64 0, .int .i64 0, .slice none 0 0, .string ⟨#[]⟩, .slice none 0 0, .int .i64 0, .int .i64 0, .string ⟨#[]⟩, .slice none 0 0, .slice none 0 0, .int .i64 0, .slice none 0 0, .slice none 0 0, .string ⟨#[]⟩, .int .i64 0, .slice none 0 0, .slice none 0 0, .bool false]) Try.underlying22 hi0 hz0 len ?ml ?mc ?mb hl63 ?_))
    first | (case ml => rfl) | skip
    first | (case mc => rfl) | skip
    case mb => first | (rw [hz2]; have := HBY.out.2.2; omega) | (have := HBY.out.2.2; omega)
    have hbx : Box (W.alloc (.cells (madeCells #[.int .i64 0, .int .i64 0, .string ⟨#[]⟩, .int .i64 0, .int .i64 0, .string ⟨#[]⟩, .int .i64 0, .int .i64 0, .string ⟨#[]⟩, .slice none 0 0, .slice none 0 0, .int .i64 0, .int .i64 0, .string ⟨#[]⟩, .slice none 0 0, .slice none 0 0, .int .i64 0, .int .i64 0, .string ⟨#[]⟩, .slice none 0 0, .slice none 0 0, .string ⟨#[]⟩, .slice none 0 0, .int .i64 0, .bool false, .int .i64 0, .int .i64 0, .string ⟨#[]⟩, .slice none 0 0, .slice none 0 0, .bool false, .int .i64 0, .int .i64 0, .string ⟨#[]⟩, .slice none 0 0, .slice none 0 0, .slice none 0 0, .int .i64 0, .int .i64 0, .slice none 0 0, .slice none 0 0, .bool false, .slice none 0 0, .bool false, .int .i64 0, .int .i64 0, .string ⟨#[]⟩, .int .i64 0, .slice none 0 0, .bool false, .bool false, .bool false, .int .i64 0, .slice none 0 0, .int .i64 0, .int .i64 0, .string ⟨#[]⟩, .slice none 0 0, .slice none 0 0, .slice none 0 0, .int .i64 0, .int .i64 0, .int .i64 0, .slice none 0 0, .int .i64 0, .int .i64 0, .slice none 0 0, .string ⟨#[]⟩, .slice none 0 0, .int .i64 0, .int .i64 0, .string ⟨#[]⟩, .slice none 0 0, .slice none 0 0, .int .i64 0, .slice none 0 0, .slice none 0 0, .string ⟨#[]⟩, .int .i64 0, .slice none 0 0, .slice none 0 0, .bool false] (len * 82)) 73)) W.heap.size (madeCells #[.int .i64 0, .int .i64 0, .string ⟨#[]⟩, .int .i64 0, .int .i64 0, .string ⟨#[]⟩, .int .i64 0, .int .i64 0, .string ⟨#[]⟩, .slice none 0 0, .slice none 0 0, .int .i64 0, .int .i64 0, .string ⟨#[]⟩, .slice none 0 0, .slice none 0 0, .int .i64 0, .int .i64 0, .string ⟨#[]⟩, .slice none 0 0, .slice none 0 0, .string ⟨#[]⟩, .slice none 0 0, .int .i64 0, .bool false, .int .i64 0, .int .i64 0, .string ⟨#[]⟩, .slice none 0 0, .slice none 0 0, .bool false, .int .i64 0, .int .i64 0, .string ⟨#[]⟩, .slice none 0 0, .slice none 0 0, .slice none 0 0, .int .i64 0, .int .i64 0, .slice none 0 0, .slice none 0 0, .bool false, .slice none 0 0, .bool false, .int .i64 0, .int .i64 0, .string ⟨#[]⟩, .int .i64 0, .slice none 0 0, .bool false, .bool false, .bool false, .int .i64 0, .slice none 0 0, .int .i64 0, .int .i64 0, .string ⟨#[]⟩, .slice none 0 0, .slice none 0 0, .slice none 0 0, .int .i64 0, .int .i64 0, .int .i64 0, .slice none 0 0, .int .i64 0, .int .i64 0, .slice none 0 0, .string ⟨#[]⟩, .slice none 0 0, .int .i64 0, .int .i64 0, .string ⟨#[]⟩, .slice none 0 0, .slice none 0 0, .int .i64 0, .slice none 0 0, .slice none 0 0, .string ⟨#[]⟩, .int .i64 0, .slice none 0 0, .slice none 0 0, .bool false] (len * 82)).toList := by
      have := Box.new W (madeCells #[.int .i64 0, .int .i64 0, .string ⟨#[]⟩, .int .i64 0, .int .i64 0, .string ⟨#[]⟩, .int .i64 0, .int .i64 0, .string ⟨#[]⟩, .slice none 0 0, .slice none 0 0, .int .i64 0, .int .i64 0, .string ⟨#[]⟩, .slice none 0 0, .slice none 0 0, .int .i64 0, .int .i64 0, .string ⟨#[]⟩, .slice none 0 0, .slice none 0 0, .string ⟨#[]⟩, .slice none 0 0, .int .i64 0, .bool false, .int .i64 0, .int .i64 0, .string ⟨#[]⟩, .slice none 0 0, .slice none 0 0, .bool false, .int .i64 0, .int .i64 0, .string ⟨#[]⟩, .slice none 0 0, .slice none 0 0, .slice none 0 0, .int .i64 0, .int .i64 0, .slice none 0 0, .slice none 0 0, .bool false, .slice none 0 0, .bool false, .int .i64 0, .int .i64 0, .string ⟨#[]⟩, .int .i64 0, .slice none 0 0, .bool false, .bool false, .bool false, .int .i64 0, .slice none 0 0, .int .i64 0, .int .i64 0, .string ⟨#[]⟩, .slice none 0 0, .slice none 0 0, .slice none 0 0, .int .i64 0, .int .i64 0, .int .i64 0, .slice none 0 0, .int .i64 0, .int .i64 0, .slice none 0 0, .string ⟨#[]⟩, .slice none 0 0, .int .i64 0, .int .i64 0, .string ⟨#[]⟩, .slice none 0 0, .slice none 0 0, .int .i64 0, .slice none 0 0, .slice none 0 0, .string ⟨#[]⟩, .int .i64 0, .slice none 0 0, .slice none 0 0, .bool false] (len * 82)).toList 73
      simpa using this
    have HP0 : Hid (Cpg W0 W n 73 82 W.heap.size X len 0 (W.alloc (.cells (madeCells #[.int .i64 0, .int .i64 0, .string ⟨#[]⟩, .int .i64 0, .int .i64 0, .string ⟨#[]⟩, .int .i64 0, .int .i64 0, .string ⟨#[]⟩, .slice none 0 0, .slice none 0 0, .int .i64 0, .int .i64 0, .string ⟨#[]⟩, .slice none 0 0, .slice none 0 0, .int .i64 0, .int .i64 0, .string ⟨#[]⟩, .slice none 0 0, .slice none 0 0, .string ⟨#[]⟩, .slice none 0 0, .int .i64 0, .bool false, .int .i64 0, .int .i64 0, .string ⟨#[]⟩, .slice none 0 0, .slice none 0 0, .bool false, .int .i64 0, .int .i64 0, .string ⟨#[]⟩, .slice none 0 0, .slice none 0 0, .slice none 0 0, .int .i64 0, .int .i64 0, .slice none 0 0, .slice none 0 0, .bool false, .slice none 0 0, .bool false, .int .i64 0, .int .i64 0, .string ⟨#[]⟩, .int .i64 0, .slice none 0 0, .bool false, .bool false, .bool false, .int .i64 0, .slice none 0 0, .int .i64 0, .int .i64 0, .string ⟨#[]⟩, .slice none 0 0, .slice none 0 0, .slice none 0 0, .int .i64 0, .int .i64 0, .int .i64 0, .slice none 0 0, .int .i64 0, .int .i64 0, .slice none 0 0, .string ⟨#[]⟩, .slice none 0 0, .int .i64 0, .int .i64 0, .string ⟨#[]⟩, .slice none 0 0, .slice none 0 0, .int .i64 0, .slice none 0 0, .slice none 0 0, .string ⟨#[]⟩, .int .i64 0, .slice none 0 0, .slice none 0 0, .bool false] (len * 82)) 73))) := Lib.hid ⟨(Below.refl _ _).alloc (Nat.le_refl _) _, rfl, _, hbx, by rw [Array.length_toList, size_madeCells], fun j hj => absurd hj (Nat.not_lt_zero _)⟩
    clear hbx
    generalize W.alloc (.cells (madeCells #[.int .i64 0, .int .i64 0, .string ⟨#[]⟩, .int .i64 0, .int .i64 0, .string ⟨#[]⟩, .int .i64 0, .int .i64 0, .string ⟨#[]⟩, .slice none 0 0, .slice none 0 0, .int .i64 0, .int .i64 0, .string ⟨#[]⟩, .slice none 0 0, .slice none 0 0, .int .i64 0, .int .i64 0, .string ⟨#[]⟩, .slice none 0 0, .slice none 0 0, .string ⟨#[]⟩, .slice none 0 0, .int .i64 0, .bool false, .int .i64 0, .int .i64 0, .string ⟨#[]⟩, .slice none 0 0, .slice none 0 0, .bool false, .int .i64 0, .int .i64 0, .string ⟨#[]⟩, .slice none 0 0, .slice none 0 0, .slice none 0 0, .int .i64 0, .int .i64 0, .slice none 0 0, .slice none 0 0, .bool false, .slice none 0 0, .bool false, .int .i64 0, .int .i64 0, .string ⟨#[]⟩, .int .i64 0, .slice none 0 0, .bool false, .bool false, .bool false, .int .i64 0, .slice none 0 0, .int .i64 0, .int .i64 0, .string ⟨#[]⟩, .slice none 0 0, .slice none 0 0, .slice none 0 0, .int .i64 0, .int .i64 0, .int .i64 0, .slice none 0 0, .int .i64 0, .int .i64 0, .slice none 0 0, .string ⟨#[]⟩, .slice none 0 0, .int .i64 0, .int .i64 0, .string ⟨#[]⟩, .slice none 0 0, .slice none 0 0, .int .i64 0, .slice none 0 0, .slice none 0 0, .string ⟨#[]⟩, .int .i64 0, .slice none 0 0, .slice none 0 0, .bool false] (len * 82)) 73) = W1 at *
    obtain ⟨C, hC⟩ : ∃ C, C = W.heap.size := ⟨_, rfl⟩
    rw [← hC] at HP0 ⊢
    have HCC := Lib.hid hC
    clear hC
    go_loopw [16] (fun i wr => ∃ q : Nat, i = .int .i64 q ∧ q ≤ len ∧ Hid (Cpg W0 W n 73 82 C X len q wr)) (fun i wr => len - (intOf i).toNat)
    case atStart => exact ⟨0, rfl, Nat.zero_le _, HP0⟩
    case round =>
      clear HP0
      obtain ⟨q, rfl, hq, HP⟩ := hrel
      by_cases hlast : q = len
      · subst hlast
        go_wp2_with fail
        go_ret
        exact ⟨_, rfl, HP.out.done Try.underlying22 e1 HB0.out hB (fun j hj => ⟨(HX.out j hj).1, (HX.out j hj).2.1⟩) HBY.out.1 HBY.out.2.1 (by rw [e8]; exact HBY.out.2.2)⟩
      · have hql : q < len := by omega
        obtain ⟨x1, x2, x3⟩ := HX.out q hql
        have r1 : wr.rangeAt B (o + q * 82) (X q) := range_below (range_below x2 HB0.out hB) HP.out.low (Nat.lt_of_lt_of_le hB HB0.out.size)
        have HXQ := Lib.hid (And.intro x1 x3)
        have hw1 : IntKind.i64.wrap ((q : Int) + 1) = ((q + 1 : Nat) : Int) := by rw [IntKind.wrap_i64]; omega
        have hx5 : (Try.prog.info? 73).map (·.size) = some (X q).length := by rw [x1]; exact wideEntry.1
        clear x1 x2 x3
        have HR1 := Lib.hid r1
        have HBX := Lib.hid (BoxN.new wr [.int .i64 0, .int .i64 0, .string ⟨#[]⟩, .int .i64 0, .int .i64 0, .string ⟨#[]⟩, .int .i64 0, .int .i64 0, .string ⟨#[]⟩, .slice none 0 0, .slice none 0 0, .int .i64 0, .int .i64 0, .string ⟨#[]⟩, .slice none 0 0, .slice none 0 0, .int .i64 0, .int .i64 0, .string ⟨#[]⟩, .slice none 0 0, .slice none 0 0, .string ⟨#[]⟩, .slice none 0 0, .int .i64 0, .bool false, .int .i64 0, .int .i64 0, .string ⟨#[]⟩, .slice none 0 0, .slice none 0 0, .bool false, .int .i64 0, .int .i64 0, .string ⟨#[]⟩, .slice none 0 0, .slice none 0 0, .slice none 0 0, .int .i64 0, .int .i64 0, .slice none 0 0, .slice none 0 0, .bool false, .slice none 0 0, .bool false, .int .i64 0, .int .i64 0, .string ⟨#[]⟩, .int .i64 0, .slice none 0 0, .bool false, .bool false, .bool false, .int .i64 0, .slice none 0 0, .int .i64 0, .int .i64 0, .string ⟨#[]⟩, .slice none 0 0, .slice none 0 0, .slice none 0 0, .int .i64 0, .int .i64 0, .int .i64 0, .slice none 0 0, .int .i64 0, .int .i64 0, .slice none 0 0, .string ⟨#[]⟩, .slice none 0 0, .int .i64 0, .int .i64 0, .string ⟨#[]⟩, .slice none 0 0, .slice none 0 0, .int .i64 0, .slice none 0 0, .slice none 0 0, .string ⟨#[]⟩, .int .i64 0, .slice none 0 0, .slice none 0 0, .bool false] 82 73 rfl)
        have HXC := Lib.hid (show Cells 82 (X q) from ⟨HXQ.out.1, List.all_eq_true.2 (good_cells_of (by decide) HXQ.out.2)⟩)
        go_wp2_with (first
          | (with_reducible refine wpList_load_mid rfl 73 (.tmp 19) rfl B (o + q * 82) ?lx (X q) _ HR1.out Try.underlying73 rfl hx5 ?_)
          | (with_reducible refine wpList_box_store 73 7 (.tmp 20) wr.heap.size [.int .i64 0, .int .i64 0, .string ⟨#[]⟩, .int .i64 0, .int .i64 0, .string ⟨#[]⟩, .int .i64 0, .int .i64 0, .string ⟨#[]⟩, .slice none 0 0, .slice none 0 0, .int .i64 0, .int .i64 0, .string ⟨#[]⟩, .slice none 0 0, .slice none 0 0, .int .i64 0, .int .i64 0, .string ⟨#[]⟩, .slice none 0 0, .slice none 0 0, .string ⟨#[]⟩, .slice none 0 0, .int .i64 0, .bool false, .int .i64 0, .int .i64 0, .string ⟨#[]⟩, .slice none 0 0, .slice none 0 0, .bool false, .int .i64 0, .int .i64 0, .string ⟨#[]⟩, .slice none 0 0, .slice none 0 0, .slice none 0 0, .int .i64 0, .int .i64 0, .slice none 0 0, .slice none 0 0, .bool false, .slice none 0 0, .bool false, .int .i64 0, .int .i64 0, .string ⟨#[]⟩, .int .i64 0, .slice none 0 0, .bool false, .bool false, .bool false, .int .i64 0, .slice none 0 0, .int .i64 0, .int .i64 0, .string ⟨#[]⟩, .slice none 0 0, .slice none 0 0, .slice none 0 0, .int .i64 0, .int .i64 0, .int .i64 0, .slice none 0 0, .int .i64 0, .int .i64 0, .slice none 0 0, .string ⟨#[]⟩, .slice none 0 0, .int .i64 0, .int .i64 0, .string ⟨#[]⟩, .slice none 0 0, .slice none 0 0, .int .i64 0, .slice none 0 0, .slice none 0 0, .string ⟨#[]⟩, .int .i64 0, .slice none 0 0, .slice none 0 0, .bool false] (X q) _ _ _ _ _ _ ?sx ?sy HBX.out HXC.out wideEntry ?_))
        first | (case lx => rfl) | skip
        first | (case sx => rfl) | skip
        first | (case sy => rfl) | skip
        intro w5 hB5 hO5
        have hb5 : Below wr.heap.size wr w5 := ((Below.refl _ _).alloc (Nat.le_refl _) _).trans (hO5.below _ (Nat.le_refl _))
        have HB5 := Lib.hid hB5
        have HL5 := Lib.hid hb5
        have HW5 := Lib.hid (show Below W0.heap.size W0 w5 from (HB0.out.trans (HP.out.low.mono HB0.out.size)).trans (hb5.mono (Nat.le_trans HB0.out.size HP.out.low.size)))
        clear hB5 hO5 hb5 r1 hx5
        go_wp2_with (first
          | (with_reducible refine wpList_box_load 73 7 wr.heap.size (X q) _ _ _ _ _ _ ?bx HB5.out wideEntry ?_))
        first | (case bx => rfl) | skip
        refine (HO.out w5 (X q) HW5.out HXQ.out.2).mono ?_
        rintro e w6 ⟨ys, rfl, hcp⟩
        have HCP := Lib.hid hcp
        have hyl : ys.length = 82 := by rw [eqC_len Try.underlying73 hcp.1, e1]
        have HY1 := Lib.hid (good_cells_of (by decide) (EqC.good _ _ _ _ (EqC.symm _ _ _ _ hcp.1)))
        clear hcp
        obtain ⟨cs, hbx, hlen, hjj⟩ := HP.out.row
        have hth : w6.there C (q * 82) ys.toArray.size := by
          have h6 := (hbx.keep HL5.out).keep HCP.out.2
          refine h6.there _ _ ?_
          rw [List.size_toArray, hyl, hlen]
          omega
        clear hbx hlen hjj
        go_wp2_with (first
          | (with_reducible refine wpList_store_mid rfl 73 (.tmp 26) (.tmp 25) rfl C (q * 82) ys.toArray ?mx ?my hth ?mi ?m1 ?_))
        first | (case mx => rfl) | skip
        first | (case my => rfl) | skip
        first | (case mi => rw [List.size_toArray, hyl]; exact wideEntry.1) | skip
        first | (case m1 => exact all_oneCell_toArray HY1.out) | skip
        refine ⟨⟨q + 1, by first | rfl | (push_cast; rfl), hql, Lib.hid (HP.out.step HB0.out.size hql (HL5.out.trans (HCP.out.2.mono HL5.out.size)) hyl ?_)⟩, by simp [intOf]; omega⟩
        exact EqC.kept (Nat.le_refl _) (Nat.le_refl _) (fun _ _ _ => rfl) (fun _ _ _ => rfl) (fun _ h _ => h) (fun i h _ => Nat.le_trans HL5.out.size h) _ _ _ _ HCP.out.1
end Go.Proofs.Ytfpgklhbghahoaa
