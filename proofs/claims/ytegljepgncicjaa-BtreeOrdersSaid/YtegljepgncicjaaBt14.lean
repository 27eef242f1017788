/- Btree: awake. -/
import Derived.Test.YtegljepgncicjaaBt13
namespace Go.Proofs.Ytegljepgncicjaa
open Go.ChangeShapes Go.WideShapes Go.ChangeAt Go.RowKit Go.Deep Go.Shelf
set_option linter.unusedVariables false
set_option linter.unusedSimpArgs false
theorem ca {W : World} {ob : Obj} {g j : Nat} {v : Value} (hg : g < W.heap.size) (h : W.cell? ⟨g, j, none⟩ = some v) : (W.alloc ob).cell? ⟨g, j, none⟩ = some v :=
  (World.cell?_of_block (a := ⟨g, j, none⟩) (((Kept.refl (fun _ => False) W).alloc ob).block g hg (fun h => h))).trans h
theorem cn (W : World) (arr : Array Value) (t : TypeId) (j : Nat) : (W.alloc (.cells arr t)).cell? ⟨W.heap.size, j, none⟩ = arr[j]? := by
  unfold World.cell?
  rw [heap_new]
  rfl
def AwakeOut (w0 : World) (e : Ending) (W' : World) : Prop := e = .returned (.bool true) ∧ Below w0.heap.size w0 W'
set_option maxRecDepth 100000 in
set_option maxHeartbeats 3200000 in
theorem awake_any (w0 : World) : Calls Try.prog 9 #[] w0 (AwakeOut w0) := by
  obtain ⟨T, hT⟩ : ∃ T, T = w0.heap.size := ⟨_, rfl⟩
  obtain ⟨B, hB⟩ : ∃ B, B = w0.heap.size := ⟨_, rfl⟩
  have hBw : B ≤ w0.heap.size := Nat.le_of_eq hB
  have HBw := Lib.hid hBw
  have HB := Lib.hid hB
  have HBT := Lib.hid (show B ≤ T by omega)
  have HX := Lib.hid (show Box (w0.alloc (.cells #[.int .i64 4, .int .i64 0, .pointer none] 68)) T [.int .i64 4, .int .i64 0, .pointer none] ∧ Below B w0 (w0.alloc (.cells #[.int .i64 4, .int .i64 0, .pointer none] 68)) by
    subst hT; subst hB
    exact ⟨Box.new w0 [.int .i64 4, .int .i64 0, .pointer none] 68, (Below.refl _ w0).alloc (Nat.le_refl _) _⟩)
  have hT2 := Lib.hid hT
  clear hBw hB
  go_enter Try.func9, Try.ntmps9
  go_wp2_with fail
  refine (New_4 _).mono ?_
  rintro e w1 ⟨rfl, rfl⟩
  rw [← hT]
  clear hT
  generalize w0.alloc (.cells #[.int .i64 4, .int .i64 0, .pointer none] 68) = W1 at *
  go_wp2_with fail
  refine (New_3 _).mono ?_
  rintro e w1 ⟨rfl, hw⟩
  obtain rfl := hw.symm
  go_wp2_with fail
  refine (Height_of T 0 W1 (height_0 T 4 0 W1 HX.out.1)).mono ?_
  rintro e w1 ⟨rfl, hw⟩
  obtain rfl := hw.symm
  go_wp2_with fail
  refine (p1 B T w0 W1 HX.out.1 HBT.out HX.out.2 HBw.out).mono ?_
  rintro e W2 ⟨rfl, h2⟩
  have H2 := Lib.hid h2
  clear h2 HX
  go_wp2_with fail
  refine (p2 B T w0 W2 H2.out HBw.out).mono ?_
  rintro e W3 ⟨rfl, h3⟩
  have H3 := Lib.hid h3
  clear h3 H2
  go_wp2_with fail
  refine (p3 B T w0 W3 H3.out HBw.out).mono ?_
  rintro e W4 ⟨rfl, h4⟩
  have H4 := Lib.hid h4
  clear h4 H3
  go_wp2_with fail
  refine (p4 B T w0 W4 H4.out HBw.out).mono ?_
  rintro e W5 ⟨rfl, h5⟩
  have H5 := Lib.hid h5
  clear h5 H4
  go_wp2_with fail
  refine (p5 B T w0 W5 H5.out HBw.out).mono ?_
  rintro e W6 ⟨rfl, h6⟩
  have H6 := Lib.hid h6
  clear h6 H5
  go_wp2_with fail
  refine (p6 B T w0 W6 H6.out).mono ?_
  rintro e w1 ⟨rfl, hw⟩
  obtain rfl := hw.symm
  go_wp2_with fail
  refine (p7 B T w0 _ H6.out).mono ?_
  rintro e w1 ⟨rfl, hw⟩
  obtain rfl := hw.symm
  go_wp2_with fail
  refine (p8 B T w0 _ H6.out HBw.out).mono ?_
  rintro e W7 ⟨rfl, h7⟩
  have H7 := Lib.hid h7
  clear h7 H6
  go_wp2_with fail
  refine (p9 B T w0 W7 H7.out HBw.out).mono ?_
  rintro e W8 ⟨g, c, rfl, h8, hg, g0, g1, g2, g3⟩
  have H8 := Lib.hid h8
  have hgn : g ≠ W8.heap.size := Nat.ne_of_lt hg
  clear h8 H7
  go_wp2_with fail
  refine (same_2 g W8.heap.size c 2 sc s3 sb s2 _ (ca hg g0) (ca hg g1) (ca hg g2) (ca hg g3) (cn _ _ _ 0) (cn _ _ _ 1) (cn _ _ _ 2) (cn _ _ _ 3)).mono ?_
  rintro e w9 ⟨rfl, q, hq⟩
  have h9 : TW B T 4 3 [sa, sb, sc] [s0, s2, s3] w0 w9 := by
    rw [hq]
    exact H8.out.kept HBw.out (((Kept.refl _ _).alloc _).drewN q)
  have H9 := Lib.hid h9
  clear h9 hq H8 g0 g1 g2 g3 hg hgn
  go_wp2_with fail
  refine (p10 B T w0 w9 H9.out HBw.out).mono ?_
  rintro e W10 ⟨rfl, h10⟩
  have H10 := Lib.hid h10
  clear h10 H9
  go_wp2_with fail
  refine (p11 B T w0 W10 H10.out HBw.out).mono ?_
  rintro e W11 ⟨rfl, h11⟩
  have H11 := Lib.hid h11
  clear h11 H10
  go_wp2_with fail
  go_ret
  refine ⟨rfl, ?_⟩
  rw [← HB.out]
  exact H11.out.2
end Go.Proofs.Ytegljepgncicjaa
