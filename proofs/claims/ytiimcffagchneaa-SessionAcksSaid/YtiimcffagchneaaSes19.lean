/- Sessions: the laws with a member. -/
import Derived.Test.YtiimcffagchneaaSes18
import Derived.Deep.RegionHeld3
namespace Go.Proofs.Ytiimcffagchneaa
open Go.ChangeShapes Go.WideShapes Go.ChangeAt Go.RowKit
set_option linter.unusedVariables false
set_option linter.unusedSimpArgs false

set_option maxRecDepth 100000 in
set_option maxHeartbeats 1600000 in
theorem acks_law (id sz tm vt rl ld ti vs : Int) (lg : Value) (cm : Int) (nx mt : Value) (es : List (List Value)) (want index : Int) (w : World) (hm0 : es.length ≤ 9223372036854775807) (he : EntArg w lg es) (hn : IntArg w nx) (hm : IntArg w mt) :
    Calls Try.prog 5 #[mem id sz tm vt rl ld ti vs lg cm nx mt, .int .i64 want, .int .i64 index] w fun e w' => e = .returned (.bool true) ∧ Below w.heap.size w w' := by
  obtain ⟨xs, hi⟩ := hm.ints
  have HE := Lib.hid he
  have HN := Lib.hid hn
  have HM := Lib.hid hm
  have HI := Lib.hid hi
  clear he hn hm hi
  go_enter Try.func5, Try.ntmps5
  go_wp2_with fail
  refine (MB.next (MB.start w id sz tm vt rl ld ti vs lg cm nx mt) (fits_any _ _ _ _ _ _ _ _ _ _ _ _ es _ hm0 (HE.out.below (MB.start w id sz tm vt rl ld ti vs lg cm nx mt).2.2.2.2.2.2.2.2.2.2.2.2.2) (HN.out.below (MB.start w id sz tm vt rl ld ti vs lg cm nx mt).2.2.2.2.2.2.2.2.2.2.2.2.2) (HM.out.below (MB.start w id sz tm vt rl ld ti vs lg cm nx mt).2.2.2.2.2.2.2.2.2.2.2.2.2))).mono ?_
  rintro e w1 ⟨⟨b, hee, hF⟩, d0, d1, d2, d3, d4, d5, d6, d7, d8, d9, d10, d11, dz, dB⟩
  subst hee
  have HF := Lib.hid hF
  clear hF
  cases b
  · go_wp2_with fail
    refine (MB.next (w := w) (id := id) (sz := sz) (tm := tm) (vt := vt) (rl := rl) (ld := ld) (ti := ti) (vs := vs) (lg := lg) (cm := cm) (nx := nx) (mt := mt) ⟨d0, d1, d2, d3, d4, d5, d6, d7, d8, d9, d10, d11, dz, dB⟩ (awake_any _)).mono ?_
    rintro e w2 ⟨hee, g0, g1, g2, g3, g4, g5, g6, g7, g8, g9, g10, g11, gz, gB⟩
    subst hee
    go_wp2_with fail
    go_ret
    exact ⟨rfl, gB⟩
  · obtain ⟨q0, q1, q2, q3, q4⟩ := HF.out rfl
    clear HF
    go_wp2_with fail
    have hBd := dB.drew
    go_region_held3 (fun W => W.cell? ⟨w.heap.size, 0, none⟩ = some (.int .i64 id) ∧ W.cell? ⟨w.heap.size, 1, none⟩ = some (.int .i64 sz) ∧ W.cell? ⟨w.heap.size, 2, none⟩ = some (.int .i64 tm) ∧ W.cell? ⟨w.heap.size, 3, none⟩ = some (.int .i64 vt) ∧ W.cell? ⟨w.heap.size, 4, none⟩ = some (.int .i64 rl) ∧ W.cell? ⟨w.heap.size, 5, none⟩ = some (.int .i64 ld) ∧ W.cell? ⟨w.heap.size, 6, none⟩ = some (.int .i64 ti) ∧ W.cell? ⟨w.heap.size, 7, none⟩ = some (.int .i64 vs) ∧ W.cell? ⟨w.heap.size, 8, none⟩ = some (lg) ∧ W.cell? ⟨w.heap.size, 9, none⟩ = some (.int .i64 cm) ∧ W.cell? ⟨w.heap.size, 10, none⟩ = some (nx) ∧ W.cell? ⟨w.heap.size, 11, none⟩ = some (mt) ∧ w.heap.size < W.heap.size ∧ Below w.heap.size w W) (refine ⟨?_, ?_, ?_, ?_, ?_, ?_, ?_, ?_, ?_, ?_, ?_, ?_, ?_, ?_⟩ <;> assumption) (first | (go_at_call 20; refine (MB.next (w := w) (id := id) (sz := sz) (tm := tm) (vt := vt) (rl := rl) (ld := ld) (ti := ti) (vs := vs) (lg := lg) (cm := cm) (nx := nx) (mt := mt) ⟨by assumption, by assumption, by assumption, by assumption, by assumption, by assumption, by assumption, by assumption, by assumption, by assumption, by assumption, by assumption, by assumption, by assumption⟩ (acked_all _ _ _ _ _ _ _ _ _ _ _ _ xs _ _ _ q1 q2 (HI.out.below (by assumption)))).mono ?_; rintro e wn ⟨hee, g0, g1, g2, g3, g4, g5, g6, g7, g8, g9, g10, g11, gz, gB⟩; subst hee) | (go_at_call 21; refine (MB.next (w := w) (id := id) (sz := sz) (tm := tm) (vt := vt) (rl := rl) (ld := ld) (ti := ti) (vs := vs) (lg := lg) (cm := cm) (nx := nx) (mt := mt) ⟨by assumption, by assumption, by assumption, by assumption, by assumption, by assumption, by assumption, by assumption, by assumption, by assumption, by assumption, by assumption, by assumption, by assumption⟩ (racked_all _ _ _ _ _ _ _ _ _ _ _ _ xs _ _ _ q1 q2 (HI.out.below (by assumption)))).mono ?_; rintro e wn ⟨hee, g0, g1, g2, g3, g4, g5, g6, g7, g8, g9, g10, g11, gz, gB⟩; subst hee) | (go_at_call 12; refine (MB.next (w := w) (id := id) (sz := sz) (tm := tm) (vt := vt) (rl := rl) (ld := ld) (ti := ti) (vs := vs) (lg := lg) (cm := cm) (nx := nx) (mt := mt) ⟨by assumption, by assumption, by assumption, by assumption, by assumption, by assumption, by assumption, by assumption, by assumption, by assumption, by assumption, by assumption, by assumption, by assumption⟩ (awake_any _)).mono ?_; rintro e wn ⟨hee, g0, g1, g2, g3, g4, g5, g6, g7, g8, g9, g10, g11, gz, gB⟩; subst hee))
    all_goals go_wp2_with fail
    all_goals (go_ret; exact ⟨rfl, by assumption⟩)
end Go.Proofs.Ytiimcffagchneaa
