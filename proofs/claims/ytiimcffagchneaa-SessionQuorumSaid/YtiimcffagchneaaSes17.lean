/- Members: the reference's 'Valid' where the first test fails. -/
import Derived.Test.YtiimcffagchneaaSes16
namespace Go.Proofs.Ytiimcffagchneaa
open Go.ChangeShapes Go.WideShapes Go.ChangeAt Go.RowKit
set_option linter.unusedVariables false
set_option linter.unusedSimpArgs false
set_option maxRecDepth 100000 in
set_option maxHeartbeats 1600000 in
theorem rvalid_0 (id sz tm vt rl ld ti vs : Int) (lg : Value) (cm : Int) (nx mt : Value) (es : List (List Value)) (w : World) (hG : ¬ (1 ≤ sz ∧ sz ≤ 7 ∧ 0 ≤ id ∧ id < sz ∧ 0 ≤ tm ∧ -1 ≤ vt ∧ vt < sz ∧ -1 ≤ ld ∧ ld < sz)) :
    Calls Try.prog 26 #[mem id sz tm vt rl ld ti vs lg cm nx mt] w fun e w' => Says (1 ≤ sz ∧ sz ≤ 7 ∧ 0 ≤ cm ∧ cm ≤ es.length) e ∧ Below w.heap.size w w' := by
  have HG := Lib.hid hG
  clear hG
  have hbw : Below w.heap.size w (w.alloc (.cells #[.int .i64 id, .int .i64 sz, .int .i64 tm, .int .i64 vt, .int .i64 rl, .int .i64 ld, .int .i64 ti, .int .i64 vs, lg, .int .i64 cm, nx, mt] 37)) := (Below.refl _ _).alloc (Nat.le_refl _) _
  have HB := Lib.hid hbw
  clear hbw
  go_enter Try.func26, Try.ntmps26
  go_wp2_with fail
  all_goals first
    | (go_ret; exact ⟨⟨_, rfl, fun h => by cases h⟩, HB.out⟩)
    | exact absurd ⟨by omega, by omega, by omega, by omega, by omega, by omega, by omega, by omega, by omega⟩ HG.out
end Go.Proofs.Ytiimcffagchneaa
