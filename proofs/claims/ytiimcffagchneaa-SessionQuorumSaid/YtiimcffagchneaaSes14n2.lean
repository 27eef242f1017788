/- Members: the reference's 'Valid', by cases. -/
import Derived.Test.YtiimcffagchneaaSes14
namespace Go.Proofs.Ytiimcffagchneaa
open Go.ChangeShapes Go.WideShapes Go.ChangeAt Go.RowKit
set_option linter.unusedVariables false
set_option linter.unusedSimpArgs false
set_option maxRecDepth 100000 in
set_option maxHeartbeats 20000000 in
theorem rvalid_no2 (id sz tm vt rl ld ti vs : Int) (lg : Value) (cm : Int) (nx mt : Value) (es : List (List Value)) (w : World) (hl : es.length ≤ 100) (he : EntArg w lg es) (hn : IntArg w nx) (hm : IntArg w mt)
    (a1 : 1 ≤ sz) (a2 : sz ≤ 7) (a3 : 0 ≤ id) (a4 : id < sz) (a5 : 0 ≤ tm) (a6 : -1 ≤ vt) (a7 : vt < sz) (a8 : -1 ≤ ld) (a9 : ld < sz) (b1 : ¬ rl < 0) (b2 : 2 < rl)  :
    Calls Try.prog 26 #[mem id sz tm vt rl ld ti vs lg cm nx mt] w fun e w' => Says (1 ≤ sz ∧ sz ≤ 7 ∧ 0 ≤ cm ∧ cm ≤ es.length) e ∧ Below w.heap.size w w' := by
  have HE := Lib.hid he
  have HN := Lib.hid hn
  have HM := Lib.hid hm
  clear he hn hm
  have f1 : decide (sz < 1) = false := by simp; omega
  have f2 : decide (7 < sz) = false := by simp; omega
  have f3 : decide (id < 0) = false := by simp; omega
  have f4 : decide (sz ≤ id) = false := by simp; omega
  have f5 : decide (tm < 0) = false := by simp; omega
  have f6 : decide (vt < -1) = false := by simp; omega
  have f7 : decide (sz ≤ vt) = false := by simp; omega
  have f8 : decide (ld < -1) = false := by simp; omega
  have f9 : decide (sz ≤ ld) = false := by simp; omega
  go_enter Try.func26, Try.ntmps26
  go_wp2_with fail
  refine wp_named (MB w id sz tm vt rl ld ti vs lg cm nx mt) (MB.start w id sz tm vt rl ld ti vs lg cm nx mt) ?_
  rintro W ⟨c0, c1, c2, c3, c4, c5, c6, c7, c8, c9, c10, c11, hz, hB⟩
  have e1 : decide (rl < 0) = false := by simpa using b1
  have e2 : decide (2 < rl) = true := by simpa using b2
  go_still_tail 28, (by kernel_rfl)
  change wpList _ _ _ _ _ W.drew
  go_wp2_with fail
  go_ret
  exact ⟨⟨_, rfl, fun h => by cases h⟩, hB.drew⟩
end Go.Proofs.Ytiimcffagchneaa
