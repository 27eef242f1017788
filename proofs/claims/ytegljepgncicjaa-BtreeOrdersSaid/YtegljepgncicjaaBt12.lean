/- Btree: the reference's Same on two lists of two pairs. -/
import Derived.Test.YtegljepgncicjaaBt11
import Derived.Laws.StructEq
namespace Go.Proofs.Ytegljepgncicjaa
open Go.ChangeShapes Go.WideShapes Go.ChangeAt Go.RowKit Go.Deep Go.Shelf
set_option linter.unusedVariables false
set_option linter.unusedSimpArgs false
set_option maxRecDepth 100000 in
set_option maxHeartbeats 1600000 in
theorem same_2 (g h c d : Nat) (a0 a1 a2 a3 : Bs) (W : World)
    (g0 : W.cell? ⟨g, 0, none⟩ = some (.string a0)) (g1 : W.cell? ⟨g, 1, none⟩ = some (.string a1)) (g2 : W.cell? ⟨g, 2, none⟩ = some (.string a2)) (g3 : W.cell? ⟨g, 3, none⟩ = some (.string a3))
    (h0 : W.cell? ⟨h, 0, none⟩ = some (.string a0)) (h1 : W.cell? ⟨h, 1, none⟩ = some (.string a1)) (h2 : W.cell? ⟨h, 2, none⟩ = some (.string a2)) (h3 : W.cell? ⟨h, 3, none⟩ = some (.string a3)) :
    Calls Try.prog 18 #[.slice (some ⟨g, 0, none⟩) 2 c, .slice (some ⟨h, 0, none⟩) 2 d] W fun e W' => e = .returned (.bool true) ∧ ∃ q, W' = W.drewN q := by
  go_enter Try.func18, Try.ntmps18
  go_wp2_with fail
  refine wp_loop_rounds 3 ?_
  rw [rounds_succ]
  go_wp2_with fail
  go_quiet (fail)
  go_wp2_with fail
  rw [rounds_succ]
  go_wp2_with fail
  go_quiet (fail)
  go_wp2_with fail
  rw [rounds_succ]
  go_wp2_with fail
  go_ret
  exact ⟨rfl, _, rfl⟩
end Go.Proofs.Ytegljepgncicjaa
