/- Balance: awake. -/
import Derived.Test.YtimhokilicogdaaBal18
import Derived.Test.YtimhokilicogdaaBal14
import Derived.Outline
namespace Go.Proofs.Ytimhokilicogdaa
open Go.ChangeShapes Go.WideShapes Go.ChangeAt Go.RowKit
set_option linter.unusedVariables false
set_option linter.unusedSimpArgs false
/-- three came back -/
def ThreeOut (w w' : World) (e : Ending) : Prop := ∃ b k, e = .returned (rts ⟨#[99]⟩ (.slice (some ⟨k, 0, none⟩) 1 1) false 1 1 (.slice (some ⟨b, 0, none⟩) 3 3)) ∧ w.heap.size ≤ b ∧ b < w'.heap.size ∧ w'.frozen? ⟨b, 4, none⟩ = false ∧ ChsIn w' (.slice (some ⟨b, 0, none⟩) 3 3) threeCs
set_option maxRecDepth 100000 in
set_option maxHeartbeats 400000 in
theorem three_out (w : World) : Calls Try.prog 18 #[] w fun e w' => ThreeOut w w' e ∧ Below w.heap.size w w' := by
  go_enter Try.func18, Try.ntmps18
  go_wp2_with fail
  refine bodyPost_ret (v := rts ⟨#[99]⟩ (.slice (some ⟨w.heap.size + 1 + 1, 0, none⟩) 1 1) false 1 1 (.slice (some ⟨w.heap.size + 1 + 1 + 1, 0, none⟩) 3 3)) (by simp [results, Try.results18, go_sem]) rfl ⟨⟨w.heap.size + 1 + 1 + 1, _, rfl, by omega, by simp, by simp [go_sem], .inr ⟨_, 0, 3, rfl, by simp, by decide, by decide, ?_⟩⟩, (by repeat' (first | exact Below.refl _ _ | refine Below.alloc ?_ (by first | omega | (simp; omega) | simp) _))⟩
  intro j hj i u hu
  rw [World.cell?_alloc_at _ _ _ _ (by simp)]
  rcases j with _ | _ | _ | j
  · rcases i with _ | _ | _ | _ | _ | i
    all_goals first | (simp [threeCs, Ch.cells] at hu; done) | (simp [threeCs, Ch.cells] at hu ⊢; exact hu)
  · rcases i with _ | _ | _ | _ | _ | i
    all_goals first | (simp [threeCs, Ch.cells] at hu; done) | (simp [threeCs, Ch.cells] at hu ⊢; exact hu)
  · rcases i with _ | _ | _ | _ | _ | i
    all_goals first | (simp [threeCs, Ch.cells] at hu; done) | (simp [threeCs, Ch.cells] at hu ⊢; exact hu)
  · simp [threeCs] at hj; omega
def jumboCs : List Ch := [⟨⟨#[]⟩, ⟨#[99]⟩, 0, 1, true⟩, ⟨⟨#[99]⟩, ⟨#[109]⟩, 0, 1, false⟩, ⟨⟨#[109]⟩, ⟨#[]⟩, 0, 1, false⟩]
theorem jumbo_in {w : World} {b : Nat} (h : ChsIn w (.slice (some ⟨b, 0, none⟩) 3 3) threeCs) : ChsIn (w.setCell ⟨b, 4, none⟩ (.bool true)) (.slice (some ⟨b, 0, none⟩) 3 3) jumboCs := by
  rcases h with ⟨h, _⟩ | ⟨B, o, cap, h1, h2, h3, h4, h5⟩
  · simp [threeCs] at h
  · injection h1 with e1 e2 e3
    injection e1 with e1
    injection e1 with e1 e4
    subst e1 e4
    refine .inr ⟨b, 0, cap, by rw [← e3]; rfl, by simpa using h2, by decide, by decide, fun j hj i u hu => ?_⟩
    have key : ∀ x v, w.cell? ⟨b, x, none⟩ = some v → (w.setCell ⟨b, 4, none⟩ (.bool true)).cell? ⟨b, x, none⟩ = some (if x = 4 then .bool true else v) := by
      intro x v hx
      by_cases h4 : x = 4
      · subst h4; rw [World.cell?_setCell_same _ _ _ hx]; simp
      · rw [World.cell?_setCell_other _ _ _ _ (by intro hc; injection hc; omega), hx]; simp [h4]
    rcases j with _ | _ | _ | j
    · rcases i with _ | _ | _ | _ | _ | i
      all_goals first | (simp [jumboCs, Ch.cells] at hu; done) | (rw [key _ _ (h5 0 (by decide) _ _ rfl)]; simpa [jumboCs, threeCs, Ch.cells] using hu)
    · rcases i with _ | _ | _ | _ | _ | i
      all_goals first | (simp [jumboCs, Ch.cells] at hu; done) | (rw [key _ _ (h5 1 (by decide) _ _ rfl)]; simpa [jumboCs, threeCs, Ch.cells] using hu)
    · rcases i with _ | _ | _ | _ | _ | i
      all_goals first | (simp [jumboCs, Ch.cells] at hu; done) | (rw [key _ _ (h5 2 (by decide) _ _ rfl)]; simpa [jumboCs, threeCs, Ch.cells] using hu)
    · simp [jumboCs] at hj; omega
theorem way1 : way threeCs [] 2 = some (0, 1) := by decide +kernel
theorem way2 : way threeCs [1] 2 = none := by decide +kernel
theorem way3 : way jumboCs [] 2 = some (0, 1) := by decide +kernel
theorem way4 : way threeCs [] 1 = none := by decide +kernel
theorem prop1 : propV threeCs (way threeCs [] 2) = .tuple #[.agg #[.string ⟨#[]⟩, .int .i64 0, .int .i64 1], .bool true] := by rw [way1]; rfl
theorem prop2 : propV threeCs (way threeCs [1] 2) = .tuple #[.agg #[.string ⟨#[]⟩, .int .i64 0, .int .i64 0], .bool false] := by rw [way2]; rfl
theorem prop3 : propV jumboCs (way jumboCs [] 2) = .tuple #[.agg #[.string ⟨#[99]⟩, .int .i64 0, .int .i64 1], .bool true] := by rw [way3]; rfl
theorem cnt2 : counts threeCs true 2 = [3, 0] := by decide +kernel
end Go.Proofs.Ytimhokilicogdaa
