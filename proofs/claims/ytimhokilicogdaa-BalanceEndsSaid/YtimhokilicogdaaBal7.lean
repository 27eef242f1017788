/- Balance: the reference's Counts in the other cases; three. -/
import Derived.Test.YtimhokilicogdaaBal6
import Derived.Outline
namespace Go.Proofs.Ytimhokilicogdaa
open Go.ChangeShapes Go.WideShapes Go.ChangeAt Go.RowKit
set_option linter.unusedVariables false
set_option linter.unusedSimpArgs false
set_option maxRecDepth 100000 in
theorem rCounts_no (sp : ByteArray) (ks : Value) (hs : Bool) (ep vr : Int) (ch : Value) (n : Int) (w : World) (h : ¬ (1 ≤ n ∧ n ≤ 8)) :
    Calls Try.prog 10 #[rts sp ks hs ep vr ch, .int .i64 n] w fun e w' => e = .returned (.slice none 0 0) ∧ Below w.heap.size w w' := by
  have hbw : Below w.heap.size w (w.alloc (.cells #[.string sp, ks, .bool hs, .int .i64 ep, .int .i64 vr, ch] 27)) := (Below.refl _ _).alloc (Nat.le_refl _) _
  by_cases h1 : n < 1
  · clear h
    go_enter Try.func10, Try.ntmps10
    go_wp2_with fail
    go_ret
    exact ⟨rfl, hbw⟩
  · have h2 : 8 < n := by omega
    clear h
    go_enter Try.func10, Try.ntmps10
    go_wp2_with fail
    go_ret
    exact ⟨rfl, hbw⟩
def threeCs : List Ch := [⟨⟨#[]⟩, ⟨#[99]⟩, 0, 1, false⟩, ⟨⟨#[99]⟩, ⟨#[109]⟩, 0, 1, false⟩, ⟨⟨#[109]⟩, ⟨#[]⟩, 0, 1, false⟩]
set_option maxRecDepth 100000 in
set_option maxHeartbeats 400000 in
theorem three_any (w : World) : Calls Try.prog 18 #[] w fun e w' => (∃ b ks, e = .returned (rts ⟨#[99]⟩ ks false 1 1 (.slice (some ⟨b, 0, none⟩) 3 3)) ∧ w.heap.size ≤ b ∧ b < w'.heap.size ∧ (∀ j (h : j < threeCs.length), w'.rangeAt b (0 + j * 5) threeCs[j].cells)) ∧ Below w.heap.size w w' := by
  go_enter Try.func18, Try.ntmps18
  go_wp2_with fail
  refine bodyPost_ret (v := rts ⟨#[99]⟩ (.slice (some ⟨w.heap.size + 1 + 1, 0, none⟩) 1 1) false 1 1 (.slice (some ⟨w.heap.size + 1 + 1 + 1, 0, none⟩) 3 3)) (by simp [results, Try.results18, go_sem]) rfl ⟨⟨w.heap.size + 1 + 1 + 1, _, rfl, by omega, by simp, ?_⟩, (by repeat' (first | exact Below.refl _ _ | refine Below.alloc ?_ (by first | omega | (simp; omega) | simp) _))⟩
  intro j hj i u hu
  rw [World.cell?_alloc_at _ _ _ _ (by simp)]
  rcases j with _ | _ | _ | j
  · rcases i with _ | _ | _ | _ | _ | i
    all_goals first | (simp [threeCs, Ch.cells] at hu; done) | (simp [threeCs, Ch.cells] at hu ⊢; exact hu)
  · rcases i with _ | _ | _ | _ | _ | i
    all_goals first | (simp [threeCs, Ch.cells] at hu; done) | (simp [threeCs, Ch.cells] at hu ⊢; exact hu)
  · rcases i with _ | _ | _ | _ | _ | i
    all_goals first | (simp [threeCs, Ch.cells] at hu; done) | (simp [threeCs, Ch.cells] at hu ⊢; exact hu)
  · simp [threeCs] at hj; omega
end Go.Proofs.Ytimhokilicogdaa
