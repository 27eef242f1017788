/- Mvcc: late writes. -/
import Derived.Test.YtpcjmceakelilaaEni
namespace Go.Proofs.Ytpcjmceakelilaa
open Go.ChangeShapes Go.WideShapes Go.ChangeAt Go.RowKit Go.Deep Go.ChangeMaps Go.Shelf Go.Sort
set_option linter.unusedVariables false
set_option linter.unusedSimpArgs false
theorem upto_late : ∀ (L : List Ver) (x : Ver) (t : Int), t < x.1 → upto (L ++ [x]) t = upto L t
  | [], x, t, h => by
    show (if x.1 ≤ t then upto [] t + 1 else 0) = 0
    rw [if_neg (by omega)]
  | a :: L, x, t, h => by
    show (if a.1 ≤ t then upto (L ++ [x]) t + 1 else 0) = (if a.1 ≤ t then upto L t + 1 else 0)
    rw [upto_late L x t h]
theorem roll_late (L : List Ver) (x : Ver) (t : Int) (h : t < x.1) : rollF t (L ++ [x]) = rollF t L := by
  unfold rollF
  rw [upto_late L x t h]
  exact List.take_append_of_le_length (upto_le L t)
theorem upto_full : ∀ (L : List Ver) (t : Int), (∀ y ∈ L, y.1 ≤ t) → upto L t = L.length
  | [], _, _ => rfl
  | a :: L, t, h => by
    show (if a.1 ≤ t then upto L t + 1 else 0) = _
    rw [if_pos (h a (List.mem_cons_self ..)), upto_full L t (fun y hy => h y (List.mem_cons_of_mem _ hy))]
    rfl
theorem roll_full (L : List Ver) (t : Int) (h : ∀ y ∈ L, y.1 ≤ t) : rollF t L = L := by
  unfold rollF
  rw [upto_full L t h, List.take_length]
def isW (x : Opv) : Bool := x.kind == 1 || x.kind == 2
theorem step_w (A : Bs → List Ver) (x : Opv) (h : isW x = true) : ∃ y : Ver, y.1 = x.stamp ∧ stepA A x = addA A x.key y := by
  unfold isW at h
  by_cases h1 : x.kind = 1
  · exact ⟨(x.stamp, x.value, false), rfl, by unfold stepA; rw [if_pos h1]⟩
  · have h2 : x.kind = 2 := by simpa [h1] using h
    exact ⟨(x.stamp, ⟨#[]⟩, true), rfl, by unfold stepA; rw [if_neg h1, if_pos h2]⟩
theorem roll_add (A : Bs → List Ver) (k : Bs) (y : Ver) (t : Int) (h : t < y.1) (k' : Bs) : rollF t (addA A k y k') = rollF t (A k') := by
  unfold addA
  split
  · show rollF t (if k' = k then _ else _) = _
    split
    · rename_i e
      rw [roll_late _ _ _ h, e]
    · rfl
  · rfl
theorem run_late (t : Int) : ∀ (ws : List Opv) (A : Bs → List Ver), (∀ x ∈ ws, isW x = true ∧ t < x.stamp) → ∀ k, rollF t (runA A ws k) = rollF t (A k)
  | [], _, _, _ => rfl
  | x :: ws, A, h, k => by
    obtain ⟨y, hy, e⟩ := step_w A x (h x (List.mem_cons_self ..)).1
    show rollF t (runA (stepA A x) ws k) = _
    rw [run_late t ws _ (fun z hz => h z (List.mem_cons_of_mem _ hz)) k, e]
    exact roll_add A x.key y t (by rw [hy]; exact (h x (List.mem_cons_self ..)).2) k
theorem run_roll (t : Int) : ∀ (ws : List Opv) (A : Bs → List Ver), (∀ x ∈ ws, isW x = true) → ws.Pairwise (fun a b => a.stamp ≤ b.stamp) → (∀ k, ∀ y ∈ A k, y.1 ≤ t) →
    (fun k => rollF t (runA A ws k)) = runA A (ws.filter fun x => decide (x.stamp ≤ t))
  | [], A, _, _, hA => funext fun k => roll_full _ t (hA k)
  | x :: ws, A, hw, hs, hA => by
    obtain ⟨hs1, hs2⟩ := List.pairwise_cons.1 hs
    by_cases hx : x.stamp ≤ t
    · rw [List.filter_cons, if_pos (by simpa using hx)]
      show (fun k => rollF t (runA (stepA A x) ws k)) = runA (stepA A x) _
      obtain ⟨y, hy, e⟩ := step_w A x (hw x (List.mem_cons_self ..))
      refine run_roll t ws _ (fun z hz => hw z (List.mem_cons_of_mem _ hz)) hs2 fun k z hz => ?_
      rw [e] at hz
      unfold addA at hz
      split at hz
      · have hz : z ∈ (if k = x.key then A x.key ++ [y] else A k) := hz
        split at hz
        · rcases List.mem_append.1 hz with h | h
          · exact hA _ z h
          · rw [List.mem_singleton.1 h, hy]; exact hx
        · exact hA k z hz
      · exact hA k z hz
    · have hall : ∀ z ∈ x :: ws, isW z = true ∧ t < z.stamp := fun z hz => ⟨hw z hz, by
        rcases List.mem_cons.1 hz with rfl | hz
        · omega
        · have := hs1 z hz; omega⟩
      have hf : ((x :: ws).filter fun z => decide (z.stamp ≤ t)) = [] := List.filter_eq_nil_iff.2 fun z hz => by have := (hall z hz).2; simpa using this
      rw [hf]
      funext k
      rw [run_late t _ A hall k]
      exact roll_full _ t (hA k)
end Go.Proofs.Ytpcjmceakelilaa
