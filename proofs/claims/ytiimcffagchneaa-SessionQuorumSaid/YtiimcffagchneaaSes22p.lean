/- Sessions: the laws with a member. -/
import Derived.Test.YtiimcffagchneaaSes18
import Derived.Deep.RegionHeld3
namespace Go.Proofs.Ytiimcffagchneaa
open Go.ChangeShapes Go.WideShapes Go.ChangeAt Go.RowKit
set_option linter.unusedVariables false
set_option linter.unusedSimpArgs false
theorem cnt_cons (x : Int) (xs : List Int) (i : Int) : cnt (x :: xs) i = (if i ≤ x then 1 else 0) + cnt xs i := by
  unfold cnt
  by_cases h : i ≤ x <;> simp [List.filter_cons, h]; omega
theorem cnt_mono {i j : Int} (h : i ≤ j) : ∀ xs : List Int, cnt xs j ≤ cnt xs i
  | [] => Nat.le_refl _
  | x :: xs => by
    rw [cnt_cons, cnt_cons]
    have := cnt_mono h xs
    split <;> split <;> omega
theorem ackB_2 {sz : Int} {xs : List Int} {n i : Int} : ackB 2 sz xs n i = true ↔ 0 ≤ n ∧ n ≤ sz ∧ (if n = 0 then sz / 2 + 1 else n) ≤ (cnt xs i : Nat) := by
  simp [ackB, and_assoc]
theorem ack_n {sz : Int} {xs : List Int} {n i : Int} (h : ackB 2 sz xs n i = true) (hn : 1 < n) : ackB 2 sz xs (n - 1) i = true := by
  rw [ackB_2] at h ⊢
  rw [if_neg (by omega)] at h ⊢
  omega
theorem ack_i {sz : Int} {xs : List Int} {n i : Int} (h : ackB 2 sz xs n i = true) : ackB 2 sz xs n (i - 1) = true := by
  rw [ackB_2] at h ⊢
  have := cnt_mono (show i - 1 ≤ i by omega) xs
  split at h <;> split <;> omega
theorem ack_sz {sz : Int} {xs : List Int} {i : Int} (h : ackB 2 sz xs sz i = true) (h1 : 1 ≤ sz) : ackB 2 sz xs 0 i = true := by
  rw [ackB_2] at h ⊢
  rw [if_neg (by omega)] at h
  rw [if_pos rfl]
  omega
theorem ack_0 {sz : Int} {xs : List Int} {i : Int} (h : ackB 2 sz xs 0 i = true) (h1 : 1 ≤ sz) : ackB 2 sz xs 1 i = true := by
  rw [ackB_2] at h ⊢
  rw [if_neg (by omega)]
  rw [if_pos rfl] at h
  omega
theorem ack_big (sz : Int) (xs : List Int) : ackB 2 sz xs (sz + 1) 0 = false := by simp [ackB, show ¬ sz + 1 ≤ sz by omega]
theorem ack_neg (sz : Int) (xs : List Int) : ackB 2 sz xs (-1) 0 = false := by simp [ackB]
end Go.Proofs.Ytiimcffagchneaa
