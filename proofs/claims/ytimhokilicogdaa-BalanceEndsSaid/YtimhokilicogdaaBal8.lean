/- Balance: slices.Index and Contains at []int. -/
import Derived.Test.YtimhokilicogdaaBal7
namespace Go.Proofs.Ytimhokilicogdaa
open Go.ChangeShapes Go.WideShapes Go.ChangeAt Go.RowKit
set_option linter.unusedVariables false
set_option linter.unusedSimpArgs false
/-- a number came back that is not below 0 just where x is in xs -/
def IdxSays (xs : List Int) (x : Int) (e : Ending) : Prop := ∃ r : Int, e = .returned (.int .i64 r) ∧ (0 ≤ r ↔ x ∈ xs)
set_option maxRecDepth 100000 in
theorem index_in (B o cap : Nat) (xs : List Int) (x : Int) (w : World) (hB : B < w.heap.size) (hl : xs.length ≤ 9223372036854775807) (hc : ∀ j (h : j < xs.length), w.cell? ⟨B, o + j, none⟩ = some (.int .i64 xs[j])) :
    Calls Try.prog 30 #[.slice (some ⟨B, o, none⟩) xs.length cap, .int .i64 x] w fun e w' => IdxSays xs x e ∧ w = w' := by
  have HC := Lib.hid hc
  clear hc
  go_enter Try.func30, Try.ntmps30
  go_wp2_with fail
  go_loop [8] (fun i => ∃ k : Nat, k ≤ xs.length ∧ i = .int .i64 k ∧ x ∉ xs.take k) (fun i => xs.length - (intOf i).toNat)
  case atStart => exact ⟨0, Nat.zero_le _, rfl, by simp⟩
  case round =>
    obtain ⟨k, hk, rfl, hno⟩ := hrel
    have HNO := Lib.hid hno
    clear hno
    by_cases hlt : k < xs.length
    · have hcell := HC.out k hlt
      have HT : Hid (xs.take (k + 1) = xs.take k ++ [xs[k]]) := Lib.hid (List.take_succ_eq_append_getElem hlt)
      have HM : Hid (xs[k] ∈ xs) := Lib.hid (List.getElem_mem hlt)
      generalize xs[k] = y at hcell HT HM
      by_cases hy : y = x
      · subst hy
        go_wp2_with fail
        go_ret
        exact ⟨⟨_, rfl, ⟨fun _ => HM.out, fun _ => by omega⟩⟩, rfl⟩
      · have hne : (x == y) = false := by simpa using fun h => hy h.symm
        have hne' : (y == x) = false := by simpa using hy
        have HN : Hid (x ∉ xs.take (k + 1)) := Lib.hid (by rw [HT.out]; simp only [List.mem_append, List.mem_singleton, not_or]; exact ⟨HNO.out, fun h => hy h.symm⟩)
        clear HT HM
        go_wp2_with fail
        go_round
        case rel => exact ⟨k + 1, by omega, by go_num, HN.out⟩
        case measure => simp [intOf]; omega
    · have HE : Hid (xs.take k = xs) := List.take_of_length_le (by omega)
      go_wp2_with fail
      go_ret
      exact ⟨⟨_, rfl, ⟨fun h => by omega, fun h => absurd (by rw [HE.out]; exact h) HNO.out⟩⟩, rfl⟩
end Go.Proofs.Ytimhokilicogdaa
