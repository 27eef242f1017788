/- Balance: Contains; the reference's In. -/
import Derived.Test.YtimhokilicogdaaBal8
namespace Go.Proofs.Ytimhokilicogdaa
open Go.ChangeShapes Go.WideShapes Go.ChangeAt Go.RowKit
set_option linter.unusedVariables false
set_option linter.unusedSimpArgs false
theorem index_0 (a : Option Addr) (cap : Nat) (x : Int) (w : World) :
    Calls Try.prog 30 #[.slice a 0 cap, .int .i64 x] w fun e w' => IdxSays [] x e ∧ w = w' := by
  go_enter Try.func30, Try.ntmps30
  go_wp2_with fail
  go_loop [8] (fun i => i = .int .i64 0) (fun i => 0)
  case atStart => rfl
  case round =>
    subst hrel
    go_wp2_with fail
    go_ret
    exact ⟨⟨_, rfl, by simp⟩, rfl⟩
theorem index_any (v : Value) (xs : List Int) (x : Int) (w : World) (hv : IntsIn w v xs) :
    Calls Try.prog 30 #[v, .int .i64 x] w fun e w' => IdxSays xs x e ∧ w = w' := by
  rcases hv with ⟨rfl, a, cap, rfl⟩ | ⟨B, o, cap, rfl, hB, _, hl, hc⟩
  · exact index_0 a cap x w
  · exact index_in B o cap xs x w hB hl hc
theorem contains_any (v : Value) (xs : List Int) (x : Int) (w : World) (hv : IntsIn w v xs) :
    Calls Try.prog 20 #[v, .int .i64 x] w fun e w' => e = .returned (.bool (decide (x ∈ xs))) ∧ w = w' := by
  have HV := Lib.hid hv
  clear hv
  go_enter Try.func20, Try.ntmps20
  go_wp2_with fail
  refine (index_any _ xs _ _ HV.out).mono ?_
  rintro e w1 ⟨⟨r, hee, hr⟩, rfl⟩
  subst hee
  have HR := Lib.hid hr
  clear hr
  go_wp2_with fail
  go_ret
  exact ⟨by simp [HR.out], rfl⟩
theorem in_in (B o cap : Nat) (xs : List Int) (x : Int) (w : World) (hB : B < w.heap.size) (hl : xs.length ≤ 9223372036854775807) (hc : ∀ j (h : j < xs.length), w.cell? ⟨B, o + j, none⟩ = some (.int .i64 xs[j])) :
    Calls Try.prog 31 #[.slice (some ⟨B, o, none⟩) xs.length cap, .int .i64 x] w fun e w' => e = .returned (.bool (decide (x ∈ xs))) ∧ w = w' := by
  have HC := Lib.hid hc
  clear hc
  go_enter Try.func31, Try.ntmps31
  go_wp2_with fail
  go_loop [5] (fun i => ∃ k : Nat, k ≤ xs.length ∧ i = .int .i64 k ∧ x ∉ xs.take k) (fun i => xs.length - (intOf i).toNat)
  case atStart => exact ⟨0, Nat.zero_le _, rfl, by simp⟩
  case round =>
    obtain ⟨k, hk, rfl, hno⟩ := hrel
    have HNO := Lib.hid hno
    clear hno
    by_cases hlt : k < xs.length
    · have hcell := HC.out k hlt
      have HT : Hid (xs.take (k + 1) = xs.take k ++ [xs[k]]) := Lib.hid (List.take_succ_eq_append_getElem hlt)
      have HM : Hid (xs[k] ∈ xs) := Lib.hid (List.getElem_mem hlt)
      generalize xs[k] = y at hcell HT HM
      by_cases hy : y = x
      · subst hy
        go_wp2_with fail
        go_ret
        exact ⟨by simp [HM.out], rfl⟩
      · have hne : (y == x) = false := by simpa using hy
        have HN : Hid (x ∉ xs.take (k + 1)) := Lib.hid (by rw [HT.out]; simp only [List.mem_append, List.mem_singleton, not_or]; exact ⟨HNO.out, fun h => hy h.symm⟩)
        clear HT HM
        go_wp2_with fail
        go_round
        case rel => exact ⟨k + 1, by omega, by go_num, HN.out⟩
        case measure => simp [intOf]; omega
    · have HE : Hid (xs.take k = xs) := List.take_of_length_le (by omega)
      have HX : Hid (x ∉ xs) := Lib.hid (by rw [← HE.out]; exact HNO.out)
      go_wp2_with fail
      go_ret
      exact ⟨by simp [HX.out], rfl⟩
end Go.Proofs.Ytimhokilicogdaa
