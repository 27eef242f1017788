/- Sessions: the time of an entry of a log. -/
import Derived.Test.YtiimcffagchneaaSes4
namespace Go.Proofs.Ytiimcffagchneaa
open Go.ChangeShapes Go.WideShapes Go.ChangeAt Go.RowKit
set_option linter.unusedVariables false

/-- a log whose entries (82 cells each) have the times ts -/
def StampsAt (w : World) (v : Value) (ts : List Int) : Prop :=
  (v = .slice none 0 0 ∧ ts = []) ∨ ∃ B o cap, v = .slice (some ⟨B, o, none⟩) ts.length cap ∧ B < w.heap.size ∧ ∀ j (h : j < ts.length), w.cell? ⟨B, o + j * 82 + 1, none⟩ = some (.int .i64 ts[j])
theorem StampsAt.below {w w' : World} {v : Value} {ts : List Int} (h : StampsAt w v ts) (hb : Below w.heap.size w w') : StampsAt w' v ts := by
  rcases h with h | ⟨B, o, cap, h1, h2, h3⟩
  · exact .inl h
  · exact .inr ⟨B, o, cap, h1, Nat.lt_of_lt_of_le h2 hb.size, fun j hj => by rw [hb.cell (p := ⟨B, o + j * 82 + 1, none⟩) h2]; exact h3 j hj⟩
def stampOf (ts : List Int) (n : Int) : Int := if 1 ≤ n ∧ n ≤ (ts.length : Int) then ts.getD (n - 1).toNat 0 else 0
theorem stampOf_in (ts : List Int) (m : Nat) (h1 : 1 ≤ (m : Int)) (h2 : (m : Int) ≤ (ts.length : Int)) (h : m - 1 < ts.length) : stampOf ts m = ts[m - 1] := by
  unfold stampOf
  rw [if_pos ⟨h1, h2⟩, show ((m : Int) - 1).toNat = m - 1 from by omega, List.getD_eq_getElem?_getD, List.getElem?_eq_getElem h]
  rfl
theorem stampOf_out (ts : List Int) (n : Int) (h : ¬ (1 ≤ n ∧ n ≤ (ts.length : Int))) : stampOf ts n = 0 := by
  unfold stampOf; rw [if_neg h]

theorem stamp_out (v : Value) (len : Nat) (n : Int) (w : World) (hl : len ≤ 1000000) (hv : v = .slice none 0 0 ∧ len = 0 ∨ ∃ a cap, v = .slice (some a) len cap) (h : n < 1 ∨ (len : Int) < n) :
    Calls Try.prog 29 #[v, .int .i64 n] w fun e w' => e = .returned (.int .i64 0) ∧ w = w' := by
  rcases hv with ⟨rfl, rfl⟩ | ⟨a, cap, rfl⟩
  · by_cases h1 : n < 1
    · clear h
      go_enter Try.func29, Try.ntmps29
      go_wp2
      go_ret
      exact ⟨rfl, rfl⟩
    · have h2 : 0 < n := by omega
      clear h
      go_enter Try.func29, Try.ntmps29
      go_wp2
      go_ret
      exact ⟨rfl, rfl⟩
  · by_cases h1 : n < 1
    · clear h
      go_enter Try.func29, Try.ntmps29
      go_wp2
      go_ret
      exact ⟨rfl, rfl⟩
    · have h2 : (len : Int) < n := by omega
      clear h
      go_enter Try.func29, Try.ntmps29
      go_wp2
      go_ret
      exact ⟨rfl, rfl⟩
theorem stamp_in (B o cap len n : Nat) (x : Int) (w : World) (h1 : 1 ≤ n) (hn : n ≤ len) (hl : len ≤ 1000000) (hc : w.cell? ⟨B, o + (n - 1) * 82 + 1, none⟩ = some (.int .i64 x)) :
    Calls Try.prog 29 #[.slice (some ⟨B, o, none⟩) len cap, .int .i64 n] w fun e w' => e = .returned (.int .i64 x) ∧ w = w' := by
  go_enter Try.func29, Try.ntmps29
  go_wp2
  go_ret
  exact ⟨rfl, rfl⟩
theorem stamp_any (v : Value) (ts : List Int) (n : Int) (w : World) (hl : ts.length ≤ 1000000) (hv : StampsAt w v ts) :
    Calls Try.prog 29 #[v, .int .i64 n] w fun e w' => e = .returned (.int .i64 (stampOf ts n)) ∧ w = w' := by
  by_cases h : 1 ≤ n ∧ n ≤ (ts.length : Int)
  · rcases hv with ⟨rfl, rfl⟩ | ⟨B, o, cap, rfl, hB, hc⟩
    · simp at h; omega
    · obtain ⟨m, rfl⟩ := Int.eq_ofNat_of_zero_le (show 0 ≤ n by omega)
      have hm : m - 1 < ts.length := by omega
      rw [stampOf_in ts m h.1 h.2 hm]
      exact stamp_in B o cap ts.length m _ w (by omega) (by omega) hl (hc (m - 1) hm)
  · rw [stampOf_out ts n h]
    refine stamp_out v ts.length n w hl ?_ (by omega)
    rcases hv with ⟨rfl, rfl⟩ | ⟨B, o, cap, rfl, hB, hc⟩
    · exact .inl ⟨rfl, rfl⟩
    · exact .inr ⟨_, _, rfl⟩

theorem rstamp_out (v : Value) (len : Nat) (n : Int) (w : World) (hl : len ≤ 1000000) (hv : v = .slice none 0 0 ∧ len = 0 ∨ ∃ a cap, v = .slice (some a) len cap) (h : n < 1 ∨ (len : Int) < n) :
    Calls Try.prog 30 #[v, .int .i64 n] w fun e w' => e = .returned (.int .i64 0) ∧ w = w' := by
  rcases hv with ⟨rfl, rfl⟩ | ⟨a, cap, rfl⟩
  · by_cases h1 : n < 1
    · clear h
      go_enter Try.func30, Try.ntmps30
      go_wp2
      go_ret
      exact ⟨rfl, rfl⟩
    · have h2 : 0 < n := by omega
      clear h
      go_enter Try.func30, Try.ntmps30
      go_wp2
      go_ret
      exact ⟨rfl, rfl⟩
  · by_cases h1 : n < 1
    · clear h
      go_enter Try.func30, Try.ntmps30
      go_wp2
      go_ret
      exact ⟨rfl, rfl⟩
    · have h2 : (len : Int) < n := by omega
      clear h
      go_enter Try.func30, Try.ntmps30
      go_wp2
      go_ret
      exact ⟨rfl, rfl⟩
theorem rstamp_in (B o cap len n : Nat) (x : Int) (w : World) (h1 : 1 ≤ n) (hn : n ≤ len) (hl : len ≤ 1000000) (hc : w.cell? ⟨B, o + (n - 1) * 82 + 1, none⟩ = some (.int .i64 x)) :
    Calls Try.prog 30 #[.slice (some ⟨B, o, none⟩) len cap, .int .i64 n] w fun e w' => e = .returned (.int .i64 x) ∧ w = w' := by
  go_enter Try.func30, Try.ntmps30
  go_wp2
  go_ret
  exact ⟨rfl, rfl⟩
theorem rstamp_any (v : Value) (ts : List Int) (n : Int) (w : World) (hl : ts.length ≤ 1000000) (hv : StampsAt w v ts) :
    Calls Try.prog 30 #[v, .int .i64 n] w fun e w' => e = .returned (.int .i64 (stampOf ts n)) ∧ w = w' := by
  by_cases h : 1 ≤ n ∧ n ≤ (ts.length : Int)
  · rcases hv with ⟨rfl, rfl⟩ | ⟨B, o, cap, rfl, hB, hc⟩
    · simp at h; omega
    · obtain ⟨m, rfl⟩ := Int.eq_ofNat_of_zero_le (show 0 ≤ n by omega)
      have hm : m - 1 < ts.length := by omega
      rw [stampOf_in ts m h.1 h.2 hm]
      exact rstamp_in B o cap ts.length m _ w (by omega) (by omega) hl (hc (m - 1) hm)
  · rw [stampOf_out ts n h]
    refine rstamp_out v ts.length n w hl ?_ (by omega)
    rcases hv with ⟨rfl, rfl⟩ | ⟨B, o, cap, rfl, hB, hc⟩
    · exact .inl ⟨rfl, rfl⟩
    · exact .inr ⟨_, _, rfl⟩
end Go.Proofs.Ytiimcffagchneaa
