/- Balance: the reference's validity of paths and orders. -/
import Derived.Test.YtimhokilicogdaaRName
import Derived.Test.YtimhokilicogdaaBal1
import Derived.Deep.RegionHeld3
import Derived.Deep.QuietTactic
import Derived.BigQuiet
namespace Go.Proofs.Ytimhokilicogdaa
open Go.ChangeShapes Go.WideShapes Go.ChangeAt Go.RowKit Go.Deep
set_option linter.unusedVariables false
set_option linter.unusedSimpArgs false
def SomeB (w : World) (e : Ending) (w' : World) : Prop := ∃ b : Bool, e = .returned (.bool b) ∧ w = w'
def SomeBq (w : World) (e : Ending) (w' : World) : Prop := ∃ b : Bool, e = .returned (.bool b) ∧ ∃ n, w' = w.drewN n
def SomeE (w : World) (e : Ending) (w' : World) : Prop := ∃ n : Int, e = .returned (.int .i64 n) ∧ Below w.heap.size w w'
/-- strings of a slice that came in -/
def StrIn (w : World) (v : Value) (ss : List ByteArray) : Prop :=
  (ss = [] ∧ ∃ a cap, v = .slice a 0 cap) ∨ ∃ (B o cap : Nat), v = .slice (some ⟨B, o, none⟩) ss.length cap ∧ B < w.heap.size ∧ 0 < ss.length ∧ ss.length ≤ 9223372036854775807 ∧ (∀ j (h : j < ss.length), ss[j].size ≤ maxLen) ∧ ∀ j (h : j < ss.length), w.cell? ⟨B, o + j, none⟩ = some (.string ss[j])
theorem StrIn.below {w w' : World} {v : Value} {ss : List ByteArray} (h : StrIn w v ss) (hb : Below w.heap.size w w') : StrIn w' v ss := by
  rcases h with h | ⟨B, o, cap, h1, h2, h3, h4, h6, h5⟩
  · exact .inl h
  · exact .inr ⟨B, o, cap, h1, Nat.lt_of_lt_of_le h2 hb.size, h3, h4, h6, fun j hj => by rw [hb.cell (p := ⟨B, o + j, none⟩) h2]; exact h5 j hj⟩
theorem StrIn.drewN {w : World} {v : Value} {ss : List ByteArray} (h : StrIn w v ss) (n : Nat) : StrIn (w.drewN n) v ss := h
theorem StrIn.slice {w : World} {v : Value} {ss : List ByteArray} (h : StrIn w v ss) : ∃ a cap, v = .slice a ss.length cap := by
  rcases h with ⟨rfl, a, cap, rfl⟩ | ⟨B, o, cap, rfl, _⟩
  · exact ⟨_, _, rfl⟩
  · exact ⟨_, _, rfl⟩
theorem StrIn.at {w : World} {a : Option Addr} {cap : Nat} {ss : List ByteArray} (h : StrIn w (.slice a ss.length cap) ss) (h0 : 0 < ss.length) :
    ∃ B o, a = some ⟨B, o, none⟩ ∧ B < w.heap.size ∧ ss.length ≤ 9223372036854775807 ∧ (∀ j (h : j < ss.length), ss[j].size ≤ maxLen) ∧ ∀ j (h : j < ss.length), w.cell? ⟨B, o + j, none⟩ = some (.string ss[j]) := by
  rcases h with ⟨rfl, _⟩ | ⟨B, o, cap', e, h2, h3, h4, h6, h5⟩
  · simp at h0
  · injection e with e1 e2 e3
    exact ⟨B, o, e1, h2, h4, h6, h5⟩
set_option maxHeartbeats 400000 in
theorem path_any (v : Value) (ss : List ByteArray) (w : World) (hv : StrIn w v ss) :
    Calls Try.prog 33 #[v] w (SomeB w) := by
  obtain ⟨a, cap, rfl⟩ := hv.slice
  by_cases h0 : ss.length < 1
  · clear hv
    go_enter Try.func33, Try.ntmps33
    go_wp2
    go_ret
    exact ⟨false, rfl, rfl⟩
  · by_cases h16 : 16 < ss.length
    · clear hv
      go_enter Try.func33, Try.ntmps33
      go_wp2
      go_ret
      exact ⟨false, rfl, rfl⟩
    · obtain ⟨B, o, rfl, hB, hl, hsz, hc⟩ := hv.at (by omega)
      have HC := Lib.hid hc
      have HSZ := Lib.hid hsz
      clear hc hsz hv
      go_enter Try.func33, Try.ntmps33
      go_wp2
      go_loop [3] (fun i => ∃ k : Nat, k ≤ ss.length ∧ i = .int .i64 k) (fun i => ss.length - (intOf i).toNat)
      case atStart => exact ⟨0, Nat.zero_le _, rfl⟩
      case round =>
        obtain ⟨k, hk, rfl⟩ := hrel
        by_cases hlt : k < ss.length
        · have hcell := HC.out k hlt
          have hs := HSZ.out k hlt
          generalize ss[k] = s at hcell hs
          have HS := Lib.hid hs
          clear hs
          go_wp2_with fail
          refine (rName_any s _ HS.out).mono ?_
          rintro e w1 ⟨rfl, rfl⟩
          cases Nm.nameB s.data.toList
          · go_wp2_with fail
            go_ret
            exact ⟨false, rfl, rfl⟩
          · go_wp2_with fail
            go_round
            case rel => exact ⟨k + 1, by omega, by go_num⟩
            case measure => simp [intOf]; omega
        · go_wp2_with fail
          go_ret
          exact ⟨true, rfl, rfl⟩
theorem str_ne {x y : ByteArray} (h : ¬ x = y) : (x.toList == y.toList) = false := by
  rw [beq_eq_false_iff_ne, Lib.toList_data, Lib.toList_data]
  intro e
  apply h
  cases x; cases y
  simp at e
  rw [e]
set_option maxHeartbeats 400000 in
theorem same_any (v1 v2 : Value) (s1 s2 : List ByteArray) (w : World) (h1 : StrIn w v1 s1) (h2 : StrIn w v2 s2) :
    Calls Try.prog 34 #[v1, v2] w (SomeBq w) := by
  obtain ⟨a1, c1, rfl⟩ := h1.slice
  obtain ⟨a2, c2, rfl⟩ := h2.slice
  by_cases hl : s1.length = s2.length
  · rw [hl]
    rw [hl] at h1
    by_cases h0 : s2.length = 0
    · clear h1 h2
      rw [h0]
      go_enter Try.func34, Try.ntmps34
      go_wp2
      go_loop [5] (fun i => i = .int .i64 0) (fun i => 0)
      case atStart => rfl
      case round =>
        obtain rfl := hrel
        go_wp2
        go_ret
        exact ⟨true, rfl, 0, rfl⟩
    · rw [← hl] at h1
      obtain ⟨B1, o1, rfl, hB1, hl1, _, hc1⟩ := h1.at (by omega)
      obtain ⟨B2, o2, rfl, hB2, hl2, _, hc2⟩ := h2.at (by omega)
      have HC1 := Lib.hid hc1
      have HC2 := Lib.hid hc2
      have HL := Lib.hid hl
      clear hc1 hc2 h1 h2 hl
      go_enter Try.func34, Try.ntmps34
      go_wp2
      go_loopw [5] (fun i W => ∃ k n : Nat, k ≤ s2.length ∧ i = .int .i64 k ∧ W = w.drewN n) (fun i _ => s2.length - (intOf i).toNat)
      case atStart => exact ⟨0, 0, Nat.zero_le _, rfl, rfl⟩
      case round =>
        obtain ⟨k, n, hk, rfl, rfl⟩ := hrel
        by_cases hlt : k < s2.length
        · have g1 : w.cell? ⟨B1, o1 + k, none⟩ = some (.string (s1[k]'(by have := HL.out; omega))) := HC1.out k (by have := HL.out; omega)
          have g2 : w.cell? ⟨B2, o2 + k, none⟩ = some (.string s2[k]) := HC2.out k hlt
          generalize s1[k]'(by have := HL.out; omega) = x at g1
          generalize s2[k] = y at g2
          by_cases hxy : x = y
          · subst hxy
            go_wp2_with fail
            go_quiet (fail)
            go_wp2_with fail
            go_roundw
            case rel => exact ⟨k + 1, n + nq, by omega, by go_num, by simp⟩
            case measure => simp [intOf]; omega
          · have hb := str_ne hxy
            go_wp2_with fail
            go_quiet (fail)
            go_wp2_with fail
            go_ret
            exact ⟨false, rfl, n + nq, by simp⟩
        · go_wp2_with fail
          go_ret
          exact ⟨true, rfl, n, rfl⟩
  · clear h1 h2
    have hne : ¬ (s1.length : Int) = (s2.length : Int) := by omega
    go_enter Try.func34, Try.ntmps34
    go_wp2
    go_ret
    exact ⟨false, rfl, 0, rfl⟩
end Go.Proofs.Ytimhokilicogdaa
