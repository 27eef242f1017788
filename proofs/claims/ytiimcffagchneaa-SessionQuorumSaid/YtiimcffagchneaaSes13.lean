/- Members: the reference's 'votes' and 'places'. -/
import Derived.Test.YtiimcffagchneaaSes12
import Derived.Outline
namespace Go.Proofs.Ytiimcffagchneaa
open Go.ChangeShapes Go.WideShapes Go.ChangeAt Go.RowKit
set_option linter.unusedVariables false
set_option linter.unusedSimpArgs false
/-- an int came back -/
def SomeInt (e : Ending) : Prop := ∃ n : Int, e = .returned (.int .i64 n)
set_option maxRecDepth 100000 in
theorem votes_any (vs sz : Int) (w : World) (h1 : 1 ≤ sz) (h7 : sz ≤ 7) :
    Calls Try.prog 32 #[.int .i64 vs, .int .i64 sz] w fun e w' => SomeInt e ∧ w = w' := by
  go_enter Try.func32, Try.ntmps32
  go_wp2_with fail
  go_loop [5, 6] (fun n i => ∃ (k : Nat) (z : Int), (k : Int) ≤ sz ∧ n = .int .i64 z ∧ i = .int .i64 k) (fun _ i => sz.toNat - (intOf i).toNat)
  case atStart => exact ⟨0, 0, by omega, rfl, rfl⟩
  case round =>
    obtain ⟨k, z, hk, rfl, rfl⟩ := hrel
    by_cases hlt : (k : Int) < sz
    · go_wp2_with fail
      go_round
      case rel => exact ⟨k + 1, _, by omega, rfl, by go_num⟩
      case measure => simp [intOf]; omega
    · go_wp2_with fail
      go_ret
      exact ⟨⟨_, rfl⟩, rfl⟩
theorem places_in (B o cap : Nat) (xs : List Int) (m : Int) (w : World) (hB : B < w.heap.size) (hl : xs.length ≤ 9223372036854775807)
    (hc : ∀ j (h : j < xs.length), w.cell? ⟨B, o + j, none⟩ = some (.int .i64 xs[j])) :
    Calls Try.prog 33 #[.slice (some ⟨B, o, none⟩) xs.length cap, .int .i64 m] w fun e w' => Says True e ∧ w = w' := by
  have HC := Lib.hid hc
  clear hc
  go_enter Try.func33, Try.ntmps33
  go_wp2_with fail
  go_loop [5] (fun i => ∃ (k : Nat), k ≤ xs.length ∧ i = .int .i64 k) (fun i => xs.length - (intOf i).toNat)
  case atStart => exact ⟨0, Nat.zero_le _, rfl⟩
  case round =>
    obtain ⟨k, hk, rfl⟩ := hrel
    by_cases hlt : k < xs.length
    · have hcell := HC.out k hlt
      generalize xs[k] = x at hcell
      go_wp2_with fail
      all_goals first
        | (go_ret; exact ⟨⟨_, rfl, fun _ => trivial⟩, rfl⟩)
        | (go_round
           case rel => exact ⟨k + 1, by omega, by go_num⟩
           case measure => simp [intOf]; omega)
    · go_wp2_with fail
      go_ret
      exact ⟨⟨_, rfl, fun _ => trivial⟩, rfl⟩
theorem places_0 (a : Option Addr) (cap : Nat) (m : Int) (w : World) :
    Calls Try.prog 33 #[.slice a 0 cap, .int .i64 m] w fun e w' => Says True e ∧ w = w' := by
  go_enter Try.func33, Try.ntmps33
  go_wp2_with fail
  go_loop [5] (fun i => i = .int .i64 0) (fun i => 0)
  case atStart => rfl
  case round =>
    subst hrel
    go_wp2_with fail
    go_ret
    exact ⟨⟨_, rfl, fun _ => trivial⟩, rfl⟩
theorem places_any (v : Value) (m : Int) (w : World) (hv : IntArg w v) :
    Calls Try.prog 33 #[v, .int .i64 m] w fun e w' => Says True e ∧ w = w' := by
  rcases hv with rfl | ⟨a, cap, rfl⟩ | ⟨B, o, cap, xs, rfl, hB, hc, h0, hl, _, hcell⟩
  · exact places_0 none 0 m w
  · exact places_0 (some a) cap m w
  · exact places_in B o cap xs m w hB hl hcell
theorem IntArg.below {w w' : World} {v : Value} (h : IntArg w v) (hb : Below w.heap.size w w') : IntArg w' v := by
  rcases h with h | h | ⟨B, o, cap, xs, h1, h2, h3, h4, h5, h6, h7⟩
  · exact .inl h
  · exact .inr (.inl h)
  · exact .inr (.inr ⟨B, o, cap, xs, h1, Nat.lt_of_lt_of_le h2 hb.size, h3, h4, h5, h6, fun j hj => by rw [hb.cell (p := ⟨B, o + j, none⟩) h2]; exact h7 j hj⟩)
theorem IntArg.len {w : World} {v : Value} (h : IntArg w v) : ∃ a len cap, v = .slice a len cap ∧ len ≤ 9223372036854775807 := by
  rcases h with rfl | ⟨a, cap, rfl⟩ | ⟨B, o, cap, xs, rfl, _, _, _, h5, _⟩
  · exact ⟨_, _, _, rfl, by omega⟩
  · exact ⟨_, _, _, rfl, by omega⟩
  · exact ⟨_, _, _, rfl, h5⟩
end Go.Proofs.Ytiimcffagchneaa
