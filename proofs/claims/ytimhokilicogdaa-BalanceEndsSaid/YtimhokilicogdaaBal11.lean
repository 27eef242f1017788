/- Balance: the reference's functions at an empty slice of chunks or ints. -/
import Derived.Test.YtimhokilicogdaaBal10
namespace Go.Proofs.Ytimhokilicogdaa
open Go.ChangeShapes Go.WideShapes Go.ChangeAt Go.RowKit
set_option linter.unusedVariables false
set_option linter.unusedSimpArgs false
theorem in_0 (a : Option Addr) (cap : Nat) (x : Int) (w : World) :
    Calls Try.prog 31 #[.slice a 0 cap, .int .i64 x] w fun e w' => e = .returned (.bool (decide (x ∈ ([] : List Int)))) ∧ w = w' := by
  go_enter Try.func31, Try.ntmps31
  go_wp2_with fail
  go_loop [5] (fun i => i = .int .i64 0) (fun i => 0)
  case atStart => rfl
  case round =>
    subst hrel
    go_wp2_with fail
    go_ret
    exact ⟨by simp, rfl⟩
theorem in_any (v : Value) (xs : List Int) (x : Int) (w : World) (hv : IntsIn w v xs) :
    Calls Try.prog 31 #[v, .int .i64 x] w fun e w' => e = .returned (.bool (decide (x ∈ xs))) ∧ w = w' := by
  rcases hv with ⟨rfl, a, cap, rfl⟩ | ⟨B, o, cap, rfl, hB, _, hl, hc⟩
  · exact in_0 a cap x w
  · exact in_in B o cap xs x w hB hl hc
set_option maxRecDepth 100000 in
theorem rLoad_0 (sp : ByteArray) (ks : Value) (hs : Bool) (ep vr : Int) (a : Option Addr) (cap : Nat) (s : Int) (w : World) :
    Calls Try.prog 25 #[rts sp ks hs ep vr (.slice a 0 cap), .int .i64 s] w fun e w' => e = .returned (.int .i64 (loadOf [] s : Nat)) ∧ Below w.heap.size w w' := by
  go_enter Try.func25, Try.ntmps25
  go_wp2_with fail
  have hbw : Below w.heap.size w (w.alloc (.cells #[.string sp, ks, .bool hs, .int .i64 ep, .int .i64 vr, .slice a 0 cap] 27)) := (Below.refl _ _).alloc (Nat.le_refl _) _
  have c5 : (w.alloc (.cells #[.string sp, ks, .bool hs, .int .i64 ep, .int .i64 vr, .slice a 0 cap] 27)).cell? ⟨w.heap.size, 5, none⟩ = some (.slice a 0 cap) := by simp [go_sem]
  generalize w.alloc _ = W0 at hbw c5 ⊢
  go_loop [5, 6] (fun t i => t = .int .i64 0 ∧ i = .int .i64 0) (fun _ _ => 0)
  case atStart => exact ⟨rfl, rfl⟩
  case round =>
    obtain ⟨rfl, rfl⟩ := hrel
    go_wp2_with fail
    go_ret
    exact ⟨rfl, hbw⟩
theorem rLoad_any (sp : ByteArray) (ks : Value) (hs : Bool) (ep vr : Int) (ch : Value) (cs : List Ch) (s : Int) (w : World) (hc : ChsIn w ch cs) :
    Calls Try.prog 25 #[rts sp ks hs ep vr ch, .int .i64 s] w fun e w' => e = .returned (.int .i64 (loadOf cs s : Nat)) ∧ Below w.heap.size w w' := by
  rcases hc with ⟨rfl, a, cap, rfl⟩ | ⟨B, o, cap, rfl, hB, _, hl, hc⟩
  · exact rLoad_0 sp ks hs ep vr a cap s w
  · exact rLoad_in sp ks hs ep vr B o cap cs s w hl hB hc
end Go.Proofs.Ytimhokilicogdaa
