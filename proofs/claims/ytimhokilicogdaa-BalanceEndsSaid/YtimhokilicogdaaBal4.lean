/- Balance: count and Counts whatever the routes. -/
import Derived.Test.YtimhokilicogdaaBal3
namespace Go.Proofs.Ytimhokilicogdaa
open Go.ChangeShapes Go.WideShapes Go.ChangeAt Go.RowKit
set_option linter.unusedVariables false
set_option linter.unusedSimpArgs false
/-- a new slice with the numbers l came back -/
def NumsOut (w w' : World) (l : List Int) (e : Ending) : Prop := ∃ b, e = .returned (.slice (some ⟨b, 0, none⟩) l.length l.length) ∧ w.heap.size ≤ b ∧ b < w'.heap.size ∧ NumsAt w' b l
set_option maxRecDepth 100000 in
set_option maxHeartbeats 400000 in
theorem count_e (sp : ByteArray) (ks : Value) (hs : Bool) (ep vr : Int) (a : Option Addr) (cap : Nat) (n : Nat) (j : Bool) (w : World) (h1 : 1 ≤ n) (h8 : n ≤ 8) :
    Calls Try.prog 19 #[rts sp ks hs ep vr (.slice a 0 cap), .int .i64 n, .bool j] w fun e w' => e = .returned (.slice (some ⟨w.heap.size + 1, 0, none⟩) n n) ∧ NumsAt w' (w.heap.size + 1) (counts [] j n) ∧ w.heap.size + 1 < w'.heap.size ∧ Below w.heap.size w w' := by
  have hn : n ≤ 100000000 := by omega
  go_enter Try.func19, Try.ntmps19
  go_wp2_with (with_reducible refine wpList_mkInts _ n _ _ _ _ _ hn rfl ?_)
  rintro w2 hN hb2 hs2
  have e0 : (w.alloc (.cells #[.string sp, ks, .bool hs, .int .i64 ep, .int .i64 vr, .slice a 0 cap] 27)).heap.size = w.heap.size + 1 := by simp
  rw [e0] at hN hs2
  have c5 : w2.cell? ⟨w.heap.size, 5, none⟩ = some (.slice a 0 cap) := by rw [(bcell hb2).1 _ _ (by simp)]; simp [go_sem]
  have hB2 : Below w.heap.size w w2 := ((Below.refl _ _).alloc (Nat.le_refl _) _).trans (hb2.mono (by simp))
  have HB2 := Lib.hid hB2
  have HN := Lib.hid hN
  clear hb2 e0 hB2 hN
  go_wp2_with fail
  go_loop [21] (fun i => i = .int .i64 0) (fun _ => 0)
  case atStart => rfl
  case round =>
    subst hrel
    go_wp2_with fail
    go_ret
    exact ⟨rfl, by rw [counts_nil]; exact HN.out, by omega, HB2.out⟩
theorem count_any (sp : ByteArray) (ks : Value) (hs : Bool) (ep vr : Int) (ch : Value) (cs : List Ch) (n : Nat) (j : Bool) (w : World) (h1 : 1 ≤ n) (h8 : n ≤ 8) (hc : ChsIn w ch cs) :
    Calls Try.prog 19 #[rts sp ks hs ep vr ch, .int .i64 n, .bool j] w fun e w' => NumsOut w w' (counts cs j n) e ∧ Below w.heap.size w w' := by
  rcases hc with ⟨rfl, a, cap, rfl⟩ | ⟨B, o, cap, rfl, hB, _, hl, hc⟩
  · refine (count_e sp ks hs ep vr a cap n j w h1 h8).mono ?_
    rintro e w' ⟨rfl, h2, h3, h4⟩
    exact ⟨⟨_, by rw [counts_len], by omega, h3, h2⟩, h4⟩
  · refine (count_in sp ks hs ep vr B o cap cs n j w h1 h8 hl hB hc).mono ?_
    rintro e w' ⟨rfl, h2, h3, h4⟩
    exact ⟨⟨_, by rw [counts_len], by omega, h3, h2⟩, h4⟩
set_option maxRecDepth 100000 in
theorem count_no (sp : ByteArray) (ks : Value) (hs : Bool) (ep vr : Int) (ch : Value) (n : Int) (j : Bool) (w : World) (h : ¬ (1 ≤ n ∧ n ≤ 8)) :
    Calls Try.prog 19 #[rts sp ks hs ep vr ch, .int .i64 n, .bool j] w fun e w' => e = .returned (.slice none 0 0) ∧ Below w.heap.size w w' := by
  have hbw : Below w.heap.size w (w.alloc (.cells #[.string sp, ks, .bool hs, .int .i64 ep, .int .i64 vr, ch] 27)) := (Below.refl _ _).alloc (Nat.le_refl _) _
  by_cases h1 : n < 1
  · clear h
    go_enter Try.func19, Try.ntmps19
    go_wp2_with fail
    go_ret
    exact ⟨rfl, hbw⟩
  · have h2 : 8 < n := by omega
    clear h
    go_enter Try.func19, Try.ntmps19
    go_wp2_with fail
    go_ret
    exact ⟨rfl, hbw⟩
end Go.Proofs.Ytimhokilicogdaa
