/- Balance: the reference's Counts without chunks, and in every case. -/
import Derived.Test.YtimhokilicogdaaBal12
import Derived.OwnWalk
import Derived.Laws.AppendOwn
namespace Go.Proofs.Ytimhokilicogdaa
open Go.ChangeShapes Go.WideShapes Go.ChangeAt Go.RowKit
set_option linter.unusedVariables false
set_option linter.unusedSimpArgs false
set_option maxRecDepth 100000 in
set_option maxHeartbeats 1600000 in
theorem rCounts_e (sp : ByteArray) (ks : Value) (hs : Bool) (ep vr : Int) (a : Option Addr) (cap : Nat) (n : Nat) (w : World) (h1 : 1 ≤ n) (h8 : n ≤ 8) :
    Calls Try.prog 10 #[rts sp ks hs ep vr (.slice a 0 cap), .int .i64 n] w fun e w' => (∃ v, e = .returned v ∧ w'.ownsRow (w.heap.size + 1) 3 1 v n (ints (counts [] true n))) ∧ Below w.heap.size w w' := by
  obtain ⟨i3, hi3, hz0, hz1, hz2⟩ := info_parts info3
  go_enter Try.func10, Try.ntmps10
  go_wp2_with fail
  have hbw : Below w.heap.size w (w.alloc (.cells #[.string sp, ks, .bool hs, .int .i64 ep, .int .i64 vr, .slice a 0 cap] 27)) := (Below.refl _ _).alloc (Nat.le_refl _) _
  have c5 : (w.alloc (.cells #[.string sp, ks, .bool hs, .int .i64 ep, .int .i64 vr, .slice a 0 cap] 27)).cell? ⟨w.heap.size, 5, none⟩ = some (.slice a 0 cap) := by simp [go_sem]
  have hsz : (w.alloc (.cells #[.string sp, ks, .bool hs, .int .i64 ep, .int .i64 vr, .slice a 0 cap] 27)).heap.size = w.heap.size + 1 := by simp
  generalize w.alloc _ = W0 at hbw c5 hsz ⊢
  have HBW := Lib.hid hbw
  clear hbw
  go_loopw [5, 6] (fun v s W => ∃ q : Nat, q ≤ n ∧ s = .int .i64 q ∧ W.ownsRow (w.heap.size + 1) 3 1 v q (ints ((counts [] true n).take q)) ∧ Below (w.heap.size + 1) W0 W) (fun _ s _ => n - (intOf s).toNat)
  case atStart => exact ⟨0, Nat.zero_le _, rfl, ⟨rfl, .inl ⟨rfl, rfl⟩⟩, Below.refl _ _⟩
  case round =>
    obtain ⟨q, hq, rfl, hown, hBk⟩ := hrel
    have d5 : wr.cell? ⟨w.heap.size, 5, none⟩ = some (.slice a 0 cap) := (hBk.cell (p := ⟨w.heap.size, 5, none⟩) (by simp)).trans c5
    have HBK := Lib.hid hBk
    have HOWN := Lib.hid hown
    have hws : w.heap.size + 1 ≤ wr.heap.size := by have := hBk.size; omega
    clear hown hBk
    by_cases hlt : q < n
    · go_wp2_with fail
      go_loop [7, 8] (fun t i => t = .int .i64 0 ∧ i = .int .i64 0) (fun _ _ => 0)
      case atStart => exact ⟨rfl, rfl⟩
      case round =>
        obtain ⟨rfl, rfl⟩ := hrel
        go_wp2_with (at_builtin; refine wpList_append_own _ rfl _ _ 30 rfl (w.heap.size + 1) 3 i3 (.int .i64 0) 1 8 Try.underlying30 hi3 hz0 hz1 hz2 rfl (by decide) _ _ _ rfl (HOWN.out.alloc _) ⟨wr.heap.size, 0, none⟩ 1 1 [.int .i64 0] rfl rfl ?c1 ?c2 ?c3 ?c4 ?c5 ?_)
        case c2 => first | rfl | (intro u hu; simp only [List.mem_singleton] at hu; subst hu; rfl)
        case c3 => unfold maxLen; omega
        case c4 => omega
        case c5 => first | omega | (simp; omega)
        intro v' w2 hown2 hgrow _
        have hb2 : Below (w.heap.size + 1) W0 w2 := (HBK.out.alloc hws _).grown hgrow (by simp; omega) (own_ge HOWN.out)
        have hown3 : w2.ownsRow (w.heap.size + 1) 3 1 v' (q + 1) (ints ((counts [] true n).take (q + 1))) := by
          rw [List.take_succ_eq_append_getElem (by rw [counts_len]; exact hlt)]
          have : (counts [] true n)[q]'(by rw [counts_len]; exact hlt) = (0 : Int) := by simp [counts, cntOf]
          rw [this]
          simpa [ints] using hown2
        have HB2 := Lib.hid hb2
        have HO3 := Lib.hid hown3
        clear hown2 hgrow hb2 hown3
        go_wp2_with fail
        go_roundw
        case rel => exact ⟨q + 1, by omega, by go_num, HO3.out, HB2.out⟩
        case measure => simp [intOf]; omega
    · have hqn : q = n := by omega
      subst hqn
      have HE : Hid ((counts [] true q).take q = counts [] true q) := Lib.hid (List.take_of_length_le (by rw [counts_len]; omega))
      go_wp2_with fail
      go_ret
      exact ⟨⟨_, rfl, by rw [← HE.out]; exact HOWN.out⟩, HBW.out.trans (HBK.out.mono (by omega))⟩
theorem rCounts_any (sp : ByteArray) (ks : Value) (hs : Bool) (ep vr : Int) (ch : Value) (cs : List Ch) (n : Nat) (w : World) (h1 : 1 ≤ n) (h8 : n ≤ 8) (hc : ChsIn w ch cs) :
    Calls Try.prog 10 #[rts sp ks hs ep vr ch, .int .i64 n] w fun e w' => (∃ v, e = .returned v ∧ w'.ownsRow (w.heap.size + 1) 3 1 v n (ints (counts cs true n))) ∧ Below w.heap.size w w' := by
  rcases hc with ⟨rfl, a, cap, rfl⟩ | ⟨B, o, cap, rfl, hB, _, hl, hc⟩
  · exact rCounts_e sp ks hs ep vr a cap n w h1 h8
  · exact rCounts_in sp ks hs ep vr B o cap cs n w h1 h8 hl hB hc
end Go.Proofs.Ytimhokilicogdaa
