/- The walk of the law WalKeeps over no data. -/
import Derived.Test.YtkpnjabgphaccaaWal10
namespace Go.Proofs.Ytkpnjabgphaccaa
open Go.ChangeShapes Go.WideShapes Go.ChangeAt Go.RowKit
set_option linter.unusedVariables false

theorem log0_size : (logS [] 0).size = 0 := rfl
theorem log0_read : Crc.read (((logS [] 0).extract 0 0).data.toList) = ([], 0, 0) := by decide +kernel

theorem equal_ss (a b : Addr) (c d : Nat) (w : World) : Calls Try.prog 16 #[.slice (some a) 0 c, .slice (some b) 0 d] w fun e w' => e = .returned (.bool true) ∧ Below w.heap.size w w' := by
  go_enter Try.func16, Try.ntmps16
  go_wp2
  go_loopw [5] (fun i wr => i = .int .i64 0 ∧ Below w.heap.size w wr) (fun _ _ => 0)
  case atStart => exact ⟨rfl, Below.refl _ _⟩
  case round =>
    obtain ⟨rfl, hbk⟩ := hrel
    go_wp2
    go_ret
    exact ⟨rfl, hbk⟩
theorem equal_e (a b : Value) (w : World) (ha : StrsAt w a []) (hb : b = .slice none 0 0 ∨ ∃ x c, b = .slice (some x) 0 c) :
    Calls Try.prog 16 #[a, b] w fun e w' => e = .returned (.bool true) ∧ Below w.heap.size w w' := by
  rcases ha with ⟨rfl, _⟩ | ⟨B1, o1, c1, rfl, p1, q1⟩
  · rcases hb with rfl | ⟨x, c, rfl⟩
    · exact equal_nn w
    · exact equal_ns _ _ w
  · rcases hb with rfl | ⟨x, c, rfl⟩
    · exact equal_sn _ _ w
    · exact equal_ss _ _ _ _ w

theorem few_n (w : World) : Calls Try.prog 18 #[.slice none 0 0] w fun e w' => e = .returned (.bool true) ∧ w = w' := by
  go_enter Try.func18, Try.ntmps18
  go_wp2
  go_loop [11] (fun i => i = .int .i64 0) (fun _ => 0)
  case atStart => rfl
  case round =>
    obtain rfl := hrel
    go_wp2
    go_ret
    exact ⟨rfl, rfl⟩
theorem build_n (w : World) : Calls Try.prog 19 #[.slice none 0 0] w (BuildC [] w) := by
  go_enter Try.func19, Try.ntmps19
  go_wp2
  go_loop [5, 6, 18] (fun g v i => i = .int .i64 0 ∧ g = .string ⟨#[]⟩ ∧ v = .slice (some ⟨w.heap.size, 0, none⟩) 1 1) (fun _ _ _ => 0)
  case atStart => exact ⟨rfl, rfl, rfl⟩
  case round =>
    obtain ⟨rfl, rfl, rfl⟩ := hrel
    go_wp2
    go_ret3
    refine ⟨w.heap.size, 1, rfl, by simp, fun i hi => ?_, (Below.refl _ _).alloc (Nat.le_refl _) _⟩
    obtain rfl : i = 0 := by simpa using hi
    simp [go_sem, Crc.endAt_zero]
set_option maxRecDepth 100000 in
set_option maxHeartbeats 1000000 in
theorem keeps_n (n : Int) (w : World) : Calls Try.prog 5 #[.slice none 0 0, .int .i64 n] w fun e w' => e = .returned (.bool true) ∧ Below w.heap.size w w' := by
  have hsz := log0_size
  have hn : n < 0 ∨ n = 0 ∨ 0 < n := by omega
  rcases hn with hn | rfl | hn
  all_goals
    go_enter Try.func5, Try.ntmps5
    go_wp2_with fail
    refine (few_n w).mono ?_
    rintro e w1 ⟨rfl, rfl⟩
    go_wp2_with fail
    refine (build_n w).mono ?_
    rintro e w1 ⟨g, cap2, rfl, hg, hge, hb1⟩
    have hg0 := hge 0 (Nat.le_refl _)
    rw [Crc.endAt_zero] at hg0
    clear hge
    go_wp2_with fail
    go_loop [8] (fun i => i = .int .i64 0) (fun _ => 0)
    case atStart => rfl
    case round =>
      obtain rfl := hrel
      go_wp2_with fail
      refine (read_is _ _ _ _ log0_read _ (by decide +kernel)).mono ?_
      rintro e w2 ⟨v2, rfl, hv2, hb2⟩
      have HV2 := Lib.hid hv2
      clear hv2
      have hbw2 : Below w.heap.size w w2 := hb1.trans (hb2.mono hb1.size)
      go_wp2_with fail
      refine (equal_e _ _ _ HV2.out (.inl rfl)).mono ?_
      rintro e w3 ⟨rfl, hb3⟩
      have hc3 : w3.cell? ⟨g, 0, none⟩ = some (.int .i64 ((0 : Nat) : Int)) := by
        rw [hb3.cell (p := ⟨g, 0, none⟩) (Nat.lt_of_lt_of_le hg hb2.size), hb2.cell (p := ⟨g, 0, none⟩) hg]; exact hg0
      have hc4 : w3.cell? ⟨g, 0, none⟩ = some (.int .i64 0) := hc3
      clear hc3 hg0
      go_wp2_with fail
      refine (awake_any _).mono ?_
      rintro e w4 ⟨rfl, hb4⟩
      go_wp2_with fail
      go_ret
      exact ⟨rfl, hbw2.trans ((hb3.mono hbw2.size).trans (hb4.mono (Nat.le_trans hbw2.size hb3.size)))⟩

theorem few_s (a : Addr) (cap : Nat) (w : World) : Calls Try.prog 18 #[.slice (some a) 0 cap] w fun e w' => e = .returned (.bool true) ∧ w = w' := by
  go_enter Try.func18, Try.ntmps18
  go_wp2
  go_loop [11] (fun i => i = .int .i64 0) (fun _ => 0)
  case atStart => rfl
  case round =>
    obtain rfl := hrel
    go_wp2
    go_ret
    exact ⟨rfl, rfl⟩
theorem build_s (a : Addr) (cap : Nat) (w : World) : Calls Try.prog 19 #[.slice (some a) 0 cap] w (BuildC [] w) := by
  go_enter Try.func19, Try.ntmps19
  go_wp2
  go_loop [5, 6, 18] (fun g v i => i = .int .i64 0 ∧ g = .string ⟨#[]⟩ ∧ v = .slice (some ⟨w.heap.size, 0, none⟩) 1 1) (fun _ _ _ => 0)
  case atStart => exact ⟨rfl, rfl, rfl⟩
  case round =>
    obtain ⟨rfl, rfl, rfl⟩ := hrel
    go_wp2
    go_ret3
    refine ⟨w.heap.size, 1, rfl, by simp, fun i hi => ?_, (Below.refl _ _).alloc (Nat.le_refl _) _⟩
    obtain rfl : i = 0 := by simpa using hi
    simp [go_sem, Crc.endAt_zero]
set_option maxRecDepth 100000 in
set_option maxHeartbeats 1000000 in
theorem keeps_s (a : Addr) (cap : Nat) (n : Int) (w : World) : Calls Try.prog 5 #[.slice (some a) 0 cap, .int .i64 n] w fun e w' => e = .returned (.bool true) ∧ Below w.heap.size w w' := by
  have hsz := log0_size
  have hn : n < 0 ∨ n = 0 ∨ 0 < n := by omega
  rcases hn with hn | rfl | hn
  all_goals
    go_enter Try.func5, Try.ntmps5
    go_wp2_with fail
    refine (few_s a cap w).mono ?_
    rintro e w1 ⟨rfl, rfl⟩
    go_wp2_with fail
    refine (build_s a cap w).mono ?_
    rintro e w1 ⟨g, cap2, rfl, hg, hge, hb1⟩
    have hg0 := hge 0 (Nat.le_refl _)
    rw [Crc.endAt_zero] at hg0
    clear hge
    go_wp2_with fail
    go_loop [8] (fun i => i = .int .i64 0) (fun _ => 0)
    case atStart => rfl
    case round =>
      obtain rfl := hrel
      go_wp2_with fail
      refine (read_is _ _ _ _ log0_read _ (by decide +kernel)).mono ?_
      rintro e w2 ⟨v2, rfl, hv2, hb2⟩
      have HV2 := Lib.hid hv2
      clear hv2
      have hbw2 : Below w.heap.size w w2 := hb1.trans (hb2.mono hb1.size)
      go_wp2_with fail
      refine (equal_e _ _ _ HV2.out (.inr ⟨_, _, rfl⟩)).mono ?_
      rintro e w3 ⟨rfl, hb3⟩
      have hc3 : w3.cell? ⟨g, 0, none⟩ = some (.int .i64 ((0 : Nat) : Int)) := by
        rw [hb3.cell (p := ⟨g, 0, none⟩) (Nat.lt_of_lt_of_le hg hb2.size), hb2.cell (p := ⟨g, 0, none⟩) hg]; exact hg0
      have hc4 : w3.cell? ⟨g, 0, none⟩ = some (.int .i64 0) := hc3
      clear hc3 hg0
      go_wp2_with fail
      refine (awake_any _).mono ?_
      rintro e w4 ⟨rfl, hb4⟩
      go_wp2_with fail
      go_ret
      exact ⟨rfl, hbw2.trans ((hb3.mono hbw2.size).trans (hb4.mono (Nat.le_trans hbw2.size hb3.size)))⟩
end Go.Proofs.Ytkpnjabgphaccaa
