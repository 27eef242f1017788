/- Sessions: Wrote; majorities. -/
import Derived.Test.YtiimcffagchneaaSes2
namespace Go.Proofs.Ytiimcffagchneaa
open Go.ChangeShapes Go.WideShapes Go.ChangeAt Go.RowKit
set_option linter.unusedVariables false

theorem wrote_hi (n : ByteArray) (t wr nu m x : Int) (w : World) (h : t < x) : Calls Try.prog 17 #[ses n t wr nu, .int .i64 m, .int .i64 x] w fun e w' => e = .returned (ses n x x m) ∧ Below w.heap.size w w' := by
  go_enter Try.func17, Try.ntmps17
  go_wp2
  refine bodyPost_ret (v := ses n x x m) (by simp [results, Try.results15, go_sem]) rfl ?_
  go_wp2
  exact bodyPost_ret (v := ses n x x m) (by simp [results, Try.results17, go_sem]) rfl ⟨rfl, (by repeat' (first | exact Below.refl _ _ | refine Below.drew ?_ | refine Below.setCell ?_ (by simp) _ | refine Below.alloc ?_ (by simp <;> omega) _))⟩
theorem wrote_lo (n : ByteArray) (t wr nu m x : Int) (w : World) (h : ¬ t < x) : Calls Try.prog 17 #[ses n t wr nu, .int .i64 m, .int .i64 x] w fun e w' => e = .returned (ses n t x m) ∧ Below w.heap.size w w' := by
  go_enter Try.func17, Try.ntmps17
  go_wp2
  refine bodyPost_ret (v := ses n t x m) (by simp [results, Try.results15, go_sem]) rfl ?_
  go_wp2
  exact bodyPost_ret (v := ses n t x m) (by simp [results, Try.results17, go_sem]) rfl ⟨rfl, (by repeat' (first | exact Below.refl _ _ | refine Below.drew ?_ | refine Below.setCell ?_ (by simp) _ | refine Below.alloc ?_ (by simp <;> omega) _))⟩
theorem wrote_any (n : ByteArray) (t wr nu m x : Int) (w : World) : Calls Try.prog 17 #[ses n t wr nu, .int .i64 m, .int .i64 x] w fun e w' => e = .returned (ses n (max t x) x m) ∧ Below w.heap.size w w' := by
  by_cases h : t < x
  · rw [Int.max_eq_right (by omega)]; exact wrote_hi n t wr nu m x w h
  · rw [Int.max_eq_left (by omega)]; exact wrote_lo n t wr nu m x w h
theorem rwrote_hi (n : ByteArray) (t wr nu m x : Int) (w : World) (h : t < x) : Calls Try.prog 18 #[ses n t wr nu, .int .i64 m, .int .i64 x] w fun e w' => e = .returned (ses n x x m) ∧ Below w.heap.size w w' := by
  go_enter Try.func18, Try.ntmps18
  go_wp2
  refine bodyPost_ret (v := ses n x x m) (by simp [results, Try.results16, go_sem]) rfl ?_
  go_wp2
  exact bodyPost_ret (v := ses n x x m) (by simp [results, Try.results18, go_sem]) rfl ⟨rfl, (by repeat' (first | exact Below.refl _ _ | refine Below.drew ?_ | refine Below.setCell ?_ (by simp) _ | refine Below.alloc ?_ (by simp <;> omega) _))⟩
theorem rwrote_lo (n : ByteArray) (t wr nu m x : Int) (w : World) (h : ¬ t < x) : Calls Try.prog 18 #[ses n t wr nu, .int .i64 m, .int .i64 x] w fun e w' => e = .returned (ses n t x m) ∧ Below w.heap.size w w' := by
  go_enter Try.func18, Try.ntmps18
  go_wp2
  refine bodyPost_ret (v := ses n t x m) (by simp [results, Try.results16, go_sem]) rfl ?_
  go_wp2
  exact bodyPost_ret (v := ses n t x m) (by simp [results, Try.results18, go_sem]) rfl ⟨rfl, (by repeat' (first | exact Below.refl _ _ | refine Below.drew ?_ | refine Below.setCell ?_ (by simp) _ | refine Below.alloc ?_ (by simp <;> omega) _))⟩
theorem rwrote_any (n : ByteArray) (t wr nu m x : Int) (w : World) : Calls Try.prog 18 #[ses n t wr nu, .int .i64 m, .int .i64 x] w fun e w' => e = .returned (ses n (max t x) x m) ∧ Below w.heap.size w w' := by
  by_cases h : t < x
  · rw [Int.max_eq_right (by omega)]; exact rwrote_hi n t wr nu m x w h
  · rw [Int.max_eq_left (by omega)]; exact rwrote_lo n t wr nu m x w h
theorem maj_any (n : Int) (w : World) (h1 : 1 ≤ n) (h7 : n ≤ 7) : Calls Try.prog 27 #[.int .i64 n] w fun e w' => e = .returned (.int .i64 (n / 2 + 1)) ∧ w = w' := by
  go_enter Try.func27, Try.ntmps27
  go_wp2
  go_ret
  exact ⟨rfl, rfl⟩
theorem rmaj_any (n : Int) (w : World) (h1 : 1 ≤ n) (h7 : n ≤ 7) : Calls Try.prog 28 #[.int .i64 n] w fun e w' => e = .returned (.int .i64 (n / 2 + 1)) ∧ w = w' := by
  go_enter Try.func28, Try.ntmps28
  go_wp2
  go_ret
  exact ⟨rfl, rfl⟩
end Go.Proofs.Ytiimcffagchneaa
