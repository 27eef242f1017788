/- Sessions: New, Saw, Wrote, Retry and the reference's. -/
import Derived.Test.YtiimcffagchneaaSes1
import Derived.WalkLawsBesides
import Derived.RegionTactic
namespace Go.Proofs.Ytiimcffagchneaa
open Go.ChangeShapes Go.WideShapes Go.ChangeAt Go.RowKit
set_option linter.unusedVariables false

/-- a session as a value -/
abbrev ses (n : ByteArray) (t wr nu : Int) : Value := .agg #[.string n, .int .i64 t, .int .i64 wr, .int .i64 nu]

theorem retry_old (a b : Int) (w : World) (h : b < a) : Calls Try.prog 13 #[.int .i64 a, .int .i64 b] w fun e w' => e = .returned (.tuple #[.bool false, .int .i64 31]) ∧ w = w' := by
  go_enter Try.func13, Try.ntmps13
  go_wp2
  go_ret2
  exact ⟨rfl, rfl⟩
theorem retry_new (a b : Int) (w : World) (h : ¬ b < a) : Calls Try.prog 13 #[.int .i64 a, .int .i64 b] w fun e w' => e = .returned (.tuple #[.bool (b == a), .int .i64 0]) ∧ w = w' := by
  go_enter Try.func13, Try.ntmps13
  go_wp2
  go_ret2
  exact ⟨rfl, rfl⟩
theorem rretry_old (a b : Int) (w : World) (h : b < a) : Calls Try.prog 14 #[.int .i64 a, .int .i64 b] w fun e w' => e = .returned (.tuple #[.bool false, .int .i64 31]) ∧ w = w' := by
  go_enter Try.func14, Try.ntmps14
  go_wp2
  go_ret2
  exact ⟨rfl, rfl⟩
theorem rretry_new (a b : Int) (w : World) (h : ¬ b < a) : Calls Try.prog 14 #[.int .i64 a, .int .i64 b] w fun e w' => e = .returned (.tuple #[.bool (b == a), .int .i64 0]) ∧ w = w' := by
  go_enter Try.func14, Try.ntmps14
  go_wp2
  go_ret2
  exact ⟨rfl, rfl⟩

theorem saw_hi (n : ByteArray) (t wr nu x : Int) (w : World) (h : t < x) : Calls Try.prog 15 #[ses n t wr nu, .int .i64 x] w fun e w' => e = .returned (ses n x wr nu) ∧ Below w.heap.size w w' := by
  go_enter Try.func15, Try.ntmps15
  go_wp2
  exact bodyPost_ret (v := ses n x wr nu) (by simp [results, Try.results15, go_sem]) rfl ⟨rfl, (by repeat' (first | exact Below.refl _ _ | refine Below.drew ?_ | refine Below.setCell ?_ (by simp) _ | refine Below.alloc ?_ (by simp) _ | refine Below.alloc ?_ (by simp; omega) _))⟩
theorem saw_lo (n : ByteArray) (t wr nu x : Int) (w : World) (h : ¬ t < x) : Calls Try.prog 15 #[ses n t wr nu, .int .i64 x] w fun e w' => e = .returned (ses n t wr nu) ∧ Below w.heap.size w w' := by
  go_enter Try.func15, Try.ntmps15
  go_wp2
  exact bodyPost_ret (v := ses n t wr nu) (by simp [results, Try.results15, go_sem]) rfl ⟨rfl, (by repeat' (first | exact Below.refl _ _ | refine Below.drew ?_ | refine Below.setCell ?_ (by simp) _ | refine Below.alloc ?_ (by simp) _ | refine Below.alloc ?_ (by simp; omega) _))⟩
theorem saw_any (n : ByteArray) (t wr nu x : Int) (w : World) : Calls Try.prog 15 #[ses n t wr nu, .int .i64 x] w fun e w' => e = .returned (ses n (max t x) wr nu) ∧ Below w.heap.size w w' := by
  by_cases h : t < x
  · rw [Int.max_eq_right (by omega)]; exact saw_hi n t wr nu x w h
  · rw [Int.max_eq_left (by omega)]; exact saw_lo n t wr nu x w h
theorem rsaw_hi (n : ByteArray) (t wr nu x : Int) (w : World) (h : t < x) : Calls Try.prog 16 #[ses n t wr nu, .int .i64 x] w fun e w' => e = .returned (ses n x wr nu) ∧ Below w.heap.size w w' := by
  go_enter Try.func16, Try.ntmps16
  go_wp2
  exact bodyPost_ret (v := ses n x wr nu) (by simp [results, Try.results16, go_sem]) rfl ⟨rfl, (by repeat' (first | exact Below.refl _ _ | refine Below.drew ?_ | refine Below.setCell ?_ (by simp) _ | refine Below.alloc ?_ (by simp) _ | refine Below.alloc ?_ (by simp; omega) _))⟩
theorem rsaw_lo (n : ByteArray) (t wr nu x : Int) (w : World) (h : ¬ t < x) : Calls Try.prog 16 #[ses n t wr nu, .int .i64 x] w fun e w' => e = .returned (ses n t wr nu) ∧ Below w.heap.size w w' := by
  go_enter Try.func16, Try.ntmps16
  go_wp2
  exact bodyPost_ret (v := ses n t wr nu) (by simp [results, Try.results16, go_sem]) rfl ⟨rfl, (by repeat' (first | exact Below.refl _ _ | refine Below.drew ?_ | refine Below.setCell ?_ (by simp) _ | refine Below.alloc ?_ (by simp) _ | refine Below.alloc ?_ (by simp; omega) _))⟩
theorem rsaw_any (n : ByteArray) (t wr nu x : Int) (w : World) : Calls Try.prog 16 #[ses n t wr nu, .int .i64 x] w fun e w' => e = .returned (ses n (max t x) wr nu) ∧ Below w.heap.size w w' := by
  by_cases h : t < x
  · rw [Int.max_eq_right (by omega)]; exact rsaw_hi n t wr nu x w h
  · rw [Int.max_eq_left (by omega)]; exact rsaw_lo n t wr nu x w h
theorem new_yes (s : ByteArray) (w : World) (hs : s.size ≤ maxLen) (h : Nm.nameB s.data.toList = true) : Calls Try.prog 10 #[.string s] w fun e w' => e = .returned (.tuple #[ses s 0 0 0, .int .i64 0]) ∧ Below w.heap.size w w' := by
  have HN := Lib.hid ((isName_any s · hs))
  have HT := Lib.hid h
  clear h
  go_enter Try.func10, Try.ntmps10
  go_wp2_with fail
  refine (HN.out _).mono ?_
  rw [HT.out]
  rintro e w1 ⟨rfl, rfl⟩
  go_wp2_with fail
  exact bodyPost_ret (v := .tuple #[ses s 0 0 0, .int .i64 0]) (by simp [results, Try.results10, go_sem]) rfl ⟨rfl, (by repeat' (first | exact Below.refl _ _ | refine Below.drew ?_ | refine Below.setCell ?_ (by simp) _ | refine Below.alloc ?_ (by simp) _ | refine Below.alloc ?_ (by simp; omega) _))⟩
theorem new_no (s : ByteArray) (w : World) (hs : s.size ≤ maxLen) (h : Nm.nameB s.data.toList = false) : Calls Try.prog 10 #[.string s] w fun e w' => e = .returned (.tuple #[ses ⟨#[]⟩ 0 0 0, .int .i64 9]) ∧ Below w.heap.size w w' := by
  have HN := Lib.hid ((isName_any s · hs))
  have HT := Lib.hid h
  clear h
  go_enter Try.func10, Try.ntmps10
  go_wp2_with fail
  refine (HN.out _).mono ?_
  rw [HT.out]
  rintro e w1 ⟨rfl, rfl⟩
  go_wp2_with fail
  exact bodyPost_ret (v := .tuple #[ses ⟨#[]⟩ 0 0 0, .int .i64 9]) (by simp [results, Try.results10, go_sem]) rfl ⟨rfl, (by repeat' (first | exact Below.refl _ _ | refine Below.drew ?_ | refine Below.setCell ?_ (by simp) _ | refine Below.alloc ?_ (by simp) _ | refine Below.alloc ?_ (by simp; omega) _))⟩
theorem rnew_yes (s : ByteArray) (w : World) (hs : s.size ≤ maxLen) (h : Nm.nameB s.data.toList = true) : Calls Try.prog 11 #[.string s] w fun e w' => e = .returned (.tuple #[ses s 0 0 0, .int .i64 0]) ∧ Below w.heap.size w w' := by
  have HN := Lib.hid ((rName_any s · hs))
  have HT := Lib.hid h
  clear h
  go_enter Try.func11, Try.ntmps11
  go_wp2_with fail
  refine (HN.out _).mono ?_
  rw [HT.out]
  rintro e w1 ⟨rfl, rfl⟩
  go_wp2_with fail
  exact bodyPost_ret (v := .tuple #[ses s 0 0 0, .int .i64 0]) (by simp [results, Try.results11, go_sem]) rfl ⟨rfl, (by repeat' (first | exact Below.refl _ _ | refine Below.drew ?_ | refine Below.setCell ?_ (by simp) _ | refine Below.alloc ?_ (by simp) _ | refine Below.alloc ?_ (by simp; omega) _))⟩
theorem rnew_no (s : ByteArray) (w : World) (hs : s.size ≤ maxLen) (h : Nm.nameB s.data.toList = false) : Calls Try.prog 11 #[.string s] w fun e w' => e = .returned (.tuple #[ses ⟨#[]⟩ 0 0 0, .int .i64 9]) ∧ Below w.heap.size w w' := by
  have HN := Lib.hid ((rName_any s · hs))
  have HT := Lib.hid h
  clear h
  go_enter Try.func11, Try.ntmps11
  go_wp2_with fail
  refine (HN.out _).mono ?_
  rw [HT.out]
  rintro e w1 ⟨rfl, rfl⟩
  go_wp2_with fail
  exact bodyPost_ret (v := .tuple #[ses ⟨#[]⟩ 0 0 0, .int .i64 9]) (by simp [results, Try.results11, go_sem]) rfl ⟨rfl, (by repeat' (first | exact Below.refl _ _ | refine Below.drew ?_ | refine Below.setCell ?_ (by simp) _ | refine Below.alloc ?_ (by simp) _ | refine Below.alloc ?_ (by simp; omega) _))⟩
end Go.Proofs.Ytiimcffagchneaa
