/- The walks of crc.Seal, crc.Open and the reference's Seal and Open. -/
import Derived.Test.YtkpnjabgphaccaaWalks1
import Derived.Deep.RegionWith
import Derived.Deep.QuietTactic
import Derived.BigQuiet
import Derived.Lib.Strings
import Derived.Lib.IndexBytes
namespace Go.Proofs.Ytkpnjabgphaccaa
open Go.ChangeShapes Go.WideShapes Go.ChangeAt Go.RowKit

theorem tail_size (l : List UInt8) : (⟨(Crc.tail l).toArray⟩ : ByteArray).size = 4 := rfl
theorem append_str (s : ByteArray) (l : List UInt8) : s ++ (⟨l.toArray⟩ : ByteArray) = ⟨(s.data.toList ++ l).toArray⟩ := by
  apply ByteArray.ext
  simp
theorem and_255 (n : Int) (h : 0 ≤ n) (h2 : n < 4294967296) : bits .and .u32 n 255 = n % 256 := by
  rw [u32_and n 255 h h2 (by omega) (by omega), show (255 : Int).toNat = 255 from rfl, nat_mask8]; omega

set_option maxHeartbeats 400000 in
theorem seal_any (s : ByteArray) (w : World) (hs : s.size ≤ 1000000000) :
    Calls Try.prog 21 #[.string s] w fun e w' => e = .returned (.string ⟨(Crc.seal4 s.data.toList).toArray⟩) ∧ Below w.heap.size w w' := by
  have ht := tail_size s.data.toList
  have hm : s.size ≤ maxLen := by unfold maxLen; omega
  go_enter Try.func21, Try.ntmps21
  go_wp2_with (go_at_call 25; refine (tail_any _ _ hm).mono ?_; rintro e w' ⟨rfl, hb⟩)
  go_ret
  refine ⟨?_, hb⟩
  exact congrArg (fun b => Ending.returned (.string b)) (append_str s _)

set_option maxHeartbeats 400000 in
theorem rseal_any (s : ByteArray) (w : World) (hs : s.size ≤ 1000000000) :
    Calls Try.prog 20 #[.string s] w fun e w' => e = .returned (.string ⟨(Crc.seal4 s.data.toList).toArray⟩) ∧ Below w.heap.size w w' := by
  have hl := Crc.sum_lt s.data.toList
  have hcv := conv4 w
  have hm : s.size ≤ maxLen := by unfold maxLen; omega
  have hz : ∀ a b c d : Int, (strOfNums [a, b, c, d]).size = 4 := fun _ _ _ _ => rfl
  go_enter Try.func20, Try.ntmps20
  go_wp2_with (go_at_call 24; refine (rsum_any _ _ hm).mono ?_; rintro e w' ⟨rfl, rfl⟩)
  go_ret
  refine ⟨?_, (Below.refl _ _).alloc (Nat.le_refl _) _⟩
  refine congrArg (fun b => Ending.returned (.string b)) ?_
  rw [and_255 _ (by omega) (by omega), and_255 _ (by omega) (by omega), and_255 _ (by omega) (by omega), and_255 _ (by omega) (by omega)]
  have e1 : (Crc.sum s.data.toList : Int) % 256 % 256 = (Crc.sum s.data.toList : Int) % 256 := by omega
  have e2 : (Crc.sum s.data.toList : Int) / 256 % 256 % 256 = (Crc.sum s.data.toList : Int) / 256 % 256 := by omega
  have e3 : (Crc.sum s.data.toList : Int) / 65536 % 256 % 256 = (Crc.sum s.data.toList : Int) / 65536 % 256 := by omega
  have e4 : (Crc.sum s.data.toList : Int) / 16777216 % 256 % 256 = (Crc.sum s.data.toList : Int) / 16777216 := by omega
  rw [e1, e2, e3, e4, tail_nums _ hl]
  exact append_str s _

theorem take_str (s : ByteArray) (n : Nat) : s.extract 0 n = ⟨(s.data.toList.take n).toArray⟩ := by
  apply ByteArray.ext
  apply Array.ext'
  rw [Lib.extract_data]
  simp

theorem size_list (s : ByteArray) : s.data.toList.length = s.size := Array.length_toList
theorem two_res (b : ByteArray) (n : Int) (c : ByteArray) (m : Int) (h : b = c) (k : n = m) : Ending.returned (.tuple #[.string b, .int .i64 n]) = .returned (.tuple #[.string c, .int .i64 m]) := by rw [h, k]

set_option maxHeartbeats 400000 in
theorem open_any (s : ByteArray) (w : World) (hs : s.size ≤ 1000000000) :
    Calls Try.prog 22 #[.string s] w fun e w' => e = .returned (.tuple #[.string ⟨(Crc.openS s.data.toList).toArray⟩, .int .i64 (Crc.openE s.data.toList)]) ∧ Below w.heap.size w w' := by
  have hE := Lib.hid (rfl : Crc.openE s.data.toList = _)
  have hS := Lib.hid (rfl : Crc.openS s.data.toList = _)
  by_cases h4 : s.size < 4
  · go_enter Try.func22, Try.ntmps22
    go_wp2
    go_ret2
    refine ⟨two_res _ _ _ _ ?_ ?_, Below.refl _ _⟩
    · rw [Crc.openS, size_list, if_pos h4]
    · rw [Crc.openE, size_list, if_pos h4]
  · have htn : ((s.size : Int) - 4).toNat = s.size - 4 := by omega
    go_enter Try.func22, Try.ntmps22
    go_wp2
    go_region_with (go_at_call 25; refine (tail_any _ _ (by simp only [ByteArray.size_extract]; unfold maxLen; omega)).mono ?_; rintro e w' ⟨rfl, hb⟩)
    all_goals go_wp2
    all_goals (rename_i hcmp; rw [ByteArray.toList_eq, Lib.extract_to_end] at hcmp; simp only [Bool.not_eq_eq_eq_not, Bool.not_true, Bool.not_false, beq_eq_false_iff_ne, beq_iff_eq] at hcmp)
    all_goals go_ret2
    all_goals refine ⟨two_res _ _ _ _ ?_ ?_, ((Below.refl _ _).drew).trans hb⟩
    · rw [Crc.openS, size_list, if_neg h4, if_neg hcmp]
    · rw [Crc.openE, size_list, if_neg h4, if_neg hcmp]
    · rw [Crc.openS, size_list, if_neg h4, if_pos hcmp]; exact take_str _ _
    · rw [Crc.openE, size_list, if_neg h4, if_pos hcmp]
    · rw [Crc.openS, size_list, if_neg h4, if_neg hcmp]
    · rw [Crc.openE, size_list, if_neg h4, if_neg hcmp]
    · rw [Crc.openS, size_list, if_neg h4, if_pos hcmp]; exact take_str _ _
    · rw [Crc.openE, size_list, if_neg h4, if_pos hcmp]

theorem seal_eq (s : ByteArray) : (Crc.seal4 (s.data.toList.take (s.size - 4)) = s.data.toList) ↔ Crc.tail (s.data.toList.take (s.size - 4)) = s.data.toList.drop (s.size - 4) := by
  unfold Crc.seal4
  have e := List.take_append_drop (s.size - 4) s.data.toList
  constructor
  · intro h
    exact List.append_cancel_left (h.trans e.symm)
  · intro h
    rw [h]; exact e

set_option maxHeartbeats 400000 in
theorem ropen_any (s : ByteArray) (w : World) (hs : s.size ≤ 1000000000) :
    Calls Try.prog 23 #[.string s] w fun e w' => e = .returned (.tuple #[.string ⟨(Crc.openS s.data.toList).toArray⟩, .int .i64 (Crc.openE s.data.toList)]) ∧ Below w.heap.size w w' := by
  by_cases h4 : s.size < 4
  · go_enter Try.func23, Try.ntmps23
    go_wp2
    go_ret2
    refine ⟨two_res _ _ _ _ ?_ ?_, Below.refl _ _⟩
    · rw [Crc.openS, size_list, if_pos h4]
    · rw [Crc.openE, size_list, if_pos h4]
  · have htn : ((s.size : Int) - 4).toNat = s.size - 4 := by omega
    go_enter Try.func23, Try.ntmps23
    go_wp2_with (go_at_call 20; refine (rseal_any _ _ (by simp only [ByteArray.size_extract]; omega)).mono ?_; rintro e w' ⟨rfl, hb⟩)
    all_goals (rename_i hcmp; rw [ByteArray.toList_eq] at hcmp; simp only [Bool.not_eq_eq_eq_not, Bool.not_true, Bool.not_false, beq_eq_false_iff_ne, beq_iff_eq, ne_eq, seal_eq] at hcmp)
    all_goals go_ret2
    all_goals refine ⟨two_res _ _ _ _ ?_ ?_, hb⟩
    · rw [Crc.openS, size_list, if_neg h4, if_neg hcmp]
    · rw [Crc.openE, size_list, if_neg h4, if_neg hcmp]
    · rw [Crc.openS, size_list, if_neg h4, if_pos hcmp]; exact take_str _ _
    · rw [Crc.openE, size_list, if_neg h4, if_pos hcmp]

end Go.Proofs.Ytkpnjabgphaccaa
