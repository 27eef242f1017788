/- The walk of crc.Sum. -/
import Derived.Test.YtkpnjabgphaccaaRows
import Derived.Test.YtkpnjabgphaccaaPlain
import Derived.WalkKit
import Derived.ProofKit
import Derived.OpenShut
import Derived.Outline
import Derived.Lib.Hide
import Derived.Laws.BitsAllLaws
import Derived.Laws.BytesArg
namespace Go.Proofs.Ytkpnjabgphaccaa
open Go.ChangeShapes Go.WideShapes Go.ChangeAt Go.RowKit

theorem xor_byte (n : Nat) (b : UInt8) (h : n < 4294967296) : bits .xor .u32 (n : Int) ((b.toNat : Int) % 4294967296) = ((n ^^^ b.toNat : Nat) : Int) := by
  have hb := b.toNat_lt
  have e : ((b.toNat : Int) % 4294967296) = (b.toNat : Int) := by omega
  rw [e, u32_xor_nat _ _ h (by omega)]
theorem and_one (n : Nat) (h : n < 4294967296) : bits .and .u32 (n : Int) 1 = ((n % 2 : Nat) : Int) := by
  rw [show (1 : Int) = ((1 : Nat) : Int) from rfl, u32_and_nat _ _ h (by omega), Nat.and_one_is_mod]
theorem xor_poly (n : Nat) (h : n < 4294967296) : bits .xor .u32 ((n : Int) / 2) 2197175160 = (((n / 2) ^^^ 2197175160 : Nat) : Int) := by
  rw [show (2197175160 : Int) = ((2197175160 : Nat) : Int) from rfl, show ((n : Int) / 2) = ((n / 2 : Nat) : Int) from by omega, u32_xor_nat _ _ (by omega) (by omega)]
theorem xor_all (n : Nat) (h : n < 4294967296) : bits .xor .u32 IntKind.u32.max (n : Int) = ((n ^^^ 4294967295 : Nat) : Int) := by
  rw [show IntKind.u32.max = ((4294967295 : Nat) : Int) from rfl, u32_xor_nat _ _ (by omega) h, Nat.xor_comm]
theorem xor_all' (n : Nat) (h : n < 4294967296) : bits .xor .u32 (n : Int) 4294967295 = ((n ^^^ 4294967295 : Nat) : Int) := by
  rw [show (4294967295 : Int) = ((4294967295 : Nat) : Int) from rfl, u32_xor_nat _ _ h (by omega)]

theorem take_snoc (s : ByteArray) (k : Nat) (h : k < s.size) : s.data.toList.take (k + 1) = s.data.toList.take k ++ [s[k]] := by
  rw [List.take_succ_eq_append_getElem (by simpa using h)]; rfl

set_option maxHeartbeats 400000 in
theorem sum_any (s : ByteArray) (w : World) (hs : s.size ≤ maxLen) :
    Calls Try.prog 26 #[.string s] w fun e w' => e = .returned (.int .u32 (Crc.sum s.data.toList)) ∧ w = w' := by
  unfold maxLen at hs
  go_enter Try.func26, Try.ntmps26
  go_wp2
  go_loop [3, 8] (fun r i => ∃ k : Nat, k ≤ s.size ∧ i = .int .i64 k ∧ r = .int .u32 (Crc.reg (s.data.toList.take k))) (fun _ i => s.size - (intOf i).toNat)
  case atStart => exact ⟨0, Nat.zero_le _, rfl, rfl⟩
  case round =>
    obtain ⟨k, hk, rfl, rfl⟩ := hrel
    by_cases hlt : k < s.size
    · have hx := xor_byte (Crc.reg (s.data.toList.take k)) s[k] (Crc.reg_lt _)
      go_wp2
      clear hx
      go_loop [3, 17] (fun r i => ∃ j : Nat, j ≤ 8 ∧ i = .int .i64 j ∧ r = .int .u32 (Crc.stpN j (Crc.reg (s.data.toList.take k) ^^^ s[k].toNat))) (fun _ i => 8 - (intOf i).toNat)
      case atStart => exact ⟨0, Nat.zero_le _, rfl, rfl⟩
      case round =>
        obtain ⟨j, hj, rfl, rfl⟩ := hrel
        have hr := Crc.byteStep_lt' (s.data.toList.take k) s[k] j
        by_cases hjl : j < 8
        · generalize hn : Crc.stpN j (Crc.reg (s.data.toList.take k) ^^^ s[k].toNat) = n at *
          have hn2 : Crc.stpN (j + 1) (Crc.reg (s.data.toList.take k) ^^^ s[k].toNat) = Crc.stp n := by rw [← hn]; rfl
          have Hn := Lib.hid hn2
          clear hn hn2
          have ha := and_one n hr
          by_cases hp : n % 2 = 1
          · have hp2 : ((↑(n % 2) : Int) == 1) = true := by rw [hp]; rfl
            have hx := xor_poly n hr
            go_wp2
            clear hp2 ha hx
            go_round
            case rel => exact ⟨j + 1, by omega, by go_num, by rw [Hn.out, Crc.stp, if_pos hp]⟩
            case measure => simp [intOf]; omega
          · have hp2 : ((↑(n % 2) : Int) == 1) = false := by rw [beq_eq_false_iff_ne]; omega
            go_wp2
            clear hp2 ha
            go_round
            case rel => exact ⟨j + 1, by omega, by go_num, by rw [Hn.out, Crc.stp, if_neg hp]; go_num⟩
            case measure => simp [intOf]; omega
        · have : j = 8 := by omega
          subst this
          go_wp2
          go_round
          case rel => exact ⟨k + 1, by omega, by go_num, by rw [take_snoc s k hlt, Crc.reg_snoc]; rfl⟩
          case measure => simp [intOf]; omega
    · have hx := xor_all (Crc.reg (s.data.toList.take k)) (Crc.reg_lt _)
      go_wp2
      go_ret
      refine ⟨?_, rfl⟩
      rw [List.take_of_length_le (by simp; omega)]; rfl

set_option maxHeartbeats 400000 in
theorem rsum_any (s : ByteArray) (w : World) (hs : s.size ≤ maxLen) :
    Calls Try.prog 24 #[.string s] w fun e w' => e = .returned (.int .u32 (Crc.sum s.data.toList)) ∧ w = w' := by
  unfold maxLen at hs
  go_enter Try.func24, Try.ntmps24
  go_wp2
  go_loop [3, 4] (fun r i => ∃ k : Nat, k ≤ s.size ∧ i = .int .i64 k ∧ r = .int .u32 (Crc.reg (s.data.toList.take k))) (fun _ i => s.size - (intOf i).toNat)
  case atStart => exact ⟨0, Nat.zero_le _, rfl, rfl⟩
  case round =>
    obtain ⟨k, hk, rfl, rfl⟩ := hrel
    by_cases hlt : k < s.size
    · have hx := xor_byte (Crc.reg (s.data.toList.take k)) s[k] (Crc.reg_lt _)
      go_wp2
      clear hx
      go_loop [3, 5] (fun r i => ∃ j : Nat, j ≤ 8 ∧ i = .int .i64 j ∧ r = .int .u32 (Crc.stpN j (Crc.reg (s.data.toList.take k) ^^^ s[k].toNat))) (fun _ i => 8 - (intOf i).toNat)
      case atStart => exact ⟨0, Nat.zero_le _, rfl, rfl⟩
      case round =>
        obtain ⟨j, hj, rfl, rfl⟩ := hrel
        have hr := Crc.byteStep_lt' (s.data.toList.take k) s[k] j
        by_cases hjl : j < 8
        · generalize hn : Crc.stpN j (Crc.reg (s.data.toList.take k) ^^^ s[k].toNat) = n at *
          have hn2 : Crc.stpN (j + 1) (Crc.reg (s.data.toList.take k) ^^^ s[k].toNat) = Crc.stp n := by rw [← hn]; rfl
          have Hn := Lib.hid hn2
          clear hn hn2
          have ha := and_one n hr
          by_cases hp : n % 2 = 1
          · have hp2 : ((↑(n % 2) : Int) == 1) = true := by rw [hp]; rfl
            have hx := xor_poly n hr
            go_wp2
            clear hp2 ha hx
            go_round
            case rel => exact ⟨j + 1, by omega, by go_num, by rw [Hn.out, Crc.stp, if_pos hp]⟩
            case measure => simp [intOf]; omega
          · have hp2 : ((↑(n % 2) : Int) == 1) = false := by rw [beq_eq_false_iff_ne]; omega
            go_wp2
            clear hp2 ha
            go_round
            case rel => exact ⟨j + 1, by omega, by go_num, by rw [Hn.out, Crc.stp, if_neg hp]; go_num⟩
            case measure => simp [intOf]; omega
        · have : j = 8 := by omega
          subst this
          go_wp2
          go_round
          case rel => exact ⟨k + 1, by omega, by go_num, by rw [take_snoc s k hlt, Crc.reg_snoc]; rfl⟩
          case measure => simp [intOf]; omega
    · have hx := xor_all' (Crc.reg (s.data.toList.take k)) (Crc.reg_lt _)
      go_wp2
      go_ret
      refine ⟨?_, rfl⟩
      rw [List.take_of_length_le (by simp; omega)]; rfl

theorem tail_nums (l : List UInt8) (h : Crc.sum l < 4294967296) :
    strOfNums [(Crc.sum l : Int) % 256, (Crc.sum l : Int) / 256 % 256, (Crc.sum l : Int) / 65536 % 256, (Crc.sum l : Int) / 16777216] = ⟨(Crc.tail l).toArray⟩ := by
  unfold strOfNums Crc.tail
  generalize Crc.sum l = n at *
  have e1 : ((n : Int) % 256).toNat = n % 256 := by omega
  have e2 : ((n : Int) / 256 % 256).toNat = n / 256 % 256 := by omega
  have e3 : ((n : Int) / 65536 % 256).toNat = n / 65536 % 256 := by omega
  have e4 : ((n : Int) / 16777216).toNat = n / 16777216 := by omega
  have m (k : Nat) : UInt8.ofNat (k % 256) = UInt8.ofNat k := by
    apply UInt8.toNat_inj.1; simp
  simp only [List.map_cons, List.map_nil, e1, e2, e3, e4, m]

theorem conv4 (w : World) (a b c d : Int) :
    (convert 43 9 (.slice (some ⟨w.heap.size, 0, none⟩) 4 4)).run Try.prog (w.alloc (.cells #[.int .u8 a, .int .u8 b, .int .u8 c, .int .u8 d] 5)) = .ok (.string (strOfNums [a, b, c, d])) (w.alloc (.cells #[.int .u8 a, .int .u8 b, .int .u8 c, .int .u8 d] 5)) := by
  refine run_convert_bytes_arg _ 43 5 (by kernel_rfl) (by kernel_rfl) w.heap.size 0 4 4 [a, b, c, d] rfl ?_ 9 (by kernel_rfl)
  intro i hi
  match i, hi with
  | 0, _ => simp [go_sem]
  | 1, _ => simp [go_sem]
  | 2, _ => simp [go_sem]
  | 3, _ => simp [go_sem]

set_option maxHeartbeats 400000 in
theorem tail_any (s : ByteArray) (w : World) (hs : s.size ≤ maxLen) :
    Calls Try.prog 25 #[.string s] w fun e w' => e = .returned (.string ⟨(Crc.tail s.data.toList).toArray⟩) ∧ Below w.heap.size w w' := by
  have hl := Crc.sum_lt s.data.toList
  have hcv := conv4 w
  go_enter Try.func25, Try.ntmps25
  go_wp2_with (go_at_call 26; refine (sum_any _ _ hs).mono ?_; rintro e w' ⟨rfl, rfl⟩)
  go_ret
  refine ⟨?_, (Below.refl _ _).alloc (Nat.le_refl _) _⟩
  exact congrArg (fun b => Ending.returned (.string b)) (tail_nums _ hl)
end Go.Proofs.Ytkpnjabgphaccaa
