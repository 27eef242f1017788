/- The walk of the law CrcLinear. -/
import Derived.Test.YtbojnlonjmkpjaaLaws2
import Derived.Test.YtbojnlonjmkpjaaBytes
import Derived.WalkLawsBesides
import Derived.RegionTactic
import Derived.StillTailTactics
namespace Go.Proofs.Ytbojnlonjmkpjaa
open Go.ChangeShapes Go.WideShapes Go.ChangeAt Go.RowKit
set_option linter.unusedVariables false

/-- what x holds after k rounds -/
def lin (a b c : ByteArray) (n k : Nat) : List UInt8 := Crc.x3 (a.data.toList.take k) (b.data.toList.take k) (c.data.toList.take k) ++ List.replicate (n - k) 0

theorem xor8 (x y : UInt8) : bits .xor .u8 (x.toNat : Int) (y.toNat : Int) = ((x ^^^ y).toNat : Int) := by
  rw [u8_xor_nat _ _ x.toNat_lt y.toNat_lt, UInt8.toNat_xor]

theorem sum_still (s : ByteArray) (w : World) (hs : s.size ≤ maxLen) :
    Calls Try.prog 10 #[.string s] w fun e w' => e = .returned (.int .u32 (Crc.sum s.data.toList)) ∧ w' = w :=
  (sum_any s w hs).mono fun e w' ⟨h, hw⟩ => ⟨h, hw.symm⟩

theorem lin_zero (a b c : ByteArray) (n : Nat) : lin a b c n 0 = List.replicate n 0 := by simp [lin, Crc.x3]
theorem lin_length (a b c : ByteArray) (n k : Nat) (ha : n ≤ a.size) (hb : n ≤ b.size) (hc : n ≤ c.size) (hk : k ≤ n) : (lin a b c n k).length = n := by
  have e1 := size_list a
  have e2 := size_list b
  have e3 := size_list c
  simp only [lin, Crc.x3, List.length_append, List.length_zipWith, List.length_take, List.length_replicate, e1, e2, e3]
  omega
theorem lin_succ (a b c : ByteArray) (n k : Nat) (ha : k < a.size) (hb : k < b.size) (hc : k < c.size) (hk : k < n) : lin a b c n (k + 1) = (lin a b c n k).set k (a[k] ^^^ b[k] ^^^ c[k]) := by
  have e1 := size_list a
  have e2 := size_list b
  have e3 := size_list c
  have hz : (Crc.x3 (a.data.toList.take k) (b.data.toList.take k) (c.data.toList.take k)).length = k := by
    simp only [Crc.x3, List.length_zipWith, List.length_take, e1, e2, e3]; omega
  unfold lin
  rw [take_snoc a k ha, take_snoc b k hb, take_snoc c k hc, List.set_append_right _ _ (by omega), hz, Nat.sub_self]
  obtain ⟨m, hm⟩ : ∃ m, n - k = m + 1 := ⟨n - k - 1, by omega⟩
  rw [hm, show n - (k + 1) = m from by omega, List.replicate_succ, List.set_cons_zero]
  have hx : Crc.x3 (a.data.toList.take k ++ [a[k]]) (b.data.toList.take k ++ [b[k]]) (c.data.toList.take k ++ [c[k]]) = Crc.x3 (a.data.toList.take k) (b.data.toList.take k) (c.data.toList.take k) ++ [a[k] ^^^ b[k] ^^^ c[k]] := by
    unfold Crc.x3
    rw [List.zipWith_append (by simp only [List.length_take, e1, e2]; omega), List.zipWith_append (by simp only [List.length_zipWith, List.length_take, e1, e2, e3]; omega)]
    simp
  rw [hx]
  simp

set_option maxHeartbeats 400000 in
theorem linear_law (a : ByteArray) (ha : a.size ≤ maxLen) (b : ByteArray) (hb : b.size ≤ maxLen) (c : ByteArray) (hc : c.size ≤ maxLen) (w : World) :
    Calls Try.prog 7 #[.string a, .string b, .string c] w fun e w' => e = .returned (.bool true) ∧ Below w.heap.size w w' := by
  unfold maxLen at ha hb hc
  obtain ⟨n, hn⟩ : ∃ n : Nat, (if (c.size : Int) < (if b.size < a.size then (b.size : Int) else (a.size : Int)) then (c.size : Int) else if b.size < a.size then (b.size : Int) else (a.size : Int)) = (n : Int) := ⟨min a.size (min b.size c.size), by split <;> split <;> omega⟩
  have na : n ≤ a.size := by revert hn; split <;> split <;> omega
  have nb : n ≤ b.size := by revert hn; split <;> split <;> omega
  have nc : n ≤ c.size := by revert hn; split <;> split <;> omega
  by_cases h : n ≤ 1000
  · obtain ⟨W1, hmk, hB1, hb1, hs1⟩ := make_bytes n w (by omega)
    have HS1 := Lib.hid hs1
    clear hs1
    go_enter Try.func7, Try.ntmps7
    go_wp2_with fail
    clear hmk hn
    have hB0 : BytesAt W1 w.heap.size (lin a b c n 0) := by rw [lin_zero]; exact hB1
    clear hB1
    go_loopw [23] (fun i wr => ∃ k : Nat, k ≤ n ∧ i = .int .i64 k ∧ BytesAt wr w.heap.size (lin a b c n k) ∧ Below w.heap.size W1 wr) (fun i _ => n - (intOf i).toNat)
    case atStart => exact ⟨0, Nat.zero_le _, rfl, hB0, Below.refl _ _⟩
    case round =>
      obtain ⟨k, hk, rfl, hBk, hbk⟩ := hrel
      by_cases hlt : k < n
      · have ga : k < a.size := by omega
        have gb : k < b.size := by omega
        have gc : k < c.size := by omega
        have hll : k < (lin a b c n k).length := by rw [lin_length _ _ _ _ _ na nb nc hk]; exact hlt
        have hcell := hBk.cell k hll
        have hfree := hBk.free k hll
        have x1 : bits .xor .u8 (a[k].toNat : Int) (b[k].toNat : Int) = ((a[k].toNat ^^^ b[k].toNat : Nat) : Int) := by rw [xor8, UInt8.toNat_xor]
        have x2 : bits .xor .u8 ((a[k].toNat ^^^ b[k].toNat : Nat) : Int) (c[k].toNat : Int) = ((a[k].toNat ^^^ b[k].toNat ^^^ c[k].toNat : Nat) : Int) := by
          have := xor8 (a[k] ^^^ b[k]) c[k]
          rwa [UInt8.toNat_xor, UInt8.toNat_xor] at this
        have hset := Lib.hid (hBk.set k (a[k] ^^^ b[k] ^^^ c[k]) hll)
        go_wp2
        go_region
        go_wp2
        go_roundw
        case rel => exact ⟨k + 1, by omega, by go_num, by rw [lin_succ a b c n k ga gb gc hlt]; have hs2 := hset.out; rw [UInt8.toNat_xor, UInt8.toNat_xor] at hs2; exact hs2.drew, (hbk.setCell (Nat.le_refl _) _).drew⟩
        case measure => simp [intOf]; omega
      · obtain rfl : k = n := by omega
        have hll := lin_length a b c k k na nb nc (Nat.le_refl _)
        have hcv := conv_bytes k hBk.drew
        rw [hll] at hcv
        have HLL := Lib.hid hll
        clear hll
        have g0 : (lin a b c k k) = Crc.x3 (a.data.toList.take k) (b.data.toList.take k) (c.data.toList.take k) := by simp [lin]
        have HG := Lib.hid g0
        clear g0
        have hsa := sum_still (a.extract 0 k) wr.drew (by simp only [ByteArray.size_extract]; unfold maxLen; omega)
        have HA := Lib.hid hsa
        have hsb := sum_still (b.extract 0 k) wr.drew (by simp only [ByteArray.size_extract]; unfold maxLen; omega)
        have HB := Lib.hid hsb
        have hsc := sum_still (c.extract 0 k) wr.drew (by simp only [ByteArray.size_extract]; unfold maxLen; omega)
        have HC := Lib.hid hsc
        clear hsa hsb hsc
        have y1 := u32_xor_nat (Crc.sum (a.data.toList.take k)) (Crc.sum (b.data.toList.take k)) (Crc.sum_lt _) (Crc.sum_lt _)
        have y2 := u32_xor_nat (Crc.sum (a.data.toList.take k) ^^^ Crc.sum (b.data.toList.take k)) (Crc.sum (c.data.toList.take k)) (Nat.xor_lt_two_pow (n := 32) (Crc.sum_lt _) (Crc.sum_lt _)) (Crc.sum_lt _)
        have y3 : Crc.sum (lin a b c k k) = Crc.sum (a.data.toList.take k) ^^^ Crc.sum (b.data.toList.take k) ^^^ Crc.sum (c.data.toList.take k) := by
          have e1 := size_list a
          have e2 := size_list b
          have e3 := size_list c
          rw [HG.out, Crc.sum_x3 _ _ _ (by simp only [List.length_take, e1, e2]; omega) (by simp only [List.length_take, e2, e3]; omega)]
        go_wp2
        refine wp_region_still_tail 19 (by kernel_rfl) (by kernel_rfl) ?_
        change wpStill _ _ wr.drew _ _ _
        simp only [List.take_succ_cons, List.take_zero, List.drop_succ_cons, List.drop_zero]
        repeat still_step
        still_call (sum_still _ _ (by rw [← size_list]; show (lin a b c k k).length ≤ _; rw [HLL.out]; unfold maxLen; omega))
        repeat still_step
        still_call HA.out
        repeat still_step
        still_call HB.out
        repeat still_step
        still_call HC.out
        repeat still_step
        refine wpStill_nil ?_
        change wpList _ _ _ _ _ wr.drew
        clear hcv
        generalize hwr : wr.drew = w2
        have hb2 : Below w.heap.size w w2 := by rw [← hwr]; exact (hb1.trans hbk).drew
        have hs2 : w.heap.size ≤ w2.heap.size := hb2.size
        clear hwr y1 y2 y3
        go_wp2_with fail
        refine (awake_any _).mono ?_
        rintro e w3 ⟨rfl, hb3⟩
        go_wp2_with fail
        go_ret
        exact ⟨rfl, hb2.trans (hb3.mono hs2)⟩
  · go_enter Try.func7, Try.ntmps7
    go_wp2_with fail
    refine (awake_any _).mono ?_
    rintro e w1 ⟨rfl, hb⟩
    go_wp2_with fail
    go_ret
    exact ⟨rfl, hb⟩
end Go.Proofs.Ytbojnlonjmkpjaa
