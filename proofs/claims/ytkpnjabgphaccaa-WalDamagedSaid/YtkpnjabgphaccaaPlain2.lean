/- Plain facts: sealing and opening; the checksum is linear; the checksum of a sealed string. -/
import Derived.Test.YtkpnjabgphaccaaPlain
namespace Crc

theorem tail_length (l : List UInt8) : (tail l).length = 4 := rfl
theorem seal4_length (l : List UInt8) : (seal4 l).length = l.length + 4 := by simp [seal4, tail_length]
theorem seal4_take (l : List UInt8) : (seal4 l).take ((seal4 l).length - 4) = l := by
  rw [seal4_length]; simp [seal4]
theorem seal4_drop (l : List UInt8) : (seal4 l).drop ((seal4 l).length - 4) = tail l := by
  rw [seal4_length]; simp [seal4]
theorem openS_seal (l : List UInt8) : openS (seal4 l) = l := by
  unfold openS
  rw [if_neg (by rw [seal4_length]; omega), seal4_take, seal4_drop, if_pos rfl]
theorem openE_seal (l : List UInt8) : openE (seal4 l) = 0 := by
  unfold openE
  rw [if_neg (by rw [seal4_length]; omega), seal4_take, seal4_drop, if_pos rfl]
theorem seal_openS (l : List UInt8) (h : openE l = 0) : seal4 (openS l) = l := by
  unfold openE at h
  unfold openS
  by_cases h4 : l.length < 4
  · rw [if_pos h4] at h; omega
  · rw [if_neg h4] at h ⊢
    by_cases hc : tail (l.take (l.length - 4)) = l.drop (l.length - 4)
    · rw [if_pos hc, seal4, hc, List.take_append_drop]
    · rw [if_neg hc] at h; omega
theorem openE_ne (l : List UInt8) : openE l = 0 ∨ openE l ≠ 0 := by omega

/- linearity -/
theorem stp_xor (a b : Nat) : stp (a ^^^ b) = stp a ^^^ stp b := by
  unfold stp
  have h1 : (a ^^^ b) / 2 = a / 2 ^^^ b / 2 := by
    have := Nat.shiftRight_xor_distrib (a := a) (b := b) (i := 1)
    simpa [Nat.shiftRight_succ] using this
  have h2 : (a ^^^ b) % 2 = (a % 2 + b % 2) % 2 := by
    have := Nat.xor_mod_two_pow (a := a) (b := b) (n := 1)
    rw [show (2 : Nat) ^ 1 = 2 from rfl] at this
    rw [this]
    rcases Nat.mod_two_eq_zero_or_one a with ha | ha <;> rcases Nat.mod_two_eq_zero_or_one b with hb | hb <;> rw [ha, hb] <;> rfl
  rw [h1, h2]
  rcases Nat.mod_two_eq_zero_or_one a with ha | ha <;> rcases Nat.mod_two_eq_zero_or_one b with hb | hb <;> simp only [ha, hb]
  · simp
  · simp [Nat.xor_assoc]
  · simp only [if_true, Nat.zero_ne_one, if_false]
    rw [Nat.xor_assoc, Nat.xor_assoc, Nat.xor_comm (b / 2)]
  · simp only [Nat.reduceAdd, Nat.reduceMod, if_true, Nat.zero_ne_one, if_false]
    generalize a / 2 = x
    generalize b / 2 = y
    rw [Nat.xor_assoc, Nat.xor_comm y, ← Nat.xor_assoc 2197175160, Nat.xor_self, Nat.zero_xor]
theorem stpN_xor (k a b : Nat) : stpN k (a ^^^ b) = stpN k a ^^^ stpN k b := by
  induction k with
  | zero => rfl
  | succ k ih => simp only [stpN]; rw [ih, stp_xor]

def x3 (a b c : List UInt8) : List UInt8 := List.zipWith (fun x y => x ^^^ y) (List.zipWith (fun x y => x ^^^ y) a b) c
theorem xor_inter (a b c x y z : Nat) : (a ^^^ b ^^^ c) ^^^ (x ^^^ y ^^^ z) = (a ^^^ x) ^^^ (b ^^^ y) ^^^ (c ^^^ z) := by
  apply Nat.eq_of_testBit_eq
  intro i
  simp only [Nat.testBit_xor]
  generalize Nat.testBit a i = p1
  generalize Nat.testBit b i = p2
  generalize Nat.testBit c i = p3
  generalize Nat.testBit x i = p4
  generalize Nat.testBit y i = p5
  generalize Nat.testBit z i = p6
  revert p1 p2 p3 p4 p5 p6
  decide
theorem foldl_x3 : ∀ (a b c : List UInt8) (x y z : Nat), a.length = b.length → b.length = c.length →
    (x3 a b c).foldl byteStep (x ^^^ y ^^^ z) = a.foldl byteStep x ^^^ b.foldl byteStep y ^^^ c.foldl byteStep z
  | [], [], [], x, y, z, _, _ => rfl
  | p :: a, q :: b, r :: c, x, y, z, h1, h2 => by
    have ih := foldl_x3 a b c (byteStep x p) (byteStep y q) (byteStep z r) (by simpa using h1) (by simpa using h2)
    simp only [List.foldl_cons]
    rw [← ih]
    show List.foldl byteStep (byteStep (x ^^^ y ^^^ z) (p ^^^ q ^^^ r)) (x3 a b c) = _
    congr 1
    unfold byteStep
    rw [UInt8.toNat_xor, UInt8.toNat_xor, xor_inter, stpN_xor, stpN_xor]
theorem sum_x3 (a b c : List UInt8) (h1 : a.length = b.length) (h2 : b.length = c.length) : sum (x3 a b c) = sum a ^^^ sum b ^^^ sum c := by
  have h := foldl_x3 a b c 4294967295 4294967295 4294967295 h1 h2
  rw [Nat.xor_self, Nat.zero_xor] at h
  unfold sum reg
  rw [h]
  generalize List.foldl byteStep 4294967295 a = x
  generalize List.foldl byteStep 4294967295 b = y
  generalize List.foldl byteStep 4294967295 c = z
  rw [← xor_inter, Nat.xor_self, Nat.zero_xor]

/- the checksum of a sealed string -/
theorem stpN_add (j k r : Nat) : stpN (j + k) r = stpN j (stpN k r) := by
  induction j with
  | zero => simp [stpN]
  | succ j ih => rw [Nat.add_right_comm]; simp only [stpN]; rw [ih]
theorem ofNat_toNat (n : Nat) : (UInt8.ofNat n).toNat = n % 256 := by simp
theorem stp_even (r : Nat) : stp (2 * r) = r := by
  unfold stp
  rw [if_neg (by omega)]; omega
theorem stpN_pow (k r : Nat) : stpN k (2 ^ k * r) = r := by
  induction k generalizing r with
  | zero => simp [stpN]
  | succ k ih =>
    simp only [stpN]
    rw [show 2 ^ (k + 1) * r = 2 ^ k * (2 * r) from by rw [Nat.pow_succ, Nat.mul_assoc], ih, stp_even]

/-- a string's bytes as one number, the first byte least -/
def num : List UInt8 → Nat
  | [] => 0
  | b :: l => 256 * num l + b.toNat
theorem add_xor (i m b : Nat) (h : b < 2 ^ i) : 2 ^ i * m + b = b ^^^ 2 ^ i * m := by
  apply Nat.eq_of_testBit_eq
  intro j
  rw [Nat.testBit_two_pow_mul_add m h, Nat.testBit_xor, Nat.testBit_two_pow_mul]
  by_cases hj : j < i
  · rw [if_pos hj]
    have : decide (j ≥ i) = false := by simp; omega
    rw [this]; simp
  · rw [if_neg hj]
    have : decide (j ≥ i) = true := by simp; omega
    have hz : b.testBit j = false := Nat.testBit_lt_two_pow (Nat.lt_of_lt_of_le h (Nat.pow_le_pow_right (by omega) (by omega)))
    rw [this, hz]; simp
theorem num_cons (b : UInt8) (l : List UInt8) : num (b :: l) = b.toNat ^^^ 2 ^ 8 * num l := add_xor 8 (num l) b.toNat b.toNat_lt
theorem foldl_num (l : List UInt8) (r : Nat) : l.foldl byteStep r = stpN (8 * l.length) (r ^^^ num l) := by
  induction l generalizing r with
  | nil => simp [stpN, num]
  | cons b l ih =>
    rw [List.foldl_cons, ih, num_cons, List.length_cons, show 8 * (l.length + 1) = 8 * l.length + 8 from by omega, stpN_add]
    congr 1
    unfold byteStep
    rw [← Nat.xor_assoc, stpN_xor 8 (r ^^^ b.toNat), stpN_pow]
theorem reg_num (l : List UInt8) : reg l = stpN (8 * l.length) (4294967295 ^^^ num l) := foldl_num l _
theorem num_lt (l : List UInt8) : num l < 2 ^ (8 * l.length) := by
  induction l with
  | nil => simp [num]
  | cons b l ih =>
    have hb := b.toNat_lt
    have e : 2 ^ (8 * (b :: l).length) = 256 * 2 ^ (8 * l.length) := by
      rw [List.length_cons, show 8 * (l.length + 1) = 8 + 8 * l.length from by omega, Nat.pow_add]
    rw [e]
    simp only [num]
    generalize 2 ^ (8 * l.length) = q at *
    omega
theorem num_tail (l : List UInt8) : num (tail l) = sum l := by
  have := sum_lt l
  unfold tail
  simp only [num, ofNat_toNat]
  omega
theorem stp_zero {r : Nat} (hr : r < 4294967296) (h : stp r = 0) : r = 0 := by
  unfold stp at h
  split at h
  · have h1 : r / 2 = 2197175160 := by
      have := congrArg (· ^^^ 2197175160) h
      simpa [Nat.xor_assoc] using this
    omega
  · omega
theorem stpN_zero {r : Nat} (k : Nat) (hr : r < 4294967296) (h : stpN k r = 0) : r = 0 := by
  induction k with
  | zero => exact h
  | succ k ih => exact ih (stp_zero (stpN_lt k hr) h)
theorem xor_zero {a b : Nat} (h : a ^^^ b = 0) : a = b := by
  have := congrArg (· ^^^ b) h
  simpa [Nat.xor_assoc] using this
theorem reg_append (p t : List UInt8) : reg (p ++ t) = stpN (8 * t.length) (reg p ^^^ num t) := by
  unfold reg
  rw [List.foldl_append, foldl_num t]
theorem reg_seal (l : List UInt8) : reg (seal4 l) = stpN 32 4294967295 := by
  unfold seal4
  rw [reg_append, num_tail, tail_length]
  congr 1
  unfold sum
  rw [← Nat.xor_assoc, Nat.xor_self, Nat.zero_xor]
theorem sum_seal (a b : List UInt8) : sum (seal4 a) = sum (seal4 b) := by unfold sum; rw [reg_seal, reg_seal]
theorem num_inj : ∀ (a b : List UInt8), a.length = b.length → num a = num b → a = b
  | [], [], _, _ => rfl
  | x :: a, y :: b, hl, hn => by
    simp only [num] at hn
    have hx := x.toNat_lt
    have hy := y.toNat_lt
    have h1 : x.toNat = y.toNat := by omega
    have h2 : num a = num b := by omega
    rw [num_inj a b (by simpa using hl) h2, UInt8.toNat_inj.1 h1]
/-- a string of at least four bytes is accepted just where its register is the residue -/
theorem open_iff (l : List UInt8) (h : ¬ l.length < 4) : tail (l.take (l.length - 4)) = l.drop (l.length - 4) ↔ reg l = stpN 32 4294967295 := by
  have e := List.take_append_drop (l.length - 4) l
  generalize hp : l.take (l.length - 4) = p at *
  generalize ht : l.drop (l.length - 4) = t at *
  have hl : t.length = 4 := by rw [← ht]; simp; omega
  constructor
  · intro hc
    rw [← e, ← hc]; exact reg_seal p
  · intro hc
    rw [← e, reg_append, hl] at hc
    have hn : num t < 4294967296 := by
      have := num_lt t
      rw [hl] at this
      exact this
    have hb : reg p ^^^ num t < 4294967296 := Nat.xor_lt_two_pow (n := 32) (reg_lt p) hn
    have hz : stpN 32 ((reg p ^^^ num t) ^^^ 4294967295) = 0 := by
      rw [stpN_xor, show stpN 32 (reg p ^^^ num t) = stpN 32 4294967295 from hc, Nat.xor_self]
    have h0 := xor_zero (stpN_zero 32 (Nat.xor_lt_two_pow (n := 32) hb (by omega)) hz)
    apply num_inj
    · rw [hl]; rfl
    · rw [num_tail]
      unfold sum
      rw [← h0, ← Nat.xor_assoc, Nat.xor_self, Nat.zero_xor]
end Crc
