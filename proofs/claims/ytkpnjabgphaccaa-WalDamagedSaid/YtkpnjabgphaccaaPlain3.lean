/- Plain facts on inverted bits. -/
import Derived.Test.YtkpnjabgphaccaaPlain2
namespace Crc

theorem pow_mul_xor (i a b : Nat) : 2 ^ i * (a ^^^ b) = 2 ^ i * a ^^^ 2 ^ i * b := by
  rw [Nat.mul_comm, Nat.mul_comm (2 ^ i) a, Nat.mul_comm (2 ^ i) b, ← Nat.shiftLeft_eq, ← Nat.shiftLeft_eq, ← Nat.shiftLeft_eq, Nat.shiftLeft_xor_distrib]
theorem num_set (l : List UInt8) (j m : Nat) (hj : j < l.length) (hm : m < 8) : num (l.set j (l[j] ^^^ UInt8.ofNat (2 ^ m))) = num l ^^^ 2 ^ (8 * j + m) := by
  induction l generalizing j with
  | nil => simp at hj
  | cons b l ih =>
    cases j with
    | zero =>
      simp only [List.set_cons_zero, List.getElem_cons_zero, num_cons, UInt8.toNat_xor, ofNat_toNat]
      have e : 2 ^ m % 256 = 2 ^ m := Nat.mod_eq_of_lt (Nat.lt_of_lt_of_le (Nat.pow_lt_pow_right (by omega) hm) (Nat.le_refl _))
      rw [e, Nat.mul_zero, Nat.zero_add, Nat.xor_assoc, Nat.xor_assoc, Nat.xor_comm (2 ^ m)]
    | succ j =>
      simp only [List.set_cons_succ, List.getElem_cons_succ, num_cons]
      rw [ih j (by simpa using hj)]
      have e : 2 ^ (8 * (j + 1) + m) = 2 ^ 8 * 2 ^ (8 * j + m) := by rw [← Nat.pow_add]; congr 1; omega
      rw [e, Nat.xor_assoc]
      congr 1
      exact pow_mul_xor _ _ _

/-- the pattern's bits that have been used after i rounds: those that lie in the string -/
def pat (bits d i : Nat) : Nat := bits % 2 ^ (min i d)
theorem pat_zero (bits d : Nat) : pat bits d 0 = 0 := by simp [pat, Nat.mod_one]
theorem pat_yes (bits d i : Nat) (hi : i < d) (hb : bits / 2 ^ i % 2 = 1) : pat bits d (i + 1) = pat bits d i ^^^ 2 ^ i := by
  unfold pat
  rw [Nat.min_eq_left (by omega), Nat.min_eq_left (by omega), Nat.pow_succ, Nat.mod_mul, hb]
  have := add_xor i 1 (bits % 2 ^ i) (Nat.mod_lt _ (Nat.two_pow_pos i))
  rw [Nat.mul_one] at this
  rw [← this, Nat.add_comm, Nat.mul_one]
theorem pat_no (bits d i : Nat) (h : ¬ (bits / 2 ^ i % 2 = 1 ∧ i < d)) : pat bits d (i + 1) = pat bits d i := by
  unfold pat
  by_cases hi : i < d
  · have h0 : bits / 2 ^ i % 2 = 0 := by omega
    rw [Nat.min_eq_left (by omega), Nat.min_eq_left (by omega), Nat.pow_succ, Nat.mod_mul, h0]
    simp
  · rw [Nat.min_eq_right (by omega), Nat.min_eq_right (by omega)]
theorem pat_lt (bits d i : Nat) (hb : bits < 4294967296) : pat bits d i < 4294967296 :=
  Nat.lt_of_le_of_lt (Nat.mod_le _ _) hb
theorem pat_pos (bits d i : Nat) (hi : i < d) (hb : bits / 2 ^ i % 2 = 1) : pat bits d (i + 1) ≠ 0 := by
  rw [pat_yes bits d i hi hb]
  intro h
  have h1 := xor_zero h
  have h2 : pat bits d i < 2 ^ i := by
    unfold pat
    rw [Nat.min_eq_left (by omega)]
    exact Nat.mod_lt _ (Nat.two_pow_pos i)
  omega
theorem pat_none (bits i : Nat) : pat bits 0 i = 0 := by simp [pat, Nat.mod_one]

/-- inverted bits that are less than 32 positions apart are found -/
theorem burst (s b : List UInt8) (pos P : Nat) (hl : b.length = (seal4 s).length) (hP : P < 4294967296) (h0 : P ≠ 0) (hpos : pos < 8 * b.length)
    (hn : num b = num (seal4 s) ^^^ 2 ^ pos * P) : openS b = [] ∧ openE b = 7 := by
  have h4 : ¬ b.length < 4 := by rw [hl, seal4_length]; omega
  have hne : ¬ tail (b.take (b.length - 4)) = b.drop (b.length - 4) := by
    rw [open_iff b h4]
    intro hr
    have hs := reg_seal s
    rw [reg_num] at hr hs
    rw [hn, ← Nat.xor_assoc, stpN_xor, hl, hs] at hr
    have hz : stpN (8 * (seal4 s).length) (2 ^ pos * P) = 0 := by
      have := congrArg (stpN 32 4294967295 ^^^ ·) hr
      simp only [← Nat.xor_assoc, Nat.xor_self, Nat.zero_xor] at this
      exact this
    rw [← hl] at hz
    obtain ⟨r, hr2⟩ : ∃ r, 8 * b.length = r + pos := ⟨8 * b.length - pos, by omega⟩
    rw [hr2, stpN_add, stpN_pow] at hz
    exact h0 (stpN_zero r hP hz)
  unfold openS openE
  rw [if_neg h4, if_neg hne, if_neg h4, if_neg hne]
  exact ⟨rfl, rfl⟩
end Crc
