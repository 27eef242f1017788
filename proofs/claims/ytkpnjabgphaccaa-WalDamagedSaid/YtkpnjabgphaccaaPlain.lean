/- Plain facts on the register of the checksum: no program in sight. -/
namespace Crc

/-- one shift of the register -/
def stp (r : Nat) : Nat := if r % 2 = 1 then (r / 2) ^^^ 2197175160 else r / 2
def stpN : Nat → Nat → Nat
  | 0, r => r
  | k + 1, r => stp (stpN k r)
def byteStep (r : Nat) (b : UInt8) : Nat := stpN 8 (r ^^^ b.toNat)
def reg (l : List UInt8) : Nat := l.foldl byteStep 4294967295
def sum (l : List UInt8) : Nat := reg l ^^^ 4294967295

theorem stp_lt {r : Nat} (h : r < 4294967296) : stp r < 4294967296 := by
  unfold stp
  split
  · exact Nat.xor_lt_two_pow (n := 32) (by omega) (by omega)
  · omega
theorem stpN_lt {r : Nat} (k : Nat) (h : r < 4294967296) : stpN k r < 4294967296 := by
  induction k with
  | zero => exact h
  | succ k ih => exact stp_lt ih
theorem byteStep_lt {r : Nat} (b : UInt8) (h : r < 4294967296) : byteStep r b < 4294967296 := by
  unfold byteStep
  refine stpN_lt 8 (Nat.xor_lt_two_pow (n := 32) h ?_)
  have := b.toNat_lt; omega
theorem foldl_lt (l : List UInt8) {r : Nat} (h : r < 4294967296) : l.foldl byteStep r < 4294967296 := by
  induction l generalizing r with
  | nil => exact h
  | cons b l ih => exact ih (byteStep_lt b h)
theorem reg_lt (l : List UInt8) : reg l < 4294967296 := foldl_lt l (by omega)
theorem sum_lt (l : List UInt8) : sum l < 4294967296 := Nat.xor_lt_two_pow (n := 32) (reg_lt l) (by omega)
theorem reg_snoc (l : List UInt8) (b : UInt8) : reg (l ++ [b]) = byteStep (reg l) b := by
  simp [reg, List.foldl_append]
theorem byteStep_lt' (l : List UInt8) (b : UInt8) (k : Nat) : stpN k (reg l ^^^ b.toNat) < 4294967296 := by
  refine stpN_lt k (Nat.xor_lt_two_pow (n := 32) (reg_lt l) ?_)
  have := b.toNat_lt; omega
/-- the four bytes of a checksum, least significant byte first -/
def tail (l : List UInt8) : List UInt8 := [UInt8.ofNat (sum l), UInt8.ofNat (sum l / 256), UInt8.ofNat (sum l / 65536), UInt8.ofNat (sum l / 16777216)]
def seal4 (l : List UInt8) : List UInt8 := l ++ tail l
/-- what a sealed string holds, and the number of the error -/
def openS (l : List UInt8) : List UInt8 := if l.length < 4 then [] else if tail (l.take (l.length - 4)) = l.drop (l.length - 4) then l.take (l.length - 4) else []
def openE (l : List UInt8) : Int := if l.length < 4 then 5 else if tail (l.take (l.length - 4)) = l.drop (l.length - 4) then 0 else 7
end Crc
