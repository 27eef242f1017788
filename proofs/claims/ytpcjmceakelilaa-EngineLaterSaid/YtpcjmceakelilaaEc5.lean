/- Merged texts: En2, En3, En4, En5, En6, En7, En8, En9. -/
import Derived.Test.YtpcjmceakelilaaEc4
import Derived.OpenShut
import Derived.Laws.BitsAllLaws
import Derived.Laws.BytesArg
import Derived.Deep.RegionWith
import Derived.Lib.IndexBytes
import Derived.RegionTactic
import Derived.Maps.AppendAt
import Derived.ChangeKeysEq
import Derived.Laws.StructEq
/- Engine: crc.Sum, crc.Seal, wal.Frame, wal.Append. -/
namespace Crc

/-- one shift of the register -/
def stp (r : Nat) : Nat := if r % 2 = 1 then (r / 2) ^^^ 2197175160 else r / 2
def stpN : Nat → Nat → Nat
  | 0, r => r
  | k + 1, r => stp (stpN k r)
def byteStep (r : Nat) (b : UInt8) : Nat := stpN 8 (r ^^^ b.toNat)
def reg (l : List UInt8) : Nat := l.foldl byteStep 4294967295
def sum (l : List UInt8) : Nat := reg l ^^^ 4294967295

theorem stp_lt {r : Nat} (h : r < 4294967296) : stp r < 4294967296 := by
  unfold stp
  split
  · exact Nat.xor_lt_two_pow (n := 32) (by omega) (by omega)
  · omega
theorem stpN_lt {r : Nat} (k : Nat) (h : r < 4294967296) : stpN k r < 4294967296 := by
  induction k with
  | zero => exact h
  | succ k ih => exact stp_lt ih
theorem byteStep_lt {r : Nat} (b : UInt8) (h : r < 4294967296) : byteStep r b < 4294967296 := by
  unfold byteStep
  refine stpN_lt 8 (Nat.xor_lt_two_pow (n := 32) h ?_)
  have := b.toNat_lt; omega
theorem foldl_lt (l : List UInt8) {r : Nat} (h : r < 4294967296) : l.foldl byteStep r < 4294967296 := by
  induction l generalizing r with
  | nil => exact h
  | cons b l ih => exact ih (byteStep_lt b h)
theorem reg_lt (l : List UInt8) : reg l < 4294967296 := foldl_lt l (by omega)
theorem sum_lt (l : List UInt8) : sum l < 4294967296 := Nat.xor_lt_two_pow (n := 32) (reg_lt l) (by omega)
theorem reg_snoc (l : List UInt8) (b : UInt8) : reg (l ++ [b]) = byteStep (reg l) b := by
  simp [reg, List.foldl_append]
theorem byteStep_lt' (l : List UInt8) (b : UInt8) (k : Nat) : stpN k (reg l ^^^ b.toNat) < 4294967296 := by
  refine stpN_lt k (Nat.xor_lt_two_pow (n := 32) (reg_lt l) ?_)
  have := b.toNat_lt; omega
/-- the four bytes of a checksum, least significant byte first -/
def tail (l : List UInt8) : List UInt8 := [UInt8.ofNat (sum l), UInt8.ofNat (sum l / 256), UInt8.ofNat (sum l / 65536), UInt8.ofNat (sum l / 16777216)]
def seal4 (l : List UInt8) : List UInt8 := l ++ tail l
/-- what a sealed string holds, and the number of the error -/
def openS (l : List UInt8) : List UInt8 := if l.length < 4 then [] else if tail (l.take (l.length - 4)) = l.drop (l.length - 4) then l.take (l.length - 4) else []
def openE (l : List UInt8) : Int := if l.length < 4 then 5 else if tail (l.take (l.length - 4)) = l.drop (l.length - 4) then 0 else 7

theorem tail_length (l : List UInt8) : (tail l).length = 4 := rfl
theorem seal4_length (l : List UInt8) : (seal4 l).length = l.length + 4 := by simp [seal4, tail_length]
/-- a number as four bytes, least significant first -/
def le4 (n : Nat) : List UInt8 := [UInt8.ofNat n, UInt8.ofNat (n / 256), UInt8.ofNat (n / 65536), UInt8.ofNat (n / 16777216)]
def frame (d : List UInt8) : List UInt8 := le4 d.length ++ seal4 d
theorem frame_length (d : List UInt8) : (frame d).length = d.length + 8 := by simp [frame, le4, seal4_length]
end Crc
namespace Go.Proofs.Ytpcjmceakelilaa
open Go.ChangeShapes Go.WideShapes Go.ChangeAt Go.RowKit
set_option linter.unusedVariables false
set_option linter.unusedSimpArgs false
theorem xor_byte (n : Nat) (b : UInt8) (h : n < 4294967296) : bits .xor .u32 (n : Int) ((b.toNat : Int) % 4294967296) = ((n ^^^ b.toNat : Nat) : Int) := by
  have hb := b.toNat_lt
  have e : ((b.toNat : Int) % 4294967296) = (b.toNat : Int) := by omega
  rw [e, u32_xor_nat _ _ h (by omega)]
theorem and_one (n : Nat) (h : n < 4294967296) : bits .and .u32 (n : Int) 1 = ((n % 2 : Nat) : Int) := by
  rw [show (1 : Int) = ((1 : Nat) : Int) from rfl, u32_and_nat _ _ h (by omega), Nat.and_one_is_mod]
theorem xor_poly (n : Nat) (h : n < 4294967296) : bits .xor .u32 ((n : Int) / 2) 2197175160 = (((n / 2) ^^^ 2197175160 : Nat) : Int) := by
  rw [show (2197175160 : Int) = ((2197175160 : Nat) : Int) from rfl, show ((n : Int) / 2) = ((n / 2 : Nat) : Int) from by omega, u32_xor_nat _ _ (by omega) (by omega)]
theorem xor_all (n : Nat) (h : n < 4294967296) : bits .xor .u32 IntKind.u32.max (n : Int) = ((n ^^^ 4294967295 : Nat) : Int) := by
  rw [show IntKind.u32.max = ((4294967295 : Nat) : Int) from rfl, u32_xor_nat _ _ (by omega) h, Nat.xor_comm]
theorem take_snoc (s : ByteArray) (k : Nat) (h : k < s.size) : s.data.toList.take (k + 1) = s.data.toList.take k ++ [s[k]] := by
  rw [List.take_succ_eq_append_getElem (by simpa using h)]; rfl

set_option maxHeartbeats 400000 in
theorem sum_any (s : ByteArray) (w : World) (hs : s.size ≤ maxLen) :
    Calls Try.prog 87 #[.string s] w fun e w' => e = .returned (.int .u32 (Crc.sum s.data.toList)) ∧ w = w' := by
  unfold maxLen at hs
  go_enter Try.func87, Try.ntmps87
  go_wp2
  go_loop [3, 8] (fun r i => ∃ k : Nat, k ≤ s.size ∧ i = .int .i64 k ∧ r = .int .u32 (Crc.reg (s.data.toList.take k))) (fun _ i => s.size - (intOf i).toNat)
  case atStart => exact ⟨0, Nat.zero_le _, rfl, rfl⟩
  case round =>
    obtain ⟨k, hk, rfl, rfl⟩ := hrel
    by_cases hlt : k < s.size
    · have hx := xor_byte (Crc.reg (s.data.toList.take k)) s[k] (Crc.reg_lt _)
      go_wp2
      clear hx
      go_loop [3, 17] (fun r i => ∃ j : Nat, j ≤ 8 ∧ i = .int .i64 j ∧ r = .int .u32 (Crc.stpN j (Crc.reg (s.data.toList.take k) ^^^ s[k].toNat))) (fun _ i => 8 - (intOf i).toNat)
      case atStart => exact ⟨0, Nat.zero_le _, rfl, rfl⟩
      case round =>
        obtain ⟨j, hj, rfl, rfl⟩ := hrel
        have hr := Crc.byteStep_lt' (s.data.toList.take k) s[k] j
        by_cases hjl : j < 8
        · generalize hn : Crc.stpN j (Crc.reg (s.data.toList.take k) ^^^ s[k].toNat) = n at *
          have hn2 : Crc.stpN (j + 1) (Crc.reg (s.data.toList.take k) ^^^ s[k].toNat) = Crc.stp n := by rw [← hn]; rfl
          have Hn := Lib.hid hn2
          clear hn hn2
          have ha := and_one n hr
          by_cases hp : n % 2 = 1
          · have hp2 : ((↑(n % 2) : Int) == 1) = true := by rw [hp]; rfl
            have hx := xor_poly n hr
            go_wp2
            clear hp2 ha hx
            go_round
            case rel => exact ⟨j + 1, by omega, by go_num, by rw [Hn.out, Crc.stp, if_pos hp]⟩
            case measure => simp [intOf]; omega
          · have hp2 : ((↑(n % 2) : Int) == 1) = false := by rw [beq_eq_false_iff_ne]; omega
            go_wp2
            clear hp2 ha
            go_round
            case rel => exact ⟨j + 1, by omega, by go_num, by rw [Hn.out, Crc.stp, if_neg hp]; go_num⟩
            case measure => simp [intOf]; omega
        · have : j = 8 := by omega
          subst this
          go_wp2
          go_round
          case rel => exact ⟨k + 1, by omega, by go_num, by rw [take_snoc s k hlt, Crc.reg_snoc]; rfl⟩
          case measure => simp [intOf]; omega
    · have hx := xor_all (Crc.reg (s.data.toList.take k)) (Crc.reg_lt _)
      go_wp2
      go_ret
      refine ⟨?_, rfl⟩
      rw [List.take_of_length_le (by simp; omega)]; rfl

theorem tail_nums (l : List UInt8) (h : Crc.sum l < 4294967296) :
    strOfNums [(Crc.sum l : Int) % 256, (Crc.sum l : Int) / 256 % 256, (Crc.sum l : Int) / 65536 % 256, (Crc.sum l : Int) / 16777216] = ⟨(Crc.tail l).toArray⟩ := by
  unfold strOfNums Crc.tail
  generalize Crc.sum l = n at *
  have e1 : ((n : Int) % 256).toNat = n % 256 := by omega
  have e2 : ((n : Int) / 256 % 256).toNat = n / 256 % 256 := by omega
  have e3 : ((n : Int) / 65536 % 256).toNat = n / 65536 % 256 := by omega
  have e4 : ((n : Int) / 16777216).toNat = n / 16777216 := by omega
  have m (k : Nat) : UInt8.ofNat (k % 256) = UInt8.ofNat k := by
    apply UInt8.toNat_inj.1; simp
  simp only [List.map_cons, List.map_nil, e1, e2, e3, e4, m]

theorem conv4 (w : World) (a b c d : Int) :
    (convert 97 9 (.slice (some ⟨w.heap.size, 0, none⟩) 4 4)).run Try.prog (w.alloc (.cells #[.int .u8 a, .int .u8 b, .int .u8 c, .int .u8 d] 5)) = .ok (.string (strOfNums [a, b, c, d])) (w.alloc (.cells #[.int .u8 a, .int .u8 b, .int .u8 c, .int .u8 d] 5)) := by
  refine run_convert_bytes_arg _ 97 5 (by kernel_rfl) (by kernel_rfl) w.heap.size 0 4 4 [a, b, c, d] rfl ?_ 9 (by kernel_rfl)
  intro i hi
  match i, hi with
  | 0, _ => simp [go_sem]
  | 1, _ => simp [go_sem]
  | 2, _ => simp [go_sem]
  | 3, _ => simp [go_sem]

set_option maxHeartbeats 400000 in
theorem tail_any (s : ByteArray) (w : World) (hs : s.size ≤ maxLen) :
    Calls Try.prog 78 #[.string s] w fun e w' => e = .returned (.string ⟨(Crc.tail s.data.toList).toArray⟩) ∧ Below w.heap.size w w' := by
  have hl := Crc.sum_lt s.data.toList
  have hcv := conv4 w
  go_enter Try.func78, Try.ntmps78
  go_wp2_with (go_at_call 87; refine (sum_any _ _ hs).mono ?_; rintro e w' ⟨rfl, rfl⟩)
  go_ret
  refine ⟨?_, (Below.refl _ _).alloc (Nat.le_refl _) _⟩
  exact congrArg (fun b => Ending.returned (.string b)) (tail_nums _ hl)
theorem tail_size (l : List UInt8) : (⟨(Crc.tail l).toArray⟩ : ByteArray).size = 4 := rfl
theorem append_str (s : ByteArray) (l : List UInt8) : s ++ (⟨l.toArray⟩ : ByteArray) = ⟨(s.data.toList ++ l).toArray⟩ := by
  apply ByteArray.ext
  simp
set_option maxHeartbeats 400000 in
theorem seal_any (s : ByteArray) (w : World) (hs : s.size ≤ 1000000000) :
    Calls Try.prog 64 #[.string s] w fun e w' => e = .returned (.string ⟨(Crc.seal4 s.data.toList).toArray⟩) ∧ Below w.heap.size w w' := by
  have ht := tail_size s.data.toList
  have hm : s.size ≤ maxLen := by unfold maxLen; omega
  go_enter Try.func64, Try.ntmps64
  go_wp2_with (go_at_call 78; refine (tail_any _ _ hm).mono ?_; rintro e w' ⟨rfl, hb⟩)
  go_ret
  refine ⟨?_, hb⟩
  exact congrArg (fun b => Ending.returned (.string b)) (append_str s _)

theorem size_list (s : ByteArray) : s.data.toList.length = s.size := Array.length_toList
theorem two_res (b : ByteArray) (n : Int) (c : ByteArray) (m : Int) (h : b = c) (k : n = m) : Ending.returned (.tuple #[.string b, .int .i64 n]) = .returned (.tuple #[.string c, .int .i64 m]) := by rw [h, k]

theorem le4_nums (n : Nat) (h : n ≤ 65536) :
    strOfNums [(n : Int) % 256, (n : Int) / 256 % 256, (n : Int) / 65536 % 256, (n : Int) / 16777216 % 256] = ⟨(Crc.le4 n).toArray⟩ := by
  unfold strOfNums Crc.le4
  have e1 : ((n : Int) % 256).toNat = n % 256 := by omega
  have e2 : ((n : Int) / 256 % 256).toNat = n / 256 % 256 := by omega
  have e3 : ((n : Int) / 65536 % 256).toNat = n / 65536 % 256 := by omega
  have e4 : ((n : Int) / 16777216 % 256).toNat = n / 16777216 % 256 := by omega
  have m (k : Nat) : UInt8.ofNat (k % 256) = UInt8.ofNat k := by
    apply UInt8.toNat_inj.1; simp
  simp only [List.map_cons, List.map_nil, e1, e2, e3, e4, m]
/-- four cells as a string, in whatever world -/
theorem conv4_at (W : World) (B cap : Nat) (a b c d : Int) (h0 : W.cell? ⟨B, 0, none⟩ = some (.int .u8 a)) (h1 : W.cell? ⟨B, 1, none⟩ = some (.int .u8 b)) (h2 : W.cell? ⟨B, 2, none⟩ = some (.int .u8 c)) (h3 : W.cell? ⟨B, 3, none⟩ = some (.int .u8 d)) :
    (convert 97 9 (.slice (some ⟨B, 0, none⟩) 4 cap)).run Try.prog W = .ok (.string (strOfNums [a, b, c, d])) W := by
  refine run_convert_bytes_arg _ 97 5 (by kernel_rfl) (by kernel_rfl) B 0 4 cap [a, b, c, d] rfl ?_ 9 (by kernel_rfl)
  intro i hi
  match i, hi with
  | 0, _ => simpa using h0
  | 1, _ => simpa using h1
  | 2, _ => simpa using h2
  | 3, _ => simpa using h3

theorem four_cells (w : World) (a b c d : Int) (T : TypeId) :
    (w.alloc (.cells #[.int .u8 a, .int .u8 b, .int .u8 c, .int .u8 d] T)).cell? ⟨w.heap.size, 0, none⟩ = some (.int .u8 a) ∧
    (w.alloc (.cells #[.int .u8 a, .int .u8 b, .int .u8 c, .int .u8 d] T)).cell? ⟨w.heap.size, 1, none⟩ = some (.int .u8 b) ∧
    (w.alloc (.cells #[.int .u8 a, .int .u8 b, .int .u8 c, .int .u8 d] T)).cell? ⟨w.heap.size, 2, none⟩ = some (.int .u8 c) ∧
    (w.alloc (.cells #[.int .u8 a, .int .u8 b, .int .u8 c, .int .u8 d] T)).cell? ⟨w.heap.size, 3, none⟩ = some (.int .u8 d) ∧
    Below w.heap.size w (w.alloc (.cells #[.int .u8 a, .int .u8 b, .int .u8 c, .int .u8 d] T)) ∧
    (w.alloc (.cells #[.int .u8 a, .int .u8 b, .int .u8 c, .int .u8 d] T)).heap.size = w.heap.size + 1 := by
  refine ⟨by simp [go_sem], by simp [go_sem], by simp [go_sem], by simp [go_sem], (Below.refl _ _).alloc (Nat.le_refl _) _, by simp⟩
theorem frame_str (s : ByteArray) (hs : s.size ≤ 65536) : strOfNums [(s.size : Int) % 256, (s.size : Int) / 256 % 256, (s.size : Int) / 65536, (s.size : Int) / 16777216] ++ (⟨(Crc.seal4 s.data.toList).toArray⟩ : ByteArray) = ⟨(Crc.frame s.data.toList).toArray⟩ := by
  have e3 : (s.size : Int) / 65536 % 256 = (s.size : Int) / 65536 := by omega
  have e4 : (s.size : Int) / 16777216 % 256 = (s.size : Int) / 16777216 := by omega
  have h := le4_nums s.size hs
  rw [e3, e4] at h
  rw [h, append_str]
  unfold Crc.frame
  rw [size_list]

set_option maxRecDepth 100000 in
set_option maxHeartbeats 400000 in
theorem frame_any (s : ByteArray) (w : World) (hs : s.size ≤ 65536) :
    Calls Try.prog 52 #[.string s] w fun e w' => e = .returned (.tuple #[.string ⟨(Crc.frame s.data.toList).toArray⟩, .int .i64 0]) ∧ Below w.heap.size w w' := by
  go_enter Try.func52, Try.ntmps52
  go_wp2
  have hx := Lib.hid (four_cells w (s.size % 256) (s.size / 256 % 256) (s.size / 65536) (s.size / 16777216) 113)
  generalize w.alloc _ = Wx at hx ⊢
  obtain ⟨hc0, hc1, hc2, hc3, hbx, hsx⟩ := hx.out
  have hcv := conv4_at Wx.drew w.heap.size 4 _ _ _ _ hc0 hc1 hc2 hc3
  have HC := Lib.hid (And.intro hc0 (And.intro hc1 (And.intro hc2 hc3)))
  have HSX := Lib.hid hsx
  have hz4 : ∀ a b c d : Int, (strOfNums [a, b, c, d]).size = 4 := fun _ _ _ _ => rfl
  have hzs : (⟨(Crc.seal4 s.data.toList).toArray⟩ : ByteArray).size = s.size + 4 := by show (Crc.seal4 s.data.toList).length = _; rw [Crc.seal4_length, size_list]
  clear hc0 hc1 hc2 hc3 hsx hx
  go_region_with (go_at_call 64; refine (seal_any _ _ (by omega)).mono ?_; rintro e w' ⟨rfl, hb⟩; have hcv' := conv4_at w' w.heap.size 4 _ _ _ _ ((hb.cell (p := ⟨w.heap.size, 0, none⟩) (by show _ < Wx.heap.size; rw [HSX.out]; exact Nat.lt_succ_self _)).trans HC.out.1) ((hb.cell (p := ⟨w.heap.size, 1, none⟩) (by show _ < Wx.heap.size; rw [HSX.out]; exact Nat.lt_succ_self _)).trans HC.out.2.1) ((hb.cell (p := ⟨w.heap.size, 2, none⟩) (by show _ < Wx.heap.size; rw [HSX.out]; exact Nat.lt_succ_self _)).trans HC.out.2.2.1) ((hb.cell (p := ⟨w.heap.size, 3, none⟩) (by show _ < Wx.heap.size; rw [HSX.out]; exact Nat.lt_succ_self _)).trans HC.out.2.2.2))
  all_goals go_wp2
  all_goals go_ret2
  all_goals refine ⟨two_res _ _ _ _ ?_ rfl, hbx.trans (((Below.refl _ _).drew.trans hb).mono hbx.size)⟩
  all_goals exact frame_str s hs
/-- what Frame makes, under a name of its own -/
def framed (s : ByteArray) : ByteArray := ⟨(Crc.frame s.data.toList).toArray⟩
theorem framed_size (s : ByteArray) : (framed s).size = s.size + 8 := by show (Crc.frame s.data.toList).length = _; rw [Crc.frame_length, size_list]
theorem frame_call (s : ByteArray) (w : World) (hs : s.size ≤ 65536) :
    Calls Try.prog 52 #[.string s] w fun e w' => e = .returned (.tuple #[.string (framed s), .int .i64 0]) ∧ Below w.heap.size w w' := frame_any s w hs
theorem add_mk (a s : ByteArray) : a ++ framed s = ⟨(a.data.toList ++ Crc.frame s.data.toList).toArray⟩ := append_str a _

set_option maxRecDepth 100000 in
theorem frame_long (s : ByteArray) (w : World) (hs : 65536 < s.size) (hs2 : s.size ≤ 1000000000) :
    Calls Try.prog 52 #[.string s] w fun e w' => e = .returned (.tuple #[.string ⟨#[]⟩, .int .i64 2]) ∧ w = w' := by
  have h1 : decide ((65536 : Int) < (s.size : Int)) = true := by simp; omega
  go_enter Try.func52, Try.ntmps52
  go_wp2
  go_ret2
  exact ⟨rfl, rfl⟩
/-- a log with one more record -/
theorem wapp_ok (a s : ByteArray) (w : World) (hs : s.size ≤ 65536) (ha : a.size + s.size + 8 ≤ 16777216) :
    Calls Try.prog 37 #[.string a, .string s] w fun e w' => e = .returned (.tuple #[.string (a ++ framed s), .int .i64 0]) ∧ Below w.heap.size w w' := by
  have hf := framed_size s
  have hn1 : decide ((16777216 : Int) < (a.size : Int) + ((s.size : Int) + 8)) = false := by simp; omega
  have hn2 : (a.size : Int) + ((s.size : Int) + 8) ≤ 16777216 := by omega
  go_enter Try.func37, Try.ntmps37
  go_wp2_with fail
  refine (frame_call _ _ (by omega)).mono ?_
  rintro e w1 ⟨rfl, hb⟩
  go_wp2_with fail
  go_ret2
  exact ⟨rfl, hb⟩
theorem wapp_full (a s : ByteArray) (w : World) (hs : s.size ≤ 65536) (ha : 16777216 < a.size + s.size + 8) (ha2 : a.size ≤ 1000000000) :
    Calls Try.prog 37 #[.string a, .string s] w fun e w' => e = .returned (.tuple #[.string ⟨#[]⟩, .int .i64 2]) ∧ Below w.heap.size w w' := by
  have hf := framed_size s
  have hn1 : decide ((16777216 : Int) < (a.size : Int) + ((s.size : Int) + 8)) = true := by simp; omega
  have hn2 : (16777216 : Int) < (a.size : Int) + ((s.size : Int) + 8) := by omega
  go_enter Try.func37, Try.ntmps37
  go_wp2_with fail
  refine (frame_call _ _ (by omega)).mono ?_
  rintro e w1 ⟨rfl, hb⟩
  go_wp2_with fail
  go_ret2
  exact ⟨rfl, hb⟩
theorem wapp_long (a s : ByteArray) (w : World) (hs : 65536 < s.size) (hs2 : s.size ≤ 1000000000) :
    Calls Try.prog 37 #[.string a, .string s] w fun e w' => e = .returned (.tuple #[.string ⟨#[]⟩, .int .i64 2]) ∧ Below w.heap.size w w' := by
  go_enter Try.func37, Try.ntmps37
  go_wp2_with fail
  refine (frame_long _ _ hs hs2).mono ?_
  rintro e w1 ⟨rfl, rfl⟩
  go_wp2_with fail
  go_ret2
  exact ⟨rfl, Below.refl _ _⟩
/-- wal.Append: the log with one more record, or an error -/
theorem wapp_any (a s : ByteArray) (w : World) (ha2 : a.size ≤ 1000000000) (hs2 : s.size ≤ 1000000000) :
    Calls Try.prog 37 #[.string a, .string s] w fun e w' => (e = .returned (.tuple #[.string (a ++ framed s), .int .i64 0]) ∧ s.size ≤ 65536 ∧ a.size + s.size + 8 ≤ 16777216 ∨ e = .returned (.tuple #[.string ⟨#[]⟩, .int .i64 2]) ∧ ¬ (s.size ≤ 65536 ∧ a.size + s.size + 8 ≤ 16777216)) ∧ Below w.heap.size w w' := by
  by_cases h : s.size ≤ 65536
  · by_cases h2 : a.size + s.size + 8 ≤ 16777216
    · refine (wapp_ok a s w h h2).mono ?_
      rintro e w1 ⟨rfl, hb⟩
      exact ⟨Or.inl ⟨rfl, h, h2⟩, hb⟩
    · refine (wapp_full a s w h (by omega) ha2).mono ?_
      rintro e w1 ⟨rfl, hb⟩
      exact ⟨Or.inr ⟨rfl, fun h3 => h2 h3.2⟩, hb⟩
  · refine (wapp_long a s w (by omega) hs2).mono ?_
    rintro e w1 ⟨rfl, hb⟩
    exact ⟨Or.inr ⟨rfl, fun h3 => h h3.1⟩, hb⟩
end Go.Proofs.Ytpcjmceakelilaa
/- Engine: codec.Num: a number as bytes. -/
namespace Go.Proofs.Ytpcjmceakelilaa
open Go.ChangeShapes Go.WideShapes Go.ChangeAt Go.RowKit Go.Deep Go.Shelf
set_option linter.unusedVariables false
set_option linter.unusedSimpArgs false
/-- groups of seven bits, least significant first; bit 7 is set where another one follows -/
def vlq (u : Nat) : List UInt8 := if h : u < 128 then [UInt8.ofNat u] else UInt8.ofNat (u % 128 + 128) :: vlq (u / 128)
termination_by u
decreasing_by omega
theorem vlq_small {u : Nat} (h : u < 128) : vlq u = [UInt8.ofNat u] := by unfold vlq; rw [dif_pos h]
theorem vlq_big {u : Nat} (h : ¬ u < 128) : vlq u = UInt8.ofNat (u % 128 + 128) :: vlq (u / 128) := by rw [vlq, dif_neg h]
theorem vlq_pos (u : Nat) : 0 < (vlq u).length := by
  by_cases h : u < 128
  · rw [vlq_small h]; simp
  · rw [vlq_big h]; simp
theorem vlq_len (n : Nat) : ∀ u, u < 128 ^ (n + 1) → (vlq u).length ≤ n + 1 := by
  induction n with
  | zero => intro u h; rw [vlq_small (by simpa using h)]; simp
  | succ n ih =>
    intro u h
    by_cases h1 : u < 128
    · rw [vlq_small h1]; simp
    · rw [vlq_big h1, List.length_cons]
      have := ih (u / 128) (by rw [Nat.div_lt_iff_lt_mul (by omega)]; rw [Nat.pow_succ] at h; exact h)
      omega
/-- the encoding of a number that is not negative -/
def numB (n : Nat) : List UInt8 := vlq (2 * n)
theorem numB_pos (n : Nat) : 0 < (numB n).length := vlq_pos _
theorem numB_len (n : Nat) (h : n < 4611686018427387904) : (numB n).length ≤ 9 := by
  unfold numB
  exact vlq_len 8 _ (by have : (128 : Nat) ^ (8 + 1) = 9223372036854775808 := by decide
                        omega)
set_option maxRecDepth 100000 in
theorem zigzag_any (n : Nat) (w : World) (h : n < 4611686018427387904) :
    Calls Try.prog 80 #[.int .i64 n] w fun e w' => e = .returned (.int .u64 ((2 * n : Nat) : Int)) ∧ w = w' := by
  have e1 : IntKind.u64.wrap (n : Int) = (n : Int) := by rw [IntKind.wrap_u64]; omega
  go_enter Try.func80, Try.ntmps80
  go_wp2
  go_ret
  refine ⟨?_, rfl⟩
  have e2 : ((n : Int) / 9223372036854775808) = ((0 : Nat) : Int) := by omega
  have e3 : ((n : Int) * 2) = ((2 * n : Nat) : Int) := by omega
  rw [e2, e3, u64_xor_nat _ _ (by omega) (by omega), Nat.xor_zero]
  rfl
set_option maxRecDepth 100000 in
theorem or128 : ∀ x : Nat, x < 256 → x ||| 128 = x % 128 + 128 := by decide
theorem byte_or (u : Nat) : bits .or .u8 ((u : Int) % 256) 128 = (((UInt8.ofNat (u % 128 + 128)).toNat : Nat) : Int) := by
  have e : ((u : Int) % 256) = ((u % 256 : Nat) : Int) := by omega
  rw [e, show (128 : Int) = ((128 : Nat) : Int) from rfl, u8_or_nat _ _ (by omega) (by omega), or128 _ (by omega)]
  have : u % 256 % 128 + 128 = u % 128 + 128 := by omega
  rw [this, UInt8.toNat_ofNat']
  omega
theorem byte_low (u : Nat) (h : u < 128) : (u : Int) = (((UInt8.ofNat u).toNat : Nat) : Int) := by
  rw [UInt8.toNat_ofNat']; omega
theorem bytes_snoc (l : List UInt8) (b : UInt8) : Lib.byteCells (l ++ [b]) = Lib.byteCells l ++ [.int .u8 b.toNat] := by simp [Lib.byteCells]
theorem infoU8 : (Try.prog.info? 5).map (fun i => (i.zero, i.size, i.bytes)) = some (some (.int .u8 0), 1, 1) := by kernel_rfl
set_option maxRecDepth 100000 in
set_option maxHeartbeats 1000000 in
theorem appendNum_any (n : Nat) (w : World) (h : n < 4611686018427387904) :
    Calls Try.prog 66 #[.slice none 0 0, .int .i64 n] w fun e w' => ∃ v, e = .returned v ∧ w'.ownsRow w.heap.size 5 1 v (numB n).length (Lib.byteCells (numB n)) ∧ Below w.heap.size w w' := by
  obtain ⟨i0, hi, hz0, hz1, hz2⟩ := info_parts infoU8
  have HN9 := Lib.hid (numB_len n h)
  go_enter Try.func66, Try.ntmps66
  go_wp2_with (go_at_call 80; refine (zigzag_any n _ h).mono ?_; rintro e w' ⟨rfl, rfl⟩)
  go_loopw [0, 5] (fun v uu wr => ∃ (pre : List UInt8) (u : Nat), uu = .int .u64 u ∧ u < 9223372036854775808 ∧ wr.ownsRow w.heap.size 5 1 v pre.length (Lib.byteCells pre) ∧ Below w.heap.size w wr ∧ pre ++ vlq u = numB n) (fun _ u _ => (intOf u).toNat)
  case atStart => exact ⟨[], 2 * n, rfl, by omega, World.ownsRow_nil _ _ _ _, Below.refl _ _, rfl⟩
  case round =>
    obtain ⟨pre, u, rfl, hu, hown, hb, hpre⟩ := hrel
    have HP := Lib.hid hpre
    have hlen : pre.length ≤ 9 := by have := congrArg List.length hpre; rw [List.length_append] at this; have := HN9.out; omega
    have hbs := hb.size
    clear hpre
    by_cases hlt : u < 128
    · go_wp2_with (at_builtin; refine wpList_append_own _ rfl _ _ 97 rfl w.heap.size 5 i0 (.int .u8 0) 1 1 Try.underlying97 hi hz0 hz1 hz2 rfl (by decide) _ _ _ rfl (hown.alloc _) ⟨wr.heap.size, 0, none⟩ 1 1 [.int .u8 u] rfl rfl ?c1 ?c2 ?c3 ?c4 ?c5 ?_)
      case c1 =>
        intro j u hj
        match j, hj with
        | 0, hj => simp at hj; subst hj; simp [Addr.add]
      case c2 => intro u hu; simp at hu; subst hu; rfl
      case c3 => unfold maxLen; omega
      case c4 => omega
      case c5 => simp; omega
      intro v' w2 hown' hgrow _
      go_wp2_with fail
      go_ret
      refine ⟨_, rfl, ?_, (hb.alloc hbs _).grown hgrow (by simp; omega) (fun k hk => (hown.lt k hk).1)⟩
      have e : numB n = pre ++ [UInt8.ofNat u] := by rw [← HP.out, vlq_small hlt]
      rw [e, List.length_append, bytes_snoc, ← byte_low u hlt]
      exact hown'
    · have hb0 := byte_or u
      go_wp2_with (at_builtin; refine wpList_append_own _ rfl _ _ 97 rfl w.heap.size 5 i0 (.int .u8 0) 1 1 Try.underlying97 hi hz0 hz1 hz2 rfl (by decide) _ _ _ rfl (hown.alloc _) ⟨wr.heap.size, 0, none⟩ 1 1 [.int .u8 (((UInt8.ofNat (u % 128 + 128)).toNat : Nat) : Int)] rfl rfl ?d1 ?d2 ?d3 ?d4 ?d5 ?_)
      case d1 =>
        intro j u hj
        match j, hj with
        | 0, hj => simp at hj; subst hj; simp [Addr.add]
      case d2 => intro u hu; simp at hu; subst hu; rfl
      case d3 => unfold maxLen; omega
      case d4 => omega
      case d5 => simp; omega
      intro v' w2 hown' hgrow _
      have hb2 := (hb.alloc hbs _).grown hgrow (by simp; omega) (fun k hk => (hown.lt k hk).1)
      go_wp2_with fail
      go_roundw
      case rel =>
        refine ⟨pre ++ [UInt8.ofNat (u % 128 + 128)], u / 128, by go_num, by omega, ?_, hb2, by rw [List.append_assoc, List.singleton_append, ← vlq_big hlt]; exact HP.out⟩
        rw [List.length_append, bytes_snoc]
        exact hown'
      case measure => simp [intOf]; omega
end Go.Proofs.Ytpcjmceakelilaa
/- Engine: codec.Num; a row of bytes as a string. -/
namespace Go.Proofs.Ytpcjmceakelilaa
open Go.ChangeShapes Go.WideShapes Go.ChangeAt Go.RowKit Go.Deep Go.Shelf
set_option linter.unusedVariables false
set_option linter.unusedSimpArgs false
/-- bytes as a string -/
def mkS (l : List UInt8) : Bs := ⟨l.toArray⟩
theorem mkS_size (l : List UInt8) : (mkS l).size = l.length := by simp [mkS, ByteArray.size]
theorem strOf_bytes (l : List UInt8) : strOfNums (l.map fun b => (b.toNat : Int)) = mkS l := by
  unfold strOfNums mkS
  congr 2
  rw [List.map_map]
  conv => rhs; rw [← List.map_id l]
  refine List.map_congr_left fun b _ => ?_
  simp
theorem conv_row {B : Nat} {W : World} {v : Value} {l : List UInt8} (h : W.ownsRow B 5 1 v l.length (Lib.byteCells l)) (h0 : 0 < l.length) :
    (convert 97 9 v).run Try.prog W = .ok (.string (mkS l)) W := by
  rcases h.2 with ⟨rfl, h1⟩ | ⟨g, c, cur, rfl, h1⟩
  · omega
  · have e := run_convert_bytes_arg (P := Try.prog) (w := W) 97 5 (by kernel_rfl) (by kernel_rfl) g 0 l.length c (l.map fun b => (b.toNat : Int)) (by simp) (fun i hi => by
      have := h.cells (g := g) rfl i (.int .u8 (l[i]'(by simpa using hi)).toNat) (by simp [Lib.byteCells]; exact ⟨_, List.getElem?_eq_getElem hi, rfl⟩)
      rw [addr_add'] at this
      rw [this, List.getD_eq_getElem?_getD, List.getElem?_map, List.getElem?_eq_getElem hi]
      rfl) 9 (by kernel_rfl)
    rw [e, strOf_bytes]
set_option maxRecDepth 100000 in
theorem num_any (n : Nat) (w : World) (h : n < 4611686018427387904) :
    Calls Try.prog 55 #[.int .i64 n] w fun e w' => e = .returned (.string (mkS (numB n))) ∧ Below w.heap.size w w' := by
  go_enter Try.func55, Try.ntmps55
  go_wp2_with (go_at_call 66; refine (appendNum_any n _ h).mono ?_)
  rintro e w1 ⟨v, rfl, hown, hb⟩
  have hcv := conv_row hown (numB_pos n)
  have HB := Lib.hid hb
  clear hown hb
  go_wp2
  go_ret
  exact ⟨rfl, HB.out⟩
end Go.Proofs.Ytpcjmceakelilaa
/- Engine: writeString, record.text: the data of a record. -/
namespace Go.Proofs.Ytpcjmceakelilaa
open Go.ChangeShapes Go.WideShapes Go.ChangeAt Go.RowKit Go.Deep Go.Shelf
set_option linter.unusedVariables false
set_option linter.unusedSimpArgs false
/-- a change: its table, key, value, whether it deletes -/
abbrev Chg := Bs × Bs × Bs × Bool
def strB (s : Bs) : List UInt8 := numB s.size ++ s.data.toList
def chB (x : Chg) : List UInt8 := strB x.1 ++ (strB x.2.1 ++ ((if x.2.2.2 then 1 else 0) :: strB x.2.2.1))
def chsB (l : List Chg) : List UInt8 := l.flatMap chB
/-- the data of a record -/
def recB (kind stamp : Nat) (l : List Chg) : List UInt8 := UInt8.ofNat kind :: (numB stamp ++ if kind = 1 ∨ kind = 3 then numB l.length ++ chsB l else [])
/-- a slice of changes that is read -/
def ChAt (W : World) (v : Value) (L : List Chg) : Prop :=
  (v = .slice none 0 0 ∧ L = []) ∨ ∃ g c, v = .slice (some ⟨g, 0, none⟩) L.length c ∧ L.length ≤ c ∧ c ≤ 9223372036854775807 ∧ g < W.heap.size ∧ ∀ j (h : j < L.length), W.cell? ⟨g, j * 4, none⟩ = some (.string L[j].1) ∧ W.cell? ⟨g, j * 4 + 1, none⟩ = some (.string L[j].2.1) ∧ W.cell? ⟨g, j * 4 + 2, none⟩ = some (.string L[j].2.2.1) ∧ W.cell? ⟨g, j * 4 + 3, none⟩ = some (.bool L[j].2.2.2)
theorem ChAt.below {W W' : World} {v : Value} {L : List Chg} {B : Nat} (h : ChAt W v L) (hb : Below B W W') (hB : ∀ k, v.ownBlock = some k → k < B) : ChAt W' v L := by
  rcases h with h | ⟨g, c, rfl, h1, h2, h3, h4⟩
  · exact .inl h
  · refine .inr ⟨g, c, rfl, h1, h2, Nat.lt_of_lt_of_le h3 hb.size, fun j hj => ?_⟩
    have hg := hB g rfl
    obtain ⟨a0, a1, a2, a3⟩ := h4 j hj
    exact ⟨(hb.cell (p := ⟨g, _, none⟩) hg).trans a0, (hb.cell (p := ⟨g, _, none⟩) hg).trans a1, (hb.cell (p := ⟨g, _, none⟩) hg).trans a2, (hb.cell (p := ⟨g, _, none⟩) hg).trans a3⟩
theorem ChAt.len {W : World} {v : Value} {L : List Chg} (h : ChAt W v L) : ∃ a c, v = .slice a L.length c := by
  rcases h with ⟨rfl, rfl⟩ | ⟨g, c, rfl, _⟩
  · exact ⟨_, _, rfl⟩
  · exact ⟨_, _, rfl⟩
theorem ChAt.lt {W : World} {v : Value} {L : List Chg} (h : ChAt W v L) : ∀ k, v.ownBlock = some k → k < W.heap.size := by
  rcases h with ⟨rfl, rfl⟩ | ⟨g, c, rfl, h1, h2, h3, h4⟩
  · intro k hk; simp [Value.ownBlock] at hk
  · intro k hk; simp only [Value.ownBlock, Option.some.injEq] at hk; omega
/-- a builder at work -/
def Bld (B b : Nat) (l : List UInt8) (w0 w : World) : Prop := Lib.IsBuilder 99 5 B b (Lib.byteCells l) w ∧ Below B w0 w ∧ B ≤ w.heap.size ∧ KeepsX w0 w
theorem byteCells_app (a b : List UInt8) : Lib.byteCells (a ++ b) = Lib.byteCells a ++ Lib.byteCells b := by simp [Lib.byteCells]
theorem byteCells_len (a : List UInt8) : (Lib.byteCells a).length = a.length := by simp [Lib.byteCells]
theorem strCells_eq (s : Bs) : Lib.strCells s = Lib.byteCells s.data.toList := rfl
theorem bld_byte (B b : Nat) (l : List UInt8) (x : UInt8) (c : Int) (hc : c = x.toNat) (w0 w : World) (h : Bld B b l w0 w) (hlen : l.length ≤ 100000000000) :
    Calls Try.prog 53 #[.pointer (some ⟨b, 0, none⟩), .int .u8 c] w fun e w' => e = .returned .nilIface ∧ Bld B b (l ++ [x]) w0 w' := by
  obtain ⟨h1, h2, h3, h4⟩ := h
  refine (writeByte_any B b _ c w h1 (by rw [byteCells_len]; omega) h3).mono ?_
  rintro e w' ⟨rfl, g1, g2, g3⟩
  refine ⟨rfl, .inr ?_, h2.trans g2, Nat.le_trans h3 g2.size, h4.trans g3⟩
  rw [byteCells_app]
  rw [hc] at g1
  exact g1
theorem bld_str (B b : Nat) (l : List UInt8) (s : Bs) (w0 w : World) (h : Bld B b l w0 w) (hlen : l.length ≤ 100000000000) (hs : s.size ≤ 1000000000) :
    Calls Try.prog 54 #[.pointer (some ⟨b, 0, none⟩), .string s] w fun e w' => e = .returned (.tuple #[.int .i64 s.size, .nilIface]) ∧ Bld B b (l ++ s.data.toList) w0 w' := by
  obtain ⟨h1, h2, h3, h4⟩ := h
  refine (writeStringB_any B b _ s w h1 (by rw [byteCells_len]; omega) h3).mono ?_
  rintro e w' ⟨rfl, g1, g2, g3⟩
  refine ⟨rfl, .inr ?_, h2.trans g2, Nat.le_trans h3 g2.size, h4.trans g3⟩
  rw [byteCells_app]
  exact g1
theorem Bld.below {B b : Nat} {l : List UInt8} {w0 w w' : World} (h : Bld B b l w0 w) (hb : Below w.heap.size w w') : Bld B b l w0 w' := by
  obtain ⟨h1, h2, h3, h4⟩ := h
  have key : ∀ p, Lib.BuilderAt 99 5 B b p (Lib.byteCells l) w → Lib.BuilderAt 99 5 B b p (Lib.byteCells l) w' := by
    rintro p ⟨hB, v, hbk, hown, hne⟩
    have hlt : b < w.heap.size := (Array.getElem?_eq_some_iff.1 hbk).1
    refine ⟨hB, v, (hb.block b hlt).trans hbk, ?_, hne⟩
    refine ⟨hown.1, ?_⟩
    rcases hown.2 with h | ⟨g, c, cur, rfl, q1, q2, q3⟩
    · exact .inl h
    · exact .inr ⟨g, c, cur, rfl, q1, (hb.block g (Array.getElem?_eq_some_iff.1 q2).1).trans q2, q3⟩
  exact ⟨h1.imp (key _) (key _), h2.trans (hb.mono h3), Nat.le_trans h3 hb.size, h4.trans (KeepsX.below hb)⟩
theorem mkS_list (l : List UInt8) : (mkS l).data.toList = l := by simp [mkS]
set_option maxRecDepth 100000 in
theorem writeString_any (B b : Nat) (l : List UInt8) (s : Bs) (w0 w : World) (h : Bld B b l w0 w) (hlen : l.length ≤ 10000000000) (hs : s.size ≤ 1000000000) :
    Calls Try.prog 57 #[.pointer (some ⟨b, 0, none⟩), .string s] w fun e w' => e = .returned (.tuple #[]) ∧ Bld B b (l ++ strB s) w0 w' := by
  have HH := Lib.hid h
  have HL := Lib.hid hlen
  have HN := Lib.hid (numB_len s.size (by omega))
  clear h hlen
  go_enter Try.func57, Try.ntmps57
  go_wp2_with (go_at_call 55; refine (num_any s.size _ (by omega)).mono ?_)
  rintro e w1 ⟨rfl, hb⟩
  have HB := Lib.hid (HH.out.below hb)
  clear hb
  go_wp2_with (go_at_call 54; refine (bld_str B b l _ w0 _ HB.out (by have := HL.out; omega) (by rw [mkS_size]; have := HN.out; omega)).mono ?_)
  rintro e w2 ⟨rfl, hb⟩
  rw [mkS_list] at hb
  have HB2 := Lib.hid hb
  clear hb
  go_wp2_with (go_at_call 54; refine (bld_str B b _ s w0 _ HB2.out (by rw [List.length_append]; have := HL.out; have := HN.out; omega) hs).mono ?_)
  rintro e w3 ⟨rfl, hb⟩
  have HB3 := Lib.hid hb
  clear hb
  go_wp2
  go_end0
  refine ⟨rfl, ?_⟩
  unfold strB
  rw [← List.append_assoc]
  exact HB3.out
end Go.Proofs.Ytpcjmceakelilaa
/- Engine: record.text: the data of a record. -/
namespace Go.Proofs.Ytpcjmceakelilaa
open Go.ChangeShapes Go.WideShapes Go.ChangeAt Go.RowKit Go.Deep Go.Shelf
set_option linter.unusedVariables false
set_option linter.unusedSimpArgs false
theorem Bld.start {B b : Nat} {l : List UInt8} {w0 w : World} (h : Bld B b l w0 w) : Bld B b l w w := ⟨h.1, Below.refl _ _, h.2.2.1, KeepsX.refl _⟩
theorem Bld.trans {B b : Nat} {l l' : List UInt8} {w0 w w' : World} (h : Bld B b l w0 w) (g : Bld B b l' w w') : Bld B b l' w0 w' := ⟨g.1, h.2.1.trans g.2.1, g.2.2.1, h.2.2.2.trans g.2.2.2⟩
theorem Bld.cellX {B b : Nat} {l : List UInt8} {w0 w : World} (h : Bld B b l w0 w) {k : Nat} {cs : Array Value} {T : TypeId} (hb : w0.heap[k]? = some (.cells cs T (0, 0))) (h1 : T ≠ 99) (h2 : T ≠ 5) (j : Nat) : w.cell? ⟨k, j, none⟩ = cs[j]? := Lib.cell_of_heap (h.2.2.2 k cs T (0, 0) hb h1 h2) j
theorem Bld.new (W : World) : Bld W.heap.size W.heap.size [] W (W.alloc (.cells #[.pointer none, .slice none 0 0] 99)) :=
  ⟨Lib.fresh_isBuilder _ _ W, (Below.refl _ _).alloc (Nat.le_refl _) _, by simp, (KeepsX.refl W).alloc _⟩
theorem rec_cells (W : World) (a b c : Value) (T : TypeId) : (W.alloc (.cells #[a, b, c] T)).heap[W.heap.size]? = some (.cells #[a, b, c] T (0, 0)) := heap_alloc_new W _
theorem chsB_snoc (l : List Chg) (x : Chg) : chsB (l ++ [x]) = chsB l ++ chB x := by simp [chsB]
/-- sizes that a record's changes have -/
def Small (L : List Chg) : Prop := L.length ≤ 1000 ∧ ∀ x ∈ L, x.1.size ≤ 20000 ∧ x.2.1.size ≤ 20000 ∧ x.2.2.1.size ≤ 20000
theorem strB_len (s : Bs) (h : s.size ≤ 20000) : (strB s).length ≤ 20009 := by
  unfold strB
  rw [List.length_append]
  have := numB_len s.size (by omega)
  have e : s.data.toList.length = s.size := Array.length_toList
  omega
theorem chB_len (x : Chg) (h : x.1.size ≤ 20000 ∧ x.2.1.size ≤ 20000 ∧ x.2.2.1.size ≤ 20000) : (chB x).length ≤ 60100 := by
  unfold chB
  have h1 := strB_len x.1 h.1
  have h2 := strB_len x.2.1 h.2.1
  have h3 := strB_len x.2.2.1 h.2.2
  simp only [List.length_append, List.length_cons]
  omega
theorem chsB_len : ∀ (L : List Chg), (∀ x ∈ L, x.1.size ≤ 20000 ∧ x.2.1.size ≤ 20000 ∧ x.2.2.1.size ≤ 20000) → (chsB L).length ≤ 60100 * L.length
  | [], _ => Nat.zero_le _
  | x :: L, h => by
    have h1 := chB_len x (h x (List.mem_cons_self ..))
    have h2 := chsB_len L (fun y hy => h y (List.mem_cons_of_mem _ hy))
    have e : chsB (x :: L) = chB x ++ chsB L := by simp [chsB]
    rw [e, List.length_append, List.length_cons]
    omega
theorem Bld.rec {B b : Nat} {l : List UInt8} {W w' : World} {x y z : Value} {T : TypeId} (h : Bld B b l (W.alloc (.cells #[x, y, z] T)) w') (hB : W.heap.size < B) :
    w'.cell? ⟨W.heap.size, 0, none⟩ = some x ∧ w'.cell? ⟨W.heap.size, 1, none⟩ = some y ∧ w'.cell? ⟨W.heap.size, 2, none⟩ = some z := by
  have hb := h.2.1
  have e := rec_cells W x y z T
  exact ⟨(hb.cell (p := ⟨W.heap.size, 0, none⟩) hB).trans (Lib.cell_of_heap e 0), (hb.cell (p := ⟨W.heap.size, 1, none⟩) hB).trans (Lib.cell_of_heap e 1), (hb.cell (p := ⟨W.heap.size, 2, none⟩) hB).trans (Lib.cell_of_heap e 2)⟩
theorem Bld.low {B b : Nat} {l : List UInt8} {W w' : World} {o : Obj} (h : Bld B b l (W.alloc o) w') (hB : B = W.heap.size + 1) : Below W.heap.size W w' :=
  ((Below.refl _ W).alloc (Nat.le_refl _) o).trans (h.2.1.mono (by omega))
set_option maxRecDepth 100000 in
set_option maxHeartbeats 2000000 in
theorem text_short (k s : Nat) (v : Value) (w : World) (hk : k = 2 ∨ k = 4) (hs : s < 4611686018427387904) :
    Calls Try.prog 38 #[.agg #[.int .i64 k, .int .i64 s, v]] w fun e w' => e = .returned (.string (mkS (recB k s []))) ∧ Below w.heap.size w w' := by
  have HN := Lib.hid (numB_len s hs)
  have e2 : ((k : Int) != 1) = true := by rcases hk with rfl | rfl <;> rfl
  have e3 : ((k : Int) != 3) = true := by rcases hk with rfl | rfl <;> rfl
  have e4 : ((k : Int) % 256) = (((UInt8.ofNat k).toNat : Nat) : Int) := by rcases hk with rfl | rfl <;> rfl
  have HK := Lib.hid hk
  have HE4 := Lib.hid e4
  clear hk e4
  have HE : Bld _ _ _ _ _ := Bld.new (w.alloc (.cells #[.int .i64 k, .int .i64 s, v] 54))
  rw [World.size_alloc] at HE
  go_enter Try.func38, Try.ntmps38
  go_wp2_with fail
  refine (bld_byte _ _ [] (UInt8.ofNat k) _ HE4.out _ _ HE (by simp)).mono ?_
  rintro e w1 ⟨rfl, h1⟩
  obtain ⟨c0, c1, c2⟩ := h1.rec (Nat.lt_succ_self _)
  have H1 := Lib.hid h1
  clear h1 HE
  go_wp2_with fail
  refine (num_any s _ hs).mono ?_
  rintro e w2 ⟨rfl, hb2⟩
  have h2 := H1.out.below hb2
  obtain ⟨c0, c1, c2⟩ := h2.rec (Nat.lt_succ_self _)
  have H2 := Lib.hid h2
  clear h2 hb2
  go_wp2_with fail
  refine (bld_str _ _ _ _ _ _ H2.out (by simp) (by rw [mkS_size]; have := HN.out; omega)).mono ?_
  rintro e w3 ⟨rfl, h3⟩
  obtain ⟨c0, c1, c2⟩ := h3.rec (Nat.lt_succ_self _)
  rw [mkS_list] at h3
  have H3 := Lib.hid h3
  clear h3
  go_wp2_with fail
  refine (Try.Builder_String_any _ _ _ _ H3.out.1 H3.out.2.2.1).mono ?_
  rintro e w4 ⟨rfl, hb4⟩
  have HB4 := Lib.hid hb4
  clear hb4
  go_wp2_with fail
  go_ret
  refine ⟨?_, (H3.out.low rfl).trans (HB4.out.mono (Nat.le_succ _))⟩
  have e5 : recB k s [] = UInt8.ofNat k :: numB s := by
    unfold recB
    rw [if_neg (by have := HK.out; omega), List.append_nil]
  rw [e5]
  rfl
set_option maxRecDepth 100000 in
set_option maxHeartbeats 4000000 in
theorem text_1 (s : Nat) (v : Value) (L : List Chg) (w : World) (hs : s < 4611686018427387904) (hv : ChAt w v L) (hL : Small L) :
    Calls Try.prog 38 #[.agg #[.int .i64 1, .int .i64 s, v]] w fun e w' => e = .returned (.string (mkS (recB 1 s L))) ∧ Below w.heap.size w w' := by
  have HN := Lib.hid (numB_len s hs)
  have HL := Lib.hid hL
  have HNL := Lib.hid (numB_len L.length (by have := hL.1; omega))
  have HCL := Lib.hid (chsB_len L hL.2)
  obtain ⟨va, vc, rfl⟩ := hv.len
  have HV := Lib.hid hv
  clear hL hv
  have HE : Bld _ _ _ _ _ := Bld.new (w.alloc (.cells #[.int .i64 1, .int .i64 s, .slice va L.length vc] 54))
  rw [World.size_alloc] at HE
  go_enter Try.func38, Try.ntmps38
  go_wp2_with fail
  refine (bld_byte _ _ [] 1 _ rfl _ _ HE (by simp)).mono ?_
  rintro e w1 ⟨rfl, h1⟩
  obtain ⟨c0, c1, c2⟩ := h1.rec (Nat.lt_succ_self _)
  have H1 := Lib.hid h1
  clear h1 HE
  go_wp2_with fail
  refine (num_any s _ hs).mono ?_
  rintro e w2 ⟨rfl, hb2⟩
  have h2 := H1.out.below hb2
  obtain ⟨c0, c1, c2⟩ := h2.rec (Nat.lt_succ_self _)
  have H2 := Lib.hid h2
  clear h2 hb2
  go_wp2_with fail
  refine (bld_str _ _ _ _ _ _ H2.out (by simp) (by rw [mkS_size]; have := HN.out; omega)).mono ?_
  rintro e w3 ⟨rfl, h3⟩
  obtain ⟨c0, c1, c2⟩ := h3.rec (Nat.lt_succ_self _)
  rw [mkS_list] at h3
  have H3 := Lib.hid h3
  clear h3 H1 H2
  go_wp2_with fail
  refine (num_any L.length _ (by have := HL.out.1; omega)).mono ?_
  rintro e w4 ⟨rfl, hb4⟩
  have h4 := H3.out.below hb4
  obtain ⟨c0, c1, c2⟩ := h4.rec (Nat.lt_succ_self _)
  have H4 := Lib.hid h4
  clear h4 hb4
  go_wp2_with fail
  refine (bld_str _ _ _ _ _ _ H4.out (by simp only [List.length_append, List.length_cons, List.length_nil]; have := HN.out; omega) (by rw [mkS_size]; have := HNL.out; omega)).mono ?_
  rintro e w5 ⟨rfl, h5⟩
  obtain ⟨c0, c1, c2⟩ := h5.rec (Nat.lt_succ_self _)
  rw [mkS_list] at h5
  have H5 := Lib.hid h5
  clear h5 H3 H4
  obtain ⟨P0, hP0⟩ : ∃ P0, P0 = ([] ++ [1] ++ numB s ++ numB L.length : List UInt8) := ⟨_, rfl⟩
  rw [← hP0] at H5
  have HP0 := Lib.hid hP0
  have HPL := Lib.hid (show P0.length ≤ 100 by rw [hP0]; simp only [List.length_append, List.length_cons, List.length_nil]; have := HN.out; have := HNL.out; omega)
  clear hP0
  have HLOW := Lib.hid (show Below w.heap.size w w5 from H5.out.low rfl)
  go_wp2_with fail
  clear c0 c1 c2
  go_loopw [31] (fun i wr => ∃ k : Nat, k ≤ L.length ∧ i = .int .i64 k ∧ Bld (w.heap.size + 1) (w.heap.size + 1) (P0 ++ chsB (L.take k)) (w.alloc (.cells #[.int .i64 1, .int .i64 s, .slice va L.length vc] 54)) wr) (fun i _ => L.length - (intOf i).toNat)
  case atStart => exact ⟨0, Nat.zero_le _, rfl, by simpa [chsB] using H5.out⟩
  case round =>
    obtain ⟨k, hk, rfl, hB⟩ := hrel
    have HB := Lib.hid hB
    have HLW := Lib.hid (show Below w.heap.size w wr from hB.low rfl)
    have HCK := Lib.hid (chsB_len (L.take k) (fun x hx => HL.out.2 x (List.mem_of_mem_take hx)))
    clear hB H5
    by_cases hlt : k < L.length
    · have HX := Lib.hid (HL.out.2 L[k] (List.getElem_mem hlt))
      have HTK := Lib.hid (show L.take (k + 1) = L.take k ++ [L[k]] by rw [List.take_succ_eq_append_getElem hlt])
      obtain ⟨g, c, hva, h1, h2, hgl, hc⟩ : ∃ g c, Value.slice va L.length vc = .slice (some ⟨g, 0, none⟩) L.length c ∧ L.length ≤ c ∧ c ≤ 9223372036854775807 ∧ g < w.heap.size ∧ _ := by
        rcases HV.out with ⟨_, h⟩ | h
        · rw [h] at hlt; simp at hlt
        · exact h
      cases hva
      obtain ⟨a0, a1, a2, a3⟩ := hc k hlt
      clear hc HV
      have b0 := (HLW.out.cell (p := ⟨g, k * 4, none⟩) hgl).trans a0
      have b1 := (HLW.out.cell (p := ⟨g, k * 4 + 1, none⟩) hgl).trans a1
      have b2 := (HLW.out.cell (p := ⟨g, k * 4 + 2, none⟩) hgl).trans a2
      have b3 := (HLW.out.cell (p := ⟨g, k * 4 + 3, none⟩) hgl).trans a3
      clear a0 a1 a2 a3
      generalize hxe : L[k] = x at *
      obtain ⟨tb, ky, vl, dl⟩ := x
      simp only at b0 b1 b2 b3
      have HXE := Lib.hid hxe
      clear hxe
      have HKL := Lib.hid (show L.length ≤ 1000 from HL.out.1)
      have HLL := Lib.hid (show (P0 ++ chsB (L.take k)).length ≤ 100000000 by rw [List.length_append]; have := HPL.out; have := HCK.out; rw [List.length_take] at this; have := HKL.out; omega)
      have hE : P0 ++ chsB (L.take (k + 1)) = P0 ++ chsB (L.take k) ++ strB tb ++ strB ky ++ [if dl = true then 1 else 0] ++ strB vl := by
        rw [HTK.out, chsB_snoc]
        simp [chB]
      have HE2 := Lib.hid hE
      clear hE
      have hB3 := (HB.out.below ((Below.refl _ wr).alloc (Nat.le_refl _) (.cells #[.string tb, .string ky, .string vl, .bool dl] 58)))
      generalize P0 ++ chsB (L.take k) = L0 at *
      have HB3 := Lib.hid hB3
      have HC := Lib.hid (heap_alloc_new wr (.cells #[.string tb, .string ky, .string vl, .bool dl] 58))
      obtain ⟨z1, z2, z3⟩ := HX.out
      have s1 := strB_len tb z1
      have s2 := strB_len ky z2
      have HS := Lib.hid (And.intro z1 (And.intro z2 (And.intro z3 (And.intro s1 s2))))
      clear hB3 HB z1 z2 z3 s1 s2 HX HLW
      go_wp2_with fail
      clear b0 b1 b2 b3
      refine (writeString_any _ _ _ tb _ _ HB3.out.start (by have := HLL.out; omega) (by have := HS.out; omega)).mono ?_
      rintro e w6 ⟨rfl, h6⟩
      have d1 := h6.cellX HC.out (by decide) (by decide) 1
      have H6 := Lib.hid h6
      clear h6
      go_wp2_with fail
      clear d1
      refine (writeString_any _ _ _ ky _ _ H6.out (by rw [List.length_append]; have := HLL.out; have := HS.out; omega) (by have := HS.out; omega)).mono ?_
      rintro e w7 ⟨rfl, h7⟩
      have d3 := h7.cellX HC.out (by decide) (by decide) 3
      have H7 := Lib.hid h7
      clear h7 H6
      cases dl with
      | true =>
        go_wp2_with fail
        clear d3
        refine (bld_byte _ _ _ 1 _ rfl _ _ H7.out (by simp only [List.length_append]; have := HLL.out; have := HS.out; omega)).mono ?_
        rintro e w8 ⟨rfl, h8⟩
        have d2 := h8.cellX HC.out (by decide) (by decide) 2
        have H8 := Lib.hid h8
        clear h8 H7
        go_wp2_with fail
        clear d2
        refine (writeString_any _ _ _ vl _ _ H8.out (by simp only [List.length_append, List.length_cons, List.length_nil]; have := HLL.out; have := HS.out; omega) (by have := HS.out; omega)).mono ?_
        rintro e w9 ⟨rfl, h9⟩
        have H9 := Lib.hid (HB3.out.trans h9)
        clear h9 H8
        go_wp2_with fail
        go_roundw
        case rel => exact ⟨k + 1, by omega, by go_num, by rw [HE2.out]; exact H9.out⟩
        case measure => simp [intOf]; omega
      | false =>
        go_wp2_with fail
        clear d3
        refine (bld_byte _ _ _ 0 _ rfl _ _ H7.out (by simp only [List.length_append]; have := HLL.out; have := HS.out; omega)).mono ?_
        rintro e w8 ⟨rfl, h8⟩
        have d2 := h8.cellX HC.out (by decide) (by decide) 2
        have H8 := Lib.hid h8
        clear h8 H7
        go_wp2_with fail
        clear d2
        refine (writeString_any _ _ _ vl _ _ H8.out (by simp only [List.length_append, List.length_cons, List.length_nil]; have := HLL.out; have := HS.out; omega) (by have := HS.out; omega)).mono ?_
        rintro e w9 ⟨rfl, h9⟩
        have H9 := Lib.hid (HB3.out.trans h9)
        clear h9 H8
        go_wp2_with fail
        go_roundw
        case rel => exact ⟨k + 1, by omega, by go_num, by rw [HE2.out]; exact H9.out⟩
        case measure => simp [intOf]; omega
    · have HTK := Lib.hid (show L.take k = L from List.take_of_length_le (by omega))
      go_wp2_with fail
      refine (Try.Builder_String_any _ _ _ _ HB.out.1 HB.out.2.2.1).mono ?_
      rintro e w6 ⟨rfl, hb6⟩
      have HB6 := Lib.hid hb6
      clear hb6
      go_wp2_with fail
      go_ret
      refine ⟨?_, HLW.out.trans (HB6.out.mono (Nat.le_succ _))⟩
      have e5 : recB 1 s L = P0 ++ chsB (L.take k) := by
        rw [HTK.out, HP0.out]
        unfold recB
        rw [if_pos (by decide)]
        simp
      rw [e5]
      rfl
set_option maxRecDepth 100000 in
set_option maxHeartbeats 4000000 in
theorem text_3 (s : Nat) (v : Value) (L : List Chg) (w : World) (hs : s < 4611686018427387904) (hv : ChAt w v L) (hL : Small L) :
    Calls Try.prog 38 #[.agg #[.int .i64 3, .int .i64 s, v]] w fun e w' => e = .returned (.string (mkS (recB 3 s L))) ∧ Below w.heap.size w w' := by
  have HN := Lib.hid (numB_len s hs)
  have HL := Lib.hid hL
  have HNL := Lib.hid (numB_len L.length (by have := hL.1; omega))
  have HCL := Lib.hid (chsB_len L hL.2)
  obtain ⟨va, vc, rfl⟩ := hv.len
  have HV := Lib.hid hv
  clear hL hv
  have HE : Bld _ _ _ _ _ := Bld.new (w.alloc (.cells #[.int .i64 3, .int .i64 s, .slice va L.length vc] 54))
  rw [World.size_alloc] at HE
  go_enter Try.func38, Try.ntmps38
  go_wp2_with fail
  refine (bld_byte _ _ [] 3 _ rfl _ _ HE (by simp)).mono ?_
  rintro e w1 ⟨rfl, h1⟩
  obtain ⟨c0, c1, c2⟩ := h1.rec (Nat.lt_succ_self _)
  have H1 := Lib.hid h1
  clear h1 HE
  go_wp2_with fail
  refine (num_any s _ hs).mono ?_
  rintro e w2 ⟨rfl, hb2⟩
  have h2 := H1.out.below hb2
  obtain ⟨c0, c1, c2⟩ := h2.rec (Nat.lt_succ_self _)
  have H2 := Lib.hid h2
  clear h2 hb2
  go_wp2_with fail
  refine (bld_str _ _ _ _ _ _ H2.out (by simp) (by rw [mkS_size]; have := HN.out; omega)).mono ?_
  rintro e w3 ⟨rfl, h3⟩
  obtain ⟨c0, c1, c2⟩ := h3.rec (Nat.lt_succ_self _)
  rw [mkS_list] at h3
  have H3 := Lib.hid h3
  clear h3 H1 H2
  go_wp2_with fail
  refine (num_any L.length _ (by have := HL.out.1; omega)).mono ?_
  rintro e w4 ⟨rfl, hb4⟩
  have h4 := H3.out.below hb4
  obtain ⟨c0, c1, c2⟩ := h4.rec (Nat.lt_succ_self _)
  have H4 := Lib.hid h4
  clear h4 hb4
  go_wp2_with fail
  refine (bld_str _ _ _ _ _ _ H4.out (by simp only [List.length_append, List.length_cons, List.length_nil]; have := HN.out; omega) (by rw [mkS_size]; have := HNL.out; omega)).mono ?_
  rintro e w5 ⟨rfl, h5⟩
  obtain ⟨c0, c1, c2⟩ := h5.rec (Nat.lt_succ_self _)
  rw [mkS_list] at h5
  have H5 := Lib.hid h5
  clear h5 H3 H4
  obtain ⟨P0, hP0⟩ : ∃ P0, P0 = ([] ++ [3] ++ numB s ++ numB L.length : List UInt8) := ⟨_, rfl⟩
  rw [← hP0] at H5
  have HP0 := Lib.hid hP0
  have HPL := Lib.hid (show P0.length ≤ 100 by rw [hP0]; simp only [List.length_append, List.length_cons, List.length_nil]; have := HN.out; have := HNL.out; omega)
  clear hP0
  have HLOW := Lib.hid (show Below w.heap.size w w5 from H5.out.low rfl)
  go_wp2_with fail
  clear c0 c1 c2
  go_loopw [31] (fun i wr => ∃ k : Nat, k ≤ L.length ∧ i = .int .i64 k ∧ Bld (w.heap.size + 1) (w.heap.size + 1) (P0 ++ chsB (L.take k)) (w.alloc (.cells #[.int .i64 3, .int .i64 s, .slice va L.length vc] 54)) wr) (fun i _ => L.length - (intOf i).toNat)
  case atStart => exact ⟨0, Nat.zero_le _, rfl, by simpa [chsB] using H5.out⟩
  case round =>
    obtain ⟨k, hk, rfl, hB⟩ := hrel
    have HB := Lib.hid hB
    have HLW := Lib.hid (show Below w.heap.size w wr from hB.low rfl)
    have HCK := Lib.hid (chsB_len (L.take k) (fun x hx => HL.out.2 x (List.mem_of_mem_take hx)))
    clear hB H5
    by_cases hlt : k < L.length
    · have HX := Lib.hid (HL.out.2 L[k] (List.getElem_mem hlt))
      have HTK := Lib.hid (show L.take (k + 1) = L.take k ++ [L[k]] by rw [List.take_succ_eq_append_getElem hlt])
      obtain ⟨g, c, hva, h1, h2, hgl, hc⟩ : ∃ g c, Value.slice va L.length vc = .slice (some ⟨g, 0, none⟩) L.length c ∧ L.length ≤ c ∧ c ≤ 9223372036854775807 ∧ g < w.heap.size ∧ _ := by
        rcases HV.out with ⟨_, h⟩ | h
        · rw [h] at hlt; simp at hlt
        · exact h
      cases hva
      obtain ⟨a0, a1, a2, a3⟩ := hc k hlt
      clear hc HV
      have b0 := (HLW.out.cell (p := ⟨g, k * 4, none⟩) hgl).trans a0
      have b1 := (HLW.out.cell (p := ⟨g, k * 4 + 1, none⟩) hgl).trans a1
      have b2 := (HLW.out.cell (p := ⟨g, k * 4 + 2, none⟩) hgl).trans a2
      have b3 := (HLW.out.cell (p := ⟨g, k * 4 + 3, none⟩) hgl).trans a3
      clear a0 a1 a2 a3
      generalize hxe : L[k] = x at *
      obtain ⟨tb, ky, vl, dl⟩ := x
      simp only at b0 b1 b2 b3
      have HXE := Lib.hid hxe
      clear hxe
      have HKL := Lib.hid (show L.length ≤ 1000 from HL.out.1)
      have HLL := Lib.hid (show (P0 ++ chsB (L.take k)).length ≤ 100000000 by rw [List.length_append]; have := HPL.out; have := HCK.out; rw [List.length_take] at this; have := HKL.out; omega)
      have hE : P0 ++ chsB (L.take (k + 1)) = P0 ++ chsB (L.take k) ++ strB tb ++ strB ky ++ [if dl = true then 1 else 0] ++ strB vl := by
        rw [HTK.out, chsB_snoc]
        simp [chB]
      have HE2 := Lib.hid hE
      clear hE
      have hB3 := (HB.out.below ((Below.refl _ wr).alloc (Nat.le_refl _) (.cells #[.string tb, .string ky, .string vl, .bool dl] 58)))
      generalize P0 ++ chsB (L.take k) = L0 at *
      have HB3 := Lib.hid hB3
      have HC := Lib.hid (heap_alloc_new wr (.cells #[.string tb, .string ky, .string vl, .bool dl] 58))
      obtain ⟨z1, z2, z3⟩ := HX.out
      have s1 := strB_len tb z1
      have s2 := strB_len ky z2
      have HS := Lib.hid (And.intro z1 (And.intro z2 (And.intro z3 (And.intro s1 s2))))
      clear hB3 HB z1 z2 z3 s1 s2 HX HLW
      go_wp2_with fail
      clear b0 b1 b2 b3
      refine (writeString_any _ _ _ tb _ _ HB3.out.start (by have := HLL.out; omega) (by have := HS.out; omega)).mono ?_
      rintro e w6 ⟨rfl, h6⟩
      have d1 := h6.cellX HC.out (by decide) (by decide) 1
      have H6 := Lib.hid h6
      clear h6
      go_wp2_with fail
      clear d1
      refine (writeString_any _ _ _ ky _ _ H6.out (by rw [List.length_append]; have := HLL.out; have := HS.out; omega) (by have := HS.out; omega)).mono ?_
      rintro e w7 ⟨rfl, h7⟩
      have d3 := h7.cellX HC.out (by decide) (by decide) 3
      have H7 := Lib.hid h7
      clear h7 H6
      cases dl with
      | true =>
        go_wp2_with fail
        clear d3
        refine (bld_byte _ _ _ 1 _ rfl _ _ H7.out (by simp only [List.length_append]; have := HLL.out; have := HS.out; omega)).mono ?_
        rintro e w8 ⟨rfl, h8⟩
        have d2 := h8.cellX HC.out (by decide) (by decide) 2
        have H8 := Lib.hid h8
        clear h8 H7
        go_wp2_with fail
        clear d2
        refine (writeString_any _ _ _ vl _ _ H8.out (by simp only [List.length_append, List.length_cons, List.length_nil]; have := HLL.out; have := HS.out; omega) (by have := HS.out; omega)).mono ?_
        rintro e w9 ⟨rfl, h9⟩
        have H9 := Lib.hid (HB3.out.trans h9)
        clear h9 H8
        go_wp2_with fail
        go_roundw
        case rel => exact ⟨k + 1, by omega, by go_num, by rw [HE2.out]; exact H9.out⟩
        case measure => simp [intOf]; omega
      | false =>
        go_wp2_with fail
        clear d3
        refine (bld_byte _ _ _ 0 _ rfl _ _ H7.out (by simp only [List.length_append]; have := HLL.out; have := HS.out; omega)).mono ?_
        rintro e w8 ⟨rfl, h8⟩
        have d2 := h8.cellX HC.out (by decide) (by decide) 2
        have H8 := Lib.hid h8
        clear h8 H7
        go_wp2_with fail
        clear d2
        refine (writeString_any _ _ _ vl _ _ H8.out (by simp only [List.length_append, List.length_cons, List.length_nil]; have := HLL.out; have := HS.out; omega) (by have := HS.out; omega)).mono ?_
        rintro e w9 ⟨rfl, h9⟩
        have H9 := Lib.hid (HB3.out.trans h9)
        clear h9 H8
        go_wp2_with fail
        go_roundw
        case rel => exact ⟨k + 1, by omega, by go_num, by rw [HE2.out]; exact H9.out⟩
        case measure => simp [intOf]; omega
    · have HTK := Lib.hid (show L.take k = L from List.take_of_length_le (by omega))
      go_wp2_with fail
      refine (Try.Builder_String_any _ _ _ _ HB.out.1 HB.out.2.2.1).mono ?_
      rintro e w6 ⟨rfl, hb6⟩
      have HB6 := Lib.hid hb6
      clear hb6
      go_wp2_with fail
      go_ret
      refine ⟨?_, HLW.out.trans (HB6.out.mono (Nat.le_succ _))⟩
      have e5 : recB 3 s L = P0 ++ chsB (L.take k) := by
        rw [HTK.out, HP0.out]
        unfold recB
        rw [if_pos (by decide)]
        simp
      rw [e5]
      rfl
end Go.Proofs.Ytpcjmceakelilaa
/- Engine: a map whose keys are structs of two strings. -/
namespace Go.Proofs.Ytpcjmceakelilaa
open Go.ChangeShapes Go.WideShapes Go.ChangeAt Go.RowKit Go.Deep Go.ChangeMaps Go.Shelf
set_option linter.unusedVariables false
set_option linter.unusedSimpArgs false
theorem und9' : Try.prog.underlying 9 = some .string := by kernel_rfl
theorem key9 : Try.prog.plainKey 9 = true := by kernel_rfl
theorem inj_toList (a c : Bs) : (a.toList = c.toList) = (a = c) := by
  rw [ByteArray.toList_eq, ByteArray.toList_eq]
  obtain ⟨⟨x⟩⟩ := a
  obtain ⟨⟨y⟩⟩ := c
  by_cases h : x = y
  · subst h; simp
  · have h2 : ¬ (ByteArray.mk ⟨x⟩ = ByteArray.mk ⟨y⟩) := fun e => h (by cases e; rfl)
    simp [h]
/-- a place: a table and a key -/
abbrev Plc := Bs × Bs
def plV (p : Plc) : Value := .agg #[.string p.1, .string p.2]
theorem plc_struct : Try.prog.underlying 80 = some (.struct (Try.prog.fieldsOf 80)) := by kernel_rfl
theorem eq_plc (p q : Plc) (w : World) : (Op.equalIn 10000 80 (plV p) (plV q)).run Try.prog w = .ok (decide (p = q)) w := by
  obtain ⟨a, b⟩ := p
  obtain ⟨c, d⟩ := q
  have u9 := und9'
  unfold plV
  rw [show (10000 : Nat) = 9999 + 1 from rfl, run_equalIn_agg w 9999 _ _ _ plc_struct (by kernel_rfl)]
  simp only [Program.fieldsOf, Try.underlying80]
  go_simp
  simp only [inj_toList]
  by_cases h1 : a = c <;> by_cases h2 : b = d <;> simp [h1, h2]
theorem check_plc (p : Plc) (e : Bool) (w : World) : (Instr.checkKey e 10000 80 (plV p)).run Try.prog w = .ok () w := by
  obtain ⟨a, b⟩ := p
  have u9 := und9'
  have p0 : ∀ o, (part 9 #[.string a, .string b] 0).run Try.prog o = .ok (.string a) o := fun o => run_part_plain o key9 rfl
  have p1 : ∀ o, (part 9 #[.string a, .string b] 1).run Try.prog o = .ok (.string b) o := fun o => run_part_plain o key9 rfl
  have hk : ∀ (s : Bs) (n : Nat), (Instr.checkKey e (n + 1) 9 (.string s)).run Try.prog w = .ok () w := fun s n => MapKept.run_checkKey (k := .string s) (d := .string) und9' (show MapKept.IsKey .string (.string s) from trivial) e n
  unfold plV
  rw [show (10000 : Nat) = 9998 + 1 + 1 from rfl]
  unfold Instr.checkKey
  simp [run_underlying Try.underlying80, p0, p1, hk, Result.andThen]
theorem findNow_struct (k : Value) (d : Array Field) : ∀ (es : List MapEntry) (e : MapEntry), Instr.findNow (.struct d) k (e :: es) 0 = none := fun es e => by
  unfold Instr.findNow Instr.sameNow
  rfl
def fndP (p : Plc) : List Plc → Nat → Option (Nat × Value)
  | [], _ => none
  | q :: P, i => if p = q then some (i, .bool true) else fndP p P (i + 1)
def plE : List Plc → Nat → List MapEntry
  | [], _ => []
  | q :: P, i => ⟨plV q, .bool true, i⟩ :: plE P (i + 1)
theorem findAsking_plc (p : Plc) (w : World) : ∀ (P : List Plc) (i j : Nat), (Instr.findAsking 80 (plV p) (plE P j) i).run Try.prog w = .ok (fndP p P i) w
  | [], i, j => by unfold plE Instr.findAsking fndP; rfl
  | q :: P, i, j => by
    have ih := findAsking_plc p w P (i + 1) (j + 1)
    unfold plE Instr.findAsking fndP
    simp only [Op.equal, Op.maxDepth, Sem.run_bind, eq_plc, Result.andThen_ok]
    by_cases h : p = q
    · simp [h]
    · simp [h, ih]
theorem find_plc (p : Plc) (w : World) (P : List Plc) (j : Nat) : (Instr.findKey 80 (plV p) (plE P j)).run Try.prog w = .ok (fndP p P 0) w := by
  unfold Instr.findKey
  simp only [Sem.run_bind, run_underlying plc_struct, Result.andThen_ok]
  cases P with
  | nil => rfl
  | cons q P =>
    have e : plE (q :: P) j = ⟨plV q, .bool true, j⟩ :: plE P (j + 1) := rfl
    rw [e, findNow_struct, ← e]
    exact findAsking_plc p w (q :: P) 0 j
theorem fndP_none {p : Plc} : ∀ (P : List Plc) (i : Nat), p ∉ P → fndP p P i = none
  | [], _, _ => rfl
  | q :: P, i, h => by
    unfold fndP
    rw [if_neg (fun e => h (by rw [e]; exact List.mem_cons_self ..)), fndP_none P (i + 1) (fun e => h (List.mem_cons_of_mem _ e))]
theorem fndP_some {p : Plc} : ∀ (P : List Plc) (i : Nat), p ∈ P → ∃ j, fndP p P i = some (j, .bool true)
  | q :: P, i, h => by
    unfold fndP
    by_cases e : p = q
    · exact ⟨i, if_pos e⟩
    · rw [if_neg e]
      exact fndP_some P (i + 1) ((List.mem_cons.1 h).resolve_left e)
/-- the block of a map of places -/
def PlAt (W : World) (m : Nat) (P : List Plc) : Prop := W.heap[m]? = some (.map (plE P 0).toArray P.length)
def inP (p : Plc) (P : List Plc) : Bool := P.any fun q => decide (p = q)
theorem inP_iff (p : Plc) (P : List Plc) : inP p P = true ↔ p ∈ P := by
  unfold inP
  rw [List.any_eq_true]
  constructor
  · rintro ⟨q, hq, h⟩
    rw [of_decide_eq_true h]; exact hq
  · exact fun h => ⟨p, h, by simp⟩
theorem zero_b (W : World) : (zeroValue 4).run Try.prog W = .ok (.bool false) W := by kernel_rfl
theorem run_lookP {W : World} {m : Nat} {P : List Plc} (h : PlAt W m P) (p : Plc) :
    (Instr.lookup 77 (.map (some m)) (plV p) false).run Try.prog W = .ok (.bool (inP p P)) W := by
  simp only [Instr.lookup, Sem.run_bind, run_underlying Try.underlying77, MapKept.run_getObj_map h, Result.andThen, Sem.run_pure]
  rw [check_plc]
  simp only [Result.andThen, Sem.run_bind]
  rw [find_plc]
  by_cases hp : p ∈ P
  · obtain ⟨j, hj⟩ := fndP_some P 0 hp
    rw [hj, (inP_iff p P).2 hp]
    simp [Result.andThen]
  · have hf : inP p P = false := by
      cases h2 : inP p P with
      | false => rfl
      | true => exact absurd ((inP_iff p P).1 h2) hp
    rw [fndP_none P 0 hp, hf]
    simp [Result.andThen, zero_b]
theorem plE_snoc (p : Plc) : ∀ (P : List Plc) (i : Nat), plE (P ++ [p]) i = plE P i ++ [⟨plV p, .bool true, i + P.length⟩]
  | [], i => rfl
  | q :: P, i => by
    show _ :: plE (P ++ [p]) (i + 1) = _
    rw [plE_snoc p P (i + 1), List.length_cons]
    show _ = _ :: (plE P (i + 1) ++ _)
    rw [show i + 1 + P.length = i + (P.length + 1) by omega]
theorem run_updP {W : World} {m : Nat} {P : List Plc} (h : PlAt W m P) (p : Plc) (hp : p ∉ P) :
    (Instr.mapUpdate 77 (.map (some m)) (plV p) (.bool true)).run Try.prog W = .ok () (setBlock W m (.map (plE (P ++ [p]) 0).toArray (P ++ [p]).length)) := by
  simp only [Instr.mapUpdate, Sem.run_bind, run_underlying Try.underlying77, MapKept.run_getObj_map h, Result.andThen, Sem.run_pure]
  rw [check_plc]
  simp only [Result.andThen, Sem.run_bind]
  rw [find_plc, fndP_none P 0 hp]
  simp [Result.andThen, MapKept.run_setObj_map _ h, setBlock, plE_snoc]
end Go.Proofs.Ytpcjmceakelilaa
/- Engine: isName, inRange. -/
namespace Go.Proofs.Ytpcjmceakelilaa
open Go.ChangeShapes Go.WideShapes Go.ChangeAt Go.RowKit Go.Deep Go.ChangeMaps Go.Shelf
set_option linter.unusedVariables false
set_option linter.unusedSimpArgs false
def okB (b : UInt8) : Bool := !(decide (b.toNat < 33) || decide (126 < b.toNat) || decide (b.toNat = 46))
/-- whether a string is a name -/
def isNm (s : Bs) : Bool := decide (0 < s.size) && decide (s.size ≤ 32) && !(decide (s.data.toList.head? = some 36)) && s.data.toList.all okB
theorem bs_get (s : Bs) (j : Nat) (h : j < s.size) : s.data.toList[j]? = some s[j] := by
  rw [List.getElem?_eq_getElem (by rw [Array.length_toList]; exact h)]; rfl
set_option maxRecDepth 100000 in
set_option maxHeartbeats 1000000 in
theorem isName_any (s : Bs) (w : World) :
    Calls Try.prog 35 #[.string s] w fun e w' => e = .returned (.bool (isNm s)) ∧ w' = w := by
  rcases Nat.eq_zero_or_pos s.size with h0 | h0
  · have e1 : isNm s = false := by unfold isNm; rw [h0]; rfl
    have e2 : s = ⟨#[]⟩ := by
      obtain ⟨d⟩ := s
      have : d.size = 0 := h0
      rw [Array.eq_empty_of_size_eq_zero this]
    rw [e1, e2]
    go_enter Try.func35, Try.ntmps35
    go_wp2
    go_ret
    exact ⟨rfl, rfl⟩
  · have d1 : (ByteArray.toList s).isEmpty = false := by
      rw [ByteArray.toList_eq]
      cases hq : s.data.toList with
      | nil =>
        have : s.data.toList.length = s.size := Array.length_toList
        rw [hq] at this
        simp at this
        omega
      | cons a b => rfl
    by_cases h32 : 32 < s.size
    · have e1 : isNm s = false := by unfold isNm; rw [decide_eq_false (show ¬ s.size ≤ 32 by omega)]; simp
      have d2 : decide ((32 : Int) < (s.size : Int)) = true := decide_eq_true (by omega)
      rw [e1]
      go_enter Try.func35, Try.ntmps35
      go_wp2
      go_ret
      exact ⟨rfl, rfl⟩
    · have d2 : decide ((32 : Int) < (s.size : Int)) = false := decide_eq_false (by omega)
      have hb := bs_get s 0 h0
      by_cases h36 : s[0] = 36
      · have e1 : isNm s = false := by
          unfold isNm
          rw [List.head?_eq_getElem?, hb, h36]
          simp
        rw [e1]
        have d3 : ((s[0].toNat : Int) == 36) = true := by rw [h36]; rfl
        go_enter Try.func35, Try.ntmps35
        go_wp2
        go_ret
        exact ⟨rfl, rfl⟩
      · have d3 : ((s[0].toNat : Int) == 36) = false := beq_eq_false_iff_ne.2 (fun e => h36 (UInt8.toNat_inj.1 (show s[0].toNat = 36 by omega)))
        have e1 : isNm s = s.data.toList.all okB := by
          unfold isNm
          rw [List.head?_eq_getElem?, hb, decide_eq_true h0, decide_eq_true (show s.size ≤ 32 by omega)]
          simp [h36]
        rw [e1]
        obtain ⟨R, hR⟩ : ∃ R, R = s.data.toList.all okB := ⟨_, rfl⟩
        rw [← hR]
        have HRR := Lib.hid hR
        clear e1 hb hR
        have hsl : s.data.toList.length = s.size := Array.length_toList
        go_enter Try.func35, Try.ntmps35
        go_wp2
        have HH := Lib.hid (And.intro h36 hsl)
        clear d1 d2 d3 h36 hsl
        go_loop [18] (fun i => ∃ k : Nat, k ≤ s.size ∧ i = .int .i64 k ∧ Hid ((s.data.toList.take k).all okB = true)) (fun i => s.size - (intOf i).toNat)
        case atStart => exact ⟨0, Nat.zero_le _, rfl, Lib.hid rfl⟩
        case round =>
          obtain ⟨k, hk, rfl, HA⟩ := hrel
          by_cases hlt : k < s.size
          · have hg := bs_get s k hlt
            have HG := Lib.hid hg
            have HT := Lib.hid (show s.data.toList.take (k + 1) = s.data.toList.take k ++ [s[k]] from take_snoc s k hlt)
            have HB := Lib.hid (fun hb : okB s[k] = false => (show s.data.toList.all okB = false by
              rw [List.all_eq_false]
              exact ⟨s[k], List.mem_of_getElem? hg, by rw [hb]; decide⟩))
            clear hg HG
            generalize hc : s[k] = c at *
            have hcl := c.toNat_lt
            by_cases q1 : c.toNat < 33
            · have hb := HB.out (by unfold okB; simp [q1])
              have HR := Lib.hid hb
              clear hb HB HT
              have e1 : decide ((c.toNat : Int) < 33) = true := decide_eq_true (by omega)
              go_wp2
              go_ret
              exact ⟨by rw [HRR.out, HR.out]; rfl, rfl⟩
            · have e1 : decide ((c.toNat : Int) < 33) = false := decide_eq_false (by omega)
              by_cases q2 : 126 < c.toNat
              · have hb := HB.out (by unfold okB; simp [q2])
                have HR := Lib.hid hb
                clear hb HB HT
                have e2 : decide (126 < (c.toNat : Int)) = true := decide_eq_true (by omega)
                go_wp2
                go_ret
                exact ⟨by rw [HRR.out, HR.out]; rfl, rfl⟩
              · have e2 : decide (126 < (c.toNat : Int)) = false := decide_eq_false (by omega)
                by_cases q3 : c.toNat = 46
                · have hb := HB.out (by unfold okB; simp [q3])
                  have HR := Lib.hid hb
                  clear hb HB HT
                  have e3 : ((c.toNat : Int) == 46) = true := by rw [q3]; rfl
                  go_wp2
                  go_ret
                  exact ⟨by rw [HRR.out, HR.out]; rfl, rfl⟩
                · have e3 : ((c.toNat : Int) == 46) = false := beq_eq_false_iff_ne.2 (by omega)
                  have hb : okB c = true := by unfold okB; simp [q3]; omega
                  have HR := Lib.hid (show (s.data.toList.take (k + 1)).all okB = true by rw [HT.out, List.all_append, HA.out]; simp [hb])
                  clear hb HB HT
                  go_wp2
                  go_round
                  case rel => exact ⟨k + 1, by omega, by go_num, HR⟩
                  case measure => simp [intOf]; omega
          · have HR := Lib.hid (show s.data.toList.all okB = true by have := HA.out; rwa [List.take_of_length_le (by rw [HH.out.2]; omega)] at this)
            go_wp2
            go_ret
            exact ⟨by rw [HRR.out, HR.out]; rfl, rfl⟩
theorem inRange_any (s : Int) (w : World) :
    Calls Try.prog 25 #[.int .i64 s] w fun e w' => e = .returned (.bool (decide (0 ≤ s) && decide (s ≤ 1099511627776))) ∧ w' = w := by
  by_cases h0 : 0 ≤ s
  · by_cases h1 : s ≤ 1099511627776
    · rw [decide_eq_true h0, decide_eq_true h1]
      have d2 : decide (s ≤ 1099511627776) = true := decide_eq_true h1
      go_enter Try.func25, Try.ntmps25
      go_wp2
      go_ret
      exact ⟨rfl, rfl⟩
    · rw [decide_eq_true h0, decide_eq_false h1]
      have d2 : decide (s ≤ 1099511627776) = false := decide_eq_false h1
      go_enter Try.func25, Try.ntmps25
      go_wp2
      go_ret
      exact ⟨rfl, rfl⟩
  · rw [decide_eq_false h0]
    have d1 : decide (0 ≤ s) = false := decide_eq_false h0
    go_enter Try.func25, Try.ntmps25
    go_wp2
    go_ret
    exact ⟨rfl, rfl⟩
end Go.Proofs.Ytpcjmceakelilaa
/- Engine: an engine in memory: its tables by name, and their stores. -/
namespace Go.Proofs.Ytpcjmceakelilaa
open Go.ChangeShapes Go.WideShapes Go.ChangeAt Go.RowKit Go.Deep Go.ChangeMaps Go.Shelf
set_option linter.unusedVariables false
set_option linter.unusedSimpArgs false
/-- a table: its name, its store (the store's block, its map's block, its entries, the map's clock), its stamp in the map of tables -/
structure Tb where
  key : Bs
  S : Nat
  m : Nat
  E : List En
  clock : Nat
  born : Nat
def Tb.en (t : Tb) : En := ⟨t.key, [], .pointer (some ⟨t.S, 0, none⟩), t.born⟩
def ens (T : List Tb) : List En := T.map Tb.en
def tbOf (T : List Tb) (k : Bs) : Option Tb := T.find? fun t => decide (k = t.key)
def tbP (o : Option Tb) : Value := match o with
  | some t => .pointer (some ⟨t.S, 0, none⟩)
  | none => .pointer none
theorem fnd_ens (k : Bs) : ∀ (T : List Tb) (i : Nat), (fnd k (ens T) i).map (·.2) = (tbOf T k).map Tb.en
  | [], _ => rfl
  | t :: T, i => by
    show (fnd k (t.en :: ens T) i).map (·.2) = ((t :: T).find? fun t => decide (k = t.key)).map Tb.en
    unfold fnd
    rw [List.find?_cons]
    by_cases h : k = t.key
    · rw [if_pos (show k = t.en.key from h), decide_eq_true h]; rfl
    · rw [if_neg (show ¬ k = t.en.key from h), decide_eq_false h]; exact fnd_ens k T (i + 1)
theorem lkE_ens (T : List Tb) (k : Bs) : lkE (ens T) k = (tbOf T k).map Tb.en := fnd_ens k T 0
theorem tbOf_mem {T : List Tb} {k : Bs} {t : Tb} (h : tbOf T k = some t) : t ∈ T ∧ t.key = k :=
  ⟨List.mem_of_find?_eq_some h, (of_decide_eq_true (List.find?_some (p := fun t : Tb => decide (k = t.key)) h)).symm⟩
theorem tbOf_none {T : List Tb} {k : Bs} (h : tbOf T k = none) : ∀ t ∈ T, t.key ≠ k := fun t ht e => by
  have := List.find?_eq_none.1 h t ht
  simp [e] at this
theorem tbOf_of {T : List Tb} (hn : (T.map (·.key)).Nodup) {t : Tb} (ht : t ∈ T) : tbOf T t.key = some t := by
  cases h : tbOf T t.key with
  | none => exact absurd rfl (tbOf_none h t ht)
  | some u =>
    obtain ⟨h1, h2⟩ := tbOf_mem h
    rw [nodup_inj hn h1 ht h2]
theorem zero_st (W : World) : (zeroValue 65).run Try.prog W = .ok (.pointer none) W := by kernel_rfl
theorem run_lookT {W : World} {m clock : Nat} {T : List Tb} (h : MapAt W m (ens T) clock) (k : Bs) :
    (Instr.lookup 48 (.map (some m)) (.string k) false).run Try.prog W = .ok (tbP (tbOf T k)) W := by
  have h1 := findNow_E k (ens T) 0
  rw [← esOf_list] at h1
  have h2 := fnd_ens k T 0
  simp only [Instr.lookup, Sem.run_bind, run_underlying Try.underlying48, MapKept.run_getObj_map h, Result.andThen, Sem.run_pure]
  rw [MapKept.run_checkKey (d := .string) Try.underlying9 (isKeyS k)]
  simp only [Result.andThen, Sem.run_bind]
  rw [MapKept.run_findKey (d := .string) Try.underlying9 h1]
  cases hf : fnd k (ens T) 0 with
  | none =>
    rw [hf] at h2
    cases ht : tbOf T k with
    | none => simp [Result.andThen, zero_st, tbP]
    | some t => rw [ht] at h2; cases h2
  | some p =>
    rw [hf] at h2
    cases ht : tbOf T k with
    | none => rw [ht] at h2; cases h2
    | some t =>
      rw [ht] at h2
      have e : p.2 = t.en := by simpa using h2
      simp [Result.andThen, tbP, e, Tb.en]
theorem run_newT {W : World} {m clock : Nat} {T : List Tb} (h : MapAt W m (ens T) clock) (t : Tb) (hn : tbOf T t.key = none) (hb : t.born = clock) :
    (Instr.mapUpdate 48 (.map (some m)) (.string t.key) (.pointer (some ⟨t.S, 0, none⟩))).run Try.prog W = .ok () (setBlock W m (.map (esOf (ens (T ++ [t]))) (clock + 1))) := by
  have h1 := findNow_E t.key (ens T) 0
  rw [← esOf_list] at h1
  have h2 := fnd_ens t.key T 0
  rw [hn] at h2
  have hf : fnd t.key (ens T) 0 = none := by
    cases hf : fnd t.key (ens T) 0 with
    | none => rfl
    | some p => rw [hf] at h2; cases h2
  rw [hf] at h1
  have e : (esOf (ens T)).push ⟨.string t.key, .pointer (some ⟨t.S, 0, none⟩), clock⟩ = esOf (ens (T ++ [t])) := by
    apply Array.toList_inj.1
    rw [Array.toList_push, esOf_list, esOf_list]
    unfold ens
    rw [List.map_append, List.map_append]
    simp [Tb.en, En.entry, hb]
  simp [Instr.mapUpdate, run_underlying Try.underlying48, MapKept.run_getObj_map h, MapKept.run_checkKey (d := .string) Try.underlying9 (isKeyS t.key), MapKept.run_findKey (d := .string) Try.underlying9 h1, MapKept.run_setObj_map _ h, Result.andThen, setBlock, e]
/-- the engine at b: its map in block mt, the tables T; nothing of it lies below B -/
structure Egs (B : Nat) (W : World) (b mt : Nat) (T : List Tb) (tc : Nat) (st : Int) (dk : Bs) (sy : Int) : Prop where
  box : Box W b [.map (some mt), .int .i64 st, .string dk, .int .i64 sy]
  map : MapAt W mt (ens T) tc
  ok : EnOK (ens T) tc
  sto : ∀ t ∈ T, Sto B W t.S t.m t.E t.clock
  apart : T.Pairwise fun a c => ∀ k, Foot a.S a.m a.E k → ¬ Foot c.S c.m c.E k
  off : ∀ t ∈ T, ∀ k, Foot t.S t.m t.E k → k ≠ b ∧ k ≠ mt
  mb : mt ≠ b
  bb : B ≤ b
  bm : B ≤ mt
/-- the blocks of an engine -/
def FootE (b mt : Nat) (T : List Tb) (k : Nat) : Prop := k = b ∨ k = mt ∨ ∃ t ∈ T, Foot t.S t.m t.E k
section
variable {B b mt tc : Nat} {W W' : World} {T : List Tb} {st sy : Int} {dk : Bs}
theorem Egs.foot (h : Egs B W b mt T tc st dk sy) {k : Nat} (hk : FootE b mt T k) : B ≤ k ∧ k < W.heap.size := by
  rcases hk with rfl | rfl | ⟨t, ht, hk⟩
  · exact ⟨h.bb, h.box.lt⟩
  · exact ⟨h.bm, h.map.lt⟩
  · exact (h.sto t ht).foot hk
theorem Egs.kept {F : Nat → Prop} (h : Egs B W b mt T tc st dk sy) (hk : Kept F W W') (hF : ∀ k, FootE b mt T k → ¬ F k) : Egs B W' b mt T tc st dk sy :=
  ⟨h.box.kept' hk (hF b (.inl rfl)), h.map.kept hk (hF mt (.inr (.inl rfl))), h.ok, fun t ht => (h.sto t ht).kept hk (fun k hk2 => hF k (.inr (.inr ⟨t, ht, hk2⟩))), h.apart, h.off, h.mb, h.bb, h.bm⟩
theorem Egs.below (h : Egs B W b mt T tc st dk sy) (hb : Below W.heap.size W W') : Egs B W' b mt T tc st dk sy := h.kept (kept_below hb) (fun _ _ h => h)
theorem Egs.drew (h : Egs B W b mt T tc st dk sy) : Egs B W.drew b mt T tc st dk sy := h.below ⟨rfl, rfl, rfl, Nat.le_refl _, fun _ _ => rfl⟩
theorem Egs.drewN (h : Egs B W b mt T tc st dk sy) (q : Nat) : Egs B (W.drewN q) b mt T tc st dk sy := h.below ⟨rfl, rfl, rfl, Nat.le_refl _, fun _ _ => rfl⟩
theorem Egs.base {B' : Nat} (h : Egs B' W b mt T tc st dk sy) (hb : B ≤ B') : Egs B W b mt T tc st dk sy :=
  ⟨h.box, h.map, h.ok, fun t ht => (h.sto t ht).base hb, h.apart, h.off, h.mb, Nat.le_trans hb h.bb, Nat.le_trans hb h.bm⟩
theorem Egs.c0 (h : Egs B W b mt T tc st dk sy) : W.cell? ⟨b, 0, none⟩ = some (.map (some mt)) := h.box.cell 0 _ rfl
theorem Egs.c1 (h : Egs B W b mt T tc st dk sy) : W.cell? ⟨b, 1, none⟩ = some (.int .i64 st) := h.box.cell 1 _ rfl
theorem Egs.c2 (h : Egs B W b mt T tc st dk sy) : W.cell? ⟨b, 2, none⟩ = some (.string dk) := h.box.cell 2 _ rfl
theorem Egs.c3 (h : Egs B W b mt T tc st dk sy) : W.cell? ⟨b, 3, none⟩ = some (.int .i64 sy) := h.box.cell 3 _ rfl
theorem ens_keys (T : List Tb) : (ens T).map (·.key) = T.map (·.key) := by unfold ens; rw [List.map_map]; rfl
theorem Egs.keys (h : Egs B W b mt T tc st dk sy) : (T.map (·.key)).Nodup := by have := h.ok.keys; rwa [ens_keys] at this
/-- the box alone is another one -/
theorem Egs.rebox {st' sy' : Int} {dk' : Bs} (h : Egs B W b mt T tc st dk sy) (ho : Only W W' b) (hb : Box W' b [.map (some mt), .int .i64 st', .string dk', .int .i64 sy']) : Egs B W' b mt T tc st' dk' sy' := by
  have hk : Kept (fun k => k = b) W W' := ⟨(ho.below b (Nat.le_refl _)).os, (ho.below b (Nat.le_refl _)).tape, (ho.below b (Nat.le_refl _)).output, (ho.below b (Nat.le_refl _)).size, fun k _ hk => ho.heap k hk⟩
  exact ⟨hb, h.map.kept hk (fun e => h.mb e), h.ok, fun t ht => (h.sto t ht).kept hk (fun k hk2 e => (h.off t ht k hk2).1 e), h.apart, h.off, h.mb, h.bb, h.bm⟩
theorem Egs.setStamp (h : Egs B W b mt T tc st dk sy) (st' : Int) : Egs B (W.setCell ⟨b, 1, none⟩ (.int .i64 st')) b mt T tc st' dk sy := h.rebox (Only.setCell W b 1 _) (h.box.setCell 1 (.int .i64 st') (by simp))
theorem Egs.setDisk (h : Egs B W b mt T tc st dk sy) (dk' : Bs) : Egs B (W.setCell ⟨b, 2, none⟩ (.string dk')) b mt T tc st dk' sy := h.rebox (Only.setCell W b 2 _) (h.box.setCell 2 (.string dk') (by simp))
theorem Egs.setSync (h : Egs B W b mt T tc st dk sy) (sy' : Int) : Egs B (W.setCell ⟨b, 3, none⟩ (.int .i64 sy')) b mt T tc st dk sy' := h.rebox (Only.setCell W b 3 _) (h.box.setCell 3 (.int .i64 sy') (by simp))
theorem Egs.fr (h : Egs B W b mt T tc st dk sy) (j : Nat) : W.frozen? ⟨b, j, none⟩ = false := h.box.free j
end
/-- a table's store is another one -/
def updT (T : List Tb) (k : Bs) (E : List En) (c : Nat) : List Tb := T.map fun t => if t.key = k then { t with E := E, clock := c } else t
theorem updT_ens (T : List Tb) (k : Bs) (E : List En) (c : Nat) : ens (updT T k E c) = ens T := by
  unfold ens updT
  rw [List.map_map]
  refine List.map_congr_left fun t _ => ?_
  show Tb.en (if t.key = k then _ else t) = t.en
  split <;> rfl
theorem updT_mem {T : List Tb} {k : Bs} {E : List En} {c : Nat} {x : Tb} (h : x ∈ updT T k E c) : (x ∈ T ∧ x.key ≠ k) ∨ ∃ t ∈ T, t.key = k ∧ x = { t with E := E, clock := c } := by
  obtain ⟨t, ht, rfl⟩ := List.mem_map.1 h
  by_cases hk : t.key = k
  · rw [if_pos hk]; exact .inr ⟨t, ht, hk, rfl⟩
  · rw [if_neg hk]; exact .inl ⟨ht, hk⟩
/-- what a call that changes an engine leaves -/
structure ETurn (B b : Nat) (F : Nat → Prop) (W W' : World) (mt : Nat) (T : List Tb) (tc : Nat) (st : Int) (dk : Bs) (sy : Int) : Prop where
  egs : Egs B W' b mt T tc st dk sy
  foot : ∀ k, FootE b mt T k → F k ∨ W.heap.size ≤ k
  kept : Kept F W W'
theorem ETurn.trans {B b mt mt' tc tc' : Nat} {F : Nat → Prop} {W W' W'' : World} {T T' : List Tb} {st st' sy sy' : Int} {dk dk' : Bs} (h : ETurn B b F W W' mt T tc st dk sy) (g : ETurn B b (FootE b mt T) W' W'' mt' T' tc' st' dk' sy') : ETurn B b F W W'' mt' T' tc' st' dk' sy' :=
  ⟨g.egs, fun k hk => (g.foot k hk).elim (fun h1 => h.foot k h1) (fun h1 => .inr (Nat.le_trans h.kept.size h1)), h.kept.trans g.kept (fun k hk => h.foot k hk)⟩
theorem ETurn.same {B b mt tc : Nat} {W W' : World} {T : List Tb} {st sy : Int} {dk : Bs} (h : Egs B W b mt T tc st dk sy) (hb : Below W.heap.size W W') : ETurn B b (FootE b mt T) W W' mt T tc st dk sy :=
  ⟨h.below hb, fun k hk => .inl hk, ⟨hb.os, hb.tape, hb.output, hb.size, fun k hk _ => hb.block k hk⟩⟩
theorem ETurn.low {B b mt tc : Nat} {F : Nat → Prop} {W W' : World} {T : List Tb} {st sy : Int} {dk : Bs} (h : ETurn B b F W W' mt T tc st dk sy) (hB : B ≤ W.heap.size) (hF : ∀ k, F k → B ≤ k) : Below B W W' := h.kept.below hB hF
section
variable {B b mt tc : Nat} {W W' : World} {T : List Tb} {st sy : Int} {dk : Bs}
theorem Egs.ne_foot (h : Egs B W b mt T tc st dk sy) {x y : Tb} (hx : x ∈ T) (hy : y ∈ T) (hne : x.key ≠ y.key) : ∀ k, Foot x.S x.m x.E k → ¬ Foot y.S y.m y.E k := by
  obtain ⟨i, hi, rfl⟩ := List.mem_iff_getElem.1 hx
  obtain ⟨l, hl, rfl⟩ := List.mem_iff_getElem.1 hy
  have hp := List.pairwise_iff_getElem.1 h.apart
  intro j h1 h2
  rcases Nat.lt_trichotomy i l with h3 | h3 | h3
  · exact hp i l hi hl h3 j h1 h2
  · subst h3; exact hne rfl
  · exact hp l i hl hi h3 j h2 h1
/-- the store of a table has been changed -/
theorem Egs.turn (h : Egs B W b mt T tc st dk sy) {t : Tb} (ht : t ∈ T) {E' : List En} {c' : Nat} (hT : Turned B t.S t.m t.E W W' E' c') : ETurn B b (FootE b mt T) W W' mt (updT T t.key E' c') tc st dk sy := by
  obtain ⟨h1, h2, h3⟩ := hT
  have hsub : ∀ k, Foot t.S t.m t.E k → FootE b mt T k := fun k hk => .inr (.inr ⟨t, ht, hk⟩)
  have hfoot : ∀ x ∈ updT T t.key E' c', (x ∈ T ∧ x.key ≠ t.key) ∨ (x.S = t.S ∧ x.m = t.m ∧ x.E = E' ∧ x.clock = c' ∧ x.key = t.key) := fun x hx => by
    rcases updT_mem hx with hx | ⟨u, hu, hk, rfl⟩
    · exact .inl hx
    · have : u = t := nodup_inj h.keys hu ht hk
      subst this
      exact .inr ⟨rfl, rfl, rfl, rfl, rfl⟩
  refine ⟨⟨h.box.kept' h3 (fun hk => (h.off t ht b hk).1 rfl), ?_, by rw [updT_ens]; exact h.ok, fun x hx => ?_, ?_, fun x hx k hk => ?_, h.mb, h.bb, h.bm⟩, fun k hk => ?_, ⟨h3.os, h3.tape, h3.output, h3.size, fun k hk hs => h3.block k hk (fun hf => hs (hsub k hf))⟩⟩
  · rw [updT_ens]; exact h.map.kept h3 (fun hk => (h.off t ht mt hk).2 rfl)
  · rcases hfoot x hx with ⟨hx, hne⟩ | ⟨e1, e2, e3, e4, e5⟩
    · exact (h.sto x hx).kept h3 (fun k hk hk2 => h.ne_foot hx ht hne k hk hk2)
    · rw [e1, e2, e3, e4]; exact h1
  · have hkk : T.Pairwise fun a b => a.key ≠ b.key := by
      have := h.keys
      unfold List.Nodup at this
      rwa [List.pairwise_map] at this
    unfold updT
    refine List.pairwise_map.2 ((h.apart.and (hkk.and (List.pairwise_of_forall_mem_list (l := T) (r := fun a b => a ∈ T ∧ b ∈ T) (fun a ha b hb => ⟨ha, hb⟩)))).imp ?_)
    rintro a c ⟨hac, hne2, haT, hcT⟩ k hk hk2
    by_cases hak : a.key = t.key
    · have e : a = t := nodup_inj h.keys haT ht hak
      subst e
      rw [if_pos rfl] at hk
      rw [if_neg (fun e => hne2 e.symm)] at hk2
      rcases h2 k hk with h4 | h4
      · exact hac k h4 hk2
      · have := ((h.sto c hcT).foot hk2).2; omega
    · rw [if_neg hak] at hk
      by_cases hck : c.key = t.key
      · have e : c = t := nodup_inj h.keys hcT ht hck
        subst e
        rw [if_pos rfl] at hk2
        rcases h2 k hk2 with h4 | h4
        · exact hac k hk h4
        · have := ((h.sto a haT).foot hk).2; omega
      · rw [if_neg hck] at hk2; exact hac k hk hk2
  · rcases hfoot x hx with ⟨hx, hne⟩ | ⟨e1, e2, e3, e4, e5⟩
    · exact h.off x hx k hk
    · rw [e1, e2, e3] at hk
      rcases h2 k hk with h4 | h4
      · exact h.off t ht k h4
      · exact ⟨fun e => by have := h.box.lt; omega, fun e => by have := h.map.lt; omega⟩
  · rcases hk with hk | hk | ⟨x, hx, hk⟩
    · exact .inl (.inl hk)
    · exact .inl (.inr (.inl hk))
    · rcases hfoot x hx with ⟨hx, hne⟩ | ⟨e1, e2, e3, e4, e5⟩
      · exact .inl (.inr (.inr ⟨x, hx, hk⟩))
      · rw [e1, e2, e3] at hk
        exact (h2 k hk).imp (hsub k) id
/-- a table is added, with a store of its own -/
theorem Egs.add (h : Egs B W b mt T tc st dk sy) {t : Tb} (hn : tbOf T t.key = none) (hb : t.born = tc) {W1 : World} (hw : Below W.heap.size W W1) (hs : Sto W.heap.size W1 t.S t.m t.E t.clock) (hB : B ≤ W.heap.size) :
    ETurn B b (FootE b mt T) W (setBlock W1 mt (.map (esOf (ens (T ++ [t]))) (tc + 1))) mt (T ++ [t]) (tc + 1) st dk sy := by
  have h1 := h.below hw
  have hks : Kept (fun k => k = mt) W1 (setBlock W1 mt (.map (esOf (ens (T ++ [t]))) (tc + 1))) := setBlock_kept (Kept.refl _ W1) mt _ (.inl rfl)
  have hnew : ∀ k, Foot t.S t.m t.E k → W.heap.size ≤ k := fun k hk => (hs.foot hk).1
  have hno := tbOf_none hn
  have hmlt := h.map.lt
  have hblt := h.box.lt
  refine ⟨⟨h1.box.kept' hks (fun e => h.mb e.symm), setBlock_at h1.map, ?_, fun x hx => ?_, ?_, fun x hx k hk => ?_, h.mb, h.bb, h.bm⟩, fun k hk => ?_, ?_⟩
  · have e : ens (T ++ [t]) = ens T ++ [t.en] := by simp [ens]
    rw [e]
    refine ⟨?_, ?_, fun x hx => ?_⟩
    · rw [List.map_append, List.nodup_append]
      refine ⟨h.ok.keys, by simp, fun a ha c hc => ?_⟩
      rw [ens_keys] at ha
      obtain ⟨u, hu, rfl⟩ := List.mem_map.1 ha
      have hc' : c = t.key := by simpa [Tb.en] using hc
      rw [hc']
      exact hno u hu
    · rw [List.map_append, List.nodup_append]
      refine ⟨h.ok.borns, by simp, fun a ha c hc => ?_⟩
      obtain ⟨u, hu, rfl⟩ := List.mem_map.1 ha
      have hc' : c = tc := by simpa [Tb.en, hb] using hc
      have := h.ok.lt u hu
      omega
    · rcases List.mem_append.1 hx with hx | hx
      · have := h.ok.lt x hx; omega
      · rw [List.mem_singleton.1 hx]; show t.born < tc + 1; omega
  · rcases List.mem_append.1 hx with hx | hx
    · exact (h1.sto x hx).kept hks (fun k hk => (h.off x hx k hk).2)
    · rw [List.mem_singleton.1 hx]
      exact (hs.kept hks (fun k hk e => by have := hnew k hk; omega)).base hB
  · rw [List.pairwise_append]
    refine ⟨h.apart, List.pairwise_singleton _ _, fun a ha c hc k hk hk2 => ?_⟩
    rw [List.mem_singleton.1 hc] at hk2
    have := hnew k hk2
    have := ((h.sto a ha).foot hk).2
    omega
  · rcases List.mem_append.1 hx with hx | hx
    · exact h.off x hx k hk
    · rw [List.mem_singleton.1 hx] at hk
      have := hnew k hk
      exact ⟨by omega, by omega⟩
  · rcases hk with hk | hk | ⟨x, hx, hk⟩
    · exact .inl (.inl hk)
    · exact .inl (.inr (.inl hk))
    · rcases List.mem_append.1 hx with hx | hx
      · exact .inl (.inr (.inr ⟨x, hx, hk⟩))
      · rw [List.mem_singleton.1 hx] at hk; exact .inr (hnew k hk)
  · have h2 : Kept (FootE b mt T) W W1 := ⟨hw.os, hw.tape, hw.output, hw.size, fun k hk _ => hw.block k hk⟩
    exact h2.trans hks (fun k hk => .inl (.inr (.inl hk)))
end
/-- what the tables hold -/
def cont (T : List Tb) (tb : Bs) : Bs → List Ver := match tbOf T tb with
  | some t => lkL t.E
  | none => fun _ => []
theorem tbOf_upd (T : List Tb) (k : Bs) (E : List En) (c : Nat) (tb : Bs) : tbOf (updT T k E c) tb = (tbOf T tb).map fun t => if t.key = k then { t with E := E, clock := c } else t := by
  unfold tbOf updT
  rw [List.find?_map]
  congr 1
  refine congrArg (fun p => T.find? p) (funext fun t => ?_)
  show decide (tb = (if t.key = k then { t with E := E, clock := c } else t : Tb).key) = decide (tb = t.key)
  split <;> rfl
theorem cont_upd {T : List Tb} {k : Bs} {t : Tb} (ht : tbOf T k = some t) (E : List En) (c : Nat) : cont (updT T k E c) = fun tb => if tb = k then lkL E else cont T tb := by
  funext tb
  unfold cont
  rw [tbOf_upd]
  by_cases h : tb = k
  · subst h
    rw [ht]
    simp [(tbOf_mem ht).2]
  · rw [if_neg h]
    cases hu : tbOf T tb with
    | none => rfl
    | some u =>
      have : u.key ≠ k := by rw [(tbOf_mem hu).2]; exact h
      simp [this]
theorem cont_add {T : List Tb} {t : Tb} (hn : tbOf T t.key = none) : cont (T ++ [t]) = fun tb => if tb = t.key then lkL t.E else cont T tb := by
  funext tb
  unfold cont tbOf
  rw [List.find?_append]
  by_cases h : tb = t.key
  · subst h
    have : T.find? (fun u => decide (t.key = u.key)) = none := hn
    rw [this]
    simp
  · rw [if_neg h]
    cases hu : T.find? (fun t => decide (tb = t.key)) with
    | none => simp [h]
    | some u => rfl
end Go.Proofs.Ytpcjmceakelilaa
