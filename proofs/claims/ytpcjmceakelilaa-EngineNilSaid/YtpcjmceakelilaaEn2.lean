/- Engine: crc.Sum, crc.Seal, wal.Frame, wal.Append. -/
import Derived.Test.YtpcjmceakelilaaEn1
import Derived.OpenShut
import Derived.Laws.BitsAllLaws
import Derived.Laws.BytesArg
import Derived.Deep.RegionWith
import Derived.Lib.IndexBytes
import Derived.RegionTactic
namespace Crc

/-- one shift of the register -/
def stp (r : Nat) : Nat := if r % 2 = 1 then (r / 2) ^^^ 2197175160 else r / 2
def stpN : Nat → Nat → Nat
  | 0, r => r
  | k + 1, r => stp (stpN k r)
def byteStep (r : Nat) (b : UInt8) : Nat := stpN 8 (r ^^^ b.toNat)
def reg (l : List UInt8) : Nat := l.foldl byteStep 4294967295
def sum (l : List UInt8) : Nat := reg l ^^^ 4294967295

theorem stp_lt {r : Nat} (h : r < 4294967296) : stp r < 4294967296 := by
  unfold stp
  split
  · exact Nat.xor_lt_two_pow (n := 32) (by omega) (by omega)
  · omega
theorem stpN_lt {r : Nat} (k : Nat) (h : r < 4294967296) : stpN k r < 4294967296 := by
  induction k with
  | zero => exact h
  | succ k ih => exact stp_lt ih
theorem byteStep_lt {r : Nat} (b : UInt8) (h : r < 4294967296) : byteStep r b < 4294967296 := by
  unfold byteStep
  refine stpN_lt 8 (Nat.xor_lt_two_pow (n := 32) h ?_)
  have := b.toNat_lt; omega
theorem foldl_lt (l : List UInt8) {r : Nat} (h : r < 4294967296) : l.foldl byteStep r < 4294967296 := by
  induction l generalizing r with
  | nil => exact h
  | cons b l ih => exact ih (byteStep_lt b h)
theorem reg_lt (l : List UInt8) : reg l < 4294967296 := foldl_lt l (by omega)
theorem sum_lt (l : List UInt8) : sum l < 4294967296 := Nat.xor_lt_two_pow (n := 32) (reg_lt l) (by omega)
theorem reg_snoc (l : List UInt8) (b : UInt8) : reg (l ++ [b]) = byteStep (reg l) b := by
  simp [reg, List.foldl_append]
theorem byteStep_lt' (l : List UInt8) (b : UInt8) (k : Nat) : stpN k (reg l ^^^ b.toNat) < 4294967296 := by
  refine stpN_lt k (Nat.xor_lt_two_pow (n := 32) (reg_lt l) ?_)
  have := b.toNat_lt; omega
/-- the four bytes of a checksum, least significant byte first -/
def tail (l : List UInt8) : List UInt8 := [UInt8.ofNat (sum l), UInt8.ofNat (sum l / 256), UInt8.ofNat (sum l / 65536), UInt8.ofNat (sum l / 16777216)]
def seal4 (l : List UInt8) : List UInt8 := l ++ tail l
/-- what a sealed string holds, and the number of the error -/
def openS (l : List UInt8) : List UInt8 := if l.length < 4 then [] else if tail (l.take (l.length - 4)) = l.drop (l.length - 4) then l.take (l.length - 4) else []
def openE (l : List UInt8) : Int := if l.length < 4 then 5 else if tail (l.take (l.length - 4)) = l.drop (l.length - 4) then 0 else 7

theorem tail_length (l : List UInt8) : (tail l).length = 4 := rfl
theorem seal4_length (l : List UInt8) : (seal4 l).length = l.length + 4 := by simp [seal4, tail_length]
/-- a number as four bytes, least significant first -/
def le4 (n : Nat) : List UInt8 := [UInt8.ofNat n, UInt8.ofNat (n / 256), UInt8.ofNat (n / 65536), UInt8.ofNat (n / 16777216)]
def frame (d : List UInt8) : List UInt8 := le4 d.length ++ seal4 d
theorem frame_length (d : List UInt8) : (frame d).length = d.length + 8 := by simp [frame, le4, seal4_length]
end Crc
namespace Go.Proofs.Ytpcjmceakelilaa
open Go.ChangeShapes Go.WideShapes Go.ChangeAt Go.RowKit
set_option linter.unusedVariables false
set_option linter.unusedSimpArgs false
theorem xor_byte (n : Nat) (b : UInt8) (h : n < 4294967296) : bits .xor .u32 (n : Int) ((b.toNat : Int) % 4294967296) = ((n ^^^ b.toNat : Nat) : Int) := by
  have hb := b.toNat_lt
  have e : ((b.toNat : Int) % 4294967296) = (b.toNat : Int) := by omega
  rw [e, u32_xor_nat _ _ h (by omega)]
theorem and_one (n : Nat) (h : n < 4294967296) : bits .and .u32 (n : Int) 1 = ((n % 2 : Nat) : Int) := by
  rw [show (1 : Int) = ((1 : Nat) : Int) from rfl, u32_and_nat _ _ h (by omega), Nat.and_one_is_mod]
theorem xor_poly (n : Nat) (h : n < 4294967296) : bits .xor .u32 ((n : Int) / 2) 2197175160 = (((n / 2) ^^^ 2197175160 : Nat) : Int) := by
  rw [show (2197175160 : Int) = ((2197175160 : Nat) : Int) from rfl, show ((n : Int) / 2) = ((n / 2 : Nat) : Int) from by omega, u32_xor_nat _ _ (by omega) (by omega)]
theorem xor_all (n : Nat) (h : n < 4294967296) : bits .xor .u32 IntKind.u32.max (n : Int) = ((n ^^^ 4294967295 : Nat) : Int) := by
  rw [show IntKind.u32.max = ((4294967295 : Nat) : Int) from rfl, u32_xor_nat _ _ (by omega) h, Nat.xor_comm]
theorem take_snoc (s : ByteArray) (k : Nat) (h : k < s.size) : s.data.toList.take (k + 1) = s.data.toList.take k ++ [s[k]] := by
  rw [List.take_succ_eq_append_getElem (by simpa using h)]; rfl

set_option maxHeartbeats 400000 in
theorem sum_any (s : ByteArray) (w : World) (hs : s.size ≤ maxLen) :
    Calls Try.prog 87 #[.string s] w fun e w' => e = .returned (.int .u32 (Crc.sum s.data.toList)) ∧ w = w' := by
  unfold maxLen at hs
  go_enter Try.func87, Try.ntmps87
  go_wp2
  go_loop [3, 8] (fun r i => ∃ k : Nat, k ≤ s.size ∧ i = .int .i64 k ∧ r = .int .u32 (Crc.reg (s.data.toList.take k))) (fun _ i => s.size - (intOf i).toNat)
  case atStart => exact ⟨0, Nat.zero_le _, rfl, rfl⟩
  case round =>
    obtain ⟨k, hk, rfl, rfl⟩ := hrel
    by_cases hlt : k < s.size
    · have hx := xor_byte (Crc.reg (s.data.toList.take k)) s[k] (Crc.reg_lt _)
      go_wp2
      clear hx
      go_loop [3, 17] (fun r i => ∃ j : Nat, j ≤ 8 ∧ i = .int .i64 j ∧ r = .int .u32 (Crc.stpN j (Crc.reg (s.data.toList.take k) ^^^ s[k].toNat))) (fun _ i => 8 - (intOf i).toNat)
      case atStart => exact ⟨0, Nat.zero_le _, rfl, rfl⟩
      case round =>
        obtain ⟨j, hj, rfl, rfl⟩ := hrel
        have hr := Crc.byteStep_lt' (s.data.toList.take k) s[k] j
        by_cases hjl : j < 8
        · generalize hn : Crc.stpN j (Crc.reg (s.data.toList.take k) ^^^ s[k].toNat) = n at *
          have hn2 : Crc.stpN (j + 1) (Crc.reg (s.data.toList.take k) ^^^ s[k].toNat) = Crc.stp n := by rw [← hn]; rfl
          have Hn := Lib.hid hn2
          clear hn hn2
          have ha := and_one n hr
          by_cases hp : n % 2 = 1
          · have hp2 : ((↑(n % 2) : Int) == 1) = true := by rw [hp]; rfl
            have hx := xor_poly n hr
            go_wp2
            clear hp2 ha hx
            go_round
            case rel => exact ⟨j + 1, by omega, by go_num, by rw [Hn.out, Crc.stp, if_pos hp]⟩
            case measure => simp [intOf]; omega
          · have hp2 : ((↑(n % 2) : Int) == 1) = false := by rw [beq_eq_false_iff_ne]; omega
            go_wp2
            clear hp2 ha
            go_round
            case rel => exact ⟨j + 1, by omega, by go_num, by rw [Hn.out, Crc.stp, if_neg hp]; go_num⟩
            case measure => simp [intOf]; omega
        · have : j = 8 := by omega
          subst this
          go_wp2
          go_round
          case rel => exact ⟨k + 1, by omega, by go_num, by rw [take_snoc s k hlt, Crc.reg_snoc]; rfl⟩
          case measure => simp [intOf]; omega
    · have hx := xor_all (Crc.reg (s.data.toList.take k)) (Crc.reg_lt _)
      go_wp2
      go_ret
      refine ⟨?_, rfl⟩
      rw [List.take_of_length_le (by simp; omega)]; rfl

theorem tail_nums (l : List UInt8) (h : Crc.sum l < 4294967296) :
    strOfNums [(Crc.sum l : Int) % 256, (Crc.sum l : Int) / 256 % 256, (Crc.sum l : Int) / 65536 % 256, (Crc.sum l : Int) / 16777216] = ⟨(Crc.tail l).toArray⟩ := by
  unfold strOfNums Crc.tail
  generalize Crc.sum l = n at *
  have e1 : ((n : Int) % 256).toNat = n % 256 := by omega
  have e2 : ((n : Int) / 256 % 256).toNat = n / 256 % 256 := by omega
  have e3 : ((n : Int) / 65536 % 256).toNat = n / 65536 % 256 := by omega
  have e4 : ((n : Int) / 16777216).toNat = n / 16777216 := by omega
  have m (k : Nat) : UInt8.ofNat (k % 256) = UInt8.ofNat k := by
    apply UInt8.toNat_inj.1; simp
  simp only [List.map_cons, List.map_nil, e1, e2, e3, e4, m]

theorem conv4 (w : World) (a b c d : Int) :
    (convert 97 9 (.slice (some ⟨w.heap.size, 0, none⟩) 4 4)).run Try.prog (w.alloc (.cells #[.int .u8 a, .int .u8 b, .int .u8 c, .int .u8 d] 5)) = .ok (.string (strOfNums [a, b, c, d])) (w.alloc (.cells #[.int .u8 a, .int .u8 b, .int .u8 c, .int .u8 d] 5)) := by
  refine run_convert_bytes_arg _ 97 5 (by kernel_rfl) (by kernel_rfl) w.heap.size 0 4 4 [a, b, c, d] rfl ?_ 9 (by kernel_rfl)
  intro i hi
  match i, hi with
  | 0, _ => simp [go_sem]
  | 1, _ => simp [go_sem]
  | 2, _ => simp [go_sem]
  | 3, _ => simp [go_sem]

set_option maxHeartbeats 400000 in
theorem tail_any (s : ByteArray) (w : World) (hs : s.size ≤ maxLen) :
    Calls Try.prog 78 #[.string s] w fun e w' => e = .returned (.string ⟨(Crc.tail s.data.toList).toArray⟩) ∧ Below w.heap.size w w' := by
  have hl := Crc.sum_lt s.data.toList
  have hcv := conv4 w
  go_enter Try.func78, Try.ntmps78
  go_wp2_with (go_at_call 87; refine (sum_any _ _ hs).mono ?_; rintro e w' ⟨rfl, rfl⟩)
  go_ret
  refine ⟨?_, (Below.refl _ _).alloc (Nat.le_refl _) _⟩
  exact congrArg (fun b => Ending.returned (.string b)) (tail_nums _ hl)
theorem tail_size (l : List UInt8) : (⟨(Crc.tail l).toArray⟩ : ByteArray).size = 4 := rfl
theorem append_str (s : ByteArray) (l : List UInt8) : s ++ (⟨l.toArray⟩ : ByteArray) = ⟨(s.data.toList ++ l).toArray⟩ := by
  apply ByteArray.ext
  simp
set_option maxHeartbeats 400000 in
theorem seal_any (s : ByteArray) (w : World) (hs : s.size ≤ 1000000000) :
    Calls Try.prog 64 #[.string s] w fun e w' => e = .returned (.string ⟨(Crc.seal4 s.data.toList).toArray⟩) ∧ Below w.heap.size w w' := by
  have ht := tail_size s.data.toList
  have hm : s.size ≤ maxLen := by unfold maxLen; omega
  go_enter Try.func64, Try.ntmps64
  go_wp2_with (go_at_call 78; refine (tail_any _ _ hm).mono ?_; rintro e w' ⟨rfl, hb⟩)
  go_ret
  refine ⟨?_, hb⟩
  exact congrArg (fun b => Ending.returned (.string b)) (append_str s _)

theorem size_list (s : ByteArray) : s.data.toList.length = s.size := Array.length_toList
theorem two_res (b : ByteArray) (n : Int) (c : ByteArray) (m : Int) (h : b = c) (k : n = m) : Ending.returned (.tuple #[.string b, .int .i64 n]) = .returned (.tuple #[.string c, .int .i64 m]) := by rw [h, k]

theorem le4_nums (n : Nat) (h : n ≤ 65536) :
    strOfNums [(n : Int) % 256, (n : Int) / 256 % 256, (n : Int) / 65536 % 256, (n : Int) / 16777216 % 256] = ⟨(Crc.le4 n).toArray⟩ := by
  unfold strOfNums Crc.le4
  have e1 : ((n : Int) % 256).toNat = n % 256 := by omega
  have e2 : ((n : Int) / 256 % 256).toNat = n / 256 % 256 := by omega
  have e3 : ((n : Int) / 65536 % 256).toNat = n / 65536 % 256 := by omega
  have e4 : ((n : Int) / 16777216 % 256).toNat = n / 16777216 % 256 := by omega
  have m (k : Nat) : UInt8.ofNat (k % 256) = UInt8.ofNat k := by
    apply UInt8.toNat_inj.1; simp
  simp only [List.map_cons, List.map_nil, e1, e2, e3, e4, m]
/-- four cells as a string, in whatever world -/
theorem conv4_at (W : World) (B cap : Nat) (a b c d : Int) (h0 : W.cell? ⟨B, 0, none⟩ = some (.int .u8 a)) (h1 : W.cell? ⟨B, 1, none⟩ = some (.int .u8 b)) (h2 : W.cell? ⟨B, 2, none⟩ = some (.int .u8 c)) (h3 : W.cell? ⟨B, 3, none⟩ = some (.int .u8 d)) :
    (convert 97 9 (.slice (some ⟨B, 0, none⟩) 4 cap)).run Try.prog W = .ok (.string (strOfNums [a, b, c, d])) W := by
  refine run_convert_bytes_arg _ 97 5 (by kernel_rfl) (by kernel_rfl) B 0 4 cap [a, b, c, d] rfl ?_ 9 (by kernel_rfl)
  intro i hi
  match i, hi with
  | 0, _ => simpa using h0
  | 1, _ => simpa using h1
  | 2, _ => simpa using h2
  | 3, _ => simpa using h3

theorem four_cells (w : World) (a b c d : Int) (T : TypeId) :
    (w.alloc (.cells #[.int .u8 a, .int .u8 b, .int .u8 c, .int .u8 d] T)).cell? ⟨w.heap.size, 0, none⟩ = some (.int .u8 a) ∧
    (w.alloc (.cells #[.int .u8 a, .int .u8 b, .int .u8 c, .int .u8 d] T)).cell? ⟨w.heap.size, 1, none⟩ = some (.int .u8 b) ∧
    (w.alloc (.cells #[.int .u8 a, .int .u8 b, .int .u8 c, .int .u8 d] T)).cell? ⟨w.heap.size, 2, none⟩ = some (.int .u8 c) ∧
    (w.alloc (.cells #[.int .u8 a, .int .u8 b, .int .u8 c, .int .u8 d] T)).cell? ⟨w.heap.size, 3, none⟩ = some (.int .u8 d) ∧
    Below w.heap.size w (w.alloc (.cells #[.int .u8 a, .int .u8 b, .int .u8 c, .int .u8 d] T)) ∧
    (w.alloc (.cells #[.int .u8 a, .int .u8 b, .int .u8 c, .int .u8 d] T)).heap.size = w.heap.size + 1 := by
  refine ⟨by simp [go_sem], by simp [go_sem], by simp [go_sem], by simp [go_sem], (Below.refl _ _).alloc (Nat.le_refl _) _, by simp⟩
theorem frame_str (s : ByteArray) (hs : s.size ≤ 65536) : strOfNums [(s.size : Int) % 256, (s.size : Int) / 256 % 256, (s.size : Int) / 65536, (s.size : Int) / 16777216] ++ (⟨(Crc.seal4 s.data.toList).toArray⟩ : ByteArray) = ⟨(Crc.frame s.data.toList).toArray⟩ := by
  have e3 : (s.size : Int) / 65536 % 256 = (s.size : Int) / 65536 := by omega
  have e4 : (s.size : Int) / 16777216 % 256 = (s.size : Int) / 16777216 := by omega
  have h := le4_nums s.size hs
  rw [e3, e4] at h
  rw [h, append_str]
  unfold Crc.frame
  rw [size_list]

set_option maxRecDepth 100000 in
set_option maxHeartbeats 400000 in
theorem frame_any (s : ByteArray) (w : World) (hs : s.size ≤ 65536) :
    Calls Try.prog 52 #[.string s] w fun e w' => e = .returned (.tuple #[.string ⟨(Crc.frame s.data.toList).toArray⟩, .int .i64 0]) ∧ Below w.heap.size w w' := by
  go_enter Try.func52, Try.ntmps52
  go_wp2
  have hx := Lib.hid (four_cells w (s.size % 256) (s.size / 256 % 256) (s.size / 65536) (s.size / 16777216) 113)
  generalize w.alloc _ = Wx at hx ⊢
  obtain ⟨hc0, hc1, hc2, hc3, hbx, hsx⟩ := hx.out
  have hcv := conv4_at Wx.drew w.heap.size 4 _ _ _ _ hc0 hc1 hc2 hc3
  have HC := Lib.hid (And.intro hc0 (And.intro hc1 (And.intro hc2 hc3)))
  have HSX := Lib.hid hsx
  have hz4 : ∀ a b c d : Int, (strOfNums [a, b, c, d]).size = 4 := fun _ _ _ _ => rfl
  have hzs : (⟨(Crc.seal4 s.data.toList).toArray⟩ : ByteArray).size = s.size + 4 := by show (Crc.seal4 s.data.toList).length = _; rw [Crc.seal4_length, size_list]
  clear hc0 hc1 hc2 hc3 hsx hx
  go_region_with (go_at_call 64; refine (seal_any _ _ (by omega)).mono ?_; rintro e w' ⟨rfl, hb⟩; have hcv' := conv4_at w' w.heap.size 4 _ _ _ _ ((hb.cell (p := ⟨w.heap.size, 0, none⟩) (by show _ < Wx.heap.size; rw [HSX.out]; exact Nat.lt_succ_self _)).trans HC.out.1) ((hb.cell (p := ⟨w.heap.size, 1, none⟩) (by show _ < Wx.heap.size; rw [HSX.out]; exact Nat.lt_succ_self _)).trans HC.out.2.1) ((hb.cell (p := ⟨w.heap.size, 2, none⟩) (by show _ < Wx.heap.size; rw [HSX.out]; exact Nat.lt_succ_self _)).trans HC.out.2.2.1) ((hb.cell (p := ⟨w.heap.size, 3, none⟩) (by show _ < Wx.heap.size; rw [HSX.out]; exact Nat.lt_succ_self _)).trans HC.out.2.2.2))
  all_goals go_wp2
  all_goals go_ret2
  all_goals refine ⟨two_res _ _ _ _ ?_ rfl, hbx.trans (((Below.refl _ _).drew.trans hb).mono hbx.size)⟩
  all_goals exact frame_str s hs
/-- what Frame makes, under a name of its own -/
def framed (s : ByteArray) : ByteArray := ⟨(Crc.frame s.data.toList).toArray⟩
theorem framed_size (s : ByteArray) : (framed s).size = s.size + 8 := by show (Crc.frame s.data.toList).length = _; rw [Crc.frame_length, size_list]
theorem frame_call (s : ByteArray) (w : World) (hs : s.size ≤ 65536) :
    Calls Try.prog 52 #[.string s] w fun e w' => e = .returned (.tuple #[.string (framed s), .int .i64 0]) ∧ Below w.heap.size w w' := frame_any s w hs
theorem add_mk (a s : ByteArray) : a ++ framed s = ⟨(a.data.toList ++ Crc.frame s.data.toList).toArray⟩ := append_str a _

set_option maxRecDepth 100000 in
theorem frame_long (s : ByteArray) (w : World) (hs : 65536 < s.size) (hs2 : s.size ≤ 1000000000) :
    Calls Try.prog 52 #[.string s] w fun e w' => e = .returned (.tuple #[.string ⟨#[]⟩, .int .i64 2]) ∧ w = w' := by
  have h1 : decide ((65536 : Int) < (s.size : Int)) = true := by simp; omega
  go_enter Try.func52, Try.ntmps52
  go_wp2
  go_ret2
  exact ⟨rfl, rfl⟩
/-- a log with one more record -/
theorem wapp_ok (a s : ByteArray) (w : World) (hs : s.size ≤ 65536) (ha : a.size + s.size + 8 ≤ 16777216) :
    Calls Try.prog 37 #[.string a, .string s] w fun e w' => e = .returned (.tuple #[.string (a ++ framed s), .int .i64 0]) ∧ Below w.heap.size w w' := by
  have hf := framed_size s
  have hn1 : decide ((16777216 : Int) < (a.size : Int) + ((s.size : Int) + 8)) = false := by simp; omega
  have hn2 : (a.size : Int) + ((s.size : Int) + 8) ≤ 16777216 := by omega
  go_enter Try.func37, Try.ntmps37
  go_wp2_with fail
  refine (frame_call _ _ (by omega)).mono ?_
  rintro e w1 ⟨rfl, hb⟩
  go_wp2_with fail
  go_ret2
  exact ⟨rfl, hb⟩
theorem wapp_full (a s : ByteArray) (w : World) (hs : s.size ≤ 65536) (ha : 16777216 < a.size + s.size + 8) (ha2 : a.size ≤ 1000000000) :
    Calls Try.prog 37 #[.string a, .string s] w fun e w' => e = .returned (.tuple #[.string ⟨#[]⟩, .int .i64 2]) ∧ Below w.heap.size w w' := by
  have hf := framed_size s
  have hn1 : decide ((16777216 : Int) < (a.size : Int) + ((s.size : Int) + 8)) = true := by simp; omega
  have hn2 : (16777216 : Int) < (a.size : Int) + ((s.size : Int) + 8) := by omega
  go_enter Try.func37, Try.ntmps37
  go_wp2_with fail
  refine (frame_call _ _ (by omega)).mono ?_
  rintro e w1 ⟨rfl, hb⟩
  go_wp2_with fail
  go_ret2
  exact ⟨rfl, hb⟩
theorem wapp_long (a s : ByteArray) (w : World) (hs : 65536 < s.size) (hs2 : s.size ≤ 1000000000) :
    Calls Try.prog 37 #[.string a, .string s] w fun e w' => e = .returned (.tuple #[.string ⟨#[]⟩, .int .i64 2]) ∧ Below w.heap.size w w' := by
  go_enter Try.func37, Try.ntmps37
  go_wp2_with fail
  refine (frame_long _ _ hs hs2).mono ?_
  rintro e w1 ⟨rfl, rfl⟩
  go_wp2_with fail
  go_ret2
  exact ⟨rfl, Below.refl _ _⟩
/-- wal.Append: the log with one more record, or an error -/
theorem wapp_any (a s : ByteArray) (w : World) (ha2 : a.size ≤ 1000000000) (hs2 : s.size ≤ 1000000000) :
    Calls Try.prog 37 #[.string a, .string s] w fun e w' => (e = .returned (.tuple #[.string (a ++ framed s), .int .i64 0]) ∧ s.size ≤ 65536 ∧ a.size + s.size + 8 ≤ 16777216 ∨ e = .returned (.tuple #[.string ⟨#[]⟩, .int .i64 2]) ∧ ¬ (s.size ≤ 65536 ∧ a.size + s.size + 8 ≤ 16777216)) ∧ Below w.heap.size w w' := by
  by_cases h : s.size ≤ 65536
  · by_cases h2 : a.size + s.size + 8 ≤ 16777216
    · refine (wapp_ok a s w h h2).mono ?_
      rintro e w1 ⟨rfl, hb⟩
      exact ⟨Or.inl ⟨rfl, h, h2⟩, hb⟩
    · refine (wapp_full a s w h (by omega) ha2).mono ?_
      rintro e w1 ⟨rfl, hb⟩
      exact ⟨Or.inr ⟨rfl, fun h3 => h2 h3.2⟩, hb⟩
  · refine (wapp_long a s w (by omega) hs2).mono ?_
    rintro e w1 ⟨rfl, hb⟩
    exact ⟨Or.inr ⟨rfl, fun h3 => h h3.1⟩, hb⟩
end Go.Proofs.Ytpcjmceakelilaa
