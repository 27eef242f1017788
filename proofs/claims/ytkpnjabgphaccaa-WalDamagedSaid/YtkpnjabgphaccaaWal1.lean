/- The walks of wal.Frame, wal.Append and the reference's. -/
import Derived.Test.YtkpnjabgphaccaaWalks2
import Derived.Test.YtkpnjabgphaccaaPlain3
import Derived.Test.YtkpnjabgphaccaaBytes2
import Derived.RegionTactic
namespace Crc
/-- a number as four bytes, least significant first -/
def le4 (n : Nat) : List UInt8 := [UInt8.ofNat n, UInt8.ofNat (n / 256), UInt8.ofNat (n / 65536), UInt8.ofNat (n / 16777216)]
def frame (d : List UInt8) : List UInt8 := le4 d.length ++ seal4 d
theorem frame_length (d : List UInt8) : (frame d).length = d.length + 8 := by simp [frame, le4, seal4_length]
end Crc
namespace Go.Proofs.Ytkpnjabgphaccaa
open Go.ChangeShapes Go.WideShapes Go.ChangeAt Go.RowKit
set_option linter.unusedVariables false

theorem le4_nums (n : Nat) (h : n ≤ 65536) :
    strOfNums [(n : Int) % 256, (n : Int) / 256 % 256, (n : Int) / 65536 % 256, (n : Int) / 16777216 % 256] = ⟨(Crc.le4 n).toArray⟩ := by
  unfold strOfNums Crc.le4
  have e1 : ((n : Int) % 256).toNat = n % 256 := by omega
  have e2 : ((n : Int) / 256 % 256).toNat = n / 256 % 256 := by omega
  have e3 : ((n : Int) / 65536 % 256).toNat = n / 65536 % 256 := by omega
  have e4 : ((n : Int) / 16777216 % 256).toNat = n / 16777216 % 256 := by omega
  have m (k : Nat) : UInt8.ofNat (k % 256) = UInt8.ofNat k := by
    apply UInt8.toNat_inj.1; simp
  simp only [List.map_cons, List.map_nil, e1, e2, e3, e4, m]
/-- four cells as a string, in whatever world -/
theorem conv4_at (W : World) (B cap : Nat) (a b c d : Int) (h0 : W.cell? ⟨B, 0, none⟩ = some (.int .u8 a)) (h1 : W.cell? ⟨B, 1, none⟩ = some (.int .u8 b)) (h2 : W.cell? ⟨B, 2, none⟩ = some (.int .u8 c)) (h3 : W.cell? ⟨B, 3, none⟩ = some (.int .u8 d)) :
    (convert 43 9 (.slice (some ⟨B, 0, none⟩) 4 cap)).run Try.prog W = .ok (.string (strOfNums [a, b, c, d])) W := by
  refine run_convert_bytes_arg _ 43 5 (by kernel_rfl) (by kernel_rfl) B 0 4 cap [a, b, c, d] rfl ?_ 9 (by kernel_rfl)
  intro i hi
  match i, hi with
  | 0, _ => simpa using h0
  | 1, _ => simpa using h1
  | 2, _ => simpa using h2
  | 3, _ => simpa using h3

theorem four_cells (w : World) (a b c d : Int) (T : TypeId) :
    (w.alloc (.cells #[.int .u8 a, .int .u8 b, .int .u8 c, .int .u8 d] T)).cell? ⟨w.heap.size, 0, none⟩ = some (.int .u8 a) ∧
    (w.alloc (.cells #[.int .u8 a, .int .u8 b, .int .u8 c, .int .u8 d] T)).cell? ⟨w.heap.size, 1, none⟩ = some (.int .u8 b) ∧
    (w.alloc (.cells #[.int .u8 a, .int .u8 b, .int .u8 c, .int .u8 d] T)).cell? ⟨w.heap.size, 2, none⟩ = some (.int .u8 c) ∧
    (w.alloc (.cells #[.int .u8 a, .int .u8 b, .int .u8 c, .int .u8 d] T)).cell? ⟨w.heap.size, 3, none⟩ = some (.int .u8 d) ∧
    Below w.heap.size w (w.alloc (.cells #[.int .u8 a, .int .u8 b, .int .u8 c, .int .u8 d] T)) ∧
    (w.alloc (.cells #[.int .u8 a, .int .u8 b, .int .u8 c, .int .u8 d] T)).heap.size = w.heap.size + 1 := by
  refine ⟨by simp [go_sem], by simp [go_sem], by simp [go_sem], by simp [go_sem], (Below.refl _ _).alloc (Nat.le_refl _) _, by simp⟩
theorem frame_str (s : ByteArray) (hs : s.size ≤ 65536) : strOfNums [(s.size : Int) % 256, (s.size : Int) / 256 % 256, (s.size : Int) / 65536, (s.size : Int) / 16777216] ++ (⟨(Crc.seal4 s.data.toList).toArray⟩ : ByteArray) = ⟨(Crc.frame s.data.toList).toArray⟩ := by
  have e3 : (s.size : Int) / 65536 % 256 = (s.size : Int) / 65536 := by omega
  have e4 : (s.size : Int) / 16777216 % 256 = (s.size : Int) / 16777216 := by omega
  have h := le4_nums s.size hs
  rw [e3, e4] at h
  rw [h, append_str]
  unfold Crc.frame
  rw [size_list]

set_option maxHeartbeats 400000 in
theorem frame_any (s : ByteArray) (w : World) (hs : s.size ≤ 65536) :
    Calls Try.prog 10 #[.string s] w fun e w' => e = .returned (.tuple #[.string ⟨(Crc.frame s.data.toList).toArray⟩, .int .i64 0]) ∧ Below w.heap.size w w' := by
  go_enter Try.func10, Try.ntmps10
  go_wp2
  have hx := Lib.hid (four_cells w (s.size % 256) (s.size / 256 % 256) (s.size / 65536) (s.size / 16777216) 47)
  generalize w.alloc _ = Wx at hx ⊢
  obtain ⟨hc0, hc1, hc2, hc3, hbx, hsx⟩ := hx.out
  have hcv := conv4_at Wx.drew w.heap.size 4 _ _ _ _ hc0 hc1 hc2 hc3
  have HC := Lib.hid (And.intro hc0 (And.intro hc1 (And.intro hc2 hc3)))
  have HSX := Lib.hid hsx
  have hz4 : ∀ a b c d : Int, (strOfNums [a, b, c, d]).size = 4 := fun _ _ _ _ => rfl
  have hzs : (⟨(Crc.seal4 s.data.toList).toArray⟩ : ByteArray).size = s.size + 4 := by show (Crc.seal4 s.data.toList).length = _; rw [Crc.seal4_length, size_list]
  clear hc0 hc1 hc2 hc3 hsx hx
  go_region_with (go_at_call 21; refine (seal_any _ _ (by omega)).mono ?_; rintro e w' ⟨rfl, hb⟩; have hcv' := conv4_at w' w.heap.size 4 _ _ _ _ ((hb.cell (p := ⟨w.heap.size, 0, none⟩) (by show _ < Wx.heap.size; rw [HSX.out]; exact Nat.lt_succ_self _)).trans HC.out.1) ((hb.cell (p := ⟨w.heap.size, 1, none⟩) (by show _ < Wx.heap.size; rw [HSX.out]; exact Nat.lt_succ_self _)).trans HC.out.2.1) ((hb.cell (p := ⟨w.heap.size, 2, none⟩) (by show _ < Wx.heap.size; rw [HSX.out]; exact Nat.lt_succ_self _)).trans HC.out.2.2.1) ((hb.cell (p := ⟨w.heap.size, 3, none⟩) (by show _ < Wx.heap.size; rw [HSX.out]; exact Nat.lt_succ_self _)).trans HC.out.2.2.2))
  all_goals go_wp2
  all_goals go_ret2
  all_goals refine ⟨two_res _ _ _ _ ?_ rfl, hbx.trans (((Below.refl _ _).drew.trans hb).mono hbx.size)⟩
  all_goals exact frame_str s hs
end Go.Proofs.Ytkpnjabgphaccaa
