/- The walks of the reference's Frame and Append, and of awake. -/
import Derived.Test.YtkpnjabgphaccaaWal4
namespace Go.Proofs.Ytkpnjabgphaccaa
open Go.ChangeShapes Go.WideShapes Go.ChangeAt Go.RowKit
set_option linter.unusedVariables false

set_option maxHeartbeats 400000 in
theorem rframe_any (s : ByteArray) (w : World) (hs : s.size ≤ 5000) :
    Calls Try.prog 11 #[.string s] w fun e w' => e = .returned (.tuple #[.string (framed s), .int .i64 0]) ∧ Below w.heap.size w w' := by
  go_enter Try.func11, Try.ntmps11
  go_wp2
  have hx := Lib.hid (four_cells w (s.size % 256) (s.size / 256 % 256) (s.size / 65536) 0 5)
  generalize w.alloc _ = Wx at hx ⊢
  obtain ⟨hc0, hc1, hc2, hc3, hbx, hsx⟩ := hx.out
  have hcv := conv4_at Wx.drew w.heap.size 4 _ _ _ _ hc0 hc1 hc2 hc3
  have HC := Lib.hid (And.intro hc0 (And.intro hc1 (And.intro hc2 hc3)))
  have HSX := Lib.hid hsx
  have hz4 : ∀ a b c d : Int, (strOfNums [a, b, c, d]).size = 4 := fun _ _ _ _ => rfl
  have hzs : (⟨(Crc.seal4 s.data.toList).toArray⟩ : ByteArray).size = s.size + 4 := by show (Crc.seal4 s.data.toList).length = _; rw [Crc.seal4_length, size_list]
  clear hc0 hc1 hc2 hc3 hsx hx
  go_region_with (go_at_call 20; refine (rseal_any _ _ (by omega)).mono ?_; rintro e w' ⟨rfl, hb⟩; have hcv' := conv4_at w' w.heap.size 4 _ _ _ _ ((hb.cell (p := ⟨w.heap.size, 0, none⟩) (by show _ < Wx.heap.size; rw [HSX.out]; exact Nat.lt_succ_self _)).trans HC.out.1) ((hb.cell (p := ⟨w.heap.size, 1, none⟩) (by show _ < Wx.heap.size; rw [HSX.out]; exact Nat.lt_succ_self _)).trans HC.out.2.1) ((hb.cell (p := ⟨w.heap.size, 2, none⟩) (by show _ < Wx.heap.size; rw [HSX.out]; exact Nat.lt_succ_self _)).trans HC.out.2.2.1) ((hb.cell (p := ⟨w.heap.size, 3, none⟩) (by show _ < Wx.heap.size; rw [HSX.out]; exact Nat.lt_succ_self _)).trans HC.out.2.2.2))
  all_goals go_wp2
  all_goals go_ret2
  all_goals refine ⟨two_res _ _ _ _ ?_ rfl, hbx.trans (((Below.refl _ _).drew.trans hb).mono hbx.size)⟩
  all_goals
    have e2 : (s.size : Int) / 16777216 = 0 := by omega
    have := frame_str s (by omega)
    rw [e2] at this
    exact this

set_option maxRecDepth 100000 in
set_option maxHeartbeats 400000 in
theorem rappend_any (a s : ByteArray) (w : World) (ha : a.size ≤ 1000000) (hs : s.size ≤ 5000) :
    Calls Try.prog 13 #[.string a, .string s] w fun e w' => e = .returned (.tuple #[.string ⟨(a.data.toList ++ Crc.frame s.data.toList).toArray⟩, .int .i64 0]) ∧ Below w.heap.size w w' := by
  have hf := framed_size s
  have hn1 : decide ((16777216 : Int) < (a.size : Int) + ((s.size : Int) + 8)) = false := by simp; omega
  have hn2 : (a.size : Int) + ((s.size : Int) + 8) ≤ 16777216 := by omega
  have hn3 : decide ((16777216 : Int) < (a.size : Int)) = false := by simp; omega
  have hn4 : (a.size : Int) ≤ 16777216 := by omega
  go_enter Try.func13, Try.ntmps13
  go_wp2_with fail
  refine (rframe_any _ _ (by omega)).mono ?_
  rintro e w1 ⟨rfl, hb⟩
  go_wp2_with fail
  go_ret2
  exact ⟨two_res _ _ _ _ (add_mk _ _) rfl, hb⟩

/-- the log of the one record with the one byte a, and one byte more -/
def s9 : ByteArray := ⟨(Crc.frame [97]).toArray⟩
def s10 : ByteArray := ⟨(Crc.frame [97] ++ [120]).toArray⟩
theorem s9_size : s9.size = 9 := by decide +kernel
theorem s10_size : s10.size ≤ 1000000 := by decide +kernel
theorem s10_is : s9 ++ (⟨#[120]⟩ : ByteArray) = s10 := append_str s9 [120]
theorem s10_read : Crc.read s10.data.toList = ([[97]], 9, 38) := by decide +kernel
theorem s10_take : (⟨(s10.data.toList.take 9).toArray⟩ : ByteArray) = s9 := by decide +kernel
theorem append_0a (w : World) : Calls Try.prog 12 #[.string ⟨#[]⟩, .string ⟨#[97]⟩] w fun e w' => e = .returned (.tuple #[.string s9, .int .i64 0]) ∧ Below w.heap.size w w' :=
  append_any ⟨#[]⟩ ⟨#[97]⟩ w (by decide) (by decide)
theorem StrsAt.one {w : World} {v : Value} {l : List UInt8} (h : StrsAt w v [l]) : ∃ B o cap, v = .slice (some ⟨B, o, none⟩) 1 cap ∧ w.cell? ⟨B, o, none⟩ = some (.string ⟨l.toArray⟩) ∧ B < w.heap.size := by
  rcases h with ⟨_, h⟩ | ⟨B, o, cap, h1, h2, h3⟩
  · cases h
  · exact ⟨B, o, cap, h1, h3 0 (by simp), h2⟩
theorem read_10 (w : World) : Calls Try.prog 14 #[.string s10] w fun e w' => ∃ B o cap, e = .returned (.tuple #[.slice (some ⟨B, o, none⟩) 1 cap, .int .i64 9, .int .i64 38]) ∧ w'.cell? ⟨B, o, none⟩ = some (.string ⟨#[97]⟩) ∧ B < w'.heap.size ∧ Below w.heap.size w w' :=
  (read_call s10 w s10_size).mono fun e w' ⟨v, h1, h2, h3⟩ => by
    rw [s10_read] at h1 h2
    obtain ⟨B, o, cap, rfl, hc, hB⟩ := h2.one
    exact ⟨B, o, cap, h1, hc, hB, h3⟩
theorem rec_10 (w : World) : Calls Try.prog 17 #[.string s10] w fun e w' => ∃ B o cap, e = .returned (.tuple #[.slice (some ⟨B, o, none⟩) 1 cap, .string s9]) ∧ Below w.heap.size w w' :=
  (recover_any s10 w s10_size (by rw [s10_read]; decide +kernel)).mono fun e w' ⟨v, h1, h2, h3⟩ => by
    rw [s10_read] at h1 h2
    obtain ⟨B, o, cap, rfl, hc, hB⟩ := h2.one
    rw [s10_take] at h1
    exact ⟨B, o, cap, h1, h3⟩

set_option maxRecDepth 100000 in
set_option maxHeartbeats 400000 in
theorem awake_any (w : World) :
    Calls Try.prog 9 #[] w fun e w' => e = .returned (.bool true) ∧ Below w.heap.size w w' := by
  have h9 := s9_size
  have h10 := s10_is
  go_enter Try.func9, Try.ntmps9
  go_wp2_with fail
  refine (append_0a _).mono ?_
  rintro e w1 ⟨rfl, hb1⟩
  go_wp2_with fail
  refine (read_10 _).mono ?_
  rintro e w2 ⟨B, o, cap, rfl, hc, hB, hb2⟩
  go_wp2_with fail
  refine (rec_10 _).mono ?_
  rintro e w3 ⟨B', o', cap', rfl, hb3⟩
  have hc3 : w3.cell? ⟨B, o, none⟩ = some (.string ⟨#[97]⟩) := by rw [hb3.cell (p := ⟨B, o, none⟩) hB]; exact hc
  go_wp2_with fail
  go_ret
  exact ⟨rfl, hb1.trans ((hb2.mono hb1.size).trans (hb3.mono (Nat.le_trans hb1.size hb2.size)))⟩
end Go.Proofs.Ytkpnjabgphaccaa
