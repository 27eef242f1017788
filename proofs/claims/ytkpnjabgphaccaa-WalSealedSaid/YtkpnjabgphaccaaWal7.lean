/- The walk of the law WalSealed. -/
import Derived.Test.YtkpnjabgphaccaaWal5
import Derived.StillTailTactics
import Derived.Deep.RegionHeld3
import Derived.IntWalk
namespace Go.Proofs.Ytkpnjabgphaccaa
open Go.ChangeShapes Go.WideShapes Go.ChangeAt Go.RowKit
set_option linter.unusedVariables false

theorem sealed_out (a : ByteArray) (ha : a.size ≤ maxLen) (w : World) (h : 5000 < a.size) :
    Calls Try.prog 8 #[.string a] w fun e w' => e = .returned (.bool true) ∧ Below w.heap.size w w' := by
  unfold maxLen at ha
  go_enter Try.func8, Try.ntmps8
  go_wp2_with fail
  refine (awake_any _).mono ?_
  rintro e w1 ⟨rfl, hb⟩
  go_wp2_with fail
  go_ret
  exact ⟨rfl, hb⟩
def sealedS (s : ByteArray) : ByteArray := ⟨(Crc.seal4 s.data.toList).toArray⟩
theorem rseal_call (s : ByteArray) (w : World) (hs : s.size ≤ 1000000000) :
    Calls Try.prog 20 #[.string s] w fun e w' => e = .returned (.string (sealedS s)) ∧ Below w.heap.size w w' := rseal_any s w hs
theorem framed_list (s : ByteArray) : (framed s).data.toList = Crc.le4 s.size ++ Crc.seal4 s.data.toList := by
  show Crc.frame s.data.toList = _
  unfold Crc.frame; rw [size_list]
theorem framed_rest (s : ByteArray) : (framed s).extract 4 (s.size + 8) = sealedS s := by
  rw [← framed_size]
  apply ByteArray.ext
  apply Array.ext'
  rw [Lib.extract_to_end, framed_list]
  rfl
theorem framed_get (s : ByteArray) (j : Nat) (h : j < (framed s).size) (hj : j < 4) : (framed s)[j] = (Crc.le4 s.size)[j]'(by simpa [Crc.le4] using hj) := by
  have e : (framed s)[j] = (framed s).data.toList[j]'(by simpa using h) := rfl
  rw [e]
  simp only [framed_list]
  rw [List.getElem_append_left]

theorem framed_nums (a : ByteArray) (h : a.size ≤ 5000) : ∃ x0 x1 : Nat, (∀ h, ((framed a)[0]'h).toNat = x0) ∧ (∀ h, ((framed a)[1]'h).toNat = x1) ∧ (∀ h, ((framed a)[2]'h).toNat = 0) ∧ (∀ h, ((framed a)[3]'h).toNat = 0) ∧ x0 < 256 ∧ x1 < 256 ∧ a.size = x0 + 256 * x1 := by
  refine ⟨a.size % 256, a.size / 256 % 256, fun h' => ?_, fun h' => ?_, fun h' => ?_, fun h' => ?_, by omega, by omega, by omega⟩
  · rw [framed_get a 0 h' (by omega)]; simp [Crc.le4]
  · rw [framed_get a 1 h' (by omega)]; simp [Crc.le4]
  · rw [framed_get a 2 h' (by omega)]; simp [Crc.le4]; omega
  · rw [framed_get a 3 h' (by omega)]; simp [Crc.le4]; omega

set_option maxRecDepth 100000 in
set_option maxHeartbeats 400000 in
theorem sealed_law (a : ByteArray) (ha : a.size ≤ maxLen) (w : World) :
    Calls Try.prog 8 #[.string a] w fun e w' => e = .returned (.bool true) ∧ Below w.heap.size w w' := by
  by_cases h : 5000 < a.size
  · exact sealed_out a ha w h
  · have h1 : a.size ≤ 5000 := by omega
    clear h ha
    have hf := framed_size a
    have hx := framed_rest a
    go_enter Try.func8, Try.ntmps8
    go_wp2_with fail
    refine (frame_call _ _ (by omega)).mono ?_
    rintro e w1 ⟨rfl, hb1⟩
    have hw8 : IntKind.i64.wrap ((a.size : Int) + 8) = (a.size : Int) + 8 := IntWalk.i64_in _ (by omega)
    have j1 : (4 : Int) ≤ (a.size : Int) + 8 := by omega
    go_wp2_with fail
    go_region_held3 (fun _ => True) (exact trivial) (first | (go_at_call 20; refine (rseal_call _ _ (by omega)).mono ?_; rintro e w2 ⟨rfl, hb2⟩))
    all_goals go_wp2_with fail
    clear hx hw8 j1
    obtain ⟨x0, x1, g0, g1, g2, g3, l0, l1, hsum⟩ := framed_nums a h1
    have i0 : (0 : Int) < (a.size : Int) + 8 := by omega
    have i1 : (1 : Int) < (a.size : Int) + 8 := by omega
    have i2 : (2 : Int) < (a.size : Int) + 8 := by omega
    have i3 : (3 : Int) < (a.size : Int) + 8 := by omega
    have k0 : IntKind.i64.wrap (x0 : Int) = (x0 : Int) := IntWalk.i64_in _ (by omega)
    have k1 : IntKind.i64.wrap (x1 : Int) = (x1 : Int) := IntWalk.i64_in _ (by omega)
    have k2 : IntKind.i64.wrap ((x1 : Int) * 256) = (x1 : Int) * 256 := IntWalk.i64_in _ (by omega)
    have k3 : IntKind.i64.wrap ((x0 : Int) + (x1 : Int) * 256) = (a.size : Int) := by rw [IntWalk.i64_in _ (by omega)]; omega
    have k4 : IntKind.i64.wrap 0 = 0 := rfl
    have k5 : IntKind.i64.wrap (a.size : Int) = (a.size : Int) := IntWalk.i64_in _ (by omega)
    have HS := Lib.hid hsum
    clear hsum
    refine wp_region_still_tail 22 (by kernel_rfl) (by kernel_rfl) ?_
    change wpStill _ _ w2.drew _ _ _
    simp only [List.take_succ_cons, List.take_zero, List.drop_succ_cons, List.drop_zero]
    repeat still_step
    refine wpStill_nil ?_
    change wpList _ _ _ _ _ w2.drew
    generalize hwr : w2.drew = w3
    have hb4 : Below w.heap.size w w3 := by rw [← hwr]; exact (hb1.trans (((Below.refl _ _).drew.trans hb2).mono hb1.size)).drew
    have hs4 : w.heap.size ≤ w3.heap.size := hb4.size
    clear hwr k0 k1 k2 k3 k4 k5
    go_wp2_with fail
    refine (awake_any _).mono ?_
    rintro e w5 ⟨rfl, hb5⟩
    go_wp2_with fail
    go_ret
    exact ⟨rfl, hb4.trans (hb5.mono hs4)⟩
end Go.Proofs.Ytkpnjabgphaccaa
