/- Election: the example's candidate wins. -/
import Derived.Test.YtfpgklhbghahoaaEl5
namespace Go.Proofs.Ytfpgklhbghahoaa
open Go.ChangeShapes Go.WideShapes Go.ChangeAt Go.RowKit Go.Deep
set_option linter.unusedVariables false
set_option linter.unusedSimpArgs false
/-- a member's cells but for the two slices, which hold three zeros each -/
def WinOut (w : World) (e : Ending) (w' : World) : Prop := ∃ g h, e = .returned (mem 1 3 1 1 2 1 1 3 nil 0 (.slice (some ⟨g, 0, none⟩) 3 3) (.slice (some ⟨h, 0, none⟩) 3 3)) ∧ w'.rangeAt g 0 [.int .i64 0, .int .i64 0, .int .i64 0] ∧ w'.rangeAt h 0 [.int .i64 0, .int .i64 0, .int .i64 0] ∧ g < w'.heap.size ∧ h < w'.heap.size ∧ w.heap.size ≤ g ∧ w.heap.size ≤ h ∧ Below w.heap.size w w'
abbrev z3 : List Value := [.int .i64 0, .int .i64 0, .int .i64 0]
theorem make3 (w : World) : ∃ W1 : World, (Instr.makeSlice 23 (.int .i64 3) (.int .i64 3)).run Try.prog w = .ok (.slice (some ⟨w.heap.size, 0, none⟩) 3 3) W1 ∧ BoxN 3 W1 w.heap.size z3 ∧ Below w.heap.size w W1 := by
  obtain ⟨i0, hi, hz0, hz1, hz2⟩ := info_parts info3
  have hr := run_make (P := Try.prog) w 23 3 i0 (.int .i64 0) (by kernel_rfl) hi hz0 .i64 .i64 3 3 (by omega) (by omega) (by rw [hz2]; decide) (by omega)
  have hmc : madeCells (Value.int .i64 0).cells 3 = z3.toArray := Array.ext' (toList_madeCells_one _ _)
  simp only [hz1] at hr
  refine ⟨_, hr, ?_, (Below.refl _ _).alloc (Nat.le_refl _) _⟩
  have h := BoxN.new w z3 3 23 rfl
  refine ⟨⟨fun j v hv => ?_, fun o => by simp [go_sem], by simp⟩, rfl⟩
  have hmc' := hmc
  simp only [Value.cells] at hmc'
  rw [Nat.zero_add, World.cell?_alloc_new]
  first | (rw [hmc]; simpa using hv) | (simp [hmc, hmc']; simpa using hv)
theorem wpList_val {P : Program} {ops : Array Oper} {rest : List Oper} {o : Oper} {a : Act} {w w' : World} {Q : Exit → Act → World → Prop} {v : Value} (hg : o.guard = none)
    (hr : (execOp a.eval o).run P w = .ok (.value v) w') (h : wpList P ops Q rest (a.put o.dst v) w') : wpList P ops Q (o :: rest) a w :=
  wpList_plain hg fun K hK => by
    unfold Oper.wp
    rw [hr]
    exact hK _ _ h
theorem wpList_make3 {ops : Array Oper} {rest : List Oper} {Q : Exit → Act → World → Prop} (x : Nat) (d : Option Nat) (pos : String) (af) (a : Act) (w : World) (hx : a.eval (.tmp x) = .int .i64 3)
    (h : ∀ w', BoxN 3 w' w.heap.size z3 → Below w.heap.size w w' → wpList Try.prog ops Q rest (a.put d (.slice (some ⟨w.heap.size, 0, none⟩) 3 3)) w') :
    wpList Try.prog ops Q ({ dst := d, op := Op.makeSlice 23 (Operand.tmp x) (Operand.tmp x), type := 23, pos := pos, after := af, guard := none } :: rest) a w := by
  obtain ⟨W1, hr, h1, h2⟩ := make3 w
  refine wpList_val rfl ?_ (h W1 h1 h2)
  simp [execOp, hx, hr]
/-- the member that won, and its two slices of zeros -/
def WW (w : World) (h : Nat) (W : World) : Prop := MM w (memL 1 3 1 1 2 1 1 3 nil 0 (.slice (some ⟨w.heap.size + 2, 0, none⟩) 3 3) (.slice (some ⟨h, 0, none⟩) 3 3)) zL W ∧ BoxN 3 W (w.heap.size + 2) z3 ∧ BoxN 3 W h z3 ∧ w.heap.size + 2 < h
theorem z3_set (j : Nat) (hj : j < 3) : z3.set j (.int .i64 0) = z3 := by
  have : j = 0 ∨ j = 1 ∨ j = 2 := by omega
  rcases this with rfl | rfl | rfl <;> rfl
theorem WW.next {w : World} {h : Nat} {W : World} (H : WW w h W) (j : Nat) (hj : j < 3) : WW w h (W.setCell ⟨w.heap.size + 2, j, none⟩ (.int .i64 0)) :=
  ⟨⟨H.1.1.setOther _ _ (by omega), H.1.2.1.setOther _ _ (by omega), H.1.2.2.setCell (show w.heap.size ≤ w.heap.size + 2 by omega) _⟩, by have := H.2.1.setCell j (.int .i64 0) hj; rwa [z3_set j hj] at this, H.2.2.1.setOther _ _ (by have := H.2.2.2; omega), H.2.2.2⟩
theorem WW.mat {w : World} {h : Nat} {W : World} (H : WW w h W) : WW w h (W.setCell ⟨h, 1, none⟩ (.int .i64 0)) :=
  ⟨⟨H.1.1.setOther _ _ (by have := H.2.2.2; omega), H.1.2.1.setOther _ _ (by have := H.2.2.2; omega), H.1.2.2.setCell (by have := H.2.2.2; show w.heap.size ≤ h; omega) _⟩, H.2.1.setOther _ _ (by have := H.2.2.2; omega), by have := H.2.2.1.setCell 1 (.int .i64 0) (by omega); rwa [z3_set 1 (by omega)] at this, H.2.2.2⟩
set_option maxRecDepth 100000 in
set_option maxHeartbeats 800000 in
theorem win_ex (w : World) : Calls Try.prog 43 #[mem 1 3 1 1 1 (-1) 13 3 nil 0 nil nil] w (WinOut w) := by
  go_enter Try.func43, Try.ntmps43
  go_wp2_with (with_reducible refine wpList_make3 10 _ _ _ _ _ ?_ ?_)
  · rfl
  rintro w1 hN hb1
  have HM0 := Lib.hid (MM.start w (memL 1 3 1 1 2 1 1 3 nil 0 nil nil) 25 rfl)
  have HM1 := Lib.hid (HM0.out.keep hb1)
  have hG : BoxN 3 w1 (w.heap.size + 2) z3 := by simpa using hN
  have lg := hG.1.lt
  have a1 := HM1.out.1.cell 1 _ rfl
  have a10 := HM1.out.1.cell 10 _ rfl
  have a11 := HM1.out.1.cell 11 _ rfl
  have f10 := HM1.out.1.1.free 10
  clear HM0 hN hb1
  go_wp2_with (with_reducible refine wpList_make3 14 _ _ _ _ _ ?_ ?_)
  · rfl
  rintro w2 hN2 hb2
  have HM2 := Lib.hid ((HM1.out.set 10 (.slice (some ⟨w.heap.size + 2, 0, none⟩) 3 3) (by omega)).keep hb2)
  have hG2 := (hG.setOther 10 (.slice (some ⟨w.heap.size + 2, 0, none⟩) 3 3) (by omega : w.heap.size + 2 ≠ w.heap.size)).keep hb2
  have hH2 : BoxN 3 w2 w1.heap.size z3 := by simpa using hN2
  clear HM1 hG a1 a10 a11 f10 hN2 hb2
  have b10 := HM2.out.1.cell 10 _ rfl
  have b11 := HM2.out.1.cell 11 _ rfl
  have f11 := HM2.out.1.1.free 11
  go_wp2_with fail
  refine wp_named (fun W => WW w w1.heap.size W) ⟨(HM2.out.set 11 (.slice (some ⟨w1.heap.size, 0, none⟩) 3 3) (by omega)), hG2.setOther 11 _ (by omega), hH2.setOther 11 _ (by omega), lg⟩ ?_
  clear HM2 hG2 hH2 b10 b11 f11
  rintro w3 hW3
  go_loopw [20] (fun t W => ∃ k : Nat, k ≤ 3 ∧ t = .int .i64 k ∧ WW w w1.heap.size W) (fun t _ => 3 - (intOf t).toNat)
  case atStart => exact ⟨0, by omega, rfl, hW3⟩
  case round =>
    clear hW3
    obtain ⟨k, hk, rfl, hW⟩ := hrel
    have HW := Lib.hid hW
    have a8 := hW.1.1.cell 8 _ rfl
    have a10 := hW.1.1.cell 10 _ rfl
    have a11 := hW.1.1.cell 11 _ rfl
    have a0 := hW.1.1.cell 0 _ rfl
    have g0 := hW.2.1.cell 0 _ rfl
    have g1 := hW.2.1.cell 1 _ rfl
    have g2 := hW.2.1.cell 2 _ rfl
    have p0 := hW.2.1.1.free 0
    have p1 := hW.2.1.1.free 1
    have p2 := hW.2.1.1.free 2
    have h0 := hW.2.2.1.cell 1 _ rfl
    have q1 := hW.2.2.1.1.free 1
    clear hW
    have hk4 : k = 0 ∨ k = 1 ∨ k = 2 ∨ k = 3 := by omega
    rcases hk4 with rfl | rfl | rfl | rfl
    · go_wp2_with fail
      exact ⟨⟨1, by omega, rfl, HW.out.next 0 (by omega)⟩, by decide⟩
    · go_wp2_with fail
      exact ⟨⟨2, by omega, rfl, HW.out.next 1 (by omega)⟩, by decide⟩
    · go_wp2_with fail
      exact ⟨⟨3, by omega, rfl, HW.out.next 2 (by omega)⟩, by decide⟩
    · have HE := Lib.hid HW.out.mat
      have hA := HE.out.1.1
      have hR := HE.out.1.2.1
      go_wp2_with (first
        | (with_reducible refine wpList_box_load 25 1 w.heap.size (memL 1 3 1 1 2 1 1 3 nil 0 (.slice (some ⟨w.heap.size + 2, 0, none⟩) 3 3) (.slice (some ⟨w1.heap.size, 0, none⟩) 3 3)) _ _ _ _ _ _ ?_ hA wideMem ?_)
        | (with_reducible refine wpList_box_store 25 2 (.tmp 39) (w.heap.size + 1) zL (memL 1 3 1 1 2 1 1 3 nil 0 (.slice (some ⟨w.heap.size + 2, 0, none⟩) 3 3) (.slice (some ⟨w1.heap.size, 0, none⟩) 3 3)) _ _ _ _ _ _ ?_ ?_ hR (memOk _ _ _ _ _ _ _ _ _ _ _ _ _ _ _ _ _ _) wideMem ?_))
      · rfl
      · rfl
      · rfl
      rintro w4 hB hO
      have r0 := hB.cell 0 _ rfl
      have r1 := hB.cell 1 _ rfl
      have r2 := hB.cell 2 _ rfl
      have r3 := hB.cell 3 _ rfl
      have r4 := hB.cell 4 _ rfl
      have r5 := hB.cell 5 _ rfl
      have r6 := hB.cell 6 _ rfl
      have r7 := hB.cell 7 _ rfl
      have r8 := hB.cell 8 _ rfl
      have r9 := hB.cell 9 _ rfl
      have r10 := hB.cell 10 _ rfl
      have r11 := hB.cell 11 _ rfl
      go_wp2_with fail
      have hN := HE.out.2.1.other hO (by omega)
      have hM := HE.out.2.2.1.other hO (by have := HE.out.2.2.2; omega)
      exact bodyPost_ret (v := mem 1 3 1 1 2 1 1 3 nil 0 (.slice (some ⟨w.heap.size + 2, 0, none⟩) 3 3) (.slice (some ⟨w1.heap.size, 0, none⟩) 3 3)) (by simp [results, Try.results43, go_sem, r0, r1, r2, r3, r4, r5, r6, r7, r8, r9, r10, r11]) rfl ⟨_, _, rfl, hN.1.rng, hM.1.rng, hN.1.lt, hM.1.lt, by omega, by have := HE.out.2.2.2; omega, HE.out.1.2.2.trans (hO.below _ (by omega))⟩
end Go.Proofs.Ytfpgklhbghahoaa
