/- Election: the vote that the example's candidate is given. -/
import Derived.Test.YtfpgklhbghahoaaEl7a
namespace Go.Proofs.Ytfpgklhbghahoaa
open Go.ChangeShapes Go.WideShapes Go.ChangeAt Go.RowKit Go.Deep
set_option linter.unusedVariables false
set_option linter.unusedSimpArgs false
/-- a whole struct is loaded from its box, by an operation with a guard that holds -/
theorem wpList_box_load_g {P : Program} {ops : Array Oper} {rest : List Oper} {Q : Exit → Act → World → Prop} {n : Nat} (ty : TypeId) (x : Nat) (b : Nat) (cs : List Value) (d : Option Nat) (t : TypeId) (pos : String) (af) (g) (a : Act) (w : World)
    (hx : a.eval (.tmp x) = .pointer (some ⟨b, 0, none⟩)) (hB : BoxN n w b cs) (hT : Wide P ty n)
    (hg : Region.wanted { dst := d, op := Op.load ty (Operand.tmp x), type := t, pos := pos, after := af, guard := g } (yielded ops a.tmps) = true)
    (h : wpList P ops Q rest (a.put d (.agg cs.toArray)) w) :
    wpList P ops Q ({ dst := d, op := Op.load ty (Operand.tmp x), type := t, pos := pos, after := af, guard := g } :: rest) a w := by
  obtain ⟨h1, td, h2, h3⟩ := hT
  refine wpList_step fun K hK => ?_
  rw [if_pos hg]
  exact wp_load_mid ty (.tmp x) rfl b 0 hx cs td hB.1.rng h2 h3 (by rw [h1, hB.2]) (hK _ _ h)
theorem VV.drew {w : World} {cs ms rs : List Value} {W : World} (h : VV w cs ms rs W) : VV w cs ms rs W.drew := ⟨h.1.drew, h.2.1.drew, h.2.2.1.drew, h.2.2.2.drew⟩
theorem VV.drewN {w : World} {cs ms rs : List Value} {W : World} (h : VV w cs ms rs W) (n : Nat) : VV w cs ms rs (W.drewN n) := ⟨⟨h.1.1.drewN n, h.1.2⟩, ⟨h.2.1.1.drewN n, h.2.1.2⟩, ⟨h.2.2.1.1.drewN n, h.2.2.1.2⟩, ⟨h.2.2.2.os, h.2.2.2.tape, h.2.2.2.output, h.2.2.2.size, h.2.2.2.block⟩⟩
theorem rangeAt.other {W W' : World} {b c : Nat} {cs : List Value} (h : W.rangeAt b 0 cs) (ho : Only W W' c) (hne : b ≠ c) : W'.rangeAt b 0 cs := fun j v hv => (World.cell?_of_block (a := ⟨b, 0 + j, none⟩) (ho.heap b hne)).trans (h j v hv)
set_option maxRecDepth 100000 in
set_option maxHeartbeats 2000000 in
theorem voted_ex (w : World) : Calls Try.prog 22 #[mem 1 3 1 1 1 (-1) 13 2 nil 0 nil nil, msgV 0 1 2 1 true] w (WinOut w) := by
  go_enter Try.func22, Try.ntmps22
  go_wp2_with fail
  have HM0 := Lib.hid (VV.start w (memL 1 3 1 1 1 (-1) 13 2 nil 0 nil nil) (msgL 0 1 2 1 true) 25 35 rfl rfl)
  refine (copyMember_nil _ _ _ _ _ _ _ _ _ _).mono ?_
  rintro e w1 ⟨rfl, hb1⟩
  have HM1 := Lib.hid (HM0.out.keep hb1)
  clear hb1 HM0
  have hA1 := HM1.out.1
  go_wp2_with (with_reducible refine wpList_box_store 25 2 (.tmp 6) w.heap.size _ (memL 1 3 1 1 1 (-1) 13 2 nil 0 nil nil) _ _ _ _ _ _ ?_ ?_ hA1 (memOk _ _ _ _ _ _ _ _ _ _ _ _ _ _ _ _ _ _) wideMem ?_)
  · rfl
  · rfl
  rintro w2 hA hO
  have HM2 := Lib.hid (HM1.out.own hA hO)
  clear HM1 hA1 hO
  have k0 := HM2.out.2.1.cell 0 _ rfl
  have k2 := HM2.out.2.1.cell 2 _ rfl
  have k3 := HM2.out.2.1.cell 3 _ rfl
  have k8 := HM2.out.2.1.cell 8 _ rfl
  have a1 := HM2.out.1.cell 1 _ rfl
  have a2 := HM2.out.1.cell 2 _ rfl
  have a4 := HM2.out.1.cell 4 _ rfl
  have a7 := HM2.out.1.cell 7 _ rfl
  have f7 := HM2.out.1.1.free 7
  go_wp2_with (with_reducible refine wpList_box_load_g 25 2 w.heap.size (memL 1 3 1 1 1 (-1) 13 2 nil 0 nil nil) _ _ _ _ _ _ _ ?_ hA wideMem ?_ ?_)
  · rfl
  go_wp2_with fail
  refine (known_yes 1 3 1 1 1 (-1) 13 2 nil 0 nil nil _ (by omega) (by omega) (by omega) (by omega)).mono ?_
  rintro e w3 ⟨rfl, hb3⟩
  have HM3 := Lib.hid (HM2.out.keep hb3)
  clear hb3 hA HM2 k0 k2 k3 k8 a1 a2 a4 a7 f7
  have k0 := HM3.out.2.1.cell 0 _ rfl
  have a1 := HM3.out.1.cell 1 _ rfl
  have a7 := HM3.out.1.cell 7 _ rfl
  have f7 := HM3.out.1.1.free 7
  have hor : bits .or .i64 2 1 = 3 := by kernel_rfl
  go_wp2_with fail
  go_region
  all_goals go_wp2_with fail
  refine wp_named (fun W => VV w (memL 1 3 1 1 1 (-1) 13 3 nil 0 nil nil) (msgL 0 1 2 1 true) zL W) ((HM3.out.set 7 (.int .i64 3) (by omega)).drew) ?_
  clear hor HM3 k0 a1 a7 f7
  rintro w4 hM4
  have HM4 := Lib.hid hM4
  have a1 := hM4.1.cell 1 _ rfl
  have a7 := hM4.1.cell 7 _ rfl
  clear hM4
  go_quiet ((first
    | (go_at_call 42; exact Calls.quiet_of_same ((ones3 _).mono fun _ _ h => ⟨h.1, h.2.symm⟩))
    | (go_at_call 12; exact Calls.quiet_of_same ((maj_any 3 _).mono fun _ _ h => ⟨h.1, h.2.symm⟩))))
  have HM5 := Lib.hid (HM4.out.drewN nq)
  have hA := HM5.out.1
  have hR := HM5.out.2.2.1
  clear a1 a7 HM4
  go_wp2_with (with_reducible refine wpList_box_load 25 2 w.heap.size (memL 1 3 1 1 1 (-1) 13 3 nil 0 nil nil) _ _ _ _ _ _ ?_ hA wideMem ?_)
  · rfl
  go_wp2_with fail
  refine (win_ex _).mono ?_
  rintro e w6 ⟨g, h, rfl, hg, hh, lg, lh, gg, gh, hb6⟩
  have HM6 := Lib.hid (HM5.out.keep hb6)
  have HG := Lib.hid (And.intro hg (And.intro hh (And.intro lg lh)))
  have hlt := hR.1.lt
  have HNE : Hid (w.heap.size + 2 < g ∧ w.heap.size + 2 < h) := Lib.hid ⟨by omega, by omega⟩
  clear hlt gg gh
  have hR6 := HM6.out.2.2.1
  clear hA hR hg hh lg lh hb6 HM5
  go_wp2_with (with_reducible refine wpList_box_store 25 4 (.tmp 69) (w.heap.size + 2) zL (memL 1 3 1 1 2 1 1 3 nil 0 (.slice (some ⟨g, 0, none⟩) 3 3) (.slice (some ⟨h, 0, none⟩) 3 3)) _ _ _ _ _ _ ?_ ?_ hR6 (memOk _ _ _ _ _ _ _ _ _ _ _ _ _ _ _ _ _ _) wideMem ?_)
  · rfl
  · rfl
  rintro w7 hB hO
  have HM7 := Lib.hid (HM6.out.res hB hO)
  have r0 := hB.cell 0 _ rfl
  have r1 := hB.cell 1 _ rfl
  have r2 := hB.cell 2 _ rfl
  have r3 := hB.cell 3 _ rfl
  have r4 := hB.cell 4 _ rfl
  have r5 := hB.cell 5 _ rfl
  have r6 := hB.cell 6 _ rfl
  have r7 := hB.cell 7 _ rfl
  have r8 := hB.cell 8 _ rfl
  have r9 := hB.cell 9 _ rfl
  have r10 := hB.cell 10 _ rfl
  have r11 := hB.cell 11 _ rfl
  go_wp2_with fail
  refine bodyPost_ret (v := mem 1 3 1 1 2 1 1 3 nil 0 (.slice (some ⟨g, 0, none⟩) 3 3) (.slice (some ⟨h, 0, none⟩) 3 3)) (by simp [results, Try.results22, go_sem, r0, r1, r2, r3, r4, r5, r6, r7, r8, r9, r10, r11]) rfl ⟨_, _, rfl, rangeAt.other HG.out.1 hO (by have := HNE.out; omega), rangeAt.other HG.out.2.1 hO (by have := HNE.out; omega), by rw [hO.size]; exact HG.out.2.2.1, by rw [hO.size]; exact HG.out.2.2.2, by have := HNE.out; omega, by have := HNE.out; omega, HM7.out.2.2.2⟩
end Go.Proofs.Ytfpgklhbghahoaa
