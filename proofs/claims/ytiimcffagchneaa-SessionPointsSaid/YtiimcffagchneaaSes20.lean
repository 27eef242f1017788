/- Sessions: the laws with a member. -/
import Derived.Test.YtiimcffagchneaaSes18
import Derived.Deep.RegionHeld3
namespace Go.Proofs.Ytiimcffagchneaa
open Go.ChangeShapes Go.WideShapes Go.ChangeAt Go.RowKit
set_option linter.unusedVariables false
set_option linter.unusedSimpArgs false

/-- a boxed member and a boxed read -/
def MBX (w : World) (id sz tm vt rl ld ti vs : Int) (lg : Value) (cm : Int) (nx mt : Value) (c after pos : Int) (W : World) : Prop := MB w id sz tm vt rl ld ti vs lg cm nx mt W ∧ W.cell? ⟨w.heap.size + 1, 0, none⟩ = some (.int .i64 c) ∧ W.cell? ⟨w.heap.size + 1, 1, none⟩ = some (.int .i64 after) ∧ W.cell? ⟨w.heap.size + 1, 2, none⟩ = some (.int .i64 pos) ∧ w.heap.size + 1 < W.heap.size
theorem MBX.next {w : World} {id sz tm vt rl ld ti vs : Int} {lg : Value} {cm : Int} {nx mt : Value} {c after pos : Int} {W : World} (h : MBX w id sz tm vt rl ld ti vs lg cm nx mt c after pos W) {P : Program} {f : Nat} {args : Array Value} {F : Ending → Prop} (hc : Calls P f args W fun e w' => F e ∧ Below W.heap.size W w') :
    Calls P f args W fun e w' => F e ∧ MBX w id sz tm vt rl ld ti vs lg cm nx mt c after pos w' := by
  refine hc.mono ?_
  rintro e W' ⟨he, hb⟩
  obtain ⟨⟨c0, c1, c2, c3, c4, c5, c6, c7, c8, c9, c10, c11, hz, hB⟩, x0, x1, x2, xz⟩ := h
  obtain ⟨g, _⟩ := bcell hb
  exact ⟨he, ⟨(g _ _ hz).trans c0, (g _ _ hz).trans c1, (g _ _ hz).trans c2, (g _ _ hz).trans c3, (g _ _ hz).trans c4, (g _ _ hz).trans c5, (g _ _ hz).trans c6, (g _ _ hz).trans c7, (g _ _ hz).trans c8, (g _ _ hz).trans c9, (g _ _ hz).trans c10, (g _ _ hz).trans c11, Nat.lt_of_lt_of_le hz hb.size, hB.trans (hb.mono (Nat.le_of_lt hz))⟩, (g _ _ xz).trans x0, (g _ _ xz).trans x1, (g _ _ xz).trans x2, Nat.lt_of_lt_of_le xz hb.size⟩
theorem MBX.start (w : World) (id sz tm vt rl ld ti vs : Int) (lg : Value) (cm : Int) (nx mt : Value) (c after pos : Int) : MBX w id sz tm vt rl ld ti vs lg cm nx mt c after pos ((w.alloc (.cells #[.int .i64 id, .int .i64 sz, .int .i64 tm, .int .i64 vt, .int .i64 rl, .int .i64 ld, .int .i64 ti, .int .i64 vs, lg, .int .i64 cm, nx, mt] 37)).alloc (.cells #[.int .i64 c, .int .i64 after, .int .i64 pos] 41)) :=
  ⟨⟨by simp [go_sem], by simp [go_sem], by simp [go_sem], by simp [go_sem], by simp [go_sem], by simp [go_sem], by simp [go_sem], by simp [go_sem], by simp [go_sem], by simp [go_sem], by simp [go_sem], by simp [go_sem], by simp; omega, ((Below.refl _ _).alloc (Nat.le_refl _) _).alloc (by simp) _⟩, by simp [go_sem], by simp [go_sem], by simp [go_sem], by simp⟩

set_option maxRecDepth 100000 in
set_option maxHeartbeats 1600000 in
theorem points_law (id sz tm vt rl ld ti vs : Int) (lg : Value) (cm : Int) (nx mt : Value) (es : List (List Value)) (c after pos : Int) (w : World) (hm0 : es.length ≤ 9223372036854775807) (he : EntArg w lg es) (hn : IntArg w nx) (hm : IntArg w mt) :
    Calls Try.prog 6 #[mem id sz tm vt rl ld ti vs lg cm nx mt, (.agg #[.int .i64 c, .int .i64 after, .int .i64 pos])] w fun e w' => e = .returned (.bool true) ∧ Below w.heap.size w w' := by
  have HE := Lib.hid he
  have HN := Lib.hid hn
  have HM := Lib.hid hm
  clear he hn hm
  generalize hx : stampOf (stps es) es.length = x
  generalize hy : stampOf (stps es) cm = y
  have HX := Lib.hid hx
  have HY := Lib.hid hy
  clear hx hy
  go_enter Try.func6, Try.ntmps6
  go_wp2_with fail
  refine (MBX.next (MBX.start w id sz tm vt rl ld ti vs lg cm nx mt c after pos) (fits_any _ _ _ _ _ _ _ _ _ _ _ _ es _ hm0 (HE.out.below (MBX.start w id sz tm vt rl ld ti vs lg cm nx mt c after pos).1.2.2.2.2.2.2.2.2.2.2.2.2.2) (HN.out.below (MBX.start w id sz tm vt rl ld ti vs lg cm nx mt c after pos).1.2.2.2.2.2.2.2.2.2.2.2.2.2) (HM.out.below (MBX.start w id sz tm vt rl ld ti vs lg cm nx mt c after pos).1.2.2.2.2.2.2.2.2.2.2.2.2.2))).mono ?_
  rintro e w1 ⟨⟨b, hee, hF⟩, ⟨d0, d1, d2, d3, d4, d5, d6, d7, d8, d9, d10, d11, dz, dB⟩, k0, k1, k2, kz⟩
  subst hee
  have HF := Lib.hid hF
  clear hF
  cases b
  · go_wp2_with fail
    refine (MBX.next (w := w) (id := id) (sz := sz) (tm := tm) (vt := vt) (rl := rl) (ld := ld) (ti := ti) (vs := vs) (lg := lg) (cm := cm) (nx := nx) (mt := mt) (c := c) (after := after) (pos := pos) ⟨⟨d0, d1, d2, d3, d4, d5, d6, d7, d8, d9, d10, d11, dz, dB⟩, k0, k1, k2, kz⟩ (awake_any _)).mono ?_
    rintro e w2 ⟨hee, ⟨g0, g1, g2, g3, g4, g5, g6, g7, g8, g9, g10, g11, gz, gB⟩, _⟩
    subst hee
    go_wp2_with fail
    go_ret
    exact ⟨rfl, gB⟩
  · obtain ⟨q0, q1, q2, q3, q4⟩ := HF.out rfl
    clear HF
    obtain ⟨p1, p2, p3, hp⟩ : ∃ p1 p2 p3, ptOf x y c after pos = (p1, p2, p3) := ⟨_, _, _, rfl⟩
    have HP := Lib.hid hp
    clear hp
    go_wp2_with fail
    refine (MBX.next (w := w) (id := id) (sz := sz) (tm := tm) (vt := vt) (rl := rl) (ld := ld) (ti := ti) (vs := vs) (lg := lg) (cm := cm) (nx := nx) (mt := mt) (c := c) (after := after) (pos := pos) ⟨⟨d0, d1, d2, d3, d4, d5, d6, d7, d8, d9, d10, d11, dz, dB⟩, k0, k1, k2, kz⟩ (point_all _ _ _ _ _ _ _ _ _ _ _ _ es c after pos x y _ q0 (HE.out.below dB) HX.out HY.out)).mono ?_
    rw [HP.out]
    rintro e w2 ⟨hee, ⟨g0_2, g1_2, g2_2, g3_2, g4_2, g5_2, g6_2, g7_2, g8_2, g9_2, g10_2, g11_2, gz_2, gB_2⟩, k0_2, k1_2, k2_2, kz_2⟩
    subst hee
    go_wp2_with fail
    refine (MBX.next (w := w) (id := id) (sz := sz) (tm := tm) (vt := vt) (rl := rl) (ld := ld) (ti := ti) (vs := vs) (lg := lg) (cm := cm) (nx := nx) (mt := mt) (c := c) (after := after) (pos := pos) ⟨⟨by assumption, by assumption, by assumption, by assumption, by assumption, by assumption, by assumption, by assumption, by assumption, by assumption, by assumption, by assumption, by assumption, by assumption⟩, by assumption, by assumption, by assumption, by assumption⟩ (rpoint_all _ _ _ _ _ _ _ _ _ _ _ _ es c after pos x y _ q0 (HE.out.below gB_2) HX.out HY.out)).mono ?_
    rw [HP.out]
    rintro e w3 ⟨hee, ⟨g0_3, g1_3, g2_3, g3_3, g4_3, g5_3, g6_3, g7_3, g8_3, g9_3, g10_3, g11_3, gz_3, gB_3⟩, k0_3, k1_3, k2_3, kz_3⟩
    subst hee
    go_wp2_with fail
    refine (MBX.next (w := w) (id := id) (sz := sz) (tm := tm) (vt := vt) (rl := rl) (ld := ld) (ti := ti) (vs := vs) (lg := lg) (cm := cm) (nx := nx) (mt := mt) (c := c) (after := after) (pos := pos) ⟨⟨by assumption, by assumption, by assumption, by assumption, by assumption, by assumption, by assumption, by assumption, by assumption, by assumption, by assumption, by assumption, by assumption, by assumption⟩, by assumption, by assumption, by assumption, by assumption⟩ (awake_any _)).mono ?_
    rintro e w4 ⟨hee, ⟨g0_4, g1_4, g2_4, g3_4, g4_4, g5_4, g6_4, g7_4, g8_4, g9_4, g10_4, g11_4, gz_4, gB_4⟩, k0_4, k1_4, k2_4, kz_4⟩
    subst hee
    go_wp2_with fail
    go_ret
    exact ⟨rfl, gB_4⟩
end Go.Proofs.Ytiimcffagchneaa
