/- Merged texts: Ev7, Ev8, Ev9, Ev10, Ev11, Ev12, Ev13. -/
import Derived.Test.YtfpgklhbghahoaaVo6
import Derived.Deep.RegionHeld3
import Derived.StillTailTactics
/- Election: validRole for primaries. -/
namespace Go.Proofs.Ytfpgklhbghahoaa
open Go.ChangeShapes Go.WideShapes Go.ChangeAt Go.RowKit Go.Deep
set_option linter.unusedVariables false
set_option linter.unusedSimpArgs false
set_option maxRecDepth 100000 in
set_option maxHeartbeats 3200000 in
theorem role_2 (id sz tm vt ld ti vs : Int) (ga : Option Addr) (gl gc : Nat) (cm : Int) (an : Option Addr) (cn : Nat) (am : Option Addr) (cc : Nat) (xs ys : List Int) (w : World)
    (h1 : 1 ≤ sz) (h7 : sz ≤ 7) (i0 : 0 ≤ id) (i1 : id < sz) (v0 : 0 ≤ vs) (v1 : vs < 2 ^ sz.toNat) (v2 : vs < 128) (hx : xs.length ≤ 9223372036854775807) (hy : ys.length ≤ 9223372036854775807) (hg : gl ≤ 100) (hX : IntsIn w (.slice an xs.length cn) xs) (hY : IntsIn w (.slice am ys.length cc) ys) :
    Calls Try.prog 32 #[mem id sz tm vt 2 ld ti vs (.slice ga gl gc) cm (.slice an xs.length cn) (.slice am ys.length cc)] w fun e w' => e = .returned (.bool (roleB id sz tm vt 2 ld vs xs.length ys.length (inB gl xs) (inB gl ys))) ∧ Below w.heap.size w w' := by
  have HX := Lib.hid hX
  have HY := Lib.hid hY
  clear hX hY
  have hc := cntB_le vs v0 sz.toNat
  have hm := maj_le sz h1 h7
  have hbit := bit_at vs id v0 v2 i0 (by omega)
  have HA := cntB_all vs sz v0 h1 h7 v1
  have HR : Hid (roleB id sz tm vt 2 ld vs xs.length ys.length (inB gl xs) (inB gl ys) = (firstB id tm vt vs && decide (ld = id) && decide (maj sz ≤ cntB vs sz.toNat) && (decide ((xs.length : Int) = sz) && decide ((ys.length : Int) = sz)) && (inB gl xs && inB gl ys))) := Lib.hid rfl
  have HF : Hid (firstB id tm vt vs = (decide (1 ≤ tm) && decide (vt = id) && bitB vs id)) := Lib.hid rfl
  have hB0 : BoxN 12 (w.alloc (.cells (memL id sz tm vt 2 ld ti vs (.slice ga gl gc) cm (.slice an xs.length cn) (.slice am ys.length cc)).toArray 25)) w.heap.size (memL id sz tm vt 2 ld ti vs (.slice ga gl gc) cm (.slice an xs.length cn) (.slice am ys.length cc)) := BoxN.new w _ 12 _ rfl
  have hb0 : Below w.heap.size w (w.alloc (.cells (memL id sz tm vt 2 ld ti vs (.slice ga gl gc) cm (.slice an xs.length cn) (.slice am ys.length cc)).toArray 25)) := (Below.refl _ _).alloc (Nat.le_refl _) _
  have HM := Lib.hid (fun W => maj_any sz W)
  have HO := Lib.hid (fun W => ones_at vs W v0 v2)
  rw [HA] at HO
  generalize roleB id sz tm vt 2 ld vs xs.length ys.length (inB gl xs) (inB gl ys) = R at *
  generalize firstB id tm vt vs = F at *
  generalize bitB vs id = bt at *
  generalize cntB vs sz.toNat = c at *
  generalize maj sz = mj at *
  clear HA v1
  have hc7 : c ≤ 7 := by omega
  clear hc
  go_enter Try.func32, Try.ntmps32
  go_wp2_with fail
  refine calls_named (fun W => BoxN 12 W w.heap.size (memL id sz tm vt 2 ld ti vs (.slice ga gl gc) cm (.slice an xs.length cn) (.slice am ys.length cc)) ∧ Below w.heap.size w W) ⟨hB0, hb0⟩ ?_
  clear hB0 hb0
  rintro w1 ⟨hB, hb⟩
  have a0 : w1.cell? ⟨w.heap.size, 0, none⟩ = some (.int .i64 id) := hB.cell 0 _ rfl
  have a1 : w1.cell? ⟨w.heap.size, 1, none⟩ = some (.int .i64 sz) := hB.cell 1 _ rfl
  have a2 : w1.cell? ⟨w.heap.size, 2, none⟩ = some (.int .i64 tm) := hB.cell 2 _ rfl
  have a3 : w1.cell? ⟨w.heap.size, 3, none⟩ = some (.int .i64 vt) := hB.cell 3 _ rfl
  have a4 : w1.cell? ⟨w.heap.size, 4, none⟩ = some (.int .i64 2) := hB.cell 4 _ rfl
  have a5 : w1.cell? ⟨w.heap.size, 5, none⟩ = some (.int .i64 ld) := hB.cell 5 _ rfl
  have a7 : w1.cell? ⟨w.heap.size, 7, none⟩ = some (.int .i64 vs) := hB.cell 7 _ rfl
  have a10 : w1.cell? ⟨w.heap.size, 10, none⟩ = some (.slice an xs.length cn) := hB.cell 10 _ rfl
  have a11 : w1.cell? ⟨w.heap.size, 11, none⟩ = some (.slice am ys.length cc) := hB.cell 11 _ rfl
  refine (HO.out _).mono ?_
  rintro e w2 ⟨rfl, rfl⟩
  have HV0 := Lib.hid (⟨hB, hb⟩ : VM w (memL id sz tm vt 2 ld ti vs (.slice ga gl gc) cm (.slice an xs.length cn) (.slice am ys.length cc)) w1)
  clear hB hb HO
  by_cases t1 : tm < 1
  · have p1 : decide (tm < 1) = true := decide_eq_true t1
    have HV : Hid (R = false) := Lib.hid (by rw [HR.out, HF.out, decide_eq_false (by omega)]; simp)
    clear HR HF
    go_wp2_with fail
    go_quiet (fail)
    go_wp2_with fail
    go_ret
    exact ⟨ret_b HV.out, below_drewN' HV0.out.2 _⟩
  have p1 : decide (tm < 1) = false := decide_eq_false t1
  have k1 : decide (1 ≤ tm) = true := decide_eq_true (by omega)
  by_cases t2 : vt = id
  rotate_left
  · have p2 : (vt == id) = false := beq_eq_false_iff_ne.2 t2
    have p2' : (vt != id) = true := by rw [bne, p2]; rfl
    have HV : Hid (R = false) := Lib.hid (by rw [HR.out, HF.out, decide_eq_false t2]; simp)
    clear HR HF
    go_wp2_with fail
    go_quiet (fail)
    go_wp2_with fail
    go_ret
    exact ⟨ret_b HV.out, below_drewN' HV0.out.2 _⟩
  have k2 : decide (vt = id) = true := decide_eq_true t2
  have p2 : (vt == id) = true := beq_iff_eq.2 t2
  have p2' : (vt != id) = false := by rw [bne, p2]; rfl
  cases bt
  · have hbit' : (bits .and .i64 vs (wrap64 (2 ^ id.toNat)) == 0) = true := by rw [← IntWalk.i64_left]; exact hbit
    have HV : Hid (R = false) := Lib.hid (by rw [HR.out, HF.out]; simp)
    clear HR HF
    go_wp2_with fail
    go_quiet (fail)
    go_wp2_with fail
    go_ret
    exact ⟨ret_b HV.out, below_drewN' HV0.out.2 _⟩
  have hbit' : (bits .and .i64 vs (wrap64 (2 ^ id.toNat)) == 0) = false := by rw [← IntWalk.i64_left]; exact hbit
  have HF2 : Hid (F = true) := Lib.hid (by rw [HF.out, k1, k2]; rfl)
  clear HF k1 k2 t1 t2 hbit
  by_cases t3 : ld = id
  rotate_left
  · have p3 : (ld == id) = false := beq_eq_false_iff_ne.2 t3
    have HF := HF2
    have HV : Hid (R = false) := Lib.hid (by rw [HR.out, decide_eq_false t3]; simp)
    clear HR HF
    go_wp2_with fail
    go_quiet (fail)
    go_wp2_with fail
    go_ret
    exact ⟨ret_b HV.out, below_drewN' HV0.out.2 _⟩
  have p3 : (ld == id) = true := beq_iff_eq.2 t3
  by_cases t4 : mj ≤ c
  rotate_left
  · have p4 : decide (mj ≤ c) = false := decide_eq_false t4
    have HV : Hid (R = false) := Lib.hid (by rw [HR.out, decide_eq_false t4]; simp)
    clear HR HF2 t3
    go_wp2_with fail
    go_quiet (fail)
    go_wp2_with fail
    refine (HM.out _).mono ?_
    rintro e w3 ⟨rfl, rfl⟩
    go_wp2_with fail
    go_ret
    exact ⟨ret_b HV.out, below_drewN' HV0.out.2 _⟩
  have p4 : decide (mj ≤ c) = true := decide_eq_true t4
  have HR2 : Hid (R = ((decide ((xs.length : Int) = sz) && decide ((ys.length : Int) = sz)) && (inB gl xs && inB gl ys))) := Lib.hid (by rw [HR.out, HF2.out, decide_eq_true t3, decide_eq_true t4]; rfl)
  clear HR HF2 t3
  go_wp2_with fail
  go_quiet (fail)
  go_wp2_with fail
  refine (HM.out _).mono ?_
  rintro e w3 ⟨rfl, rfl⟩
  have HM1 := Lib.hid (VM.drewN HV0.out nq)
  clear a0 a1 a2 a3 a4 a5 a7 a10 a11 hbit' HV0 HM
  have hA := HM1.out.1
  have a10 : (w1.drewN nq).cell? ⟨w.heap.size, 10, none⟩ = some (.slice an xs.length cn) := hA.cell 10 _ rfl
  go_wp2_with (with_reducible refine wpList_box_load_g 25 1 w.heap.size (memL id sz tm vt 2 ld ti vs (.slice ga gl gc) cm (.slice an xs.length cn) (.slice am ys.length cc)) _ _ _ _ _ _ _ ?_ hA wideMem ?_ ?_)
  · rfl
  go_wp2_with fail
  refine (vplaces_at id sz tm vt 2 ld ti vs ga gl gc cm _ _ _ xs _ hg h1 (HX.out.below HM1.out.2)).mono ?_
  rintro e w5 ⟨rfl, hb5⟩
  have HM5 := Lib.hid (HM1.out.keep hb5)
  clear hb5 hA a10 HM1
  generalize hv1 : (inB gl xs && decide ((xs.length : Int) = sz)) = b1
  have HV1 := Lib.hid hv1
  clear hv1
  cases b1
  · have HV : Hid (R = false) := Lib.hid (by rw [HR2.out]; have h := HV1.out; revert h; cases decide ((xs.length : Int) = sz) <;> cases inB gl xs <;> simp)
    go_wp2_with fail
    go_ret
    exact ⟨ret_b HV.out, HM5.out.2⟩
  have hA := HM5.out.1
  have a11 : w5.cell? ⟨w.heap.size, 11, none⟩ = some (.slice am ys.length cc) := hA.cell 11 _ rfl
  go_wp2_with (with_reducible refine wpList_box_load_g 25 1 w.heap.size (memL id sz tm vt 2 ld ti vs (.slice ga gl gc) cm (.slice an xs.length cn) (.slice am ys.length cc)) _ _ _ _ _ _ _ ?_ hA wideMem ?_ ?_)
  · rfl
  go_wp2_with fail
  refine (vplaces_at id sz tm vt 2 ld ti vs ga gl gc cm _ _ _ ys _ hg h1 (HY.out.below HM5.out.2)).mono ?_
  rintro e w6 ⟨rfl, hb6⟩
  have HM6 := Lib.hid (HM5.out.keep hb6)
  clear hb6 hA a11 HM5
  have HV : Hid (R = (inB gl ys && decide ((ys.length : Int) = sz))) := Lib.hid (by rw [HR2.out]; have h := HV1.out; revert h; cases decide ((xs.length : Int) = sz) <;> cases inB gl xs <;> cases decide ((ys.length : Int) = sz) <;> cases inB gl ys <;> simp)
  generalize (inB gl ys && decide ((ys.length : Int) = sz)) = b2 at *
  clear HR2 HV1
  cases b2
  all_goals
    go_wp2_with fail
    go_ret
    exact ⟨ret_b HV.out, HM6.out.2⟩
end Go.Proofs.Ytfpgklhbghahoaa
/- Election: Valid decides what a member must be. -/
namespace Go.Proofs.Ytfpgklhbghahoaa
open Go.ChangeShapes Go.WideShapes Go.ChangeAt Go.RowKit Go.Deep
set_option linter.unusedVariables false
set_option linter.unusedSimpArgs false
abbrev G0 (id sz tm vt ld : Int) : Prop := 1 ≤ sz ∧ sz ≤ 7 ∧ 0 ≤ id ∧ id < sz ∧ 0 ≤ tm ∧ -1 ≤ vt ∧ vt < sz ∧ -1 ≤ ld ∧ ld < sz
abbrev G1 (sz rl ti vs : Int) : Prop := 0 ≤ rl ∧ rl ≤ 2 ∧ 0 ≤ ti ∧ 0 ≤ vs ∧ vs < 2 ^ sz.toNat
def restB (id sz tm vt rl ld vs cm : Int) (es : List (List Value)) (xs ys : List Int) : Bool := lgB tm cm es && roleB id sz tm vt rl ld vs xs.length ys.length (inB es.length xs) (inB es.length ys)
/-- a member's state is possible -/
def validB (id sz tm vt rl ld ti vs cm : Int) (es : List (List Value)) (xs ys : List Int) : Bool :=
  decide (G0 id sz tm vt ld) && decide (G1 sz rl ti vs) && restB id sz tm vt rl ld vs cm es xs ys
theorem validB_no (id sz tm vt rl ld ti vs cm : Int) (es : List (List Value)) (xs ys : List Int) (h : ¬ (G0 id sz tm vt ld ∧ G1 sz rl ti vs)) : validB id sz tm vt rl ld ti vs cm es xs ys = false := by
  unfold validB
  by_cases h0 : G0 id sz tm vt ld
  · rw [decide_eq_false (fun h1 => h ⟨h0, h1⟩ : ¬ G1 sz rl ti vs), Bool.and_false, Bool.false_and]
  · rw [decide_eq_false h0, Bool.false_and, Bool.false_and]
theorem validB_yes (id sz tm vt rl ld ti vs cm : Int) (es : List (List Value)) (xs ys : List Int) (h0 : G0 id sz tm vt ld) (h1 : G1 sz rl ti vs) : validB id sz tm vt rl ld ti vs cm es xs ys = restB id sz tm vt rl ld vs cm es xs ys := by
  unfold validB
  rw [decide_eq_true h0, decide_eq_true h1, Bool.true_and, Bool.true_and]
theorem pow_le (sz : Int) (h1 : 1 ≤ sz) (h7 : sz ≤ 7) : (2 : Int) ≤ 2 ^ sz.toNat ∧ (2 : Int) ^ sz.toNat ≤ 128 := by
  have h : sz.toNat = 1 ∨ sz.toNat = 2 ∨ sz.toNat = 3 ∨ sz.toNat = 4 ∨ sz.toNat = 5 ∨ sz.toNat = 6 ∨ sz.toNat = 7 := by omega
  rcases h with h | h | h | h | h | h | h <;> rw [h] <;> decide
theorem pow_wrap (sz : Int) (h1 : 1 ≤ sz) (h7 : sz ≤ 7) : wrap64 (2 ^ sz.toNat) = 2 ^ sz.toNat := by
  have := pow_le sz h1 h7
  exact IntWalk.wrap64_in _ (by omega)
set_option maxRecDepth 100000 in
set_option maxHeartbeats 1600000 in
theorem valid_n0 (id sz tm vt rl ld ti vs : Int) (lg : Value) (cm : Int) (nx mt : Value) (w : World) (hG : ¬ (G0 id sz tm vt ld ∧ 0 ≤ rl ∧ rl ≤ 2 ∧ 0 ≤ ti)) :
    Calls Try.prog 16 #[mem id sz tm vt rl ld ti vs lg cm nx mt] w fun e w' => e = .returned (.bool false) ∧ Below w.heap.size w w' := by
  have HG := Lib.hid hG
  clear hG
  have hbw : Below w.heap.size w (w.alloc (.cells #[.int .i64 id, .int .i64 sz, .int .i64 tm, .int .i64 vt, .int .i64 rl, .int .i64 ld, .int .i64 ti, .int .i64 vs, lg, .int .i64 cm, nx, mt] 25)) := (Below.refl _ _).alloc (Nat.le_refl _) _
  have HB := Lib.hid hbw
  clear hbw
  go_enter Try.func16, Try.ntmps16
  go_wp2_with fail
  all_goals first
    | (go_ret; exact ⟨rfl, HB.out⟩)
    | exact absurd ⟨⟨by omega, by omega, by omega, by omega, by omega, by omega, by omega, by omega, by omega⟩, by omega, by omega, by omega⟩ HG.out
set_option maxRecDepth 100000 in
set_option maxHeartbeats 1600000 in
theorem valid_n1 (id sz tm vt rl ld ti vs : Int) (lg : Value) (cm : Int) (nx mt : Value) (w : World) (a1 : 1 ≤ sz) (a2 : sz ≤ 7) (a3 : 0 ≤ id) (a4 : id < sz) (a5 : 0 ≤ tm) (a6 : -1 ≤ vt) (a7 : vt < sz) (a8 : -1 ≤ ld) (a9 : ld < sz) (b1 : 0 ≤ rl) (b2 : rl ≤ 2) (b3 : 0 ≤ ti) (hV : vs < 0 ∨ 2 ^ sz.toNat ≤ vs) :
    Calls Try.prog 16 #[mem id sz tm vt rl ld ti vs lg cm nx mt] w fun e w' => e = .returned (.bool false) ∧ Below w.heap.size w w' := by
  have f1 : decide (sz < 1) = false := decide_eq_false (by omega)
  have f2 : decide (7 < sz) = false := decide_eq_false (by omega)
  have f3 : decide (id < 0) = false := decide_eq_false (by omega)
  have f4 : decide (sz ≤ id) = false := decide_eq_false (by omega)
  have f5 : decide (tm < 0) = false := decide_eq_false (by omega)
  have f6 : decide (vt < -1) = false := decide_eq_false (by omega)
  have f7 : decide (sz ≤ vt) = false := decide_eq_false (by omega)
  have f8 : decide (ld < -1) = false := decide_eq_false (by omega)
  have f9 : decide (sz ≤ ld) = false := decide_eq_false (by omega)
  have e1 : decide (rl < 0) = false := decide_eq_false (by omega)
  have e2 : decide (2 < rl) = false := decide_eq_false (by omega)
  have e3 : decide (ti < 0) = false := decide_eq_false (by omega)
  have HW := pow_wrap sz a1 a2
  have hbw : Below w.heap.size w (w.alloc (.cells #[.int .i64 id, .int .i64 sz, .int .i64 tm, .int .i64 vt, .int .i64 rl, .int .i64 ld, .int .i64 ti, .int .i64 vs, lg, .int .i64 cm, nx, mt] 25)) := (Below.refl _ _).alloc (Nat.le_refl _) _
  have HB := Lib.hid hbw
  clear hbw
  by_cases h0 : vs < 0
  · have e4 : decide (vs < 0) = true := decide_eq_true h0
    clear hV HW
    go_enter Try.func16, Try.ntmps16
    go_wp2_with fail
    go_quiet (fail)
    go_wp2_with fail
    go_ret
    exact ⟨rfl, below_drewN' HB.out _⟩
  · have e4 : decide (vs < 0) = false := decide_eq_false h0
    have e5 : decide (wrap64 (2 ^ sz.toNat) ≤ vs) = true := decide_eq_true (by rw [HW]; omega)
    clear hV HW
    go_enter Try.func16, Try.ntmps16
    go_wp2_with fail
    go_quiet (fail)
    go_wp2_with fail
    go_ret
    exact ⟨rfl, below_drewN' HB.out _⟩
set_option maxRecDepth 100000 in
set_option maxHeartbeats 1600000 in
theorem valid_y (id sz tm vt rl ld ti vs : Int) (lg : Value) (es : List (List Value)) (cm : Int) (nx mt : Value) (xs ys : List Int) (w : World) (h0 : G0 id sz tm vt ld) (h1 : G1 sz rl ti vs) (hl : es.length ≤ 100) (he : EntArg w lg es) (hX : IntsIn w nx xs) (hY : IntsIn w mt ys) (hxl : xs.length ≤ 9223372036854775807) (hyl : ys.length ≤ 9223372036854775807) :
    Calls Try.prog 16 #[mem id sz tm vt rl ld ti vs lg cm nx mt] w fun e w' => e = .returned (.bool (restB id sz tm vt rl ld vs cm es xs ys)) ∧ Below w.heap.size w w' := by
  obtain ⟨ga, gc, rfl⟩ := he.len
  obtain ⟨an, cn, rfl⟩ : ∃ a c, nx = .slice a xs.length c := by
    rcases hX with ⟨rfl, a, cap, rfl⟩ | ⟨B, o, cap, rfl, _⟩ <;> exact ⟨_, _, rfl⟩
  obtain ⟨am, cc, rfl⟩ : ∃ a c, mt = .slice a ys.length c := by
    rcases hY with ⟨rfl, a, cap, rfl⟩ | ⟨B, o, cap, rfl, _⟩ <;> exact ⟨_, _, rfl⟩
  obtain ⟨a1, a2, a3, a4, a5, a6, a7, a8, a9⟩ := h0
  obtain ⟨b1, b2, b3, b4, b5⟩ := h1
  have HP := Lib.hid (pow_le sz a1 a2)
  have HE := Lib.hid he
  have HX := Lib.hid hX
  have HY := Lib.hid hY
  have HL : Hid (∀ W, EntArg W (.slice ga es.length gc) es → Calls Try.prog 31 #[mem id sz tm vt rl ld ti vs (.slice ga es.length gc) cm (.slice an xs.length cn) (.slice am ys.length cc)] W fun e w' => e = .returned (.bool (lgB tm cm es)) ∧ Below W.heap.size W w') :=
    Lib.hid (fun W hW => vlog_at id sz tm vt rl ld ti vs _ es cm _ _ W hl hW)
  have HRo : Hid (∀ W, IntsIn W (.slice an xs.length cn) xs → IntsIn W (.slice am ys.length cc) ys → Calls Try.prog 32 #[mem id sz tm vt rl ld ti vs (.slice ga es.length gc) cm (.slice an xs.length cn) (.slice am ys.length cc)] W fun e w' => e = .returned (.bool (roleB id sz tm vt rl ld vs xs.length ys.length (inB es.length xs) (inB es.length ys))) ∧ Below W.heap.size W w') :=
    Lib.hid (fun W hx hy => by
      have hp := HP.out
      have v2 : vs < 128 := by omega
      rcases (show rl = 0 ∨ rl = 1 ∨ rl = 2 by omega) with rfl | rfl | rfl
      · exact role_0 id sz tm vt ld ti vs ga es.length gc cm an cn am cc xs ys _ _ W a1 a2 a3 a4 b4 b5 v2 hxl hyl
      · exact role_1 id sz tm vt ld ti vs ga es.length gc cm an cn am cc xs ys W a1 a2 a3 a4 b4 b5 v2 hxl hyl hl
      · exact role_2 id sz tm vt ld ti vs ga es.length gc cm an cn am cc xs ys W a1 a2 a3 a4 b4 b5 v2 hxl hyl hl hx hy)
  have HV : Hid (restB id sz tm vt rl ld vs cm es xs ys = (lgB tm cm es && roleB id sz tm vt rl ld vs xs.length ys.length (inB es.length xs) (inB es.length ys))) := Lib.hid rfl
  generalize restB id sz tm vt rl ld vs cm es xs ys = R at *
  generalize roleB id sz tm vt rl ld vs xs.length ys.length (inB es.length xs) (inB es.length ys) = ro at *
  generalize lgB tm cm es = lb at *
  clear he hX hY
  have f1 : decide (sz < 1) = false := decide_eq_false (by omega)
  have f2 : decide (7 < sz) = false := decide_eq_false (by omega)
  have f3 : decide (id < 0) = false := decide_eq_false (by omega)
  have f4 : decide (sz ≤ id) = false := decide_eq_false (by omega)
  have f5 : decide (tm < 0) = false := decide_eq_false (by omega)
  have f6 : decide (vt < -1) = false := decide_eq_false (by omega)
  have f7 : decide (sz ≤ vt) = false := decide_eq_false (by omega)
  have f8 : decide (ld < -1) = false := decide_eq_false (by omega)
  have f9 : decide (sz ≤ ld) = false := decide_eq_false (by omega)
  have e1 : decide (rl < 0) = false := decide_eq_false (by omega)
  have e2 : decide (2 < rl) = false := decide_eq_false (by omega)
  have e3 : decide (ti < 0) = false := decide_eq_false (by omega)
  have e4 : decide (vs < 0) = false := decide_eq_false (by omega)
  have e5 : decide (wrap64 (2 ^ sz.toNat) ≤ vs) = false := decide_eq_false (by rw [pow_wrap sz a1 a2]; omega)
  clear b5
  have HM0 := Lib.hid (VM.start w (memL id sz tm vt rl ld ti vs (.slice ga es.length gc) cm (.slice an xs.length cn) (.slice am ys.length cc)) 25 rfl)
  go_enter Try.func16, Try.ntmps16
  go_wp2_with fail
  go_quiet (fail)
  have HM1 := Lib.hid (HM0.out.drewN nq)
  clear HM0 f1 f2 f3 f4 f5 f6 f7 f8 f9 e1 e2 e3 e4 e5
  have hA := HM1.out.1
  go_wp2_with (with_reducible refine wpList_box_load 25 1 w.heap.size (memL id sz tm vt rl ld ti vs (.slice ga es.length gc) cm (.slice an xs.length cn) (.slice am ys.length cc)) _ _ _ _ _ _ ?_ hA wideMem ?_)
  · rfl
  go_wp2_with fail
  refine (HL.out _ (HE.out.below HM1.out.2)).mono ?_
  rintro e w2 ⟨rfl, hb2⟩
  have HM2 := Lib.hid (HM1.out.keep hb2)
  clear hb2 hA HM1
  cases lb
  · go_wp2_with fail
    go_ret
    exact ⟨ret_b (by rw [HV.out]; rfl), HM2.out.2⟩
  have hA := HM2.out.1
  go_wp2_with (with_reducible refine wpList_box_load_g 25 1 w.heap.size (memL id sz tm vt rl ld ti vs (.slice ga es.length gc) cm (.slice an xs.length cn) (.slice am ys.length cc)) _ _ _ _ _ _ _ ?_ hA wideMem ?_ ?_)
  · rfl
  go_wp2_with fail
  refine (HRo.out _ (HX.out.below HM2.out.2) (HY.out.below HM2.out.2)).mono ?_
  rintro e w3 ⟨rfl, hb3⟩
  have HM3 := Lib.hid (HM2.out.keep hb3)
  clear hb3 hA
  have HV2 : Hid (R = ro) := Lib.hid (by rw [HV.out, Bool.true_and])
  cases ro
  all_goals
    go_wp2_with fail
    go_ret
    exact ⟨ret_b HV2.out, HM3.out.2⟩
theorem IntsIn.le {w : World} {v : Value} {xs : List Int} (h : IntsIn w v xs) : xs.length ≤ 9223372036854775807 := by
  rcases h with ⟨rfl, _⟩ | ⟨_, _, _, _, _, _, h, _⟩
  · simp
  · exact h
theorem valid_at (id sz tm vt rl ld ti vs : Int) (lg : Value) (es : List (List Value)) (cm : Int) (nx mt : Value) (xs ys : List Int) (w : World) (hl : es.length ≤ 100) (he : EntArg w lg es) (hX : IntsIn w nx xs) (hY : IntsIn w mt ys) :
    Calls Try.prog 16 #[mem id sz tm vt rl ld ti vs lg cm nx mt] w fun e w' => e = .returned (.bool (validB id sz tm vt rl ld ti vs cm es xs ys)) ∧ Below w.heap.size w w' := by
  by_cases h : G0 id sz tm vt ld ∧ 0 ≤ rl ∧ rl ≤ 2 ∧ 0 ≤ ti
  · obtain ⟨h0, b1, b2, b3⟩ := h
    by_cases h1 : G1 sz rl ti vs
    · rw [validB_yes _ _ _ _ _ _ _ _ _ _ _ _ h0 h1]
      exact valid_y id sz tm vt rl ld ti vs lg es cm nx mt xs ys w h0 h1 hl he hX hY hX.le hY.le
    · rw [validB_no _ _ _ _ _ _ _ _ _ _ _ _ (fun h => h1 h.2)]
      obtain ⟨a1, a2, a3, a4, a5, a6, a7, a8, a9⟩ := h0
      refine valid_n1 id sz tm vt rl ld ti vs lg cm nx mt w a1 a2 a3 a4 a5 a6 a7 a8 a9 b1 b2 b3 ?_
      by_cases hv : vs < 0
      · exact .inl hv
      · exact .inr (by
          rcases Int.lt_or_le vs (2 ^ sz.toNat) with h2 | h2
          · exact absurd ⟨b1, b2, b3, by omega, h2⟩ h1
          · exact h2)
  · rw [validB_no _ _ _ _ _ _ _ _ _ _ _ _ (fun h2 => h ⟨h2.1, h2.2.1, h2.2.2.1, h2.2.2.2.1⟩)]
    exact valid_n0 id sz tm vt rl ld ti vs lg cm nx mt w h
end Go.Proofs.Ytfpgklhbghahoaa
/- Election: the reference's Valid where it fails early. -/
namespace Go.Proofs.Ytfpgklhbghahoaa
open Go.ChangeShapes Go.WideShapes Go.ChangeAt Go.RowKit Go.Deep
set_option linter.unusedVariables false
set_option linter.unusedSimpArgs false
set_option maxRecDepth 100000 in
set_option maxHeartbeats 1600000 in
theorem rvalid_n0 (id sz tm vt rl ld ti vs : Int) (lg : Value) (cm : Int) (nx mt : Value) (w : World) (hG : ¬ G0 id sz tm vt ld) :
    Calls Try.prog 17 #[mem id sz tm vt rl ld ti vs lg cm nx mt] w fun e w' => e = .returned (.bool false) ∧ Below w.heap.size w w' := by
  have HG := Lib.hid hG
  clear hG
  have hbw : Below w.heap.size w (w.alloc (.cells #[.int .i64 id, .int .i64 sz, .int .i64 tm, .int .i64 vt, .int .i64 rl, .int .i64 ld, .int .i64 ti, .int .i64 vs, lg, .int .i64 cm, nx, mt] 25)) := (Below.refl _ _).alloc (Nat.le_refl _) _
  have HB := Lib.hid hbw
  clear hbw
  go_enter Try.func17, Try.ntmps17
  go_wp2_with fail
  all_goals first
    | (go_ret; exact ⟨rfl, HB.out⟩)
    | exact absurd ⟨by omega, by omega, by omega, by omega, by omega, by omega, by omega, by omega, by omega⟩ HG.out
set_option maxRecDepth 100000 in
set_option maxHeartbeats 1600000 in
theorem rvalid_m1 (id sz tm vt rl ld ti vs : Int) (lg : Value) (cm : Int) (nx mt : Value) (w : World) (a1 : 1 ≤ sz) (a2 : sz ≤ 7) (a3 : 0 ≤ id) (a4 : id < sz) (a5 : 0 ≤ tm) (a6 : -1 ≤ vt) (a7 : vt < sz) (a8 : -1 ≤ ld) (a9 : ld < sz)  (b1 : rl < 0) :
    Calls Try.prog 17 #[mem id sz tm vt rl ld ti vs lg cm nx mt] w fun e w' => e = .returned (.bool false) ∧ Below w.heap.size w w' := by
  have f1 : decide (sz < 1) = false := decide_eq_false (by omega)
  have f2 : decide (7 < sz) = false := decide_eq_false (by omega)
  have f3 : decide (id < 0) = false := decide_eq_false (by omega)
  have f4 : decide (sz ≤ id) = false := decide_eq_false (by omega)
  have f5 : decide (tm < 0) = false := decide_eq_false (by omega)
  have f6 : decide (vt < -1) = false := decide_eq_false (by omega)
  have f7 : decide (sz ≤ vt) = false := decide_eq_false (by omega)
  have f8 : decide (ld < -1) = false := decide_eq_false (by omega)
  have f9 : decide (sz ≤ ld) = false := decide_eq_false (by omega)
  have e1 : decide (rl < 0) = true := decide_eq_true b1
  have hbw : Below w.heap.size w (w.alloc (.cells #[.int .i64 id, .int .i64 sz, .int .i64 tm, .int .i64 vt, .int .i64 rl, .int .i64 ld, .int .i64 ti, .int .i64 vs, lg, .int .i64 cm, nx, mt] 25)) := (Below.refl _ _).alloc (Nat.le_refl _) _
  have HB := Lib.hid hbw
  clear hbw
  go_enter Try.func17, Try.ntmps17
  go_wp2_with fail
  go_quiet (fail)
  go_wp2_with fail
  go_ret
  exact ⟨rfl, below_drewN' HB.out _⟩
set_option maxRecDepth 100000 in
set_option maxHeartbeats 1600000 in
theorem rvalid_m2 (id sz tm vt rl ld ti vs : Int) (lg : Value) (cm : Int) (nx mt : Value) (w : World) (a1 : 1 ≤ sz) (a2 : sz ≤ 7) (a3 : 0 ≤ id) (a4 : id < sz) (a5 : 0 ≤ tm) (a6 : -1 ≤ vt) (a7 : vt < sz) (a8 : -1 ≤ ld) (a9 : ld < sz) (b1 : ¬ rl < 0) (b2 : 2 < rl) :
    Calls Try.prog 17 #[mem id sz tm vt rl ld ti vs lg cm nx mt] w fun e w' => e = .returned (.bool false) ∧ Below w.heap.size w w' := by
  have f1 : decide (sz < 1) = false := decide_eq_false (by omega)
  have f2 : decide (7 < sz) = false := decide_eq_false (by omega)
  have f3 : decide (id < 0) = false := decide_eq_false (by omega)
  have f4 : decide (sz ≤ id) = false := decide_eq_false (by omega)
  have f5 : decide (tm < 0) = false := decide_eq_false (by omega)
  have f6 : decide (vt < -1) = false := decide_eq_false (by omega)
  have f7 : decide (sz ≤ vt) = false := decide_eq_false (by omega)
  have f8 : decide (ld < -1) = false := decide_eq_false (by omega)
  have f9 : decide (sz ≤ ld) = false := decide_eq_false (by omega)
  have e1 : decide (rl < 0) = false := decide_eq_false b1
  have e2 : decide (2 < rl) = true := decide_eq_true b2
  have hbw : Below w.heap.size w (w.alloc (.cells #[.int .i64 id, .int .i64 sz, .int .i64 tm, .int .i64 vt, .int .i64 rl, .int .i64 ld, .int .i64 ti, .int .i64 vs, lg, .int .i64 cm, nx, mt] 25)) := (Below.refl _ _).alloc (Nat.le_refl _) _
  have HB := Lib.hid hbw
  clear hbw
  go_enter Try.func17, Try.ntmps17
  go_wp2_with fail
  go_quiet (fail)
  go_wp2_with fail
  go_ret
  exact ⟨rfl, below_drewN' HB.out _⟩
set_option maxRecDepth 100000 in
set_option maxHeartbeats 1600000 in
theorem rvalid_m3 (id sz tm vt rl ld ti vs : Int) (lg : Value) (cm : Int) (nx mt : Value) (w : World) (a1 : 1 ≤ sz) (a2 : sz ≤ 7) (a3 : 0 ≤ id) (a4 : id < sz) (a5 : 0 ≤ tm) (a6 : -1 ≤ vt) (a7 : vt < sz) (a8 : -1 ≤ ld) (a9 : ld < sz) (b1 : ¬ rl < 0) (b2 : ¬ 2 < rl) (b3 : ti < 0) :
    Calls Try.prog 17 #[mem id sz tm vt rl ld ti vs lg cm nx mt] w fun e w' => e = .returned (.bool false) ∧ Below w.heap.size w w' := by
  have f1 : decide (sz < 1) = false := decide_eq_false (by omega)
  have f2 : decide (7 < sz) = false := decide_eq_false (by omega)
  have f3 : decide (id < 0) = false := decide_eq_false (by omega)
  have f4 : decide (sz ≤ id) = false := decide_eq_false (by omega)
  have f5 : decide (tm < 0) = false := decide_eq_false (by omega)
  have f6 : decide (vt < -1) = false := decide_eq_false (by omega)
  have f7 : decide (sz ≤ vt) = false := decide_eq_false (by omega)
  have f8 : decide (ld < -1) = false := decide_eq_false (by omega)
  have f9 : decide (sz ≤ ld) = false := decide_eq_false (by omega)
  have e1 : decide (rl < 0) = false := decide_eq_false b1
  have e2 : decide (2 < rl) = false := decide_eq_false b2
  have e3 : decide (ti < 0) = true := decide_eq_true b3
  have hbw : Below w.heap.size w (w.alloc (.cells #[.int .i64 id, .int .i64 sz, .int .i64 tm, .int .i64 vt, .int .i64 rl, .int .i64 ld, .int .i64 ti, .int .i64 vs, lg, .int .i64 cm, nx, mt] 25)) := (Below.refl _ _).alloc (Nat.le_refl _) _
  have HB := Lib.hid hbw
  clear hbw
  go_enter Try.func17, Try.ntmps17
  go_wp2_with fail
  go_quiet (fail)
  go_wp2_with fail
  go_ret
  exact ⟨rfl, below_drewN' HB.out _⟩
set_option maxRecDepth 100000 in
set_option maxHeartbeats 1600000 in
theorem rvalid_m4 (id sz tm vt rl ld ti vs : Int) (lg : Value) (cm : Int) (nx mt : Value) (w : World) (a1 : 1 ≤ sz) (a2 : sz ≤ 7) (a3 : 0 ≤ id) (a4 : id < sz) (a5 : 0 ≤ tm) (a6 : -1 ≤ vt) (a7 : vt < sz) (a8 : -1 ≤ ld) (a9 : ld < sz) (b1 : ¬ rl < 0) (b2 : ¬ 2 < rl) (b3 : ¬ ti < 0) (b4 : vs < 0) :
    Calls Try.prog 17 #[mem id sz tm vt rl ld ti vs lg cm nx mt] w fun e w' => e = .returned (.bool false) ∧ Below w.heap.size w w' := by
  have f1 : decide (sz < 1) = false := decide_eq_false (by omega)
  have f2 : decide (7 < sz) = false := decide_eq_false (by omega)
  have f3 : decide (id < 0) = false := decide_eq_false (by omega)
  have f4 : decide (sz ≤ id) = false := decide_eq_false (by omega)
  have f5 : decide (tm < 0) = false := decide_eq_false (by omega)
  have f6 : decide (vt < -1) = false := decide_eq_false (by omega)
  have f7 : decide (sz ≤ vt) = false := decide_eq_false (by omega)
  have f8 : decide (ld < -1) = false := decide_eq_false (by omega)
  have f9 : decide (sz ≤ ld) = false := decide_eq_false (by omega)
  have e1 : decide (rl < 0) = false := decide_eq_false b1
  have e2 : decide (2 < rl) = false := decide_eq_false b2
  have e3 : decide (ti < 0) = false := decide_eq_false b3
  have e4 : decide (vs < 0) = true := decide_eq_true b4
  have hbw : Below w.heap.size w (w.alloc (.cells #[.int .i64 id, .int .i64 sz, .int .i64 tm, .int .i64 vt, .int .i64 rl, .int .i64 ld, .int .i64 ti, .int .i64 vs, lg, .int .i64 cm, nx, mt] 25)) := (Below.refl _ _).alloc (Nat.le_refl _) _
  have HB := Lib.hid hbw
  clear hbw
  go_enter Try.func17, Try.ntmps17
  go_wp2_with fail
  go_quiet (fail)
  go_wp2_with fail
  go_ret
  exact ⟨rfl, below_drewN' HB.out _⟩
set_option maxRecDepth 100000 in
set_option maxHeartbeats 1600000 in
theorem rvalid_m5 (id sz tm vt rl ld ti vs : Int) (lg : Value) (cm : Int) (nx mt : Value) (w : World) (a1 : 1 ≤ sz) (a2 : sz ≤ 7) (a3 : 0 ≤ id) (a4 : id < sz) (a5 : 0 ≤ tm) (a6 : -1 ≤ vt) (a7 : vt < sz) (a8 : -1 ≤ ld) (a9 : ld < sz) (b1 : ¬ rl < 0) (b2 : ¬ 2 < rl) (b3 : ¬ ti < 0) (b4 : ¬ vs < 0) (b5 : wrap64 (2 ^ sz.toNat) ≤ vs) :
    Calls Try.prog 17 #[mem id sz tm vt rl ld ti vs lg cm nx mt] w fun e w' => e = .returned (.bool false) ∧ Below w.heap.size w w' := by
  have f1 : decide (sz < 1) = false := decide_eq_false (by omega)
  have f2 : decide (7 < sz) = false := decide_eq_false (by omega)
  have f3 : decide (id < 0) = false := decide_eq_false (by omega)
  have f4 : decide (sz ≤ id) = false := decide_eq_false (by omega)
  have f5 : decide (tm < 0) = false := decide_eq_false (by omega)
  have f6 : decide (vt < -1) = false := decide_eq_false (by omega)
  have f7 : decide (sz ≤ vt) = false := decide_eq_false (by omega)
  have f8 : decide (ld < -1) = false := decide_eq_false (by omega)
  have f9 : decide (sz ≤ ld) = false := decide_eq_false (by omega)
  have e1 : decide (rl < 0) = false := decide_eq_false b1
  have e2 : decide (2 < rl) = false := decide_eq_false b2
  have e3 : decide (ti < 0) = false := decide_eq_false b3
  have e4 : decide (vs < 0) = false := decide_eq_false b4
  have e5 : decide (wrap64 (2 ^ sz.toNat) ≤ vs) = true := decide_eq_true b5
  have hbw : Below w.heap.size w (w.alloc (.cells #[.int .i64 id, .int .i64 sz, .int .i64 tm, .int .i64 vt, .int .i64 rl, .int .i64 ld, .int .i64 ti, .int .i64 vs, lg, .int .i64 cm, nx, mt] 25)) := (Below.refl _ _).alloc (Nat.le_refl _) _
  have HB := Lib.hid hbw
  clear hbw
  go_enter Try.func17, Try.ntmps17
  go_wp2_with fail
  go_quiet (fail)
  go_wp2_with fail
  go_ret
  exact ⟨rfl, below_drewN' HB.out _⟩
end Go.Proofs.Ytfpgklhbghahoaa
/- Election: the reference's Valid for a member of role 0. -/
namespace Go.Proofs.Ytfpgklhbghahoaa
open Go.ChangeShapes Go.WideShapes Go.ChangeAt Go.RowKit Go.Deep
set_option linter.unusedVariables false
set_option linter.unusedSimpArgs false
set_option maxRecDepth 100000 in
set_option maxHeartbeats 8000000 in
theorem rvalid_y0 (id sz tm vt rl ld ti vs : Int) (hrl : rl = 0) (ga : Option Addr) (gc : Nat) (es : List (List Value)) (cm : Int) (an : Option Addr) (cn : Nat) (am : Option Addr) (cc : Nat) (xs ys : List Int) (w : World) (a1 : 1 ≤ sz) (a2 : sz ≤ 7) (a3 : 0 ≤ id) (a4 : id < sz) (a5 : 0 ≤ tm) (a6 : -1 ≤ vt) (a7 : vt < sz) (a8 : -1 ≤ ld) (a9 : ld < sz) (b3 : ¬ ti < 0) (b4 : ¬ vs < 0) (b5 : vs < 2 ^ sz.toNat) (hl : es.length ≤ 100) (he : EntArg w (.slice ga es.length gc) es) (hX : IntsIn w (.slice an xs.length cn) xs) (hY : IntsIn w (.slice am ys.length cc) ys) (hxl : xs.length ≤ 9223372036854775807) (hyl : ys.length ≤ 9223372036854775807) :
    Calls Try.prog 17 #[mem id sz tm vt rl ld ti vs (.slice ga es.length gc) cm (.slice an xs.length cn) (.slice am ys.length cc)] w fun e w' => e = .returned (.bool (restB id sz tm vt rl ld vs cm es xs ys)) ∧ Below w.heap.size w w' := by
  have HE := Lib.hid he
  have HX := Lib.hid hX
  have HY := Lib.hid hY
  have v0 : 0 ≤ vs := by omega
  have hc := cntB_le vs v0 sz.toNat
  have hm := maj_le sz a1 a2
  have HL : Hid (∀ W, EntArg W (.slice ga es.length gc) es → Calls Try.prog 33 #[mem id sz tm vt rl ld ti vs (.slice ga es.length gc) cm (.slice an xs.length cn) (.slice am ys.length cc)] W fun e w' => e = .returned (.bool (lgB tm cm es)) ∧ Below W.heap.size W w') := Lib.hid (fun W hW => logged_any id sz tm vt rl ld ti vs _ es cm _ _ W hl hW)
  have HVo := Lib.hid (fun W => votes_at vs sz W v0 a1 a2)
  have HMa := Lib.hid (fun W => rmaj_any sz W)
  have HPx := Lib.hid (fun W (h : IntsIn W (.slice an xs.length cn) xs) => rplaces_at _ xs es.length W h)
  have HPy := Lib.hid (fun W (h : IntsIn W (.slice am ys.length cc) ys) => rplaces_at _ ys es.length W h)
  have HR : Hid (restB id sz tm vt rl ld vs cm es xs ys = (lgB tm cm es && (decide ((xs.length : Int) = 0) && decide ((ys.length : Int) = 0)))) := Lib.hid (by subst hrl; rfl)
  have HF : Hid (firstB id tm vt vs = (decide (1 ≤ tm) && decide (vt = id) && !((vs / 2 ^ id.toNat).tmod 2 == 0))) := Lib.hid rfl
  generalize restB id sz tm vt rl ld vs cm es xs ys = R at *
  generalize firstB id tm vt vs = FB at *
  generalize cntB vs sz.toNat = c at *
  generalize maj sz = mj at *
  generalize lgB tm cm es = lb at *
  generalize inB es.length xs = bx at *
  generalize inB es.length ys = by' at *
  have hc7 : c ≤ 7 := by omega
  have hc0 : 0 ≤ c := hc.1
  clear hc he hX hY
  have f1 : decide (sz < 1) = false := decide_eq_false (by omega)
  have f2 : decide (7 < sz) = false := decide_eq_false (by omega)
  have f3 : decide (id < 0) = false := decide_eq_false (by omega)
  have f4 : decide (sz ≤ id) = false := decide_eq_false (by omega)
  have f5 : decide (tm < 0) = false := decide_eq_false (by omega)
  have f6 : decide (vt < -1) = false := decide_eq_false (by omega)
  have f7 : decide (sz ≤ vt) = false := decide_eq_false (by omega)
  have f8 : decide (ld < -1) = false := decide_eq_false (by omega)
  have f9 : decide (sz ≤ ld) = false := decide_eq_false (by omega)
  have e4 : decide (vs < 0) = false := decide_eq_false b4
  have e3 : decide (ti < 0) = false := decide_eq_false b3
  have e5 : decide (wrap64 (2 ^ sz.toNat) ≤ vs) = false := decide_eq_false (by rw [pow_wrap sz a1 a2]; omega)
  have e6 : decide (IntKind.i64.wrap (2 ^ sz.toNat) ≤ vs) = false := decide_eq_false (by rw [IntWalk.i64_left, pow_wrap sz a1 a2]; omega)
  have e1 : decide (rl < 0) = false := decide_eq_false (by omega)
  have e2 : decide (2 < rl) = false := decide_eq_false (by omega)
  have b1 : 0 ≤ rl := by omega
  have b2 : rl ≤ 2 := by omega
  have HRL := Lib.hid hrl
  clear hrl
  clear b5
  have HM0 := Lib.hid (VM.start w (memL id sz tm vt rl ld ti vs (.slice ga es.length gc) cm (.slice an xs.length cn) (.slice am ys.length cc)) 25 rfl)
  go_enter Try.func17, Try.ntmps17
  go_wp2_with fail
  refine wp_named (fun W => VM w (memL id sz tm vt rl ld ti vs (.slice ga es.length gc) cm (.slice an xs.length cn) (.slice am ys.length cc)) W) HM0.out ?_
  rintro W hVM
  have c1 : W.cell? ⟨w.heap.size, 1, none⟩ = some (.int .i64 sz) := hVM.1.cell 1 _ rfl
  have c4 : W.cell? ⟨w.heap.size, 4, none⟩ = some (.int .i64 rl) := hVM.1.cell 4 _ rfl
  have c6 : W.cell? ⟨w.heap.size, 6, none⟩ = some (.int .i64 ti) := hVM.1.cell 6 _ rfl
  have c7 : W.cell? ⟨w.heap.size, 7, none⟩ = some (.int .i64 vs) := hVM.1.cell 7 _ rfl
  have HM1 := Lib.hid hVM
  clear hVM HM0
  go_still_tail 27, (by kernel_rfl)
  change wpList _ _ _ _ _ W.drew
  have HM2 : Hid (VM w (memL id sz tm vt rl ld ti vs (.slice ga es.length gc) cm (.slice an xs.length cn) (.slice am ys.length cc)) W.drew) := Lib.hid ⟨⟨HM1.out.1.1.drew, HM1.out.1.2⟩, HM1.out.2.drew⟩
  clear HM1 c1 c4 c6 c7
  have hA := HM2.out.1
  go_wp2_with (with_reducible refine wpList_box_load_g 25 1 w.heap.size (memL id sz tm vt rl ld ti vs (.slice ga es.length gc) cm (.slice an xs.length cn) (.slice am ys.length cc)) _ _ _ _ _ _ _ ?_ hA wideMem ?_ ?_)
  · rfl
  go_wp2_with fail
  refine (HL.out _ (HE.out.below HM2.out.2)).mono ?_
  rintro e W2 ⟨rfl, hb2⟩
  have HM3 := Lib.hid (HM2.out.keep hb2)
  clear hb2 hA HM2
  obtain rfl := HRL.out
  cases lb
  · go_wp2_with fail
    go_ret
    exact ⟨ret_b (by rw [HR.out]; rfl), HM3.out.2⟩
  have d0 : W2.cell? ⟨w.heap.size, 0, none⟩ = some (.int .i64 id) := HM3.out.1.cell 0 _ rfl
  have d1 : W2.cell? ⟨w.heap.size, 1, none⟩ = some (.int .i64 sz) := HM3.out.1.cell 1 _ rfl
  have d2 : W2.cell? ⟨w.heap.size, 2, none⟩ = some (.int .i64 tm) := HM3.out.1.cell 2 _ rfl
  have d3 : W2.cell? ⟨w.heap.size, 3, none⟩ = some (.int .i64 vt) := HM3.out.1.cell 3 _ rfl
  have d4 : W2.cell? ⟨w.heap.size, 4, none⟩ = some (.int .i64 0) := HM3.out.1.cell 4 _ rfl
  have d5 : W2.cell? ⟨w.heap.size, 5, none⟩ = some (.int .i64 ld) := HM3.out.1.cell 5 _ rfl
  have d7 : W2.cell? ⟨w.heap.size, 7, none⟩ = some (.int .i64 vs) := HM3.out.1.cell 7 _ rfl
  have d8 : W2.cell? ⟨w.heap.size, 8, none⟩ = some (.slice ga es.length gc) := HM3.out.1.cell 8 _ rfl
  have d10 : W2.cell? ⟨w.heap.size, 10, none⟩ = some (.slice an xs.length cn) := HM3.out.1.cell 10 _ rfl
  have d11 : W2.cell? ⟨w.heap.size, 11, none⟩ = some (.slice am ys.length cc) := HM3.out.1.cell 11 _ rfl
  by_cases hn : (xs.length : Int) = 0
  · have pn : ((xs.length : Int) == 0) = true := beq_iff_eq.2 hn
    by_cases hm2 : (ys.length : Int) = 0
    · have pm : ((ys.length : Int) == 0) = true := beq_iff_eq.2 hm2
      have HV : Hid (R = true) := Lib.hid (by rw [HR.out, Bool.true_and, decide_eq_true hn, decide_eq_true hm2]; rfl)
      clear hn hm2
      go_wp2_with fail
      have hz := HM3.out.1.1.lt
      have hBd := HM3.out.2
      have hBd' := hBd.drew
      go_region_held3 (fun W => W.cell? ⟨w.heap.size, 0, none⟩ = some (.int .i64 id) ∧ W.cell? ⟨w.heap.size, 1, none⟩ = some (.int .i64 sz) ∧ W.cell? ⟨w.heap.size, 4, none⟩ = some (.int .i64 0) ∧ W.cell? ⟨w.heap.size, 5, none⟩ = some (.int .i64 ld) ∧ W.cell? ⟨w.heap.size, 7, none⟩ = some (.int .i64 vs) ∧ W.cell? ⟨w.heap.size, 8, none⟩ = some (.slice ga es.length gc) ∧ W.cell? ⟨w.heap.size, 10, none⟩ = some (.slice an xs.length cn) ∧ W.cell? ⟨w.heap.size, 11, none⟩ = some (.slice am ys.length cc) ∧ w.heap.size < W.heap.size ∧ Below w.heap.size w W) (refine ⟨?_, ?_, ?_, ?_, ?_, ?_, ?_, ?_, ?_, ?_⟩ <;> assumption) (first | (go_at_call 34; refine (HVo.out _).mono ?_; rintro e wq ⟨rfl, rfl⟩) | (go_at_call 13; refine (HMa.out _).mono ?_; rintro e wq ⟨rfl, rfl⟩))
      all_goals (go_wp2_with fail; go_ret; exact ⟨ret_b HV.out, by assumption⟩)
    · have pm : ((ys.length : Int) == 0) = false := beq_eq_false_iff_ne.2 hm2
      have HV : Hid (R = false) := Lib.hid (by rw [HR.out, Bool.true_and, decide_eq_false hm2, Bool.and_false])
      clear hn hm2
      go_wp2_with fail
      have hz := HM3.out.1.1.lt
      have hBd := HM3.out.2
      have hBd' := hBd.drew
      go_region_held3 (fun W => W.cell? ⟨w.heap.size, 0, none⟩ = some (.int .i64 id) ∧ W.cell? ⟨w.heap.size, 1, none⟩ = some (.int .i64 sz) ∧ W.cell? ⟨w.heap.size, 4, none⟩ = some (.int .i64 0) ∧ W.cell? ⟨w.heap.size, 5, none⟩ = some (.int .i64 ld) ∧ W.cell? ⟨w.heap.size, 7, none⟩ = some (.int .i64 vs) ∧ W.cell? ⟨w.heap.size, 8, none⟩ = some (.slice ga es.length gc) ∧ W.cell? ⟨w.heap.size, 10, none⟩ = some (.slice an xs.length cn) ∧ W.cell? ⟨w.heap.size, 11, none⟩ = some (.slice am ys.length cc) ∧ w.heap.size < W.heap.size ∧ Below w.heap.size w W) (refine ⟨?_, ?_, ?_, ?_, ?_, ?_, ?_, ?_, ?_, ?_⟩ <;> assumption) (first | (go_at_call 34; refine (HVo.out _).mono ?_; rintro e wq ⟨rfl, rfl⟩) | (go_at_call 13; refine (HMa.out _).mono ?_; rintro e wq ⟨rfl, rfl⟩))
      all_goals (go_wp2_with fail; go_ret; exact ⟨ret_b HV.out, by assumption⟩)
  · have pn : ((xs.length : Int) == 0) = false := beq_eq_false_iff_ne.2 hn
    have HV : Hid (R = false) := Lib.hid (by rw [HR.out, Bool.true_and, decide_eq_false hn, Bool.false_and])
    clear hn
    go_wp2_with fail
    have hz := HM3.out.1.1.lt
    have hBd := HM3.out.2
    have hBd' := hBd.drew
    go_region_held3 (fun W => W.cell? ⟨w.heap.size, 0, none⟩ = some (.int .i64 id) ∧ W.cell? ⟨w.heap.size, 1, none⟩ = some (.int .i64 sz) ∧ W.cell? ⟨w.heap.size, 4, none⟩ = some (.int .i64 0) ∧ W.cell? ⟨w.heap.size, 5, none⟩ = some (.int .i64 ld) ∧ W.cell? ⟨w.heap.size, 7, none⟩ = some (.int .i64 vs) ∧ W.cell? ⟨w.heap.size, 8, none⟩ = some (.slice ga es.length gc) ∧ W.cell? ⟨w.heap.size, 10, none⟩ = some (.slice an xs.length cn) ∧ W.cell? ⟨w.heap.size, 11, none⟩ = some (.slice am ys.length cc) ∧ w.heap.size < W.heap.size ∧ Below w.heap.size w W) (refine ⟨?_, ?_, ?_, ?_, ?_, ?_, ?_, ?_, ?_, ?_⟩ <;> assumption) (first | (go_at_call 34; refine (HVo.out _).mono ?_; rintro e wq ⟨rfl, rfl⟩) | (go_at_call 13; refine (HMa.out _).mono ?_; rintro e wq ⟨rfl, rfl⟩))
    all_goals (go_wp2_with fail; go_ret; exact ⟨ret_b HV.out, by assumption⟩)
end Go.Proofs.Ytfpgklhbghahoaa
/- Election: the reference's Valid for a member of role 1. -/
namespace Go.Proofs.Ytfpgklhbghahoaa
open Go.ChangeShapes Go.WideShapes Go.ChangeAt Go.RowKit Go.Deep
set_option linter.unusedVariables false
set_option linter.unusedSimpArgs false
set_option maxRecDepth 100000 in
set_option maxHeartbeats 8000000 in
theorem rvalid_y1 (id sz tm vt rl ld ti vs : Int) (hrl : rl = 1) (ga : Option Addr) (gc : Nat) (es : List (List Value)) (cm : Int) (an : Option Addr) (cn : Nat) (am : Option Addr) (cc : Nat) (xs ys : List Int) (w : World) (a1 : 1 ≤ sz) (a2 : sz ≤ 7) (a3 : 0 ≤ id) (a4 : id < sz) (a5 : 0 ≤ tm) (a6 : -1 ≤ vt) (a7 : vt < sz) (a8 : -1 ≤ ld) (a9 : ld < sz) (b3 : ¬ ti < 0) (b4 : ¬ vs < 0) (b5 : vs < 2 ^ sz.toNat) (hl : es.length ≤ 100) (he : EntArg w (.slice ga es.length gc) es) (hX : IntsIn w (.slice an xs.length cn) xs) (hY : IntsIn w (.slice am ys.length cc) ys) (hxl : xs.length ≤ 9223372036854775807) (hyl : ys.length ≤ 9223372036854775807) :
    Calls Try.prog 17 #[mem id sz tm vt rl ld ti vs (.slice ga es.length gc) cm (.slice an xs.length cn) (.slice am ys.length cc)] w fun e w' => e = .returned (.bool (restB id sz tm vt rl ld vs cm es xs ys)) ∧ Below w.heap.size w w' := by
  have HE := Lib.hid he
  have HX := Lib.hid hX
  have HY := Lib.hid hY
  have v0 : 0 ≤ vs := by omega
  have hc := cntB_le vs v0 sz.toNat
  have hm := maj_le sz a1 a2
  have HL : Hid (∀ W, EntArg W (.slice ga es.length gc) es → Calls Try.prog 33 #[mem id sz tm vt rl ld ti vs (.slice ga es.length gc) cm (.slice an xs.length cn) (.slice am ys.length cc)] W fun e w' => e = .returned (.bool (lgB tm cm es)) ∧ Below W.heap.size W w') := Lib.hid (fun W hW => logged_any id sz tm vt rl ld ti vs _ es cm _ _ W hl hW)
  have HVo := Lib.hid (fun W => votes_at vs sz W v0 a1 a2)
  have HMa := Lib.hid (fun W => rmaj_any sz W)
  have HPx := Lib.hid (fun W (h : IntsIn W (.slice an xs.length cn) xs) => rplaces_at _ xs es.length W h)
  have HPy := Lib.hid (fun W (h : IntsIn W (.slice am ys.length cc) ys) => rplaces_at _ ys es.length W h)
  have HR : Hid (restB id sz tm vt rl ld vs cm es xs ys = (lgB tm cm es && (firstB id tm vt vs && decide (ld = -1) && decide (cntB vs sz.toNat < maj sz) && (decide ((xs.length : Int) = 0) && decide ((ys.length : Int) = 0))))) := Lib.hid (by subst hrl; rfl)
  have HF : Hid (firstB id tm vt vs = (decide (1 ≤ tm) && decide (vt = id) && !((vs / 2 ^ id.toNat).tmod 2 == 0))) := Lib.hid rfl
  generalize restB id sz tm vt rl ld vs cm es xs ys = R at *
  generalize firstB id tm vt vs = FB at *
  generalize cntB vs sz.toNat = c at *
  generalize maj sz = mj at *
  generalize lgB tm cm es = lb at *
  generalize inB es.length xs = bx at *
  generalize inB es.length ys = by' at *
  have hc7 : c ≤ 7 := by omega
  have hc0 : 0 ≤ c := hc.1
  clear hc he hX hY
  have f1 : decide (sz < 1) = false := decide_eq_false (by omega)
  have f2 : decide (7 < sz) = false := decide_eq_false (by omega)
  have f3 : decide (id < 0) = false := decide_eq_false (by omega)
  have f4 : decide (sz ≤ id) = false := decide_eq_false (by omega)
  have f5 : decide (tm < 0) = false := decide_eq_false (by omega)
  have f6 : decide (vt < -1) = false := decide_eq_false (by omega)
  have f7 : decide (sz ≤ vt) = false := decide_eq_false (by omega)
  have f8 : decide (ld < -1) = false := decide_eq_false (by omega)
  have f9 : decide (sz ≤ ld) = false := decide_eq_false (by omega)
  have e4 : decide (vs < 0) = false := decide_eq_false b4
  have e3 : decide (ti < 0) = false := decide_eq_false b3
  have e5 : decide (wrap64 (2 ^ sz.toNat) ≤ vs) = false := decide_eq_false (by rw [pow_wrap sz a1 a2]; omega)
  have e6 : decide (IntKind.i64.wrap (2 ^ sz.toNat) ≤ vs) = false := decide_eq_false (by rw [IntWalk.i64_left, pow_wrap sz a1 a2]; omega)
  have e1 : decide (rl < 0) = false := decide_eq_false (by omega)
  have e2 : decide (2 < rl) = false := decide_eq_false (by omega)
  have b1 : 0 ≤ rl := by omega
  have b2 : rl ≤ 2 := by omega
  have HRL := Lib.hid hrl
  clear hrl
  clear b5
  have HM0 := Lib.hid (VM.start w (memL id sz tm vt rl ld ti vs (.slice ga es.length gc) cm (.slice an xs.length cn) (.slice am ys.length cc)) 25 rfl)
  go_enter Try.func17, Try.ntmps17
  go_wp2_with fail
  refine wp_named (fun W => VM w (memL id sz tm vt rl ld ti vs (.slice ga es.length gc) cm (.slice an xs.length cn) (.slice am ys.length cc)) W) HM0.out ?_
  rintro W hVM
  have c1 : W.cell? ⟨w.heap.size, 1, none⟩ = some (.int .i64 sz) := hVM.1.cell 1 _ rfl
  have c4 : W.cell? ⟨w.heap.size, 4, none⟩ = some (.int .i64 rl) := hVM.1.cell 4 _ rfl
  have c6 : W.cell? ⟨w.heap.size, 6, none⟩ = some (.int .i64 ti) := hVM.1.cell 6 _ rfl
  have c7 : W.cell? ⟨w.heap.size, 7, none⟩ = some (.int .i64 vs) := hVM.1.cell 7 _ rfl
  have HM1 := Lib.hid hVM
  clear hVM HM0
  go_still_tail 27, (by kernel_rfl)
  change wpList _ _ _ _ _ W.drew
  have HM2 : Hid (VM w (memL id sz tm vt rl ld ti vs (.slice ga es.length gc) cm (.slice an xs.length cn) (.slice am ys.length cc)) W.drew) := Lib.hid ⟨⟨HM1.out.1.1.drew, HM1.out.1.2⟩, HM1.out.2.drew⟩
  clear HM1 c1 c4 c6 c7
  have hA := HM2.out.1
  go_wp2_with (with_reducible refine wpList_box_load_g 25 1 w.heap.size (memL id sz tm vt rl ld ti vs (.slice ga es.length gc) cm (.slice an xs.length cn) (.slice am ys.length cc)) _ _ _ _ _ _ _ ?_ hA wideMem ?_ ?_)
  · rfl
  go_wp2_with fail
  refine (HL.out _ (HE.out.below HM2.out.2)).mono ?_
  rintro e W2 ⟨rfl, hb2⟩
  have HM3 := Lib.hid (HM2.out.keep hb2)
  clear hb2 hA HM2
  obtain rfl := HRL.out
  cases lb
  · go_wp2_with fail
    go_ret
    exact ⟨ret_b (by rw [HR.out]; rfl), HM3.out.2⟩
  have d0 : W2.cell? ⟨w.heap.size, 0, none⟩ = some (.int .i64 id) := HM3.out.1.cell 0 _ rfl
  have d1 : W2.cell? ⟨w.heap.size, 1, none⟩ = some (.int .i64 sz) := HM3.out.1.cell 1 _ rfl
  have d2 : W2.cell? ⟨w.heap.size, 2, none⟩ = some (.int .i64 tm) := HM3.out.1.cell 2 _ rfl
  have d3 : W2.cell? ⟨w.heap.size, 3, none⟩ = some (.int .i64 vt) := HM3.out.1.cell 3 _ rfl
  have d4 : W2.cell? ⟨w.heap.size, 4, none⟩ = some (.int .i64 1) := HM3.out.1.cell 4 _ rfl
  have d5 : W2.cell? ⟨w.heap.size, 5, none⟩ = some (.int .i64 ld) := HM3.out.1.cell 5 _ rfl
  have d7 : W2.cell? ⟨w.heap.size, 7, none⟩ = some (.int .i64 vs) := HM3.out.1.cell 7 _ rfl
  have d8 : W2.cell? ⟨w.heap.size, 8, none⟩ = some (.slice ga es.length gc) := HM3.out.1.cell 8 _ rfl
  have d10 : W2.cell? ⟨w.heap.size, 10, none⟩ = some (.slice an xs.length cn) := HM3.out.1.cell 10 _ rfl
  have d11 : W2.cell? ⟨w.heap.size, 11, none⟩ = some (.slice am ys.length cc) := HM3.out.1.cell 11 _ rfl
  by_cases t1 : tm < 1
  · have p1 : decide (tm < 1) = true := decide_eq_true t1
    have HV : Hid (R = false) := Lib.hid (by rw [HR.out, HF.out, decide_eq_false (by omega)]; simp)
    go_wp2_with fail
    go_ret
    exact ⟨ret_b HV.out, HM3.out.2⟩
  have p1 : decide (tm < 1) = false := decide_eq_false t1
  have k1 : decide (1 ≤ tm) = true := decide_eq_true (by omega)
  by_cases t2 : vt = id
  rotate_left
  · have p2 : (vt == id) = false := beq_eq_false_iff_ne.2 t2
    have p2' : (vt != id) = true := by rw [bne, p2]; rfl
    have HV : Hid (R = false) := Lib.hid (by rw [HR.out, HF.out, decide_eq_false t2]; simp)
    go_wp2_with fail
    go_ret
    exact ⟨ret_b HV.out, HM3.out.2⟩
  have k2 : decide (vt = id) = true := decide_eq_true t2
  have p2 : (vt == id) = true := beq_iff_eq.2 t2
  have p2' : (vt != id) = false := by rw [bne, p2]; rfl
  cases t3 : ((vs / 2 ^ id.toNat).tmod 2 == 0)
  rotate_left
  ·
    have HV : Hid (R = false) := Lib.hid (by rw [HR.out, HF.out, t3]; simp)
    go_wp2_with fail
    go_ret
    exact ⟨ret_b HV.out, HM3.out.2⟩
  have HF2 : Hid (FB = true) := Lib.hid (by rw [HF.out, k1, k2, t3]; rfl)
  clear HF k1 k2 t1 t2
  by_cases t4 : ld = -1
  rotate_left
  · have p3 : (ld == -1) = false := beq_eq_false_iff_ne.2 t4
    have p3' : (ld != -1) = true := by rw [bne, p3]; rfl
    have HV : Hid (R = false) := Lib.hid (by rw [HR.out, decide_eq_false t4]; simp)
    go_wp2_with fail
    have hz := HM3.out.1.1.lt
    have hBd := HM3.out.2
    have hBd' := hBd.drew
    go_region_held3 (fun W => W.cell? ⟨w.heap.size, 0, none⟩ = some (.int .i64 id) ∧ W.cell? ⟨w.heap.size, 1, none⟩ = some (.int .i64 sz) ∧ W.cell? ⟨w.heap.size, 4, none⟩ = some (.int .i64 1) ∧ W.cell? ⟨w.heap.size, 5, none⟩ = some (.int .i64 ld) ∧ W.cell? ⟨w.heap.size, 7, none⟩ = some (.int .i64 vs) ∧ W.cell? ⟨w.heap.size, 8, none⟩ = some (.slice ga es.length gc) ∧ W.cell? ⟨w.heap.size, 10, none⟩ = some (.slice an xs.length cn) ∧ W.cell? ⟨w.heap.size, 11, none⟩ = some (.slice am ys.length cc) ∧ w.heap.size < W.heap.size ∧ Below w.heap.size w W) (refine ⟨?_, ?_, ?_, ?_, ?_, ?_, ?_, ?_, ?_, ?_⟩ <;> assumption) (first | (go_at_call 34; refine (HVo.out _).mono ?_; rintro e wq ⟨rfl, rfl⟩) | (go_at_call 13; refine (HMa.out _).mono ?_; rintro e wq ⟨rfl, rfl⟩))
    all_goals (go_wp2_with fail; go_ret; exact ⟨ret_b HV.out, by assumption⟩)
  have p3 : (ld == -1) = true := beq_iff_eq.2 t4
  have p3' : (ld != -1) = false := by rw [bne, p3]; rfl
  by_cases t5 : mj ≤ c
  · have p4 : decide (mj ≤ c) = true := decide_eq_true t5
    have HV : Hid (R = false) := Lib.hid (by rw [HR.out, decide_eq_false (show ¬ c < mj by omega)]; simp)
    go_wp2_with fail
    have hz := HM3.out.1.1.lt
    have hBd := HM3.out.2
    have hBd' := hBd.drew
    go_region_held3 (fun W => W.cell? ⟨w.heap.size, 0, none⟩ = some (.int .i64 id) ∧ W.cell? ⟨w.heap.size, 1, none⟩ = some (.int .i64 sz) ∧ W.cell? ⟨w.heap.size, 4, none⟩ = some (.int .i64 1) ∧ W.cell? ⟨w.heap.size, 5, none⟩ = some (.int .i64 ld) ∧ W.cell? ⟨w.heap.size, 7, none⟩ = some (.int .i64 vs) ∧ W.cell? ⟨w.heap.size, 8, none⟩ = some (.slice ga es.length gc) ∧ W.cell? ⟨w.heap.size, 10, none⟩ = some (.slice an xs.length cn) ∧ W.cell? ⟨w.heap.size, 11, none⟩ = some (.slice am ys.length cc) ∧ w.heap.size < W.heap.size ∧ Below w.heap.size w W) (refine ⟨?_, ?_, ?_, ?_, ?_, ?_, ?_, ?_, ?_, ?_⟩ <;> assumption) (first | (go_at_call 34; refine (HVo.out _).mono ?_; rintro e wq ⟨rfl, rfl⟩) | (go_at_call 13; refine (HMa.out _).mono ?_; rintro e wq ⟨rfl, rfl⟩))
    all_goals (go_wp2_with fail; go_ret; exact ⟨ret_b HV.out, by assumption⟩)
  have p4 : decide (mj ≤ c) = false := decide_eq_false t5
  have HR2 : Hid (R = (decide ((xs.length : Int) = 0) && decide ((ys.length : Int) = 0))) := Lib.hid (by rw [HR.out, HF2.out, decide_eq_true t4, decide_eq_true (show c < mj by omega)]; rfl)
  clear HR HF2 t4
  by_cases hn : (xs.length : Int) = 0
  · have pn : ((xs.length : Int) == 0) = true := beq_iff_eq.2 hn
    by_cases hm2 : (ys.length : Int) = 0
    · have pm : ((ys.length : Int) == 0) = true := beq_iff_eq.2 hm2
      have HV : Hid (R = true) := Lib.hid (by rw [HR2.out, decide_eq_true hn, decide_eq_true hm2]; rfl)
      clear hn hm2
      go_wp2_with fail
      have hz := HM3.out.1.1.lt
      have hBd := HM3.out.2
      have hBd' := hBd.drew
      go_region_held3 (fun W => W.cell? ⟨w.heap.size, 0, none⟩ = some (.int .i64 id) ∧ W.cell? ⟨w.heap.size, 1, none⟩ = some (.int .i64 sz) ∧ W.cell? ⟨w.heap.size, 4, none⟩ = some (.int .i64 1) ∧ W.cell? ⟨w.heap.size, 5, none⟩ = some (.int .i64 ld) ∧ W.cell? ⟨w.heap.size, 7, none⟩ = some (.int .i64 vs) ∧ W.cell? ⟨w.heap.size, 8, none⟩ = some (.slice ga es.length gc) ∧ W.cell? ⟨w.heap.size, 10, none⟩ = some (.slice an xs.length cn) ∧ W.cell? ⟨w.heap.size, 11, none⟩ = some (.slice am ys.length cc) ∧ w.heap.size < W.heap.size ∧ Below w.heap.size w W) (refine ⟨?_, ?_, ?_, ?_, ?_, ?_, ?_, ?_, ?_, ?_⟩ <;> assumption) (first | (go_at_call 34; refine (HVo.out _).mono ?_; rintro e wq ⟨rfl, rfl⟩) | (go_at_call 13; refine (HMa.out _).mono ?_; rintro e wq ⟨rfl, rfl⟩))
      all_goals (go_wp2_with fail; go_ret; exact ⟨ret_b HV.out, by assumption⟩)
    · have pm : ((ys.length : Int) == 0) = false := beq_eq_false_iff_ne.2 hm2
      have HV : Hid (R = false) := Lib.hid (by rw [HR2.out, decide_eq_false hm2, Bool.and_false])
      clear hn hm2
      go_wp2_with fail
      have hz := HM3.out.1.1.lt
      have hBd := HM3.out.2
      have hBd' := hBd.drew
      go_region_held3 (fun W => W.cell? ⟨w.heap.size, 0, none⟩ = some (.int .i64 id) ∧ W.cell? ⟨w.heap.size, 1, none⟩ = some (.int .i64 sz) ∧ W.cell? ⟨w.heap.size, 4, none⟩ = some (.int .i64 1) ∧ W.cell? ⟨w.heap.size, 5, none⟩ = some (.int .i64 ld) ∧ W.cell? ⟨w.heap.size, 7, none⟩ = some (.int .i64 vs) ∧ W.cell? ⟨w.heap.size, 8, none⟩ = some (.slice ga es.length gc) ∧ W.cell? ⟨w.heap.size, 10, none⟩ = some (.slice an xs.length cn) ∧ W.cell? ⟨w.heap.size, 11, none⟩ = some (.slice am ys.length cc) ∧ w.heap.size < W.heap.size ∧ Below w.heap.size w W) (refine ⟨?_, ?_, ?_, ?_, ?_, ?_, ?_, ?_, ?_, ?_⟩ <;> assumption) (first | (go_at_call 34; refine (HVo.out _).mono ?_; rintro e wq ⟨rfl, rfl⟩) | (go_at_call 13; refine (HMa.out _).mono ?_; rintro e wq ⟨rfl, rfl⟩))
      all_goals (go_wp2_with fail; go_ret; exact ⟨ret_b HV.out, by assumption⟩)
  · have pn : ((xs.length : Int) == 0) = false := beq_eq_false_iff_ne.2 hn
    have HV : Hid (R = false) := Lib.hid (by rw [HR2.out, decide_eq_false hn, Bool.false_and])
    clear hn
    go_wp2_with fail
    have hz := HM3.out.1.1.lt
    have hBd := HM3.out.2
    have hBd' := hBd.drew
    go_region_held3 (fun W => W.cell? ⟨w.heap.size, 0, none⟩ = some (.int .i64 id) ∧ W.cell? ⟨w.heap.size, 1, none⟩ = some (.int .i64 sz) ∧ W.cell? ⟨w.heap.size, 4, none⟩ = some (.int .i64 1) ∧ W.cell? ⟨w.heap.size, 5, none⟩ = some (.int .i64 ld) ∧ W.cell? ⟨w.heap.size, 7, none⟩ = some (.int .i64 vs) ∧ W.cell? ⟨w.heap.size, 8, none⟩ = some (.slice ga es.length gc) ∧ W.cell? ⟨w.heap.size, 10, none⟩ = some (.slice an xs.length cn) ∧ W.cell? ⟨w.heap.size, 11, none⟩ = some (.slice am ys.length cc) ∧ w.heap.size < W.heap.size ∧ Below w.heap.size w W) (refine ⟨?_, ?_, ?_, ?_, ?_, ?_, ?_, ?_, ?_, ?_⟩ <;> assumption) (first | (go_at_call 34; refine (HVo.out _).mono ?_; rintro e wq ⟨rfl, rfl⟩) | (go_at_call 13; refine (HMa.out _).mono ?_; rintro e wq ⟨rfl, rfl⟩))
    all_goals (go_wp2_with fail; go_ret; exact ⟨ret_b HV.out, by assumption⟩)
end Go.Proofs.Ytfpgklhbghahoaa
/- Election: the reference's Valid for a member of role 2. -/
namespace Go.Proofs.Ytfpgklhbghahoaa
open Go.ChangeShapes Go.WideShapes Go.ChangeAt Go.RowKit Go.Deep
set_option linter.unusedVariables false
set_option linter.unusedSimpArgs false
set_option maxRecDepth 100000 in
set_option maxHeartbeats 8000000 in
theorem rvalid_y2 (id sz tm vt rl ld ti vs : Int) (hrl : rl = 2) (ga : Option Addr) (gc : Nat) (es : List (List Value)) (cm : Int) (an : Option Addr) (cn : Nat) (am : Option Addr) (cc : Nat) (xs ys : List Int) (w : World) (a1 : 1 ≤ sz) (a2 : sz ≤ 7) (a3 : 0 ≤ id) (a4 : id < sz) (a5 : 0 ≤ tm) (a6 : -1 ≤ vt) (a7 : vt < sz) (a8 : -1 ≤ ld) (a9 : ld < sz) (b3 : ¬ ti < 0) (b4 : ¬ vs < 0) (b5 : vs < 2 ^ sz.toNat) (hl : es.length ≤ 100) (he : EntArg w (.slice ga es.length gc) es) (hX : IntsIn w (.slice an xs.length cn) xs) (hY : IntsIn w (.slice am ys.length cc) ys) (hxl : xs.length ≤ 9223372036854775807) (hyl : ys.length ≤ 9223372036854775807) :
    Calls Try.prog 17 #[mem id sz tm vt rl ld ti vs (.slice ga es.length gc) cm (.slice an xs.length cn) (.slice am ys.length cc)] w fun e w' => e = .returned (.bool (restB id sz tm vt rl ld vs cm es xs ys)) ∧ Below w.heap.size w w' := by
  have HE := Lib.hid he
  have HX := Lib.hid hX
  have HY := Lib.hid hY
  have v0 : 0 ≤ vs := by omega
  have hc := cntB_le vs v0 sz.toNat
  have hm := maj_le sz a1 a2
  have HL : Hid (∀ W, EntArg W (.slice ga es.length gc) es → Calls Try.prog 33 #[mem id sz tm vt rl ld ti vs (.slice ga es.length gc) cm (.slice an xs.length cn) (.slice am ys.length cc)] W fun e w' => e = .returned (.bool (lgB tm cm es)) ∧ Below W.heap.size W w') := Lib.hid (fun W hW => logged_any id sz tm vt rl ld ti vs _ es cm _ _ W hl hW)
  have HVo := Lib.hid (fun W => votes_at vs sz W v0 a1 a2)
  have HMa := Lib.hid (fun W => rmaj_any sz W)
  have HPx := Lib.hid (fun W (h : IntsIn W (.slice an xs.length cn) xs) => rplaces_at _ xs es.length W h)
  have HPy := Lib.hid (fun W (h : IntsIn W (.slice am ys.length cc) ys) => rplaces_at _ ys es.length W h)
  have HR : Hid (restB id sz tm vt rl ld vs cm es xs ys = (lgB tm cm es && (firstB id tm vt vs && decide (ld = id) && decide (maj sz ≤ cntB vs sz.toNat) && (decide ((xs.length : Int) = sz) && decide ((ys.length : Int) = sz)) && (inB es.length xs && inB es.length ys)))) := Lib.hid (by subst hrl; rfl)
  have HF : Hid (firstB id tm vt vs = (decide (1 ≤ tm) && decide (vt = id) && !((vs / 2 ^ id.toNat).tmod 2 == 0))) := Lib.hid rfl
  generalize restB id sz tm vt rl ld vs cm es xs ys = R at *
  generalize firstB id tm vt vs = FB at *
  generalize cntB vs sz.toNat = c at *
  generalize maj sz = mj at *
  generalize lgB tm cm es = lb at *
  generalize inB es.length xs = bx at *
  generalize inB es.length ys = by' at *
  have hc7 : c ≤ 7 := by omega
  have hc0 : 0 ≤ c := hc.1
  clear hc he hX hY
  have f1 : decide (sz < 1) = false := decide_eq_false (by omega)
  have f2 : decide (7 < sz) = false := decide_eq_false (by omega)
  have f3 : decide (id < 0) = false := decide_eq_false (by omega)
  have f4 : decide (sz ≤ id) = false := decide_eq_false (by omega)
  have f5 : decide (tm < 0) = false := decide_eq_false (by omega)
  have f6 : decide (vt < -1) = false := decide_eq_false (by omega)
  have f7 : decide (sz ≤ vt) = false := decide_eq_false (by omega)
  have f8 : decide (ld < -1) = false := decide_eq_false (by omega)
  have f9 : decide (sz ≤ ld) = false := decide_eq_false (by omega)
  have e4 : decide (vs < 0) = false := decide_eq_false b4
  have e3 : decide (ti < 0) = false := decide_eq_false b3
  have e5 : decide (wrap64 (2 ^ sz.toNat) ≤ vs) = false := decide_eq_false (by rw [pow_wrap sz a1 a2]; omega)
  have e6 : decide (IntKind.i64.wrap (2 ^ sz.toNat) ≤ vs) = false := decide_eq_false (by rw [IntWalk.i64_left, pow_wrap sz a1 a2]; omega)
  have e1 : decide (rl < 0) = false := decide_eq_false (by omega)
  have e2 : decide (2 < rl) = false := decide_eq_false (by omega)
  have b1 : 0 ≤ rl := by omega
  have b2 : rl ≤ 2 := by omega
  have HRL := Lib.hid hrl
  clear hrl
  clear b5
  have HM0 := Lib.hid (VM.start w (memL id sz tm vt rl ld ti vs (.slice ga es.length gc) cm (.slice an xs.length cn) (.slice am ys.length cc)) 25 rfl)
  go_enter Try.func17, Try.ntmps17
  go_wp2_with fail
  refine wp_named (fun W => VM w (memL id sz tm vt rl ld ti vs (.slice ga es.length gc) cm (.slice an xs.length cn) (.slice am ys.length cc)) W) HM0.out ?_
  rintro W hVM
  have c1 : W.cell? ⟨w.heap.size, 1, none⟩ = some (.int .i64 sz) := hVM.1.cell 1 _ rfl
  have c4 : W.cell? ⟨w.heap.size, 4, none⟩ = some (.int .i64 rl) := hVM.1.cell 4 _ rfl
  have c6 : W.cell? ⟨w.heap.size, 6, none⟩ = some (.int .i64 ti) := hVM.1.cell 6 _ rfl
  have c7 : W.cell? ⟨w.heap.size, 7, none⟩ = some (.int .i64 vs) := hVM.1.cell 7 _ rfl
  have HM1 := Lib.hid hVM
  clear hVM HM0
  go_still_tail 27, (by kernel_rfl)
  change wpList _ _ _ _ _ W.drew
  have HM2 : Hid (VM w (memL id sz tm vt rl ld ti vs (.slice ga es.length gc) cm (.slice an xs.length cn) (.slice am ys.length cc)) W.drew) := Lib.hid ⟨⟨HM1.out.1.1.drew, HM1.out.1.2⟩, HM1.out.2.drew⟩
  clear HM1 c1 c4 c6 c7
  have hA := HM2.out.1
  go_wp2_with (with_reducible refine wpList_box_load_g 25 1 w.heap.size (memL id sz tm vt rl ld ti vs (.slice ga es.length gc) cm (.slice an xs.length cn) (.slice am ys.length cc)) _ _ _ _ _ _ _ ?_ hA wideMem ?_ ?_)
  · rfl
  go_wp2_with fail
  refine (HL.out _ (HE.out.below HM2.out.2)).mono ?_
  rintro e W2 ⟨rfl, hb2⟩
  have HM3 := Lib.hid (HM2.out.keep hb2)
  clear hb2 hA HM2
  obtain rfl := HRL.out
  cases lb
  · go_wp2_with fail
    go_ret
    exact ⟨ret_b (by rw [HR.out]; rfl), HM3.out.2⟩
  have d0 : W2.cell? ⟨w.heap.size, 0, none⟩ = some (.int .i64 id) := HM3.out.1.cell 0 _ rfl
  have d1 : W2.cell? ⟨w.heap.size, 1, none⟩ = some (.int .i64 sz) := HM3.out.1.cell 1 _ rfl
  have d2 : W2.cell? ⟨w.heap.size, 2, none⟩ = some (.int .i64 tm) := HM3.out.1.cell 2 _ rfl
  have d3 : W2.cell? ⟨w.heap.size, 3, none⟩ = some (.int .i64 vt) := HM3.out.1.cell 3 _ rfl
  have d4 : W2.cell? ⟨w.heap.size, 4, none⟩ = some (.int .i64 2) := HM3.out.1.cell 4 _ rfl
  have d5 : W2.cell? ⟨w.heap.size, 5, none⟩ = some (.int .i64 ld) := HM3.out.1.cell 5 _ rfl
  have d7 : W2.cell? ⟨w.heap.size, 7, none⟩ = some (.int .i64 vs) := HM3.out.1.cell 7 _ rfl
  have d8 : W2.cell? ⟨w.heap.size, 8, none⟩ = some (.slice ga es.length gc) := HM3.out.1.cell 8 _ rfl
  have d10 : W2.cell? ⟨w.heap.size, 10, none⟩ = some (.slice an xs.length cn) := HM3.out.1.cell 10 _ rfl
  have d11 : W2.cell? ⟨w.heap.size, 11, none⟩ = some (.slice am ys.length cc) := HM3.out.1.cell 11 _ rfl
  by_cases t1 : tm < 1
  · have p1 : decide (tm < 1) = true := decide_eq_true t1
    have HV : Hid (R = false) := Lib.hid (by rw [HR.out, HF.out, decide_eq_false (by omega)]; simp)
    go_wp2_with fail
    go_ret
    exact ⟨ret_b HV.out, HM3.out.2⟩
  have p1 : decide (tm < 1) = false := decide_eq_false t1
  have k1 : decide (1 ≤ tm) = true := decide_eq_true (by omega)
  by_cases t2 : vt = id
  rotate_left
  · have p2 : (vt == id) = false := beq_eq_false_iff_ne.2 t2
    have p2' : (vt != id) = true := by rw [bne, p2]; rfl
    have HV : Hid (R = false) := Lib.hid (by rw [HR.out, HF.out, decide_eq_false t2]; simp)
    go_wp2_with fail
    go_ret
    exact ⟨ret_b HV.out, HM3.out.2⟩
  have k2 : decide (vt = id) = true := decide_eq_true t2
  have p2 : (vt == id) = true := beq_iff_eq.2 t2
  have p2' : (vt != id) = false := by rw [bne, p2]; rfl
  cases t3 : ((vs / 2 ^ id.toNat).tmod 2 == 0)
  rotate_left
  ·
    have HV : Hid (R = false) := Lib.hid (by rw [HR.out, HF.out, t3]; simp)
    go_wp2_with fail
    go_ret
    exact ⟨ret_b HV.out, HM3.out.2⟩
  have HF2 : Hid (FB = true) := Lib.hid (by rw [HF.out, k1, k2, t3]; rfl)
  clear HF k1 k2 t1 t2
  by_cases t4 : ld = id
  rotate_left
  · have p3 : (ld == id) = false := beq_eq_false_iff_ne.2 t4
    have HV : Hid (R = false) := Lib.hid (by rw [HR.out, decide_eq_false t4]; simp)
    go_wp2_with fail
    have hz := HM3.out.1.1.lt
    have hBd := HM3.out.2
    have hBd' := hBd.drew
    go_region_held3 (fun W => W.cell? ⟨w.heap.size, 0, none⟩ = some (.int .i64 id) ∧ W.cell? ⟨w.heap.size, 1, none⟩ = some (.int .i64 sz) ∧ W.cell? ⟨w.heap.size, 4, none⟩ = some (.int .i64 2) ∧ W.cell? ⟨w.heap.size, 5, none⟩ = some (.int .i64 ld) ∧ W.cell? ⟨w.heap.size, 7, none⟩ = some (.int .i64 vs) ∧ W.cell? ⟨w.heap.size, 8, none⟩ = some (.slice ga es.length gc) ∧ W.cell? ⟨w.heap.size, 10, none⟩ = some (.slice an xs.length cn) ∧ W.cell? ⟨w.heap.size, 11, none⟩ = some (.slice am ys.length cc) ∧ w.heap.size < W.heap.size ∧ Below w.heap.size w W) (refine ⟨?_, ?_, ?_, ?_, ?_, ?_, ?_, ?_, ?_, ?_⟩ <;> assumption) (first | (go_at_call 34; refine (HVo.out _).mono ?_; rintro e wq ⟨rfl, rfl⟩) | (go_at_call 13; refine (HMa.out _).mono ?_; rintro e wq ⟨rfl, rfl⟩))
    all_goals (go_wp2_with fail; go_ret; exact ⟨ret_b HV.out, by assumption⟩)
  have p3 : (ld == id) = true := beq_iff_eq.2 t4
  by_cases t5 : mj ≤ c
  rotate_left
  · have p4 : decide (mj ≤ c) = false := decide_eq_false t5
    have HV : Hid (R = false) := Lib.hid (by rw [HR.out, decide_eq_false t5]; simp)
    go_wp2_with fail
    have hz := HM3.out.1.1.lt
    have hBd := HM3.out.2
    have hBd' := hBd.drew
    go_region_held3 (fun W => W.cell? ⟨w.heap.size, 0, none⟩ = some (.int .i64 id) ∧ W.cell? ⟨w.heap.size, 1, none⟩ = some (.int .i64 sz) ∧ W.cell? ⟨w.heap.size, 4, none⟩ = some (.int .i64 2) ∧ W.cell? ⟨w.heap.size, 5, none⟩ = some (.int .i64 ld) ∧ W.cell? ⟨w.heap.size, 7, none⟩ = some (.int .i64 vs) ∧ W.cell? ⟨w.heap.size, 8, none⟩ = some (.slice ga es.length gc) ∧ W.cell? ⟨w.heap.size, 10, none⟩ = some (.slice an xs.length cn) ∧ W.cell? ⟨w.heap.size, 11, none⟩ = some (.slice am ys.length cc) ∧ w.heap.size < W.heap.size ∧ Below w.heap.size w W) (refine ⟨?_, ?_, ?_, ?_, ?_, ?_, ?_, ?_, ?_, ?_⟩ <;> assumption) (first | (go_at_call 34; refine (HVo.out _).mono ?_; rintro e wq ⟨rfl, rfl⟩) | (go_at_call 13; refine (HMa.out _).mono ?_; rintro e wq ⟨rfl, rfl⟩))
    all_goals (go_wp2_with fail; go_ret; exact ⟨ret_b HV.out, by assumption⟩)
  have p4 : decide (mj ≤ c) = true := decide_eq_true t5
  have HR2 : Hid (R = ((decide ((xs.length : Int) = sz) && decide ((ys.length : Int) = sz)) && (bx && by'))) := Lib.hid (by rw [HR.out, HF2.out, decide_eq_true t4, decide_eq_true t5]; rfl)
  clear HR HF2 t4
  by_cases hn : (xs.length : Int) = sz
  rotate_left
  · have pn : ((xs.length : Int) == sz) = false := beq_eq_false_iff_ne.2 hn
    have HV : Hid (R = false) := Lib.hid (by rw [HR2.out, decide_eq_false hn]; rfl)
    go_wp2_with fail
    have hz := HM3.out.1.1.lt
    have hBd := HM3.out.2
    have hBd' := hBd.drew
    go_region_held3 (fun W => W.cell? ⟨w.heap.size, 0, none⟩ = some (.int .i64 id) ∧ W.cell? ⟨w.heap.size, 1, none⟩ = some (.int .i64 sz) ∧ W.cell? ⟨w.heap.size, 4, none⟩ = some (.int .i64 2) ∧ W.cell? ⟨w.heap.size, 5, none⟩ = some (.int .i64 ld) ∧ W.cell? ⟨w.heap.size, 7, none⟩ = some (.int .i64 vs) ∧ W.cell? ⟨w.heap.size, 8, none⟩ = some (.slice ga es.length gc) ∧ W.cell? ⟨w.heap.size, 10, none⟩ = some (.slice an xs.length cn) ∧ W.cell? ⟨w.heap.size, 11, none⟩ = some (.slice am ys.length cc) ∧ w.heap.size < W.heap.size ∧ Below w.heap.size w W) (refine ⟨?_, ?_, ?_, ?_, ?_, ?_, ?_, ?_, ?_, ?_⟩ <;> assumption) (first | (go_at_call 34; refine (HVo.out _).mono ?_; rintro e wq ⟨rfl, rfl⟩) | (go_at_call 13; refine (HMa.out _).mono ?_; rintro e wq ⟨rfl, rfl⟩))
    all_goals (go_wp2_with fail; go_ret; exact ⟨ret_b HV.out, by assumption⟩)
  have pn : ((xs.length : Int) == sz) = true := beq_iff_eq.2 hn
  by_cases hm2 : (ys.length : Int) = sz
  rotate_left
  · have pm : ((ys.length : Int) == sz) = false := beq_eq_false_iff_ne.2 hm2
    have HV : Hid (R = false) := Lib.hid (by rw [HR2.out, decide_eq_false hm2]; simp)
    go_wp2_with fail
    have hz := HM3.out.1.1.lt
    have hBd := HM3.out.2
    have hBd' := hBd.drew
    go_region_held3 (fun W => W.cell? ⟨w.heap.size, 0, none⟩ = some (.int .i64 id) ∧ W.cell? ⟨w.heap.size, 1, none⟩ = some (.int .i64 sz) ∧ W.cell? ⟨w.heap.size, 4, none⟩ = some (.int .i64 2) ∧ W.cell? ⟨w.heap.size, 5, none⟩ = some (.int .i64 ld) ∧ W.cell? ⟨w.heap.size, 7, none⟩ = some (.int .i64 vs) ∧ W.cell? ⟨w.heap.size, 8, none⟩ = some (.slice ga es.length gc) ∧ W.cell? ⟨w.heap.size, 10, none⟩ = some (.slice an xs.length cn) ∧ W.cell? ⟨w.heap.size, 11, none⟩ = some (.slice am ys.length cc) ∧ w.heap.size < W.heap.size ∧ Below w.heap.size w W) (refine ⟨?_, ?_, ?_, ?_, ?_, ?_, ?_, ?_, ?_, ?_⟩ <;> assumption) (first | (go_at_call 34; refine (HVo.out _).mono ?_; rintro e wq ⟨rfl, rfl⟩) | (go_at_call 13; refine (HMa.out _).mono ?_; rintro e wq ⟨rfl, rfl⟩))
    all_goals (go_wp2_with fail; go_ret; exact ⟨ret_b HV.out, by assumption⟩)
  have pm : ((ys.length : Int) == sz) = true := beq_iff_eq.2 hm2
  have HV : Hid (R = (bx && by')) := Lib.hid (by rw [HR2.out, decide_eq_true hn, decide_eq_true hm2]; rfl)
  clear HR2 hn hm2 t5
  go_wp2_with fail
  have hz := HM3.out.1.1.lt
  have hBd := HM3.out.2
  have hBd' := hBd.drew
  go_region_held3 (fun W => W.cell? ⟨w.heap.size, 0, none⟩ = some (.int .i64 id) ∧ W.cell? ⟨w.heap.size, 1, none⟩ = some (.int .i64 sz) ∧ W.cell? ⟨w.heap.size, 4, none⟩ = some (.int .i64 2) ∧ W.cell? ⟨w.heap.size, 5, none⟩ = some (.int .i64 ld) ∧ W.cell? ⟨w.heap.size, 7, none⟩ = some (.int .i64 vs) ∧ W.cell? ⟨w.heap.size, 8, none⟩ = some (.slice ga es.length gc) ∧ W.cell? ⟨w.heap.size, 10, none⟩ = some (.slice an xs.length cn) ∧ W.cell? ⟨w.heap.size, 11, none⟩ = some (.slice am ys.length cc) ∧ w.heap.size < W.heap.size ∧ Below w.heap.size w W) (refine ⟨?_, ?_, ?_, ?_, ?_, ?_, ?_, ?_, ?_, ?_⟩ <;> assumption) (first | (go_at_call 34; refine (HVo.out _).mono ?_; rintro e wq ⟨rfl, rfl⟩) | (go_at_call 13; refine (HMa.out _).mono ?_; rintro e wq ⟨rfl, rfl⟩))
  go_wp2_with fail
  refine (HPx.out _ (HX.out.below (by assumption))).mono ?_
  rintro e wp ⟨rfl, rfl⟩
  cases bx
  · go_wp2_with fail
    go_ret
    exact ⟨ret_b (by rw [HV.out]; rfl), by assumption⟩
  go_wp2_with fail
  refine (HPy.out _ (HY.out.below (by assumption))).mono ?_
  rintro e wp ⟨rfl, rfl⟩
  cases by'
  all_goals (go_wp2_with fail; go_ret; exact ⟨ret_b (by rw [HV.out]; rfl), by assumption⟩)
end Go.Proofs.Ytfpgklhbghahoaa
/- Election: the reference's Valid in all cases; the law Valid. -/
namespace Go.Proofs.Ytfpgklhbghahoaa
open Go.ChangeShapes Go.WideShapes Go.ChangeAt Go.RowKit Go.Deep
set_option linter.unusedVariables false
set_option linter.unusedSimpArgs false
theorem rvalid_at (id sz tm vt rl ld ti vs : Int) (lg : Value) (es : List (List Value)) (cm : Int) (nx mt : Value) (xs ys : List Int) (w : World) (hl : es.length ≤ 100) (he : EntArg w lg es) (hX : IntsIn w nx xs) (hY : IntsIn w mt ys) :
    Calls Try.prog 17 #[mem id sz tm vt rl ld ti vs lg cm nx mt] w fun e w' => e = .returned (.bool (validB id sz tm vt rl ld ti vs cm es xs ys)) ∧ Below w.heap.size w w' := by
  by_cases h : G0 id sz tm vt ld ∧ G1 sz rl ti vs
  · obtain ⟨h0, h1⟩ := h
    rw [validB_yes _ _ _ _ _ _ _ _ _ _ _ _ h0 h1]
    obtain ⟨a1, a2, a3, a4, a5, a6, a7, a8, a9⟩ := h0
    obtain ⟨b1, b2, b3, b4, b5⟩ := h1
    have hxl := hX.le
    have hyl := hY.le
    obtain ⟨ga, gc, rfl⟩ := he.len
    obtain ⟨an, cn, rfl⟩ : ∃ a c, nx = .slice a xs.length c := by
      rcases hX with ⟨rfl, a, cap, rfl⟩ | ⟨B, o, cap, rfl, _⟩ <;> exact ⟨_, _, rfl⟩
    obtain ⟨am, cc, rfl⟩ : ∃ a c, mt = .slice a ys.length c := by
      rcases hY with ⟨rfl, a, cap, rfl⟩ | ⟨B, o, cap, rfl, _⟩ <;> exact ⟨_, _, rfl⟩
    rcases (show rl = 0 ∨ rl = 1 ∨ rl = 2 by omega) with hr | hr | hr
    · exact rvalid_y0 id sz tm vt rl ld ti vs hr ga gc es cm an cn am cc xs ys w a1 a2 a3 a4 a5 a6 a7 a8 a9 (by omega) (by omega) b5 hl he hX hY hxl hyl
    · exact rvalid_y1 id sz tm vt rl ld ti vs hr ga gc es cm an cn am cc xs ys w a1 a2 a3 a4 a5 a6 a7 a8 a9 (by omega) (by omega) b5 hl he hX hY hxl hyl
    · exact rvalid_y2 id sz tm vt rl ld ti vs hr ga gc es cm an cn am cc xs ys w a1 a2 a3 a4 a5 a6 a7 a8 a9 (by omega) (by omega) b5 hl he hX hY hxl hyl
  · rw [validB_no _ _ _ _ _ _ _ _ _ _ _ _ h]
    by_cases h0 : G0 id sz tm vt ld
    · obtain ⟨a1, a2, a3, a4, a5, a6, a7, a8, a9⟩ := h0
      by_cases b1 : rl < 0
      · exact rvalid_m1 id sz tm vt rl ld ti vs lg cm nx mt w a1 a2 a3 a4 a5 a6 a7 a8 a9 b1
      by_cases b2 : 2 < rl
      · exact rvalid_m2 id sz tm vt rl ld ti vs lg cm nx mt w a1 a2 a3 a4 a5 a6 a7 a8 a9 b1 b2
      by_cases b3 : ti < 0
      · exact rvalid_m3 id sz tm vt rl ld ti vs lg cm nx mt w a1 a2 a3 a4 a5 a6 a7 a8 a9 b1 b2 b3
      by_cases b4 : vs < 0
      · exact rvalid_m4 id sz tm vt rl ld ti vs lg cm nx mt w a1 a2 a3 a4 a5 a6 a7 a8 a9 b1 b2 b3 b4
      by_cases b5 : wrap64 (2 ^ sz.toNat) ≤ vs
      · exact rvalid_m5 id sz tm vt rl ld ti vs lg cm nx mt w a1 a2 a3 a4 a5 a6 a7 a8 a9 b1 b2 b3 b4 b5
      · rw [pow_wrap sz a1 a2] at b5
        exact absurd ⟨⟨a1, a2, a3, a4, a5, a6, a7, a8, a9⟩, by omega, by omega, by omega, by omega, by omega⟩ h
    · exact rvalid_n0 id sz tm vt rl ld ti vs lg cm nx mt w h0
/-- a boxed member stands in its block; nothing of before has turned -/
def MB (w : World) (id sz tm vt rl ld ti vs : Int) (lg : Value) (cm : Int) (nx mt : Value) (W : World) : Prop := W.cell? ⟨w.heap.size, 0, none⟩ = some (.int .i64 id) ∧ W.cell? ⟨w.heap.size, 1, none⟩ = some (.int .i64 sz) ∧ W.cell? ⟨w.heap.size, 2, none⟩ = some (.int .i64 tm) ∧ W.cell? ⟨w.heap.size, 3, none⟩ = some (.int .i64 vt) ∧ W.cell? ⟨w.heap.size, 4, none⟩ = some (.int .i64 rl) ∧ W.cell? ⟨w.heap.size, 5, none⟩ = some (.int .i64 ld) ∧ W.cell? ⟨w.heap.size, 6, none⟩ = some (.int .i64 ti) ∧ W.cell? ⟨w.heap.size, 7, none⟩ = some (.int .i64 vs) ∧ W.cell? ⟨w.heap.size, 8, none⟩ = some (lg) ∧ W.cell? ⟨w.heap.size, 9, none⟩ = some (.int .i64 cm) ∧ W.cell? ⟨w.heap.size, 10, none⟩ = some (nx) ∧ W.cell? ⟨w.heap.size, 11, none⟩ = some (mt) ∧ w.heap.size < W.heap.size ∧ Below w.heap.size w W
theorem MB.next {w : World} {id sz tm vt rl ld ti vs : Int} {lg : Value} {cm : Int} {nx mt : Value} {W : World} (h : MB w id sz tm vt rl ld ti vs lg cm nx mt W) {P : Program} {f : Nat} {args : Array Value} {F : Ending → Prop} (hc : Calls P f args W fun e w' => F e ∧ Below W.heap.size W w') :
    Calls P f args W fun e w' => F e ∧ MB w id sz tm vt rl ld ti vs lg cm nx mt w' := by
  refine hc.mono ?_
  rintro e W' ⟨he, hb⟩
  obtain ⟨c0, c1, c2, c3, c4, c5, c6, c7, c8, c9, c10, c11, hz, hB⟩ := h
  obtain ⟨g, _⟩ := bcell hb
  exact ⟨he, (g _ _ hz).trans c0, (g _ _ hz).trans c1, (g _ _ hz).trans c2, (g _ _ hz).trans c3, (g _ _ hz).trans c4, (g _ _ hz).trans c5, (g _ _ hz).trans c6, (g _ _ hz).trans c7, (g _ _ hz).trans c8, (g _ _ hz).trans c9, (g _ _ hz).trans c10, (g _ _ hz).trans c11, Nat.lt_of_lt_of_le hz hb.size, hB.trans (hb.mono (Nat.le_of_lt hz))⟩
theorem MB.start (w : World) (id sz tm vt rl ld ti vs : Int) (lg : Value) (cm : Int) (nx mt : Value) : MB w id sz tm vt rl ld ti vs lg cm nx mt (w.alloc (.cells #[.int .i64 id, .int .i64 sz, .int .i64 tm, .int .i64 vt, .int .i64 rl, .int .i64 ld, .int .i64 ti, .int .i64 vs, lg, .int .i64 cm, nx, mt] 25)) :=
  ⟨by simp [go_sem], by simp [go_sem], by simp [go_sem], by simp [go_sem], by simp [go_sem], by simp [go_sem], by simp [go_sem], by simp [go_sem], by simp [go_sem], by simp [go_sem], by simp [go_sem], by simp [go_sem], by simp, (Below.refl _ _).alloc (Nat.le_refl _) _⟩
theorem MB.below {w : World} {id sz tm vt rl ld ti vs : Int} {lg : Value} {cm : Int} {nx mt : Value} {W : World} (h : MB w id sz tm vt rl ld ti vs lg cm nx mt W) : Below w.heap.size w W := h.2.2.2.2.2.2.2.2.2.2.2.2.2
set_option maxRecDepth 100000 in
theorem few_any (id sz tm vt rl ld ti vs : Int) (ga : Option Addr) (gl gc : Nat) (cm : Int) (nx mt : Value) (w : World) (hg : gl ≤ 9223372036854775807) :
    Calls Try.prog 15 #[mem id sz tm vt rl ld ti vs (.slice ga gl gc) cm nx mt] w fun e w' => e = .returned (.bool (decide (gl ≤ 60))) ∧ Below w.heap.size w w' := by
  by_cases h : gl ≤ 60
  · have q : decide ((gl : Int) ≤ 60) = true := decide_eq_true (by omega)
    have HD : Hid (decide (gl ≤ 60) = true) := Lib.hid (decide_eq_true h)
    go_enter Try.func15, Try.ntmps15
    go_wp2_with fail
    go_ret
    exact ⟨ret_b HD.out, (Below.refl _ _).alloc (Nat.le_refl _) _⟩
  · have q : decide ((gl : Int) ≤ 60) = false := decide_eq_false (by omega)
    have HD : Hid (decide (gl ≤ 60) = false) := Lib.hid (decide_eq_false h)
    go_enter Try.func15, Try.ntmps15
    go_wp2_with fail
    go_ret
    exact ⟨ret_b HD.out, (Below.refl _ _).alloc (Nat.le_refl _) _⟩
set_option maxRecDepth 100000 in
set_option maxHeartbeats 1600000 in
theorem law_valid (id sz tm vt rl ld ti vs : Int) (lg : Value) (cm : Int) (nx mt : Value) (es : List (List Value)) (w : World) (he : EntArg w lg es) (hn : IntArg w nx) (hm : IntArg w mt) :
    Calls Try.prog 4 #[mem id sz tm vt rl ld ti vs lg cm nx mt] w fun e w' => e = .returned (.bool true) ∧ Below w.heap.size w w' := by
  obtain ⟨xs, hX⟩ := hn.ints
  obtain ⟨ys, hY⟩ := hm.ints
  have hel := he.le
  have HFew : Hid (∀ W, Calls Try.prog 15 #[mem id sz tm vt rl ld ti vs lg cm nx mt] W fun e w' => e = .returned (.bool (decide (es.length ≤ 60))) ∧ Below W.heap.size W w') := Lib.hid (by
    obtain ⟨ga, gc, rfl⟩ := he.len
    exact fun W => few_any id sz tm vt rl ld ti vs ga es.length gc cm nx mt W hel)
  have HE := Lib.hid he
  have HX := Lib.hid hX
  have HY := Lib.hid hY
  have HV1 : Hid (es.length ≤ 60 → ∀ W, Below w.heap.size w W → Calls Try.prog 16 #[mem id sz tm vt rl ld ti vs lg cm nx mt] W fun e w' => e = .returned (.bool (validB id sz tm vt rl ld ti vs cm es xs ys)) ∧ Below W.heap.size W w') :=
    Lib.hid (fun h W hW => valid_at id sz tm vt rl ld ti vs lg es cm nx mt xs ys W (by omega) (HE.out.below hW) (HX.out.below hW) (HY.out.below hW))
  have HV2 : Hid (es.length ≤ 60 → ∀ W, Below w.heap.size w W → Calls Try.prog 17 #[mem id sz tm vt rl ld ti vs lg cm nx mt] W fun e w' => e = .returned (.bool (validB id sz tm vt rl ld ti vs cm es xs ys)) ∧ Below W.heap.size W w') :=
    Lib.hid (fun h W hW => rvalid_at id sz tm vt rl ld ti vs lg es cm nx mt xs ys W (by omega) (HE.out.below hW) (HX.out.below hW) (HY.out.below hW))
  generalize validB id sz tm vt rl ld ti vs cm es xs ys = vb at *
  clear he hn hm hX hY HE HX HY
  go_enter Try.func4, Try.ntmps4
  go_wp2_with fail
  refine (MB.next (MB.start w id sz tm vt rl ld ti vs lg cm nx mt) (HFew.out _)).mono ?_
  rintro e w1 ⟨hee, d0, d1, d2, d3, d4, d5, d6, d7, d8, d9, d10, d11, dz, dB⟩
  subst hee
  by_cases hf : es.length ≤ 60
  · have HD : Hid (∀ W, Below w.heap.size w W → Calls Try.prog 16 #[mem id sz tm vt rl ld ti vs lg cm nx mt] W fun e w' => e = .returned (.bool vb) ∧ Below W.heap.size W w') := Lib.hid (HV1.out hf)
    have HD2 : Hid (∀ W, Below w.heap.size w W → Calls Try.prog 17 #[mem id sz tm vt rl ld ti vs lg cm nx mt] W fun e w' => e = .returned (.bool vb) ∧ Below W.heap.size W w') := Lib.hid (HV2.out hf)
    have q : decide (es.length ≤ 60) = true := decide_eq_true hf
    rw [q]
    clear HV1 HV2 HFew hf q
    have hvv : (vb == vb) = true := beq_self_eq_true vb
    cases vb
    all_goals
      go_wp2_with fail
      have hBd := dB.drew
      go_region_held3 (fun W => W.cell? ⟨w.heap.size, 0, none⟩ = some (.int .i64 id) ∧ W.cell? ⟨w.heap.size, 1, none⟩ = some (.int .i64 sz) ∧ W.cell? ⟨w.heap.size, 2, none⟩ = some (.int .i64 tm) ∧ W.cell? ⟨w.heap.size, 3, none⟩ = some (.int .i64 vt) ∧ W.cell? ⟨w.heap.size, 4, none⟩ = some (.int .i64 rl) ∧ W.cell? ⟨w.heap.size, 5, none⟩ = some (.int .i64 ld) ∧ W.cell? ⟨w.heap.size, 6, none⟩ = some (.int .i64 ti) ∧ W.cell? ⟨w.heap.size, 7, none⟩ = some (.int .i64 vs) ∧ W.cell? ⟨w.heap.size, 8, none⟩ = some (lg) ∧ W.cell? ⟨w.heap.size, 9, none⟩ = some (.int .i64 cm) ∧ W.cell? ⟨w.heap.size, 10, none⟩ = some (nx) ∧ W.cell? ⟨w.heap.size, 11, none⟩ = some (mt) ∧ w.heap.size < W.heap.size ∧ Below w.heap.size w W) (refine ⟨?_, ?_, ?_, ?_, ?_, ?_, ?_, ?_, ?_, ?_, ?_, ?_, ?_, ?_⟩ <;> assumption) (first | (go_at_call 16; refine (MB.next (w := w) (id := id) (sz := sz) (tm := tm) (vt := vt) (rl := rl) (ld := ld) (ti := ti) (vs := vs) (lg := lg) (cm := cm) (nx := nx) (mt := mt) ⟨by assumption, by assumption, by assumption, by assumption, by assumption, by assumption, by assumption, by assumption, by assumption, by assumption, by assumption, by assumption, by assumption, by assumption⟩ (HD.out _ (by assumption))).mono ?_; rintro e wn ⟨hee, g0, g1, g2, g3, g4, g5, g6, g7, g8, g9, g10, g11, gz, gB⟩; subst hee) | (go_at_call 17; refine (MB.next (w := w) (id := id) (sz := sz) (tm := tm) (vt := vt) (rl := rl) (ld := ld) (ti := ti) (vs := vs) (lg := lg) (cm := cm) (nx := nx) (mt := mt) ⟨by assumption, by assumption, by assumption, by assumption, by assumption, by assumption, by assumption, by assumption, by assumption, by assumption, by assumption, by assumption, by assumption, by assumption⟩ (HD2.out _ (by assumption))).mono ?_; rintro e wn ⟨hee, g0, g1, g2, g3, g4, g5, g6, g7, g8, g9, g10, g11, gz, gB⟩; subst hee) | (go_at_call 14; refine (MB.next (w := w) (id := id) (sz := sz) (tm := tm) (vt := vt) (rl := rl) (ld := ld) (ti := ti) (vs := vs) (lg := lg) (cm := cm) (nx := nx) (mt := mt) ⟨by assumption, by assumption, by assumption, by assumption, by assumption, by assumption, by assumption, by assumption, by assumption, by assumption, by assumption, by assumption, by assumption, by assumption⟩ (awake_any _)).mono ?_; rintro e wn ⟨hee, g0, g1, g2, g3, g4, g5, g6, g7, g8, g9, g10, g11, gz, gB⟩; subst hee))
      all_goals go_wp2_with fail
      all_goals (go_ret; exact ⟨rfl, by assumption⟩)
  · have q : decide (es.length ≤ 60) = false := decide_eq_false hf
    rw [q]
    clear HV1 HV2 HFew hf q
    go_wp2_with fail
    refine (MB.next (w := w) (id := id) (sz := sz) (tm := tm) (vt := vt) (rl := rl) (ld := ld) (ti := ti) (vs := vs) (lg := lg) (cm := cm) (nx := nx) (mt := mt) ⟨d0, d1, d2, d3, d4, d5, d6, d7, d8, d9, d10, d11, dz, dB⟩ (awake_any _)).mono ?_
    rintro e w2 ⟨hee, g0, g1, g2, g3, g4, g5, g6, g7, g8, g9, g10, g11, gz, gB⟩
    subst hee
    go_wp2_with fail
    go_ret
    exact ⟨rfl, gB⟩
end Go.Proofs.Ytfpgklhbghahoaa
