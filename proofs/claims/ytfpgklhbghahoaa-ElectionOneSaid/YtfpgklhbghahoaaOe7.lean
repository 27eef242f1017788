/- Merged texts: Ev11, Ev12, Ev13, Eh6, Eh7. -/
import Derived.Test.YtfpgklhbghahoaaOe6
import Derived.Deep.RegionHeld3
import Derived.StillTailTactics
/- Election: the reference's Valid for a member of role 1. -/
namespace Go.Proofs.Ytfpgklhbghahoaa
open Go.ChangeShapes Go.WideShapes Go.ChangeAt Go.RowKit Go.Deep
set_option linter.unusedVariables false
set_option linter.unusedSimpArgs false
set_option maxRecDepth 100000 in
set_option maxHeartbeats 8000000 in
theorem rvalid_y1 (id sz tm vt rl ld ti vs : Int) (hrl : rl = 1) (ga : Option Addr) (gc : Nat) (es : List (List Value)) (cm : Int) (an : Option Addr) (cn : Nat) (am : Option Addr) (cc : Nat) (xs ys : List Int) (w : World) (a1 : 1 ≤ sz) (a2 : sz ≤ 7) (a3 : 0 ≤ id) (a4 : id < sz) (a5 : 0 ≤ tm) (a6 : -1 ≤ vt) (a7 : vt < sz) (a8 : -1 ≤ ld) (a9 : ld < sz) (b3 : ¬ ti < 0) (b4 : ¬ vs < 0) (b5 : vs < 2 ^ sz.toNat) (hl : es.length ≤ 100) (he : EntArg w (.slice ga es.length gc) es) (hX : IntsIn w (.slice an xs.length cn) xs) (hY : IntsIn w (.slice am ys.length cc) ys) (hxl : xs.length ≤ 9223372036854775807) (hyl : ys.length ≤ 9223372036854775807) :
    Calls Try.prog 17 #[mem id sz tm vt rl ld ti vs (.slice ga es.length gc) cm (.slice an xs.length cn) (.slice am ys.length cc)] w fun e w' => e = .returned (.bool (restB id sz tm vt rl ld vs cm es xs ys)) ∧ Below w.heap.size w w' := by
  have HE := Lib.hid he
  have HX := Lib.hid hX
  have HY := Lib.hid hY
  have v0 : 0 ≤ vs := by omega
  have hc := cntB_le vs v0 sz.toNat
  have hm := maj_le sz a1 a2
  have HL : Hid (∀ W, EntArg W (.slice ga es.length gc) es → Calls Try.prog 33 #[mem id sz tm vt rl ld ti vs (.slice ga es.length gc) cm (.slice an xs.length cn) (.slice am ys.length cc)] W fun e w' => e = .returned (.bool (lgB tm cm es)) ∧ Below W.heap.size W w') := Lib.hid (fun W hW => logged_any id sz tm vt rl ld ti vs _ es cm _ _ W hl hW)
  have HVo := Lib.hid (fun W => votes_at vs sz W v0 a1 a2)
  have HMa := Lib.hid (fun W => rmaj_any sz W)
  have HPx := Lib.hid (fun W (h : IntsIn W (.slice an xs.length cn) xs) => rplaces_at _ xs es.length W h)
  have HPy := Lib.hid (fun W (h : IntsIn W (.slice am ys.length cc) ys) => rplaces_at _ ys es.length W h)
  have HR : Hid (restB id sz tm vt rl ld vs cm es xs ys = (lgB tm cm es && (firstB id tm vt vs && decide (ld = -1) && decide (cntB vs sz.toNat < maj sz) && (decide ((xs.length : Int) = 0) && decide ((ys.length : Int) = 0))))) := Lib.hid (by subst hrl; rfl)
  have HF : Hid (firstB id tm vt vs = (decide (1 ≤ tm) && decide (vt = id) && !((vs / 2 ^ id.toNat).tmod 2 == 0))) := Lib.hid rfl
  generalize restB id sz tm vt rl ld vs cm es xs ys = R at *
  generalize firstB id tm vt vs = FB at *
  generalize cntB vs sz.toNat = c at *
  generalize maj sz = mj at *
  generalize lgB tm cm es = lb at *
  generalize inB es.length xs = bx at *
  generalize inB es.length ys = by' at *
  have hc7 : c ≤ 7 := by omega
  have hc0 : 0 ≤ c := hc.1
  clear hc he hX hY
  have f1 : decide (sz < 1) = false := decide_eq_false (by omega)
  have f2 : decide (7 < sz) = false := decide_eq_false (by omega)
  have f3 : decide (id < 0) = false := decide_eq_false (by omega)
  have f4 : decide (sz ≤ id) = false := decide_eq_false (by omega)
  have f5 : decide (tm < 0) = false := decide_eq_false (by omega)
  have f6 : decide (vt < -1) = false := decide_eq_false (by omega)
  have f7 : decide (sz ≤ vt) = false := decide_eq_false (by omega)
  have f8 : decide (ld < -1) = false := decide_eq_false (by omega)
  have f9 : decide (sz ≤ ld) = false := decide_eq_false (by omega)
  have e4 : decide (vs < 0) = false := decide_eq_false b4
  have e3 : decide (ti < 0) = false := decide_eq_false b3
  have e5 : decide (wrap64 (2 ^ sz.toNat) ≤ vs) = false := decide_eq_false (by rw [pow_wrap sz a1 a2]; omega)
  have e6 : decide (IntKind.i64.wrap (2 ^ sz.toNat) ≤ vs) = false := decide_eq_false (by rw [IntWalk.i64_left, pow_wrap sz a1 a2]; omega)
  have e1 : decide (rl < 0) = false := decide_eq_false (by omega)
  have e2 : decide (2 < rl) = false := decide_eq_false (by omega)
  have b1 : 0 ≤ rl := by omega
  have b2 : rl ≤ 2 := by omega
  have HRL := Lib.hid hrl
  clear hrl
  clear b5
  have HM0 := Lib.hid (VM.start w (memL id sz tm vt rl ld ti vs (.slice ga es.length gc) cm (.slice an xs.length cn) (.slice am ys.length cc)) 25 rfl)
  go_enter Try.func17, Try.ntmps17
  go_wp2_with fail
  refine wp_named (fun W => VM w (memL id sz tm vt rl ld ti vs (.slice ga es.length gc) cm (.slice an xs.length cn) (.slice am ys.length cc)) W) HM0.out ?_
  rintro W hVM
  have c1 : W.cell? ⟨w.heap.size, 1, none⟩ = some (.int .i64 sz) := hVM.1.cell 1 _ rfl
  have c4 : W.cell? ⟨w.heap.size, 4, none⟩ = some (.int .i64 rl) := hVM.1.cell 4 _ rfl
  have c6 : W.cell? ⟨w.heap.size, 6, none⟩ = some (.int .i64 ti) := hVM.1.cell 6 _ rfl
  have c7 : W.cell? ⟨w.heap.size, 7, none⟩ = some (.int .i64 vs) := hVM.1.cell 7 _ rfl
  have HM1 := Lib.hid hVM
  clear hVM HM0
  go_still_tail 27, (by kernel_rfl)
  change wpList _ _ _ _ _ W.drew
  have HM2 : Hid (VM w (memL id sz tm vt rl ld ti vs (.slice ga es.length gc) cm (.slice an xs.length cn) (.slice am ys.length cc)) W.drew) := Lib.hid ⟨⟨HM1.out.1.1.drew, HM1.out.1.2⟩, HM1.out.2.drew⟩
  clear HM1 c1 c4 c6 c7
  have hA := HM2.out.1
  go_wp2_with (with_reducible refine wpList_box_load_g 25 1 w.heap.size (memL id sz tm vt rl ld ti vs (.slice ga es.length gc) cm (.slice an xs.length cn) (.slice am ys.length cc)) _ _ _ _ _ _ _ ?_ hA wideMem ?_ ?_)
  · rfl
  go_wp2_with fail
  refine (HL.out _ (HE.out.below HM2.out.2)).mono ?_
  rintro e W2 ⟨rfl, hb2⟩
  have HM3 := Lib.hid (HM2.out.keep hb2)
  clear hb2 hA HM2
  obtain rfl := HRL.out
  cases lb
  · go_wp2_with fail
    go_ret
    exact ⟨ret_b (by rw [HR.out]; rfl), HM3.out.2⟩
  have d0 : W2.cell? ⟨w.heap.size, 0, none⟩ = some (.int .i64 id) := HM3.out.1.cell 0 _ rfl
  have d1 : W2.cell? ⟨w.heap.size, 1, none⟩ = some (.int .i64 sz) := HM3.out.1.cell 1 _ rfl
  have d2 : W2.cell? ⟨w.heap.size, 2, none⟩ = some (.int .i64 tm) := HM3.out.1.cell 2 _ rfl
  have d3 : W2.cell? ⟨w.heap.size, 3, none⟩ = some (.int .i64 vt) := HM3.out.1.cell 3 _ rfl
  have d4 : W2.cell? ⟨w.heap.size, 4, none⟩ = some (.int .i64 1) := HM3.out.1.cell 4 _ rfl
  have d5 : W2.cell? ⟨w.heap.size, 5, none⟩ = some (.int .i64 ld) := HM3.out.1.cell 5 _ rfl
  have d7 : W2.cell? ⟨w.heap.size, 7, none⟩ = some (.int .i64 vs) := HM3.out.1.cell 7 _ rfl
  have d8 : W2.cell? ⟨w.heap.size, 8, none⟩ = some (.slice ga es.length gc) := HM3.out.1.cell 8 _ rfl
  have d10 : W2.cell? ⟨w.heap.size, 10, none⟩ = some (.slice an xs.length cn) := HM3.out.1.cell 10 _ rfl
  have d11 : W2.cell? ⟨w.heap.size, 11, none⟩ = some (.slice am ys.length cc) := HM3.out.1.cell 11 _ rfl
  by_cases t1 : tm < 1
  · have p1 : decide (tm < 1) = true := decide_eq_true t1
    have HV : Hid (R = false) := Lib.hid (by rw [HR.out, HF.out, decide_eq_false (by omega)]; simp)
    go_wp2_with fail
    go_ret
    exact ⟨ret_b HV.out, HM3.out.2⟩
  have p1 : decide (tm < 1) = false := decide_eq_false t1
  have k1 : decide (1 ≤ tm) = true := decide_eq_true (by omega)
  by_cases t2 : vt = id
  rotate_left
  · have p2 : (vt == id) = false := beq_eq_false_iff_ne.2 t2
    have p2' : (vt != id) = true := by rw [bne, p2]; rfl
    have HV : Hid (R = false) := Lib.hid (by rw [HR.out, HF.out, decide_eq_false t2]; simp)
    go_wp2_with fail
    go_ret
    exact ⟨ret_b HV.out, HM3.out.2⟩
  have k2 : decide (vt = id) = true := decide_eq_true t2
  have p2 : (vt == id) = true := beq_iff_eq.2 t2
  have p2' : (vt != id) = false := by rw [bne, p2]; rfl
  cases t3 : ((vs / 2 ^ id.toNat).tmod 2 == 0)
  rotate_left
  ·
    have HV : Hid (R = false) := Lib.hid (by rw [HR.out, HF.out, t3]; simp)
    go_wp2_with fail
    go_ret
    exact ⟨ret_b HV.out, HM3.out.2⟩
  have HF2 : Hid (FB = true) := Lib.hid (by rw [HF.out, k1, k2, t3]; rfl)
  clear HF k1 k2 t1 t2
  by_cases t4 : ld = -1
  rotate_left
  · have p3 : (ld == -1) = false := beq_eq_false_iff_ne.2 t4
    have p3' : (ld != -1) = true := by rw [bne, p3]; rfl
    have HV : Hid (R = false) := Lib.hid (by rw [HR.out, decide_eq_false t4]; simp)
    go_wp2_with fail
    have hz := HM3.out.1.1.lt
    have hBd := HM3.out.2
    have hBd' := hBd.drew
    go_region_held3 (fun W => W.cell? ⟨w.heap.size, 0, none⟩ = some (.int .i64 id) ∧ W.cell? ⟨w.heap.size, 1, none⟩ = some (.int .i64 sz) ∧ W.cell? ⟨w.heap.size, 4, none⟩ = some (.int .i64 1) ∧ W.cell? ⟨w.heap.size, 5, none⟩ = some (.int .i64 ld) ∧ W.cell? ⟨w.heap.size, 7, none⟩ = some (.int .i64 vs) ∧ W.cell? ⟨w.heap.size, 8, none⟩ = some (.slice ga es.length gc) ∧ W.cell? ⟨w.heap.size, 10, none⟩ = some (.slice an xs.length cn) ∧ W.cell? ⟨w.heap.size, 11, none⟩ = some (.slice am ys.length cc) ∧ w.heap.size < W.heap.size ∧ Below w.heap.size w W) (refine ⟨?_, ?_, ?_, ?_, ?_, ?_, ?_, ?_, ?_, ?_⟩ <;> assumption) (first | (go_at_call 34; refine (HVo.out _).mono ?_; rintro e wq ⟨rfl, rfl⟩) | (go_at_call 13; refine (HMa.out _).mono ?_; rintro e wq ⟨rfl, rfl⟩))
    all_goals (go_wp2_with fail; go_ret; exact ⟨ret_b HV.out, by assumption⟩)
  have p3 : (ld == -1) = true := beq_iff_eq.2 t4
  have p3' : (ld != -1) = false := by rw [bne, p3]; rfl
  by_cases t5 : mj ≤ c
  · have p4 : decide (mj ≤ c) = true := decide_eq_true t5
    have HV : Hid (R = false) := Lib.hid (by rw [HR.out, decide_eq_false (show ¬ c < mj by omega)]; simp)
    go_wp2_with fail
    have hz := HM3.out.1.1.lt
    have hBd := HM3.out.2
    have hBd' := hBd.drew
    go_region_held3 (fun W => W.cell? ⟨w.heap.size, 0, none⟩ = some (.int .i64 id) ∧ W.cell? ⟨w.heap.size, 1, none⟩ = some (.int .i64 sz) ∧ W.cell? ⟨w.heap.size, 4, none⟩ = some (.int .i64 1) ∧ W.cell? ⟨w.heap.size, 5, none⟩ = some (.int .i64 ld) ∧ W.cell? ⟨w.heap.size, 7, none⟩ = some (.int .i64 vs) ∧ W.cell? ⟨w.heap.size, 8, none⟩ = some (.slice ga es.length gc) ∧ W.cell? ⟨w.heap.size, 10, none⟩ = some (.slice an xs.length cn) ∧ W.cell? ⟨w.heap.size, 11, none⟩ = some (.slice am ys.length cc) ∧ w.heap.size < W.heap.size ∧ Below w.heap.size w W) (refine ⟨?_, ?_, ?_, ?_, ?_, ?_, ?_, ?_, ?_, ?_⟩ <;> assumption) (first | (go_at_call 34; refine (HVo.out _).mono ?_; rintro e wq ⟨rfl, rfl⟩) | (go_at_call 13; refine (HMa.out _).mono ?_; rintro e wq ⟨rfl, rfl⟩))
    all_goals (go_wp2_with fail; go_ret; exact ⟨ret_b HV.out, by assumption⟩)
  have p4 : decide (mj ≤ c) = false := decide_eq_false t5
  have HR2 : Hid (R = (decide ((xs.length : Int) = 0) && decide ((ys.length : Int) = 0))) := Lib.hid (by rw [HR.out, HF2.out, decide_eq_true t4, decide_eq_true (show c < mj by omega)]; rfl)
  clear HR HF2 t4
  by_cases hn : (xs.length : Int) = 0
  · have pn : ((xs.length : Int) == 0) = true := beq_iff_eq.2 hn
    by_cases hm2 : (ys.length : Int) = 0
    · have pm : ((ys.length : Int) == 0) = true := beq_iff_eq.2 hm2
      have HV : Hid (R = true) := Lib.hid (by rw [HR2.out, decide_eq_true hn, decide_eq_true hm2]; rfl)
      clear hn hm2
      go_wp2_with fail
      have hz := HM3.out.1.1.lt
      have hBd := HM3.out.2
      have hBd' := hBd.drew
      go_region_held3 (fun W => W.cell? ⟨w.heap.size, 0, none⟩ = some (.int .i64 id) ∧ W.cell? ⟨w.heap.size, 1, none⟩ = some (.int .i64 sz) ∧ W.cell? ⟨w.heap.size, 4, none⟩ = some (.int .i64 1) ∧ W.cell? ⟨w.heap.size, 5, none⟩ = some (.int .i64 ld) ∧ W.cell? ⟨w.heap.size, 7, none⟩ = some (.int .i64 vs) ∧ W.cell? ⟨w.heap.size, 8, none⟩ = some (.slice ga es.length gc) ∧ W.cell? ⟨w.heap.size, 10, none⟩ = some (.slice an xs.length cn) ∧ W.cell? ⟨w.heap.size, 11, none⟩ = some (.slice am ys.length cc) ∧ w.heap.size < W.heap.size ∧ Below w.heap.size w W) (refine ⟨?_, ?_, ?_, ?_, ?_, ?_, ?_, ?_, ?_, ?_⟩ <;> assumption) (first | (go_at_call 34; refine (HVo.out _).mono ?_; rintro e wq ⟨rfl, rfl⟩) | (go_at_call 13; refine (HMa.out _).mono ?_; rintro e wq ⟨rfl, rfl⟩))
      all_goals (go_wp2_with fail; go_ret; exact ⟨ret_b HV.out, by assumption⟩)
    · have pm : ((ys.length : Int) == 0) = false := beq_eq_false_iff_ne.2 hm2
      have HV : Hid (R = false) := Lib.hid (by rw [HR2.out, decide_eq_false hm2, Bool.and_false])
      clear hn hm2
      go_wp2_with fail
      have hz := HM3.out.1.1.lt
      have hBd := HM3.out.2
      have hBd' := hBd.drew
      go_region_held3 (fun W => W.cell? ⟨w.heap.size, 0, none⟩ = some (.int .i64 id) ∧ W.cell? ⟨w.heap.size, 1, none⟩ = some (.int .i64 sz) ∧ W.cell? ⟨w.heap.size, 4, none⟩ = some (.int .i64 1) ∧ W.cell? ⟨w.heap.size, 5, none⟩ = some (.int .i64 ld) ∧ W.cell? ⟨w.heap.size, 7, none⟩ = some (.int .i64 vs) ∧ W.cell? ⟨w.heap.size, 8, none⟩ = some (.slice ga es.length gc) ∧ W.cell? ⟨w.heap.size, 10, none⟩ = some (.slice an xs.length cn) ∧ W.cell? ⟨w.heap.size, 11, none⟩ = some (.slice am ys.length cc) ∧ w.heap.size < W.heap.size ∧ Below w.heap.size w W) (refine ⟨?_, ?_, ?_, ?_, ?_, ?_, ?_, ?_, ?_, ?_⟩ <;> assumption) (first | (go_at_call 34; refine (HVo.out _).mono ?_; rintro e wq ⟨rfl, rfl⟩) | (go_at_call 13; refine (HMa.out _).mono ?_; rintro e wq ⟨rfl, rfl⟩))
      all_goals (go_wp2_with fail; go_ret; exact ⟨ret_b HV.out, by assumption⟩)
  · have pn : ((xs.length : Int) == 0) = false := beq_eq_false_iff_ne.2 hn
    have HV : Hid (R = false) := Lib.hid (by rw [HR2.out, decide_eq_false hn, Bool.false_and])
    clear hn
    go_wp2_with fail
    have hz := HM3.out.1.1.lt
    have hBd := HM3.out.2
    have hBd' := hBd.drew
    go_region_held3 (fun W => W.cell? ⟨w.heap.size, 0, none⟩ = some (.int .i64 id) ∧ W.cell? ⟨w.heap.size, 1, none⟩ = some (.int .i64 sz) ∧ W.cell? ⟨w.heap.size, 4, none⟩ = some (.int .i64 1) ∧ W.cell? ⟨w.heap.size, 5, none⟩ = some (.int .i64 ld) ∧ W.cell? ⟨w.heap.size, 7, none⟩ = some (.int .i64 vs) ∧ W.cell? ⟨w.heap.size, 8, none⟩ = some (.slice ga es.length gc) ∧ W.cell? ⟨w.heap.size, 10, none⟩ = some (.slice an xs.length cn) ∧ W.cell? ⟨w.heap.size, 11, none⟩ = some (.slice am ys.length cc) ∧ w.heap.size < W.heap.size ∧ Below w.heap.size w W) (refine ⟨?_, ?_, ?_, ?_, ?_, ?_, ?_, ?_, ?_, ?_⟩ <;> assumption) (first | (go_at_call 34; refine (HVo.out _).mono ?_; rintro e wq ⟨rfl, rfl⟩) | (go_at_call 13; refine (HMa.out _).mono ?_; rintro e wq ⟨rfl, rfl⟩))
    all_goals (go_wp2_with fail; go_ret; exact ⟨ret_b HV.out, by assumption⟩)
end Go.Proofs.Ytfpgklhbghahoaa
/- Election: the reference's Valid for a member of role 2. -/
namespace Go.Proofs.Ytfpgklhbghahoaa
open Go.ChangeShapes Go.WideShapes Go.ChangeAt Go.RowKit Go.Deep
set_option linter.unusedVariables false
set_option linter.unusedSimpArgs false
set_option maxRecDepth 100000 in
set_option maxHeartbeats 8000000 in
theorem rvalid_y2 (id sz tm vt rl ld ti vs : Int) (hrl : rl = 2) (ga : Option Addr) (gc : Nat) (es : List (List Value)) (cm : Int) (an : Option Addr) (cn : Nat) (am : Option Addr) (cc : Nat) (xs ys : List Int) (w : World) (a1 : 1 ≤ sz) (a2 : sz ≤ 7) (a3 : 0 ≤ id) (a4 : id < sz) (a5 : 0 ≤ tm) (a6 : -1 ≤ vt) (a7 : vt < sz) (a8 : -1 ≤ ld) (a9 : ld < sz) (b3 : ¬ ti < 0) (b4 : ¬ vs < 0) (b5 : vs < 2 ^ sz.toNat) (hl : es.length ≤ 100) (he : EntArg w (.slice ga es.length gc) es) (hX : IntsIn w (.slice an xs.length cn) xs) (hY : IntsIn w (.slice am ys.length cc) ys) (hxl : xs.length ≤ 9223372036854775807) (hyl : ys.length ≤ 9223372036854775807) :
    Calls Try.prog 17 #[mem id sz tm vt rl ld ti vs (.slice ga es.length gc) cm (.slice an xs.length cn) (.slice am ys.length cc)] w fun e w' => e = .returned (.bool (restB id sz tm vt rl ld vs cm es xs ys)) ∧ Below w.heap.size w w' := by
  have HE := Lib.hid he
  have HX := Lib.hid hX
  have HY := Lib.hid hY
  have v0 : 0 ≤ vs := by omega
  have hc := cntB_le vs v0 sz.toNat
  have hm := maj_le sz a1 a2
  have HL : Hid (∀ W, EntArg W (.slice ga es.length gc) es → Calls Try.prog 33 #[mem id sz tm vt rl ld ti vs (.slice ga es.length gc) cm (.slice an xs.length cn) (.slice am ys.length cc)] W fun e w' => e = .returned (.bool (lgB tm cm es)) ∧ Below W.heap.size W w') := Lib.hid (fun W hW => logged_any id sz tm vt rl ld ti vs _ es cm _ _ W hl hW)
  have HVo := Lib.hid (fun W => votes_at vs sz W v0 a1 a2)
  have HMa := Lib.hid (fun W => rmaj_any sz W)
  have HPx := Lib.hid (fun W (h : IntsIn W (.slice an xs.length cn) xs) => rplaces_at _ xs es.length W h)
  have HPy := Lib.hid (fun W (h : IntsIn W (.slice am ys.length cc) ys) => rplaces_at _ ys es.length W h)
  have HR : Hid (restB id sz tm vt rl ld vs cm es xs ys = (lgB tm cm es && (firstB id tm vt vs && decide (ld = id) && decide (maj sz ≤ cntB vs sz.toNat) && (decide ((xs.length : Int) = sz) && decide ((ys.length : Int) = sz)) && (inB es.length xs && inB es.length ys)))) := Lib.hid (by subst hrl; rfl)
  have HF : Hid (firstB id tm vt vs = (decide (1 ≤ tm) && decide (vt = id) && !((vs / 2 ^ id.toNat).tmod 2 == 0))) := Lib.hid rfl
  generalize restB id sz tm vt rl ld vs cm es xs ys = R at *
  generalize firstB id tm vt vs = FB at *
  generalize cntB vs sz.toNat = c at *
  generalize maj sz = mj at *
  generalize lgB tm cm es = lb at *
  generalize inB es.length xs = bx at *
  generalize inB es.length ys = by' at *
  have hc7 : c ≤ 7 := by omega
  have hc0 : 0 ≤ c := hc.1
  clear hc he hX hY
  have f1 : decide (sz < 1) = false := decide_eq_false (by omega)
  have f2 : decide (7 < sz) = false := decide_eq_false (by omega)
  have f3 : decide (id < 0) = false := decide_eq_false (by omega)
  have f4 : decide (sz ≤ id) = false := decide_eq_false (by omega)
  have f5 : decide (tm < 0) = false := decide_eq_false (by omega)
  have f6 : decide (vt < -1) = false := decide_eq_false (by omega)
  have f7 : decide (sz ≤ vt) = false := decide_eq_false (by omega)
  have f8 : decide (ld < -1) = false := decide_eq_false (by omega)
  have f9 : decide (sz ≤ ld) = false := decide_eq_false (by omega)
  have e4 : decide (vs < 0) = false := decide_eq_false b4
  have e3 : decide (ti < 0) = false := decide_eq_false b3
  have e5 : decide (wrap64 (2 ^ sz.toNat) ≤ vs) = false := decide_eq_false (by rw [pow_wrap sz a1 a2]; omega)
  have e6 : decide (IntKind.i64.wrap (2 ^ sz.toNat) ≤ vs) = false := decide_eq_false (by rw [IntWalk.i64_left, pow_wrap sz a1 a2]; omega)
  have e1 : decide (rl < 0) = false := decide_eq_false (by omega)
  have e2 : decide (2 < rl) = false := decide_eq_false (by omega)
  have b1 : 0 ≤ rl := by omega
  have b2 : rl ≤ 2 := by omega
  have HRL := Lib.hid hrl
  clear hrl
  clear b5
  have HM0 := Lib.hid (VM.start w (memL id sz tm vt rl ld ti vs (.slice ga es.length gc) cm (.slice an xs.length cn) (.slice am ys.length cc)) 25 rfl)
  go_enter Try.func17, Try.ntmps17
  go_wp2_with fail
  refine wp_named (fun W => VM w (memL id sz tm vt rl ld ti vs (.slice ga es.length gc) cm (.slice an xs.length cn) (.slice am ys.length cc)) W) HM0.out ?_
  rintro W hVM
  have c1 : W.cell? ⟨w.heap.size, 1, none⟩ = some (.int .i64 sz) := hVM.1.cell 1 _ rfl
  have c4 : W.cell? ⟨w.heap.size, 4, none⟩ = some (.int .i64 rl) := hVM.1.cell 4 _ rfl
  have c6 : W.cell? ⟨w.heap.size, 6, none⟩ = some (.int .i64 ti) := hVM.1.cell 6 _ rfl
  have c7 : W.cell? ⟨w.heap.size, 7, none⟩ = some (.int .i64 vs) := hVM.1.cell 7 _ rfl
  have HM1 := Lib.hid hVM
  clear hVM HM0
  go_still_tail 27, (by kernel_rfl)
  change wpList _ _ _ _ _ W.drew
  have HM2 : Hid (VM w (memL id sz tm vt rl ld ti vs (.slice ga es.length gc) cm (.slice an xs.length cn) (.slice am ys.length cc)) W.drew) := Lib.hid ⟨⟨HM1.out.1.1.drew, HM1.out.1.2⟩, HM1.out.2.drew⟩
  clear HM1 c1 c4 c6 c7
  have hA := HM2.out.1
  go_wp2_with (with_reducible refine wpList_box_load_g 25 1 w.heap.size (memL id sz tm vt rl ld ti vs (.slice ga es.length gc) cm (.slice an xs.length cn) (.slice am ys.length cc)) _ _ _ _ _ _ _ ?_ hA wideMem ?_ ?_)
  · rfl
  go_wp2_with fail
  refine (HL.out _ (HE.out.below HM2.out.2)).mono ?_
  rintro e W2 ⟨rfl, hb2⟩
  have HM3 := Lib.hid (HM2.out.keep hb2)
  clear hb2 hA HM2
  obtain rfl := HRL.out
  cases lb
  · go_wp2_with fail
    go_ret
    exact ⟨ret_b (by rw [HR.out]; rfl), HM3.out.2⟩
  have d0 : W2.cell? ⟨w.heap.size, 0, none⟩ = some (.int .i64 id) := HM3.out.1.cell 0 _ rfl
  have d1 : W2.cell? ⟨w.heap.size, 1, none⟩ = some (.int .i64 sz) := HM3.out.1.cell 1 _ rfl
  have d2 : W2.cell? ⟨w.heap.size, 2, none⟩ = some (.int .i64 tm) := HM3.out.1.cell 2 _ rfl
  have d3 : W2.cell? ⟨w.heap.size, 3, none⟩ = some (.int .i64 vt) := HM3.out.1.cell 3 _ rfl
  have d4 : W2.cell? ⟨w.heap.size, 4, none⟩ = some (.int .i64 2) := HM3.out.1.cell 4 _ rfl
  have d5 : W2.cell? ⟨w.heap.size, 5, none⟩ = some (.int .i64 ld) := HM3.out.1.cell 5 _ rfl
  have d7 : W2.cell? ⟨w.heap.size, 7, none⟩ = some (.int .i64 vs) := HM3.out.1.cell 7 _ rfl
  have d8 : W2.cell? ⟨w.heap.size, 8, none⟩ = some (.slice ga es.length gc) := HM3.out.1.cell 8 _ rfl
  have d10 : W2.cell? ⟨w.heap.size, 10, none⟩ = some (.slice an xs.length cn) := HM3.out.1.cell 10 _ rfl
  have d11 : W2.cell? ⟨w.heap.size, 11, none⟩ = some (.slice am ys.length cc) := HM3.out.1.cell 11 _ rfl
  by_cases t1 : tm < 1
  · have p1 : decide (tm < 1) = true := decide_eq_true t1
    have HV : Hid (R = false) := Lib.hid (by rw [HR.out, HF.out, decide_eq_false (by omega)]; simp)
    go_wp2_with fail
    go_ret
    exact ⟨ret_b HV.out, HM3.out.2⟩
  have p1 : decide (tm < 1) = false := decide_eq_false t1
  have k1 : decide (1 ≤ tm) = true := decide_eq_true (by omega)
  by_cases t2 : vt = id
  rotate_left
  · have p2 : (vt == id) = false := beq_eq_false_iff_ne.2 t2
    have p2' : (vt != id) = true := by rw [bne, p2]; rfl
    have HV : Hid (R = false) := Lib.hid (by rw [HR.out, HF.out, decide_eq_false t2]; simp)
    go_wp2_with fail
    go_ret
    exact ⟨ret_b HV.out, HM3.out.2⟩
  have k2 : decide (vt = id) = true := decide_eq_true t2
  have p2 : (vt == id) = true := beq_iff_eq.2 t2
  have p2' : (vt != id) = false := by rw [bne, p2]; rfl
  cases t3 : ((vs / 2 ^ id.toNat).tmod 2 == 0)
  rotate_left
  ·
    have HV : Hid (R = false) := Lib.hid (by rw [HR.out, HF.out, t3]; simp)
    go_wp2_with fail
    go_ret
    exact ⟨ret_b HV.out, HM3.out.2⟩
  have HF2 : Hid (FB = true) := Lib.hid (by rw [HF.out, k1, k2, t3]; rfl)
  clear HF k1 k2 t1 t2
  by_cases t4 : ld = id
  rotate_left
  · have p3 : (ld == id) = false := beq_eq_false_iff_ne.2 t4
    have HV : Hid (R = false) := Lib.hid (by rw [HR.out, decide_eq_false t4]; simp)
    go_wp2_with fail
    have hz := HM3.out.1.1.lt
    have hBd := HM3.out.2
    have hBd' := hBd.drew
    go_region_held3 (fun W => W.cell? ⟨w.heap.size, 0, none⟩ = some (.int .i64 id) ∧ W.cell? ⟨w.heap.size, 1, none⟩ = some (.int .i64 sz) ∧ W.cell? ⟨w.heap.size, 4, none⟩ = some (.int .i64 2) ∧ W.cell? ⟨w.heap.size, 5, none⟩ = some (.int .i64 ld) ∧ W.cell? ⟨w.heap.size, 7, none⟩ = some (.int .i64 vs) ∧ W.cell? ⟨w.heap.size, 8, none⟩ = some (.slice ga es.length gc) ∧ W.cell? ⟨w.heap.size, 10, none⟩ = some (.slice an xs.length cn) ∧ W.cell? ⟨w.heap.size, 11, none⟩ = some (.slice am ys.length cc) ∧ w.heap.size < W.heap.size ∧ Below w.heap.size w W) (refine ⟨?_, ?_, ?_, ?_, ?_, ?_, ?_, ?_, ?_, ?_⟩ <;> assumption) (first | (go_at_call 34; refine (HVo.out _).mono ?_; rintro e wq ⟨rfl, rfl⟩) | (go_at_call 13; refine (HMa.out _).mono ?_; rintro e wq ⟨rfl, rfl⟩))
    all_goals (go_wp2_with fail; go_ret; exact ⟨ret_b HV.out, by assumption⟩)
  have p3 : (ld == id) = true := beq_iff_eq.2 t4
  by_cases t5 : mj ≤ c
  rotate_left
  · have p4 : decide (mj ≤ c) = false := decide_eq_false t5
    have HV : Hid (R = false) := Lib.hid (by rw [HR.out, decide_eq_false t5]; simp)
    go_wp2_with fail
    have hz := HM3.out.1.1.lt
    have hBd := HM3.out.2
    have hBd' := hBd.drew
    go_region_held3 (fun W => W.cell? ⟨w.heap.size, 0, none⟩ = some (.int .i64 id) ∧ W.cell? ⟨w.heap.size, 1, none⟩ = some (.int .i64 sz) ∧ W.cell? ⟨w.heap.size, 4, none⟩ = some (.int .i64 2) ∧ W.cell? ⟨w.heap.size, 5, none⟩ = some (.int .i64 ld) ∧ W.cell? ⟨w.heap.size, 7, none⟩ = some (.int .i64 vs) ∧ W.cell? ⟨w.heap.size, 8, none⟩ = some (.slice ga es.length gc) ∧ W.cell? ⟨w.heap.size, 10, none⟩ = some (.slice an xs.length cn) ∧ W.cell? ⟨w.heap.size, 11, none⟩ = some (.slice am ys.length cc) ∧ w.heap.size < W.heap.size ∧ Below w.heap.size w W) (refine ⟨?_, ?_, ?_, ?_, ?_, ?_, ?_, ?_, ?_, ?_⟩ <;> assumption) (first | (go_at_call 34; refine (HVo.out _).mono ?_; rintro e wq ⟨rfl, rfl⟩) | (go_at_call 13; refine (HMa.out _).mono ?_; rintro e wq ⟨rfl, rfl⟩))
    all_goals (go_wp2_with fail; go_ret; exact ⟨ret_b HV.out, by assumption⟩)
  have p4 : decide (mj ≤ c) = true := decide_eq_true t5
  have HR2 : Hid (R = ((decide ((xs.length : Int) = sz) && decide ((ys.length : Int) = sz)) && (bx && by'))) := Lib.hid (by rw [HR.out, HF2.out, decide_eq_true t4, decide_eq_true t5]; rfl)
  clear HR HF2 t4
  by_cases hn : (xs.length : Int) = sz
  rotate_left
  · have pn : ((xs.length : Int) == sz) = false := beq_eq_false_iff_ne.2 hn
    have HV : Hid (R = false) := Lib.hid (by rw [HR2.out, decide_eq_false hn]; rfl)
    go_wp2_with fail
    have hz := HM3.out.1.1.lt
    have hBd := HM3.out.2
    have hBd' := hBd.drew
    go_region_held3 (fun W => W.cell? ⟨w.heap.size, 0, none⟩ = some (.int .i64 id) ∧ W.cell? ⟨w.heap.size, 1, none⟩ = some (.int .i64 sz) ∧ W.cell? ⟨w.heap.size, 4, none⟩ = some (.int .i64 2) ∧ W.cell? ⟨w.heap.size, 5, none⟩ = some (.int .i64 ld) ∧ W.cell? ⟨w.heap.size, 7, none⟩ = some (.int .i64 vs) ∧ W.cell? ⟨w.heap.size, 8, none⟩ = some (.slice ga es.length gc) ∧ W.cell? ⟨w.heap.size, 10, none⟩ = some (.slice an xs.length cn) ∧ W.cell? ⟨w.heap.size, 11, none⟩ = some (.slice am ys.length cc) ∧ w.heap.size < W.heap.size ∧ Below w.heap.size w W) (refine ⟨?_, ?_, ?_, ?_, ?_, ?_, ?_, ?_, ?_, ?_⟩ <;> assumption) (first | (go_at_call 34; refine (HVo.out _).mono ?_; rintro e wq ⟨rfl, rfl⟩) | (go_at_call 13; refine (HMa.out _).mono ?_; rintro e wq ⟨rfl, rfl⟩))
    all_goals (go_wp2_with fail; go_ret; exact ⟨ret_b HV.out, by assumption⟩)
  have pn : ((xs.length : Int) == sz) = true := beq_iff_eq.2 hn
  by_cases hm2 : (ys.length : Int) = sz
  rotate_left
  · have pm : ((ys.length : Int) == sz) = false := beq_eq_false_iff_ne.2 hm2
    have HV : Hid (R = false) := Lib.hid (by rw [HR2.out, decide_eq_false hm2]; simp)
    go_wp2_with fail
    have hz := HM3.out.1.1.lt
    have hBd := HM3.out.2
    have hBd' := hBd.drew
    go_region_held3 (fun W => W.cell? ⟨w.heap.size, 0, none⟩ = some (.int .i64 id) ∧ W.cell? ⟨w.heap.size, 1, none⟩ = some (.int .i64 sz) ∧ W.cell? ⟨w.heap.size, 4, none⟩ = some (.int .i64 2) ∧ W.cell? ⟨w.heap.size, 5, none⟩ = some (.int .i64 ld) ∧ W.cell? ⟨w.heap.size, 7, none⟩ = some (.int .i64 vs) ∧ W.cell? ⟨w.heap.size, 8, none⟩ = some (.slice ga es.length gc) ∧ W.cell? ⟨w.heap.size, 10, none⟩ = some (.slice an xs.length cn) ∧ W.cell? ⟨w.heap.size, 11, none⟩ = some (.slice am ys.length cc) ∧ w.heap.size < W.heap.size ∧ Below w.heap.size w W) (refine ⟨?_, ?_, ?_, ?_, ?_, ?_, ?_, ?_, ?_, ?_⟩ <;> assumption) (first | (go_at_call 34; refine (HVo.out _).mono ?_; rintro e wq ⟨rfl, rfl⟩) | (go_at_call 13; refine (HMa.out _).mono ?_; rintro e wq ⟨rfl, rfl⟩))
    all_goals (go_wp2_with fail; go_ret; exact ⟨ret_b HV.out, by assumption⟩)
  have pm : ((ys.length : Int) == sz) = true := beq_iff_eq.2 hm2
  have HV : Hid (R = (bx && by')) := Lib.hid (by rw [HR2.out, decide_eq_true hn, decide_eq_true hm2]; rfl)
  clear HR2 hn hm2 t5
  go_wp2_with fail
  have hz := HM3.out.1.1.lt
  have hBd := HM3.out.2
  have hBd' := hBd.drew
  go_region_held3 (fun W => W.cell? ⟨w.heap.size, 0, none⟩ = some (.int .i64 id) ∧ W.cell? ⟨w.heap.size, 1, none⟩ = some (.int .i64 sz) ∧ W.cell? ⟨w.heap.size, 4, none⟩ = some (.int .i64 2) ∧ W.cell? ⟨w.heap.size, 5, none⟩ = some (.int .i64 ld) ∧ W.cell? ⟨w.heap.size, 7, none⟩ = some (.int .i64 vs) ∧ W.cell? ⟨w.heap.size, 8, none⟩ = some (.slice ga es.length gc) ∧ W.cell? ⟨w.heap.size, 10, none⟩ = some (.slice an xs.length cn) ∧ W.cell? ⟨w.heap.size, 11, none⟩ = some (.slice am ys.length cc) ∧ w.heap.size < W.heap.size ∧ Below w.heap.size w W) (refine ⟨?_, ?_, ?_, ?_, ?_, ?_, ?_, ?_, ?_, ?_⟩ <;> assumption) (first | (go_at_call 34; refine (HVo.out _).mono ?_; rintro e wq ⟨rfl, rfl⟩) | (go_at_call 13; refine (HMa.out _).mono ?_; rintro e wq ⟨rfl, rfl⟩))
  go_wp2_with fail
  refine (HPx.out _ (HX.out.below (by assumption))).mono ?_
  rintro e wp ⟨rfl, rfl⟩
  cases bx
  · go_wp2_with fail
    go_ret
    exact ⟨ret_b (by rw [HV.out]; rfl), by assumption⟩
  go_wp2_with fail
  refine (HPy.out _ (HY.out.below (by assumption))).mono ?_
  rintro e wp ⟨rfl, rfl⟩
  cases by'
  all_goals (go_wp2_with fail; go_ret; exact ⟨ret_b (by rw [HV.out]; rfl), by assumption⟩)
end Go.Proofs.Ytfpgklhbghahoaa
/- Election: the reference's Valid in all cases; the law Valid. -/
namespace Go.Proofs.Ytfpgklhbghahoaa
open Go.ChangeShapes Go.WideShapes Go.ChangeAt Go.RowKit Go.Deep
set_option linter.unusedVariables false
set_option linter.unusedSimpArgs false
theorem rvalid_at (id sz tm vt rl ld ti vs : Int) (lg : Value) (es : List (List Value)) (cm : Int) (nx mt : Value) (xs ys : List Int) (w : World) (hl : es.length ≤ 100) (he : EntArg w lg es) (hX : IntsIn w nx xs) (hY : IntsIn w mt ys) :
    Calls Try.prog 17 #[mem id sz tm vt rl ld ti vs lg cm nx mt] w fun e w' => e = .returned (.bool (validB id sz tm vt rl ld ti vs cm es xs ys)) ∧ Below w.heap.size w w' := by
  by_cases h : G0 id sz tm vt ld ∧ G1 sz rl ti vs
  · obtain ⟨h0, h1⟩ := h
    rw [validB_yes _ _ _ _ _ _ _ _ _ _ _ _ h0 h1]
    obtain ⟨a1, a2, a3, a4, a5, a6, a7, a8, a9⟩ := h0
    obtain ⟨b1, b2, b3, b4, b5⟩ := h1
    have hxl := hX.le
    have hyl := hY.le
    obtain ⟨ga, gc, rfl⟩ := he.len
    obtain ⟨an, cn, rfl⟩ : ∃ a c, nx = .slice a xs.length c := by
      rcases hX with ⟨rfl, a, cap, rfl⟩ | ⟨B, o, cap, rfl, _⟩ <;> exact ⟨_, _, rfl⟩
    obtain ⟨am, cc, rfl⟩ : ∃ a c, mt = .slice a ys.length c := by
      rcases hY with ⟨rfl, a, cap, rfl⟩ | ⟨B, o, cap, rfl, _⟩ <;> exact ⟨_, _, rfl⟩
    rcases (show rl = 0 ∨ rl = 1 ∨ rl = 2 by omega) with hr | hr | hr
    · exact rvalid_y0 id sz tm vt rl ld ti vs hr ga gc es cm an cn am cc xs ys w a1 a2 a3 a4 a5 a6 a7 a8 a9 (by omega) (by omega) b5 hl he hX hY hxl hyl
    · exact rvalid_y1 id sz tm vt rl ld ti vs hr ga gc es cm an cn am cc xs ys w a1 a2 a3 a4 a5 a6 a7 a8 a9 (by omega) (by omega) b5 hl he hX hY hxl hyl
    · exact rvalid_y2 id sz tm vt rl ld ti vs hr ga gc es cm an cn am cc xs ys w a1 a2 a3 a4 a5 a6 a7 a8 a9 (by omega) (by omega) b5 hl he hX hY hxl hyl
  · rw [validB_no _ _ _ _ _ _ _ _ _ _ _ _ h]
    by_cases h0 : G0 id sz tm vt ld
    · obtain ⟨a1, a2, a3, a4, a5, a6, a7, a8, a9⟩ := h0
      by_cases b1 : rl < 0
      · exact rvalid_m1 id sz tm vt rl ld ti vs lg cm nx mt w a1 a2 a3 a4 a5 a6 a7 a8 a9 b1
      by_cases b2 : 2 < rl
      · exact rvalid_m2 id sz tm vt rl ld ti vs lg cm nx mt w a1 a2 a3 a4 a5 a6 a7 a8 a9 b1 b2
      by_cases b3 : ti < 0
      · exact rvalid_m3 id sz tm vt rl ld ti vs lg cm nx mt w a1 a2 a3 a4 a5 a6 a7 a8 a9 b1 b2 b3
      by_cases b4 : vs < 0
      · exact rvalid_m4 id sz tm vt rl ld ti vs lg cm nx mt w a1 a2 a3 a4 a5 a6 a7 a8 a9 b1 b2 b3 b4
      by_cases b5 : wrap64 (2 ^ sz.toNat) ≤ vs
      · exact rvalid_m5 id sz tm vt rl ld ti vs lg cm nx mt w a1 a2 a3 a4 a5 a6 a7 a8 a9 b1 b2 b3 b4 b5
      · rw [pow_wrap sz a1 a2] at b5
        exact absurd ⟨⟨a1, a2, a3, a4, a5, a6, a7, a8, a9⟩, by omega, by omega, by omega, by omega, by omega⟩ h
    · exact rvalid_n0 id sz tm vt rl ld ti vs lg cm nx mt w h0
/-- a boxed member stands in its block; nothing of before has turned -/
def MB (w : World) (id sz tm vt rl ld ti vs : Int) (lg : Value) (cm : Int) (nx mt : Value) (W : World) : Prop := W.cell? ⟨w.heap.size, 0, none⟩ = some (.int .i64 id) ∧ W.cell? ⟨w.heap.size, 1, none⟩ = some (.int .i64 sz) ∧ W.cell? ⟨w.heap.size, 2, none⟩ = some (.int .i64 tm) ∧ W.cell? ⟨w.heap.size, 3, none⟩ = some (.int .i64 vt) ∧ W.cell? ⟨w.heap.size, 4, none⟩ = some (.int .i64 rl) ∧ W.cell? ⟨w.heap.size, 5, none⟩ = some (.int .i64 ld) ∧ W.cell? ⟨w.heap.size, 6, none⟩ = some (.int .i64 ti) ∧ W.cell? ⟨w.heap.size, 7, none⟩ = some (.int .i64 vs) ∧ W.cell? ⟨w.heap.size, 8, none⟩ = some (lg) ∧ W.cell? ⟨w.heap.size, 9, none⟩ = some (.int .i64 cm) ∧ W.cell? ⟨w.heap.size, 10, none⟩ = some (nx) ∧ W.cell? ⟨w.heap.size, 11, none⟩ = some (mt) ∧ w.heap.size < W.heap.size ∧ Below w.heap.size w W
theorem MB.next {w : World} {id sz tm vt rl ld ti vs : Int} {lg : Value} {cm : Int} {nx mt : Value} {W : World} (h : MB w id sz tm vt rl ld ti vs lg cm nx mt W) {P : Program} {f : Nat} {args : Array Value} {F : Ending → Prop} (hc : Calls P f args W fun e w' => F e ∧ Below W.heap.size W w') :
    Calls P f args W fun e w' => F e ∧ MB w id sz tm vt rl ld ti vs lg cm nx mt w' := by
  refine hc.mono ?_
  rintro e W' ⟨he, hb⟩
  obtain ⟨c0, c1, c2, c3, c4, c5, c6, c7, c8, c9, c10, c11, hz, hB⟩ := h
  obtain ⟨g, _⟩ := bcell hb
  exact ⟨he, (g _ _ hz).trans c0, (g _ _ hz).trans c1, (g _ _ hz).trans c2, (g _ _ hz).trans c3, (g _ _ hz).trans c4, (g _ _ hz).trans c5, (g _ _ hz).trans c6, (g _ _ hz).trans c7, (g _ _ hz).trans c8, (g _ _ hz).trans c9, (g _ _ hz).trans c10, (g _ _ hz).trans c11, Nat.lt_of_lt_of_le hz hb.size, hB.trans (hb.mono (Nat.le_of_lt hz))⟩
theorem MB.start (w : World) (id sz tm vt rl ld ti vs : Int) (lg : Value) (cm : Int) (nx mt : Value) : MB w id sz tm vt rl ld ti vs lg cm nx mt (w.alloc (.cells #[.int .i64 id, .int .i64 sz, .int .i64 tm, .int .i64 vt, .int .i64 rl, .int .i64 ld, .int .i64 ti, .int .i64 vs, lg, .int .i64 cm, nx, mt] 25)) :=
  ⟨by simp [go_sem], by simp [go_sem], by simp [go_sem], by simp [go_sem], by simp [go_sem], by simp [go_sem], by simp [go_sem], by simp [go_sem], by simp [go_sem], by simp [go_sem], by simp [go_sem], by simp [go_sem], by simp, (Below.refl _ _).alloc (Nat.le_refl _) _⟩
theorem MB.below {w : World} {id sz tm vt rl ld ti vs : Int} {lg : Value} {cm : Int} {nx mt : Value} {W : World} (h : MB w id sz tm vt rl ld ti vs lg cm nx mt W) : Below w.heap.size w W := h.2.2.2.2.2.2.2.2.2.2.2.2.2
end Go.Proofs.Ytfpgklhbghahoaa
/- Election: copies of pairs of a name and a struct, in a region that draws its order. -/
namespace Go.Proofs.Ytfpgklhbghahoaa
open Go.ChangeShapes Go.WideShapes Go.ChangeAt Go.RowKit Go.ChangeMaps Go.Joins Go.Deep
set_option linter.unusedVariables false
set_option linter.unusedSimpArgs false
set_option maxRecDepth 100000
theorem built_pair {P : Program} {T : TypeId} {q : Nat} {v : Value} {ds : List Value} {fs : Array Field} (hv : v.oneCell' = true) (hd : ds.length = q) (hz : zeroB P T (q + 1) = true) (hu : P.underlying T = some (.struct fs))
    (hpl : fs.toList.mapM (fun f => (P.info? f.type).map fun i => (f.offset, i.size)) = some [(0, 1), (1, q)]) : P.built T [(0, v), (1, .agg ds.toArray)] = some (v :: ds).toArray := by
  obtain ⟨i, zs, hi, hzz, hzl⟩ := zeroB_spec hz
  unfold Program.built
  simp only [hi, hu, hzz, hpl]
  exact fill_pair hv hd hzl _ rfl rfl
theorem ex_build {P : Program} {w : World} {o : Oper} {ρ : Operand → Value} {T : TypeId} {x y : Operand} {u v : Value} {cs : Array Value} (ho : o.op = .build T #[(0, x), (1, y)]) (hx : ρ x = u) (hy : ρ y = v) (h : P.built T [(0, u), (1, v)] = some cs) : (execOp ρ o).run P w = .ok (.value (.agg cs)) w := by
  unfold execOp
  simp only [ho, List.map_toArray, List.map_cons, List.map_nil, hx, hy, Sem.run_bind, run_build w T _ cs h, Result.andThen_ok, Sem.run_pure]
theorem seg_pair {W0 W w : World} {id N n k q d1 d2 d3 d4 d5 d6 y1 y2 y3 y4 y5 y6 y7 : Nat} {p1 p2 p3 p4 p5 p6 p7 : String} {f1 f2 f3 f4 f5 f6 f7 : Array Edge} {T t : TypeId} {g : FuncId} {ts : Array TypeId} {fs : Array Field} {cs0 : List Value} {a : Act} {fn : Func} {R : Ending → World → Prop} {l : List Oper} {ff fg : Field} (gs : Array Field)
    (hl : l = [{ dst := some d1, op := .fieldAddr T (.tmp 1) 0, type := y1, pos := p1, after := f1, guard := none }, { dst := some d2, op := .load 9 (.tmp d1), type := y2, pos := p2, after := f2, guard := none }, { dst := some d3, op := .fieldAddr T (.tmp 1) 1, type := y3, pos := p3, after := f3, guard := none }, { dst := some d4, op := .load t (.tmp d3), type := y4, pos := p4, after := f4, guard := none }, { dst := some d5, op := .call { callee := .value (.func g), args := #[.tmp d4], argTypes := ts }, type := y5, pos := p5, after := f5, guard := none }, { dst := some d6, op := .build T #[(0, .tmp d2), (1, .tmp d5)], type := y6, pos := p6, after := f6, guard := none }, { dst := none, op := .store T (.tmp 2) (.tmp d6), type := y7, pos := p7, after := f7, guard := none }])
    (hB : Region.regWB .any l.toArray 7 6 [(0, 0), (1, 1), (2, 0), (3, 1), (4, 2), (5, 0), (6, 3)] = true) (hm : Try.prog.follows .mixedOrders = true)
    (hb0 : Below W0.heap.size W0 W) (ha : ActC a N W.heap.size) (hst : CpSt W0 W n k cs0 [] w) (hlen : cs0.length = k) (hk : k = q + 1) (hg : GoodC Try.prog W0 (n + 1) T cs0) (hone : OneOK g t n W0)
    (hu : Try.prog.underlying T = some (.struct fs)) (hf0 : fs[0]? = some ff) (hf1 : fs[1]? = some fg) (hf2 : fs[2]? = none) (ht0 : ff.type = 9 ∧ ff.offset = 0) (ht1 : fg.type = t ∧ fg.offset = 1) (hq : Try.prog.cellsOf t = q) (hi : (Try.prog.info? t).map (·.size) = some q) (hq0 : q ≠ 0) (hr : Try.prog.underlying t = some (.struct gs)) (ht : tysE.contains t = true) (hT : tysE.contains T = true) (hF : FnOK Try.prog g) (hkT : Try.prog.cellsOf T = k) (hiT : (Try.prog.info? T).map (·.size) = some k)
    (hz : zeroB Try.prog T (q + 1) = true) (hpl : fs.toList.mapM (fun f => (Try.prog.info? f.type).map fun i => (f.offset, i.size)) = some [(0, 1), (1, q)]) (hdd : 2 < d1 ∧ d1 < N ∧ d1 < d2 ∧ d2 < N ∧ d2 < d3 ∧ d3 < N ∧ d3 < d4 ∧ d4 < N ∧ d4 < d5 ∧ d5 < N ∧ d5 < d6 ∧ d6 < N) (hres : fn.results = #[.cell 2 T])
    (hR : ∀ ds w', CopyOf W0 W (n + 1) T cs0 w' ds → R (.returned (.agg ds.toArray)) w') :
    (Code.seq (Code.region id l.toArray true) .ret).wp Try.prog (bodyPost Try.prog fn R) a w := by
  obtain ⟨h1, n1, h2, n2, h3, n3, h4, n4, h5, n5, h6, n6⟩ := hdd
  obtain ⟨cs, hbx, hcone, hdn, hrest⟩ := hst.src
  have hcl : cs.length = k := hbx.2
  have hcs : cs = cs0 := by
    have := hrest 0 k (fun p hp => by cases hp)
    rwa [part_all hcl, part_all hlen] at this
  subst hcs
  obtain ⟨c0, cr, rfl⟩ := List.exists_cons_of_length_pos (show 0 < cs.length by omega)
  have hcrl : cr.length = q := by simp at hcl; omega
  obtain ⟨_, hfs⟩ := (goodC_struct hu).1 hg
  have e9 : Try.prog.cellsOf 9 = 1 := by kernel_rfl
  have g0 := hfs 0 ff hf0
  have g1 := hfs 1 fg hf1
  rw [ht0.1, ht0.2, e9] at g0
  rw [ht1.1, ht1.2, hq] at g1
  have ep0 : part_ (c0 :: cr) 0 1 = [c0] := rfl
  have ep1 : part_ (c0 :: cr) 1 q = cr := by
    show ((c0 :: cr).drop 1).take q = cr
    rw [List.drop_succ_cons, List.drop_zero, ← hcrl, List.take_length]
  rw [ep0] at g0
  rw [ep1] at g1
  have hi9 : (Try.prog.info? 9).map (·.size) = some 1 := by kernel_rfl
  have hs0 : ((Try.prog.info? ff.type).map (·.size)).getD 0 ≠ 0 := by rw [ht0.1, hi9]; exact Nat.one_ne_zero
  have hs1 : ((Try.prog.info? fg.type).map (·.size)).getD 0 ≠ 0 := by rw [ht1.1, hi]; exact hq0
  have hlt := hst.lt
  have hox : c0.oneCell' = true := hcone c0 List.mem_cons_self
  let S : World → Prop := fun X => BoxN k X W.heap.size (c0 :: cr)
  have hrS : ∀ X, S X → X.rangeAt W.heap.size (0 + fg.offset) cr := fun X hX => by
    have := range_part hX.1.rng fg.offset q
    rwa [ht1.2, ep1, ← ht1.2] at this
  have hcS : ∀ X, S X → X.cell? ⟨W.heap.size, 0 + ff.offset, none⟩ = some c0 := fun X hX => by
    rw [ht0.2]; exact hX.1.cell 0 c0 rfl
  refine wp_seq (wp_region_ordW 7 6 [(0, 0), (1, 1), (2, 0), (3, 1), (4, 2), (5, 0), (6, 3)] S hm hB hbx.drew (fun c a d v w h => by cases d <;> exact h) ?_)
  subst hl
  refine wpOrd_read0 (oi := { dst := some d1, op := .fieldAddr T (.tmp 1) 0, type := y1, pos := p1, after := f1, guard := none }) (.pointer (some ⟨W.heap.size, 0 + ff.offset, none⟩)) rfl rfl (fun X => ex_field T (.tmp 1) 0 W.heap.size 0 fs ff rfl ha.src hu hf0 hs0) (fun K hK => hK _ _ ?_)
  have ha1 := ha.put h1 (.pointer (some ⟨W.heap.size, 0 + ff.offset, none⟩))
  refine wpOrd_read1 (oi := { dst := some d2, op := .load 9 (.tmp d1), type := y2, pos := p2, after := f2, guard := none }) c0 rfl rfl (fun X hX => ex_load_cell 9 (.tmp d1) W.heap.size (0 + ff.offset) c0 .string rfl (eval_put_same (by rw [ha.size]; exact n1)) (hcS X hX) Try.underlying9 rfl) (fun K hK => hK _ _ ?_)
  have ha2 := ha1.put (show 2 < d2 by omega) c0
  have he2 : ((a.put (some d1) (.pointer (some ⟨W.heap.size, 0 + ff.offset, none⟩))).put (some d2) c0).eval (.tmp d2) = c0 := eval_put_same (by rw [ha1.size]; exact n2)
  generalize ((a.put (some d1) (.pointer (some ⟨W.heap.size, 0 + ff.offset, none⟩))).put (some d2) c0) = a2 at *
  refine wpOrd_read0 (oi := { dst := some d3, op := .fieldAddr T (.tmp 1) 1, type := y3, pos := p3, after := f3, guard := none }) (.pointer (some ⟨W.heap.size, 0 + fg.offset, none⟩)) rfl rfl (fun X => ex_field T (.tmp 1) 1 W.heap.size 0 fs fg rfl ha2.src hu hf1 hs1) (fun K hK => hK _ _ ?_)
  have ha3 := ha2.put (show 2 < d3 by omega) (.pointer (some ⟨W.heap.size, 0 + fg.offset, none⟩))
  refine wpOrd_read1 (oi := { dst := some d4, op := .load t (.tmp d3), type := y4, pos := p4, after := f4, guard := none }) (.agg cr.toArray) rfl rfl (fun X hX => ex_load_row t (.tmp d3) W.heap.size (0 + fg.offset) cr (.struct gs) rfl (eval_put_same (by rw [ha2.size]; exact n3)) (hrS X hX) hr rfl (by rw [hcrl]; exact hi)) (fun K hK => hK _ _ ?_)
  have ha4 := ha3.put (show 2 < d4 by omega) (.agg cr.toArray)
  have he4 : ((a2.put (some d3) (.pointer (some ⟨W.heap.size, 0 + fg.offset, none⟩))).put (some d4) (.agg cr.toArray)).eval (.tmp d4) = .agg cr.toArray := eval_put_same (by rw [ha3.size]; exact n4)
  have he42 : ((a2.put (some d3) (.pointer (some ⟨W.heap.size, 0 + fg.offset, none⟩))).put (some d4) (.agg cr.toArray)).eval (.tmp d2) = c0 := (eval_put_ne (by omega)).trans ((eval_put_ne (by omega)).trans he2)
  generalize ((a2.put (some d3) (.pointer (some ⟨W.heap.size, 0 + fg.offset, none⟩))).put (some d4) (.agg cr.toArray)) = a4 at *
  refine wpOrd_eff2 (oi := { dst := some d5, op := .call { callee := .value (.func g), args := #[.tmp d4], argTypes := ts }, type := y5, pos := p5, after := f5, guard := none }) rfl rfl (fun K hK => ?_)
  have hxs : (#[Operand.tmp d4] : Array Operand).map a4.eval = #[.agg cr.toArray] := by
    rw [List.map_toArray, List.map_cons, he4, List.map_nil]
  unfold Oper.wp
  rw [ex_call (w := w.drew) hF rfl rfl, Oper.upon_enter, hxs]
  have hst' : Below W.heap.size W w.drew := hst.low.drew
  refine (hone w.drew cr (hb0.trans (hst'.mono hb0.size)) g1).mono ?_
  rintro e w' ⟨ds, rfl, hcp⟩
  have hsd : w.drew.heap.size = w.heap.size := rfl
  refine hK _ _ (hbx.drew.keep hcp.2) ?_
  have hdl : ds.length = q := (eqC_len hr hcp.1).trans hq
  have hdo := good_cells_of ht (EqC.good _ _ _ _ (EqC.symm _ _ _ _ hcp.1))
  have ha5 := ha4.put (show 2 < d5 by omega) (.agg ds.toArray)
  refine wpOrd_read0 (oi := { dst := some d6, op := .build T #[(0, .tmp d2), (1, .tmp d5)], type := y6, pos := p6, after := f6, guard := none }) (.agg (c0 :: ds).toArray) rfl rfl (fun X => ex_build rfl ((eval_put_ne (by omega)).trans he42) (eval_put_same (by rw [ha4.size]; exact n5)) (built_pair hox hdl hz hu hpl)) (fun K hK => hK _ _ ?_)
  have ha6 := ha5.put (show 2 < d6 by omega) (.agg (c0 :: ds).toArray)
  have he6 : ((a4.put (some d5) (.agg ds.toArray)).put (some d6) (.agg (c0 :: ds).toArray)).eval (.tmp d6) = .agg (c0 :: ds).toArray := eval_put_same (by rw [ha5.size]; exact n6)
  generalize ((a4.put (some d5) (.agg ds.toArray)).put (some d6) (.agg (c0 :: ds).toArray)) = a6 at *
  obtain ⟨zs, hzs⟩ := hst.dst
  have hzs' := hzs.drew.keep hcp.2
  have hl2 : (c0 :: ds).length = k := by rw [List.length_cons, hdl, hk]
  refine wpOrd_eff3 (oi := { dst := none, op := .store T (.tmp 2) (.tmp d6), type := y7, pos := p7, after := f7, guard := none }) rfl rfl (fun K hK => ?_)
  unfold Oper.wp
  rw [ex_store_row (w := w') T (.tmp 2) (.tmp d6) (W.heap.size + 1) 0 (c0 :: ds) rfl ha6.dst he6 (hzs'.1.there _ _ (by rw [hzs'.2]; omega)) (by rw [hl2]; exact hiT) (fun v hv => by
    rcases List.mem_cons.1 hv with rfl | hv
    · exact hox
    · exact hdo v hv), Oper.upon_skip]
  have ho := Only.setCells w' (W.heap.size + 1) 0 (c0 :: ds) hzs'.1.lt
  have hb3 := hzs'.1.store (vs := c0 :: ds) (by rw [hzs'.2, hl2])
  refine hK _ _ (wpOrd_nil (wp_ret (bodyPost_ret (results_cell hres ha6.dst hb3.rng hu rfl (by rw [hl2]; exact hiT)) ha6.defers (hR (c0 :: ds) _ ⟨?_, (hst'.trans (hcp.2.mono hst'.size)).trans (ho.below _ (Nat.le_succ _))⟩))))
  have hss := hb0.size
  have hx : EqC Try.prog (w'.setCells (W.heap.size + 1) 0 (c0 :: ds)) (w'.setCells (W.heap.size + 1) 0 (c0 :: ds)) (fun i => i < W0.heap.size) (fun i => W.heap.size ≤ i) n t cr ds :=
    EqC.kept (Nat.le_of_eq ho.size.symm) (Nat.le_of_eq ho.size.symm) (fun i hi _ => ho.heap i (by omega)) (fun i hi _ => ho.heap i (by omega)) (fun _ hi _ => hi) (fun i hi _ => by show W.heap.size ≤ i; omega) _ _ _ _ hcp.1
  refine (eqC_struct hu).2 ⟨by rw [hkT]; exact hlen, by rw [hkT]; exact hl2, fun i f hfi => ?_⟩
  match i, hfi with
  | 0, hfi =>
    obtain rfl := Option.some.inj (hf0.symm.trans hfi)
    rw [ht0.1, ht0.2, e9]
    exact leaf_string Try.underlying9 g0
  | 1, hfi =>
    obtain rfl := Option.some.inj (hf1.symm.trans hfi)
    rw [ht1.1, ht1.2, hq, ep1]
    have : part_ (c0 :: ds) 1 q = ds := by
      show ((c0 :: ds).drop 1).take q = ds
      rw [List.drop_succ_cons, List.drop_zero, ← hdl, List.take_length]
    rw [this]
    exact hx
  | j + 2, hfi =>
    have h2 : 2 ≤ j + 2 := by omega
    have hsz : fs.size ≤ 2 := by
      rw [Array.getElem?_eq_none_iff] at hf2; exact hf2
    rw [Array.getElem?_eq_none (by omega)] at hfi
    cases hfi
end Go.Proofs.Ytfpgklhbghahoaa
/- Election: the copies of all structs of a log, of any depth. -/
namespace Go.Proofs.Ytfpgklhbghahoaa
open Go.ChangeShapes Go.WideShapes Go.ChangeAt Go.RowKit Go.ChangeMaps Go.Joins Go.Deep
set_option linter.unusedVariables false
set_option linter.unusedSimpArgs false
set_option maxRecDepth 100000
theorem callOK_strs (n : Nat) (W0 : World) : CallOK 77 [] 50 n W0 := fun W v hb h => copyStrings_eq n v W0 W hb h
theorem callOK_ints (n : Nat) (W0 : World) : CallOK 49 [] 23 n W0 := fun W v hb h => copyInts_eq n v W0 W hb h
theorem fnOK_strs : FnOK Try.prog 77 := ⟨_, Try.func77, rfl, rfl⟩
theorem fnOK_ints : FnOK Try.prog 49 := ⟨_, Try.func49, rfl, rfl⟩
theorem fnOK_Value : FnOK Try.prog 60 := ⟨_, Try.func60, rfl, rfl⟩
theorem fnOK_allValue : FnOK Try.prog 68 := ⟨_, Try.func68, rfl, rfl⟩
theorem callOK_Value (n : Nat) (W0 : World) (h : ∀ m, m < n → OneOK 60 48 m W0) : CallOK 68 [.func (.func 60) #[] #[]] 45 n W0 := fun W v hb hg => by
  cases n with
  | zero => exact hg.elim
  | succ n => exact copyAll_Value n v W0 W hb hg (h n (Nat.lt_succ_self n))
theorem fnOK_allField : FnOK Try.prog 69 := ⟨_, Try.func69, rfl, rfl⟩
theorem callOK_Field (n : Nat) (W0 : World) (h : ∀ m, m < n → OneOK 70 104 m W0) : CallOK 69 [.func (.func 70) #[] #[]] 46 n W0 := fun W v hb hg => by
  cases n with
  | zero => exact hg.elim
  | succ n => exact copyAll_Field n v W0 W hb hg (h n (Nat.lt_succ_self n))
theorem fnOK_Expr : FnOK Try.prog 81 := ⟨_, Try.func81, rfl, rfl⟩
theorem fnOK_allExpr : FnOK Try.prog 83 := ⟨_, Try.func83, rfl, rfl⟩
theorem callOK_Expr (n : Nat) (W0 : World) (h : ∀ m, m < n → OneOK 81 63 m W0) : CallOK 83 [.func (.func 81) #[] #[]] 61 n W0 := fun W v hb hg => by
  cases n with
  | zero => exact hg.elim
  | succ n => exact copyAll_Expr n v W0 W hb hg (h n (Nat.lt_succ_self n))
theorem fnOK_Pred : FnOK Try.prog 75 := ⟨_, Try.func75, rfl, rfl⟩
theorem fnOK_allPred : FnOK Try.prog 82 := ⟨_, Try.func82, rfl, rfl⟩
theorem callOK_Pred (n : Nat) (W0 : World) (h : ∀ m, m < n → OneOK 75 66 m W0) : CallOK 82 [.func (.func 75) #[] #[]] 64 n W0 := fun W v hb hg => by
  cases n with
  | zero => exact hg.elim
  | succ n => exact copyAll_Pred n v W0 W hb hg (h n (Nat.lt_succ_self n))
theorem fnOK_allOrder : FnOK Try.prog 73 := ⟨_, Try.func73, rfl, rfl⟩
theorem callOK_Order (n : Nat) (W0 : World) (h : ∀ m, m < n → OneOK 74 117 m W0) : CallOK 73 [.func (.func 74) #[] #[]] 57 n W0 := fun W v hb hg => by
  cases n with
  | zero => exact hg.elim
  | succ n => exact copyAll_Order n v W0 W hb hg (h n (Nat.lt_succ_self n))
theorem fnOK_Index : FnOK Try.prog 62 := ⟨_, Try.func62, rfl, rfl⟩
theorem fnOK_allIndex : FnOK Try.prog 71 := ⟨_, Try.func71, rfl, rfl⟩
theorem callOK_Index (n : Nat) (W0 : World) (h : ∀ m, m < n → OneOK 62 68 m W0) : CallOK 71 [.func (.func 62) #[] #[]] 49 n W0 := fun W v hb hg => by
  cases n with
  | zero => exact hg.elim
  | succ n => exact copyAll_Index n v W0 W hb hg (h n (Nat.lt_succ_self n))
theorem fnOK_Schema : FnOK Try.prog 72 := ⟨_, Try.func72, rfl, rfl⟩
theorem fnOK_allSchema : FnOK Try.prog 80 := ⟨_, Try.func80, rfl, rfl⟩
theorem callOK_Schema (n : Nat) (W0 : World) (h : ∀ m, m < n → OneOK 72 54 m W0) : CallOK 80 [.func (.func 72) #[] #[]] 52 n W0 := fun W v hb hg => by
  cases n with
  | zero => exact hg.elim
  | succ n => exact copyAll_Schema n v W0 W hb hg (h n (Nat.lt_succ_self n))
theorem fnOK_allProp : FnOK Try.prog 78 := ⟨_, Try.func78, rfl, rfl⟩
theorem callOK_Prop (n : Nat) (W0 : World) (h : ∀ m, m < n → OneOK 79 115 m W0) : CallOK 78 [.func (.func 79) #[] #[]] 51 n W0 := fun W v hb hg => by
  cases n with
  | zero => exact hg.elim
  | succ n => exact copyAll_Prop n v W0 W hb hg (h n (Nat.lt_succ_self n))
theorem fnOK_Space : FnOK Try.prog 61 := ⟨_, Try.func61, rfl, rfl⟩
theorem fnOK_Write : FnOK Try.prog 56 := ⟨_, Try.func56, rfl, rfl⟩
theorem fnOK_allWrite : FnOK Try.prog 63 := ⟨_, Try.func63, rfl, rfl⟩
theorem callOK_Write (n : Nat) (W0 : World) (h : ∀ m, m < n → OneOK 56 71 m W0) : CallOK 63 [.func (.func 56) #[] #[]] 69 n W0 := fun W v hb hg => by
  cases n with
  | zero => exact hg.elim
  | succ n => exact copyAll_Write n v W0 W hb hg (h n (Nat.lt_succ_self n))
theorem fnOK_allEntry : FnOK Try.prog 47 := ⟨_, Try.func47, rfl, rfl⟩
theorem callOK_Entry (n : Nat) (W0 : World) (h : ∀ m, m < n → OneOK 48 73 m W0) : CallOK 47 [.func (.func 48) #[] #[]] 22 n W0 := fun W v hb hg => by
  cases n with
  | zero => exact hg.elim
  | succ n => exact copyAll_Entry n v W0 W hb hg (h n (Nat.lt_succ_self n))
theorem shape_size : ((Try.prog.info? 60).map (·.size)).getD 0 ≠ 0 := by
  have : (Try.prog.info? 60).map (·.size) = some 3 := by kernel_rfl
  rw [this]
  decide
theorem good_points {n : Nat} {W0 : World} {cs : List Value} (h : GoodC Try.prog W0 n 60 (part_ cs 10 (Try.prog.cellsOf 60))) : ∃ m, m ≤ n ∧ GoodC Try.prog W0 m 58 (part_ cs 11 1) := by
  cases n with
  | zero => exact h.elim
  | succ n =>
    have e3 : Try.prog.cellsOf 60 = 3 := by kernel_rfl
    have e1 : Try.prog.cellsOf 58 = 1 := by kernel_rfl
    have := ((goodC_struct Try.underlying60).1 h).2 1 _ rfl
    refine ⟨n, Nat.le_succ n, ?_⟩
    rw [e3] at this
    have h2 : GoodC Try.prog W0 n 58 (part_ (part_ cs 10 3) 1 (Try.prog.cellsOf 58)) := this
    rw [e1, part_part (by decide)] at h2
    exact h2
theorem copyValue_at (n : Nat) (W0 : World) (hValue : ∀ m, m < n + 1 → OneOK 60 48 m W0) (hField : ∀ m, m < n + 1 → OneOK 70 104 m W0) : OneOK 60 48 (n + 1) W0 := by
  intro W cs hb0 hg
  have hgs := ((goodC_struct Try.underlying48).1 hg).2
  have hlen : cs.length = 5 := ((goodC_struct Try.underlying48).1 hg).1.trans (by kernel_rfl)
  have h1 := good_cells_of (by decide) hg
  refine copy_enter Try.func60 rfl rfl (fun a0 h0 hN hd => ?_)
  refine seg_start (W0 := W0) (n := n) h0 hN (by decide) hd hlen (by kernel_rfl) h1 (fun a1 w1 ha1 hs1 => ?_)
  refine seg_cell (off := 3) hb0 ha1 hs1 hgs (callOK_Value n W0 (fun m hm => hValue m (Nat.lt_succ_of_lt hm))) Try.underlying48 rfl rfl rfl (by kernel_rfl) (by kernel_rfl) Try.underlying45 fnOK_allValue (fun _ => rfl) (by decide) (by kernel_rfl) (by decide) (fun a2 w2 ha2 hs2 => ?_)
  refine seg_cell (off := 4) hb0 ha2 hs2 hgs (callOK_Field n W0 (fun m hm => hField m (Nat.lt_succ_of_lt hm))) Try.underlying48 rfl rfl rfl (by kernel_rfl) (by kernel_rfl) Try.underlying46 fnOK_allField (fun _ => rfl) (by decide) (by kernel_rfl) (by decide) (fun a3 w3 ha3 hs3 => ?_)
  exact seg_end hb0 ha3 hs3 Try.underlying48 (by kernel_rfl) (by kernel_rfl) hlen hg (by kernel_rfl) (by decide) rfl (fun ds w' hc => ⟨ds, rfl, hc⟩)
theorem copyField_at (n : Nat) (W0 : World) (hValue : OneOK 60 48 n W0) : OneOK 70 104 (n + 1) W0 := by
  intro W cs hb0 hg
  have hlen : cs.length = 6 := ((goodC_struct Try.underlying104).1 hg).1.trans (by kernel_rfl)
  have h1 := good_cells_of (by decide) hg
  refine copy_enter Try.func70 rfl rfl (fun a0 h0 hN hd => ?_)
  refine seg_start (W0 := W0) (n := n) h0 hN (by decide) hd hlen (by kernel_rfl) h1 (fun a1 w1 ha1 hs1 => ?_)
  exact seg_pair (q := 5) _ rfl (by kernel_rfl) (by kernel_rfl) hb0 ha1 hs1 hlen rfl hg hValue Try.underlying104 rfl rfl rfl ⟨rfl, rfl⟩ ⟨rfl, rfl⟩ (by kernel_rfl) (by kernel_rfl) (by decide) Try.underlying48 (by decide) (by decide) fnOK_Value (by kernel_rfl) (by kernel_rfl) (by kernel_rfl) (by kernel_rfl) (by decide) rfl (fun ds w' hc => ⟨ds, rfl, hc⟩)
theorem strong {p : Nat → Prop} (h0 : p 0) (h : ∀ n, (∀ m, m < n + 1 → p m) → p (n + 1)) (n : Nat) : p n := by
  induction n using Nat.strongRecOn with
  | _ n ih =>
    cases n with
    | zero => exact h0
    | succ n => exact h n ih
theorem copyVF (W0 : World) (n : Nat) : OneOK 60 48 n W0 ∧ OneOK 70 104 n W0 := by
  refine strong (p := fun n => OneOK 60 48 n W0 ∧ OneOK 70 104 n W0) ⟨oneOK_zero, oneOK_zero⟩ (fun n ih => ⟨copyValue_at n W0 (fun m hm => (ih m hm).1) (fun m hm => (ih m hm).2), copyField_at n W0 (ih n (Nat.lt_succ_self n)).1⟩) n
theorem copyValue_ok (n : Nat) (W0 : World) : OneOK 60 48 n W0 := (copyVF W0 n).1
theorem copyOrder_at (n : Nat) (W0 : World)  : OneOK 74 117 (n + 1) W0 := by
  intro W cs hb0 hg
  have hgs := ((goodC_struct Try.underlying117).1 hg).2
  have hlen : cs.length = 2 := ((goodC_struct Try.underlying117).1 hg).1.trans (by kernel_rfl)
  have h1 := good_cells_of (by decide) hg
  refine copy_enter Try.func74 rfl rfl (fun a0 h0 hN hd => ?_)
  refine seg_start (W0 := W0) (n := n) h0 hN (by decide) hd hlen (by kernel_rfl) h1 (fun a1 w1 ha1 hs1 => ?_)
  refine seg_cell (off := 0) (xs := []) (es := []) hb0 ha1 hs1 hgs (callOK_strs n W0) Try.underlying117 rfl rfl rfl (by kernel_rfl) (by kernel_rfl) Try.underlying50 fnOK_strs (fun _ => rfl) (by decide) (by kernel_rfl) (by decide) (fun a2 w2 ha2 hs2 => ?_)
  exact seg_end hb0 ha2 hs2 Try.underlying117 (by kernel_rfl) (by kernel_rfl) hlen hg (by kernel_rfl) (by decide) rfl (fun ds w' hc => ⟨ds, rfl, hc⟩)
theorem copyOrder_ok (n : Nat) (W0 : World) : OneOK 74 117 n W0 := by
  cases n with
  | zero => exact oneOK_zero
  | succ n => exact copyOrder_at n W0 
theorem copyExpr_at (n : Nat) (W0 : World) (hValue : ∀ m, m < n + 1 → OneOK 60 48 m W0) (hExpr : ∀ m, m < n + 1 → OneOK 81 63 m W0) : OneOK 81 63 (n + 1) W0 := by
  intro W cs hb0 hg
  have hgs := ((goodC_struct Try.underlying63).1 hg).2
  have hlen : cs.length = 11 := ((goodC_struct Try.underlying63).1 hg).1.trans (by kernel_rfl)
  have h1 := good_cells_of (by decide) hg
  refine copy_enter Try.func81 rfl rfl (fun a0 h0 hN hd => ?_)
  refine seg_start (W0 := W0) (n := n) h0 hN (by decide) hd hlen (by kernel_rfl) h1 (fun a1 w1 ha1 hs1 => ?_)
  refine seg_cell (off := 1) (xs := []) (es := []) hb0 ha1 hs1 hgs (callOK_strs n W0) Try.underlying63 rfl rfl rfl (by kernel_rfl) (by kernel_rfl) Try.underlying50 fnOK_strs (fun _ => rfl) (by decide) (by kernel_rfl) (by decide) (fun a2 w2 ha2 hs2 => ?_)
  refine seg_cell (off := 3) (xs := []) (es := []) hb0 ha2 hs2 hgs (callOK_strs n W0) Try.underlying63 rfl rfl rfl (by kernel_rfl) (by kernel_rfl) Try.underlying50 fnOK_strs (fun _ => rfl) (by decide) (by kernel_rfl) (by decide) (fun a3 w3 ha3 hs3 => ?_)
  refine seg_row (off := 4) (q := 5) hb0 ha3 hs3 hgs (hValue n (Nat.lt_succ_self n)) Try.underlying63 rfl rfl rfl (by kernel_rfl) (by kernel_rfl) _ Try.underlying48 (by decide) fnOK_Value (by decide) (by decide) (by kernel_rfl) (by decide) (fun a4 w4 ha4 hs4 => ?_)
  refine seg_cell (off := 10) hb0 ha4 hs4 hgs (callOK_Expr n W0 (fun m hm => hExpr m (Nat.lt_succ_of_lt hm))) Try.underlying63 rfl rfl rfl (by kernel_rfl) (by kernel_rfl) Try.underlying61 fnOK_allExpr (fun _ => rfl) (by decide) (by kernel_rfl) (by decide) (fun a5 w5 ha5 hs5 => ?_)
  exact seg_end hb0 ha5 hs5 Try.underlying63 (by kernel_rfl) (by kernel_rfl) hlen hg (by kernel_rfl) (by decide) rfl (fun ds w' hc => ⟨ds, rfl, hc⟩)
theorem copyExpr_ok (n : Nat) (W0 : World) : OneOK 81 63 n W0 := by
  refine strong (p := fun n => OneOK 81 63 n W0) oneOK_zero (fun n ih => copyExpr_at n W0 (fun m _ => copyValue_ok m W0) (fun m hm => ih m hm)) n
theorem copyPred_at (n : Nat) (W0 : World) (hValue : ∀ m, m < n + 1 → OneOK 60 48 m W0) (hExpr : ∀ m, m < n + 1 → OneOK 81 63 m W0) (hPred : ∀ m, m < n + 1 → OneOK 75 66 m W0) : OneOK 75 66 (n + 1) W0 := by
  intro W cs hb0 hg
  have hgs := ((goodC_struct Try.underlying66).1 hg).2
  have hlen : cs.length = 25 := ((goodC_struct Try.underlying66).1 hg).1.trans (by kernel_rfl)
  have h1 := good_cells_of (by decide) hg
  refine copy_enter Try.func75 rfl rfl (fun a0 h0 hN hd => ?_)
  refine seg_start (W0 := W0) (n := n) h0 hN (by decide) hd hlen (by kernel_rfl) h1 (fun a1 w1 ha1 hs1 => ?_)
  refine seg_cell (off := 1) (xs := []) (es := []) hb0 ha1 hs1 hgs (callOK_strs n W0) Try.underlying66 rfl rfl rfl (by kernel_rfl) (by kernel_rfl) Try.underlying50 fnOK_strs (fun _ => rfl) (by decide) (by kernel_rfl) (by decide) (fun a2 w2 ha2 hs2 => ?_)
  refine seg_row (off := 2) (q := 5) hb0 ha2 hs2 hgs (hValue n (Nat.lt_succ_self n)) Try.underlying66 rfl rfl rfl (by kernel_rfl) (by kernel_rfl) _ Try.underlying48 (by decide) fnOK_Value (by decide) (by decide) (by kernel_rfl) (by decide) (fun a3 w3 ha3 hs3 => ?_)
  refine seg_cell (off := 7) hb0 ha3 hs3 hgs (callOK_Value n W0 (fun m hm => hValue m (Nat.lt_succ_of_lt hm))) Try.underlying66 rfl rfl rfl (by kernel_rfl) (by kernel_rfl) Try.underlying45 fnOK_allValue (fun _ => rfl) (by decide) (by kernel_rfl) (by decide) (fun a4 w4 ha4 hs4 => ?_)
  obtain ⟨m, hm, hgp⟩ := good_points (n := n) (hgs 6 _ rfl)
  refine seg_points (off := 11) hb0 ha4 hs4 hm hgp Try.underlying66 rfl shape_size Try.underlying60 rfl rfl rfl (by decide) (by kernel_rfl) (by decide) (fun a5 w5 ha5 hs5 => ?_)
  refine seg_row (off := 13) (q := 11) hb0 ha5 hs5 hgs (hExpr n (Nat.lt_succ_self n)) Try.underlying66 rfl rfl rfl (by kernel_rfl) (by kernel_rfl) _ Try.underlying63 (by decide) fnOK_Expr (by decide) (by decide) (by kernel_rfl) (by decide) (fun a6 w6 ha6 hs6 => ?_)
  refine seg_cell (off := 24) hb0 ha6 hs6 hgs (callOK_Pred n W0 (fun m hm => hPred m (Nat.lt_succ_of_lt hm))) Try.underlying66 rfl rfl rfl (by kernel_rfl) (by kernel_rfl) Try.underlying64 fnOK_allPred (fun _ => rfl) (by decide) (by kernel_rfl) (by decide) (fun a7 w7 ha7 hs7 => ?_)
  exact seg_end hb0 ha7 hs7 Try.underlying66 (by kernel_rfl) (by kernel_rfl) hlen hg (by kernel_rfl) (by decide) rfl (fun ds w' hc => ⟨ds, rfl, hc⟩)
theorem copyPred_ok (n : Nat) (W0 : World) : OneOK 75 66 n W0 := by
  refine strong (p := fun n => OneOK 75 66 n W0) oneOK_zero (fun n ih => copyPred_at n W0 (fun m _ => copyValue_ok m W0) (fun m _ => copyExpr_ok m W0) (fun m hm => ih m hm)) n
theorem copyIndex_at (n : Nat) (W0 : World) (hOrder : ∀ m, m < n + 1 → OneOK 74 117 m W0) (hPred : ∀ m, m < n + 1 → OneOK 75 66 m W0) : OneOK 62 68 (n + 1) W0 := by
  intro W cs hb0 hg
  have hgs := ((goodC_struct Try.underlying68).1 hg).2
  have hlen : cs.length = 31 := ((goodC_struct Try.underlying68).1 hg).1.trans (by kernel_rfl)
  have h1 := good_cells_of (by decide) hg
  refine copy_enter Try.func62 rfl rfl (fun a0 h0 hN hd => ?_)
  refine seg_start (W0 := W0) (n := n) h0 hN (by decide) hd hlen (by kernel_rfl) h1 (fun a1 w1 ha1 hs1 => ?_)
  refine seg_cell (off := 2) hb0 ha1 hs1 hgs (callOK_Order n W0 (fun m hm => hOrder m (Nat.lt_succ_of_lt hm))) Try.underlying68 rfl rfl rfl (by kernel_rfl) (by kernel_rfl) Try.underlying57 fnOK_allOrder (fun _ => rfl) (by decide) (by kernel_rfl) (by decide) (fun a2 w2 ha2 hs2 => ?_)
  refine seg_row (off := 6) (q := 25) hb0 ha2 hs2 hgs (hPred n (Nat.lt_succ_self n)) Try.underlying68 rfl rfl rfl (by kernel_rfl) (by kernel_rfl) _ Try.underlying66 (by decide) fnOK_Pred (by decide) (by decide) (by kernel_rfl) (by decide) (fun a3 w3 ha3 hs3 => ?_)
  exact seg_end hb0 ha3 hs3 Try.underlying68 (by kernel_rfl) (by kernel_rfl) hlen hg (by kernel_rfl) (by decide) rfl (fun ds w' hc => ⟨ds, rfl, hc⟩)
theorem copyIndex_ok (n : Nat) (W0 : World) : OneOK 62 68 n W0 := by
  cases n with
  | zero => exact oneOK_zero
  | succ n => exact copyIndex_at n W0 (fun m _ => copyOrder_ok m W0) (fun m _ => copyPred_ok m W0)
theorem copySchema_at (n : Nat) (W0 : World) (hValue : ∀ m, m < n + 1 → OneOK 60 48 m W0) (hProp : ∀ m, m < n + 1 → OneOK 79 115 m W0) (hSchema : ∀ m, m < n + 1 → OneOK 72 54 m W0) : OneOK 72 54 (n + 1) W0 := by
  intro W cs hb0 hg
  have hgs := ((goodC_struct Try.underlying54).1 hg).2
  have hlen : cs.length = 21 := ((goodC_struct Try.underlying54).1 hg).1.trans (by kernel_rfl)
  have h1 := good_cells_of (by decide) hg
  refine copy_enter Try.func72 rfl rfl (fun a0 h0 hN hd => ?_)
  refine seg_start (W0 := W0) (n := n) h0 hN (by decide) hd hlen (by kernel_rfl) h1 (fun a1 w1 ha1 hs1 => ?_)
  refine seg_row (off := 2) (q := 5) hb0 ha1 hs1 hgs (hValue n (Nat.lt_succ_self n)) Try.underlying54 rfl rfl rfl (by kernel_rfl) (by kernel_rfl) _ Try.underlying48 (by decide) fnOK_Value (by decide) (by decide) (by kernel_rfl) (by decide) (fun a2 w2 ha2 hs2 => ?_)
  refine seg_row (off := 8) (q := 5) hb0 ha2 hs2 hgs (hValue n (Nat.lt_succ_self n)) Try.underlying54 rfl rfl rfl (by kernel_rfl) (by kernel_rfl) _ Try.underlying48 (by decide) fnOK_Value (by decide) (by decide) (by kernel_rfl) (by decide) (fun a3 w3 ha3 hs3 => ?_)
  refine seg_cell (off := 13) hb0 ha3 hs3 hgs (callOK_Value n W0 (fun m hm => hValue m (Nat.lt_succ_of_lt hm))) Try.underlying54 rfl rfl rfl (by kernel_rfl) (by kernel_rfl) Try.underlying45 fnOK_allValue (fun _ => rfl) (by decide) (by kernel_rfl) (by decide) (fun a4 w4 ha4 hs4 => ?_)
  refine seg_cell (off := 16) (xs := []) (es := []) hb0 ha4 hs4 hgs (callOK_strs n W0) Try.underlying54 rfl rfl rfl (by kernel_rfl) (by kernel_rfl) Try.underlying50 fnOK_strs (fun _ => rfl) (by decide) (by kernel_rfl) (by decide) (fun a5 w5 ha5 hs5 => ?_)
  refine seg_cell (off := 17) hb0 ha5 hs5 hgs (callOK_Prop n W0 (fun m hm => hProp m (Nat.lt_succ_of_lt hm))) Try.underlying54 rfl rfl rfl (by kernel_rfl) (by kernel_rfl) Try.underlying51 fnOK_allProp (fun _ => rfl) (by decide) (by kernel_rfl) (by decide) (fun a6 w6 ha6 hs6 => ?_)
  refine seg_cell (off := 19) hb0 ha6 hs6 hgs (callOK_Schema n W0 (fun m hm => hSchema m (Nat.lt_succ_of_lt hm))) Try.underlying54 rfl rfl rfl (by kernel_rfl) (by kernel_rfl) Try.underlying52 fnOK_allSchema (fun _ => rfl) (by decide) (by kernel_rfl) (by decide) (fun a7 w7 ha7 hs7 => ?_)
  exact seg_end hb0 ha7 hs7 Try.underlying54 (by kernel_rfl) (by kernel_rfl) hlen hg (by kernel_rfl) (by decide) rfl (fun ds w' hc => ⟨ds, rfl, hc⟩)
theorem copyProp_at (n : Nat) (W0 : World) (hSchema : OneOK 72 54 n W0) : OneOK 79 115 (n + 1) W0 := by
  intro W cs hb0 hg
  have hlen : cs.length = 22 := ((goodC_struct Try.underlying115).1 hg).1.trans (by kernel_rfl)
  have h1 := good_cells_of (by decide) hg
  refine copy_enter Try.func79 rfl rfl (fun a0 h0 hN hd => ?_)
  refine seg_start (W0 := W0) (n := n) h0 hN (by decide) hd hlen (by kernel_rfl) h1 (fun a1 w1 ha1 hs1 => ?_)
  exact seg_pair (q := 21) _ rfl (by kernel_rfl) (by kernel_rfl) hb0 ha1 hs1 hlen rfl hg hSchema Try.underlying115 rfl rfl rfl ⟨rfl, rfl⟩ ⟨rfl, rfl⟩ (by kernel_rfl) (by kernel_rfl) (by decide) Try.underlying54 (by decide) (by decide) fnOK_Schema (by kernel_rfl) (by kernel_rfl) (by kernel_rfl) (by kernel_rfl) (by decide) rfl (fun ds w' hc => ⟨ds, rfl, hc⟩)
theorem copySP (W0 : World) (n : Nat) : OneOK 72 54 n W0 ∧ OneOK 79 115 n W0 := by
  refine strong (p := fun n => OneOK 72 54 n W0 ∧ OneOK 79 115 n W0) ⟨oneOK_zero, oneOK_zero⟩ (fun n ih => ⟨copySchema_at n W0 (fun m _ => copyValue_ok m W0) (fun m hm => (ih m hm).2) (fun m hm => (ih m hm).1), copyProp_at n W0 (ih n (Nat.lt_succ_self n)).1⟩) n
theorem copySchema_ok (n : Nat) (W0 : World) : OneOK 72 54 n W0 := (copySP W0 n).1
theorem copySpace_at (n : Nat) (W0 : World) (hIndex : ∀ m, m < n + 1 → OneOK 62 68 m W0) (hSchema : ∀ m, m < n + 1 → OneOK 72 54 m W0) : OneOK 61 56 (n + 1) W0 := by
  intro W cs hb0 hg
  have hgs := ((goodC_struct Try.underlying56).1 hg).2
  have hlen : cs.length = 25 := ((goodC_struct Try.underlying56).1 hg).1.trans (by kernel_rfl)
  have h1 := good_cells_of (by decide) hg
  refine copy_enter Try.func61 rfl rfl (fun a0 h0 hN hd => ?_)
  refine seg_start (W0 := W0) (n := n) h0 hN (by decide) hd hlen (by kernel_rfl) h1 (fun a1 w1 ha1 hs1 => ?_)
  refine seg_cell (off := 1) hb0 ha1 hs1 hgs (callOK_Index n W0 (fun m hm => hIndex m (Nat.lt_succ_of_lt hm))) Try.underlying56 rfl rfl rfl (by kernel_rfl) (by kernel_rfl) Try.underlying49 fnOK_allIndex (fun _ => rfl) (by decide) (by kernel_rfl) (by decide) (fun a2 w2 ha2 hs2 => ?_)
  refine seg_row (off := 2) (q := 21) hb0 ha2 hs2 hgs (hSchema n (Nat.lt_succ_self n)) Try.underlying56 rfl rfl rfl (by kernel_rfl) (by kernel_rfl) _ Try.underlying54 (by decide) fnOK_Schema (by decide) (by decide) (by kernel_rfl) (by decide) (fun a3 w3 ha3 hs3 => ?_)
  exact seg_end hb0 ha3 hs3 Try.underlying56 (by kernel_rfl) (by kernel_rfl) hlen hg (by kernel_rfl) (by decide) rfl (fun ds w' hc => ⟨ds, rfl, hc⟩)
theorem copySpace_ok (n : Nat) (W0 : World) : OneOK 61 56 n W0 := by
  cases n with
  | zero => exact oneOK_zero
  | succ n => exact copySpace_at n W0 (fun m _ => copyIndex_ok m W0) (fun m _ => copySchema_ok m W0)
theorem copyWrite_at (n : Nat) (W0 : World) (hValue : ∀ m, m < n + 1 → OneOK 60 48 m W0) (hSpace : ∀ m, m < n + 1 → OneOK 61 56 m W0) (hIndex : ∀ m, m < n + 1 → OneOK 62 68 m W0) (hWrite : ∀ m, m < n + 1 → OneOK 56 71 m W0) : OneOK 56 71 (n + 1) W0 := by
  intro W cs hb0 hg
  have hgs := ((goodC_struct Try.underlying71).1 hg).2
  have hlen : cs.length = 78 := ((goodC_struct Try.underlying71).1 hg).1.trans (by kernel_rfl)
  have h1 := good_cells_of (by decide) hg
  refine copy_enter Try.func56 rfl rfl (fun a0 h0 hN hd => ?_)
  refine seg_start (W0 := W0) (n := n) h0 hN (by decide) hd hlen (by kernel_rfl) h1 (fun a1 w1 ha1 hs1 => ?_)
  refine seg_row (off := 2) (q := 5) hb0 ha1 hs1 hgs (hValue n (Nat.lt_succ_self n)) Try.underlying71 rfl rfl rfl (by kernel_rfl) (by kernel_rfl) _ Try.underlying48 (by decide) fnOK_Value (by decide) (by decide) (by kernel_rfl) (by decide) (fun a2 w2 ha2 hs2 => ?_)
  refine seg_row (off := 7) (q := 5) hb0 ha2 hs2 hgs (hValue n (Nat.lt_succ_self n)) Try.underlying71 rfl rfl rfl (by kernel_rfl) (by kernel_rfl) _ Try.underlying48 (by decide) fnOK_Value (by decide) (by decide) (by kernel_rfl) (by decide) (fun a3 w3 ha3 hs3 => ?_)
  refine seg_row (off := 12) (q := 5) hb0 ha3 hs3 hgs (hValue n (Nat.lt_succ_self n)) Try.underlying71 rfl rfl rfl (by kernel_rfl) (by kernel_rfl) _ Try.underlying48 (by decide) fnOK_Value (by decide) (by decide) (by kernel_rfl) (by decide) (fun a4 w4 ha4 hs4 => ?_)
  refine seg_row (off := 17) (q := 25) hb0 ha4 hs4 hgs (hSpace n (Nat.lt_succ_self n)) Try.underlying71 rfl rfl rfl (by kernel_rfl) (by kernel_rfl) _ Try.underlying56 (by decide) fnOK_Space (by decide) (by decide) (by kernel_rfl) (by decide) (fun a5 w5 ha5 hs5 => ?_)
  refine seg_row (off := 42) (q := 31) hb0 ha5 hs5 hgs (hIndex n (Nat.lt_succ_self n)) Try.underlying71 rfl rfl rfl (by kernel_rfl) (by kernel_rfl) _ Try.underlying68 (by decide) fnOK_Index (by decide) (by decide) (by kernel_rfl) (by decide) (fun a6 w6 ha6 hs6 => ?_)
  refine seg_cell (off := 75) hb0 ha6 hs6 hgs (callOK_Write n W0 (fun m hm => hWrite m (Nat.lt_succ_of_lt hm))) Try.underlying71 rfl rfl rfl (by kernel_rfl) (by kernel_rfl) Try.underlying69 fnOK_allWrite (fun _ => rfl) (by decide) (by kernel_rfl) (by decide) (fun a7 w7 ha7 hs7 => ?_)
  refine seg_cell (off := 76) (xs := []) (es := []) hb0 ha7 hs7 hgs (callOK_ints n W0) Try.underlying71 rfl rfl rfl (by kernel_rfl) (by kernel_rfl) Try.underlying23 fnOK_ints (fun _ => rfl) (by decide) (by kernel_rfl) (by decide) (fun a8 w8 ha8 hs8 => ?_)
  exact seg_end hb0 ha8 hs8 Try.underlying71 (by kernel_rfl) (by kernel_rfl) hlen hg (by kernel_rfl) (by decide) rfl (fun ds w' hc => ⟨ds, rfl, hc⟩)
theorem copyWrite_ok (n : Nat) (W0 : World) : OneOK 56 71 n W0 := by
  refine strong (p := fun n => OneOK 56 71 n W0) oneOK_zero (fun n ih => copyWrite_at n W0 (fun m _ => copyValue_ok m W0) (fun m _ => copySpace_ok m W0) (fun m _ => copyIndex_ok m W0) (fun m hm => ih m hm)) n
theorem copyEntry_at (n : Nat) (W0 : World) (hWrite : ∀ m, m < n + 1 → OneOK 56 71 m W0) : OneOK 48 73 (n + 1) W0 := by
  intro W cs hb0 hg
  have hgs := ((goodC_struct Try.underlying73).1 hg).2
  have hlen : cs.length = 82 := ((goodC_struct Try.underlying73).1 hg).1.trans (by kernel_rfl)
  have h1 := good_cells_of (by decide) hg
  refine copy_enter Try.func48 rfl rfl (fun a0 h0 hN hd => ?_)
  refine seg_start (W0 := W0) (n := n) h0 hN (by decide) hd hlen (by kernel_rfl) h1 (fun a1 w1 ha1 hs1 => ?_)
  refine seg_row (off := 4) (q := 78) hb0 ha1 hs1 hgs (hWrite n (Nat.lt_succ_self n)) Try.underlying73 rfl rfl rfl (by kernel_rfl) (by kernel_rfl) _ Try.underlying71 (by decide) fnOK_Write (by decide) (by decide) (by kernel_rfl) (by decide) (fun a2 w2 ha2 hs2 => ?_)
  exact seg_end hb0 ha2 hs2 Try.underlying73 (by kernel_rfl) (by kernel_rfl) hlen hg (by kernel_rfl) (by decide) rfl (fun ds w' hc => ⟨ds, rfl, hc⟩)
theorem copyEntry_ok (n : Nat) (W0 : World) : OneOK 48 73 n W0 := by
  cases n with
  | zero => exact oneOK_zero
  | succ n => exact copyEntry_at n W0 (fun m _ => copyWrite_ok m W0)
theorem good_cells_member {W : World} {n : Nat} {cs : List Value} (h : GoodC Try.prog W n 25 cs) : ∀ v ∈ cs, v.oneCell' = true := good_cells 12 25 (by kernel_rfl) n cs h
theorem copyMember_at (n : Nat) (W0 : World) (hEntry : ∀ m, m < n + 1 → OneOK 48 73 m W0) : OneOK 36 25 (n + 1) W0 := by
  intro W cs hb0 hg
  have hgs := ((goodC_struct Try.underlying25).1 hg).2
  have hlen : cs.length = 12 := ((goodC_struct Try.underlying25).1 hg).1.trans (by kernel_rfl)
  have h1 := good_cells_member hg
  refine copy_enter Try.func36 rfl rfl (fun a0 h0 hN hd => ?_)
  refine seg_start (W0 := W0) (n := n) h0 hN (by decide) hd hlen (by kernel_rfl) h1 (fun a1 w1 ha1 hs1 => ?_)
  refine seg_cell (off := 8) hb0 ha1 hs1 hgs (callOK_Entry n W0 (fun m hm => hEntry m (Nat.lt_succ_of_lt hm))) Try.underlying25 rfl rfl rfl (by kernel_rfl) (by kernel_rfl) Try.underlying22 fnOK_allEntry (fun _ => rfl) (by decide) (by kernel_rfl) (by decide) (fun a2 w2 ha2 hs2 => ?_)
  refine seg_cell (off := 10) (xs := []) (es := []) hb0 ha2 hs2 hgs (callOK_ints n W0) Try.underlying25 rfl rfl rfl (by kernel_rfl) (by kernel_rfl) Try.underlying23 fnOK_ints (fun _ => rfl) (by decide) (by kernel_rfl) (by decide) (fun a3 w3 ha3 hs3 => ?_)
  refine seg_cell (off := 11) (xs := []) (es := []) hb0 ha3 hs3 hgs (callOK_ints n W0) Try.underlying25 rfl rfl rfl (by kernel_rfl) (by kernel_rfl) Try.underlying23 fnOK_ints (fun _ => rfl) (by decide) (by kernel_rfl) (by decide) (fun a4 w4 ha4 hs4 => ?_)
  exact seg_end hb0 ha4 hs4 Try.underlying25 (by kernel_rfl) (by kernel_rfl) hlen hg (by kernel_rfl) (by decide) rfl (fun ds w' hc => ⟨ds, rfl, hc⟩)
theorem copyMember_ok (n : Nat) (W0 : World) : OneOK 36 25 n W0 := by
  cases n with
  | zero => exact oneOK_zero
  | succ n => exact copyMember_at n W0 (fun m _ => copyEntry_ok m W0)
end Go.Proofs.Ytfpgklhbghahoaa
