/- Election: the reference's Valid for a member of role 1. -/
import Derived.Test.YtfpgklhbghahoaaEv8
import Derived.Deep.RegionHeld3
import Derived.StillTailTactics
namespace Go.Proofs.Ytfpgklhbghahoaa
open Go.ChangeShapes Go.WideShapes Go.ChangeAt Go.RowKit Go.Deep
set_option linter.unusedVariables false
set_option linter.unusedSimpArgs false
set_option maxRecDepth 100000 in
set_option maxHeartbeats 8000000 in
theorem rvalid_y1 (id sz tm vt rl ld ti vs : Int) (hrl : rl = 1) (ga : Option Addr) (gc : Nat) (es : List (List Value)) (cm : Int) (an : Option Addr) (cn : Nat) (am : Option Addr) (cc : Nat) (xs ys : List Int) (w : World) (a1 : 1 ≤ sz) (a2 : sz ≤ 7) (a3 : 0 ≤ id) (a4 : id < sz) (a5 : 0 ≤ tm) (a6 : -1 ≤ vt) (a7 : vt < sz) (a8 : -1 ≤ ld) (a9 : ld < sz) (b3 : ¬ ti < 0) (b4 : ¬ vs < 0) (b5 : vs < 2 ^ sz.toNat) (hl : es.length ≤ 100) (he : EntArg w (.slice ga es.length gc) es) (hX : IntsIn w (.slice an xs.length cn) xs) (hY : IntsIn w (.slice am ys.length cc) ys) (hxl : xs.length ≤ 9223372036854775807) (hyl : ys.length ≤ 9223372036854775807) :
    Calls Try.prog 17 #[mem id sz tm vt rl ld ti vs (.slice ga es.length gc) cm (.slice an xs.length cn) (.slice am ys.length cc)] w fun e w' => e = .returned (.bool (restB id sz tm vt rl ld vs cm es xs ys)) ∧ Below w.heap.size w w' := by
  have HE := Lib.hid he
  have HX := Lib.hid hX
  have HY := Lib.hid hY
  have v0 : 0 ≤ vs := by omega
  have hc := cntB_le vs v0 sz.toNat
  have hm := maj_le sz a1 a2
  have HL : Hid (∀ W, EntArg W (.slice ga es.length gc) es → Calls Try.prog 33 #[mem id sz tm vt rl ld ti vs (.slice ga es.length gc) cm (.slice an xs.length cn) (.slice am ys.length cc)] W fun e w' => e = .returned (.bool (lgB tm cm es)) ∧ Below W.heap.size W w') := Lib.hid (fun W hW => logged_any id sz tm vt rl ld ti vs _ es cm _ _ W hl hW)
  have HVo := Lib.hid (fun W => votes_at vs sz W v0 a1 a2)
  have HMa := Lib.hid (fun W => rmaj_any sz W)
  have HPx := Lib.hid (fun W (h : IntsIn W (.slice an xs.length cn) xs) => rplaces_at _ xs es.length W h)
  have HPy := Lib.hid (fun W (h : IntsIn W (.slice am ys.length cc) ys) => rplaces_at _ ys es.length W h)
  have HR : Hid (restB id sz tm vt rl ld vs cm es xs ys = (lgB tm cm es && (firstB id tm vt vs && decide (ld = -1) && decide (cntB vs sz.toNat < maj sz) && (decide ((xs.length : Int) = 0) && decide ((ys.length : Int) = 0))))) := Lib.hid (by subst hrl; rfl)
  have HF : Hid (firstB id tm vt vs = (decide (1 ≤ tm) && decide (vt = id) && !((vs / 2 ^ id.toNat).tmod 2 == 0))) := Lib.hid rfl
  generalize restB id sz tm vt rl ld vs cm es xs ys = R at *
  generalize firstB id tm vt vs = FB at *
  generalize cntB vs sz.toNat = c at *
  generalize maj sz = mj at *
  generalize lgB tm cm es = lb at *
  generalize inB es.length xs = bx at *
  generalize inB es.length ys = by' at *
  have hc7 : c ≤ 7 := by omega
  have hc0 : 0 ≤ c := hc.1
  clear hc he hX hY
  have f1 : decide (sz < 1) = false := decide_eq_false (by omega)
  have f2 : decide (7 < sz) = false := decide_eq_false (by omega)
  have f3 : decide (id < 0) = false := decide_eq_false (by omega)
  have f4 : decide (sz ≤ id) = false := decide_eq_false (by omega)
  have f5 : decide (tm < 0) = false := decide_eq_false (by omega)
  have f6 : decide (vt < -1) = false := decide_eq_false (by omega)
  have f7 : decide (sz ≤ vt) = false := decide_eq_false (by omega)
  have f8 : decide (ld < -1) = false := decide_eq_false (by omega)
  have f9 : decide (sz ≤ ld) = false := decide_eq_false (by omega)
  have e4 : decide (vs < 0) = false := decide_eq_false b4
  have e3 : decide (ti < 0) = false := decide_eq_false b3
  have e5 : decide (wrap64 (2 ^ sz.toNat) ≤ vs) = false := decide_eq_false (by rw [pow_wrap sz a1 a2]; omega)
  have e6 : decide (IntKind.i64.wrap (2 ^ sz.toNat) ≤ vs) = false := decide_eq_false (by rw [IntWalk.i64_left, pow_wrap sz a1 a2]; omega)
  have e1 : decide (rl < 0) = false := decide_eq_false (by omega)
  have e2 : decide (2 < rl) = false := decide_eq_false (by omega)
  have b1 : 0 ≤ rl := by omega
  have b2 : rl ≤ 2 := by omega
  have HRL := Lib.hid hrl
  clear hrl
  clear b5
  have HM0 := Lib.hid (VM.start w (memL id sz tm vt rl ld ti vs (.slice ga es.length gc) cm (.slice an xs.length cn) (.slice am ys.length cc)) 25 rfl)
  go_enter Try.func17, Try.ntmps17
  go_wp2_with fail
  refine wp_named (fun W => VM w (memL id sz tm vt rl ld ti vs (.slice ga es.length gc) cm (.slice an xs.length cn) (.slice am ys.length cc)) W) HM0.out ?_
  rintro W hVM
  have c1 : W.cell? ⟨w.heap.size, 1, none⟩ = some (.int .i64 sz) := hVM.1.cell 1 _ rfl
  have c4 : W.cell? ⟨w.heap.size, 4, none⟩ = some (.int .i64 rl) := hVM.1.cell 4 _ rfl
  have c6 : W.cell? ⟨w.heap.size, 6, none⟩ = some (.int .i64 ti) := hVM.1.cell 6 _ rfl
  have c7 : W.cell? ⟨w.heap.size, 7, none⟩ = some (.int .i64 vs) := hVM.1.cell 7 _ rfl
  have HM1 := Lib.hid hVM
  clear hVM HM0
  go_still_tail 27, (by kernel_rfl)
  change wpList _ _ _ _ _ W.drew
  have HM2 : Hid (VM w (memL id sz tm vt rl ld ti vs (.slice ga es.length gc) cm (.slice an xs.length cn) (.slice am ys.length cc)) W.drew) := Lib.hid ⟨⟨HM1.out.1.1.drew, HM1.out.1.2⟩, HM1.out.2.drew⟩
  clear HM1 c1 c4 c6 c7
  have hA := HM2.out.1
  go_wp2_with (with_reducible refine wpList_box_load_g 25 1 w.heap.size (memL id sz tm vt rl ld ti vs (.slice ga es.length gc) cm (.slice an xs.length cn) (.slice am ys.length cc)) _ _ _ _ _ _ _ ?_ hA wideMem ?_ ?_)
  · rfl
  go_wp2_with fail
  refine (HL.out _ (HE.out.below HM2.out.2)).mono ?_
  rintro e W2 ⟨rfl, hb2⟩
  have HM3 := Lib.hid (HM2.out.keep hb2)
  clear hb2 hA HM2
  obtain rfl := HRL.out
  cases lb
  · go_wp2_with fail
    go_ret
    exact ⟨ret_b (by rw [HR.out]; rfl), HM3.out.2⟩
  have d0 : W2.cell? ⟨w.heap.size, 0, none⟩ = some (.int .i64 id) := HM3.out.1.cell 0 _ rfl
  have d1 : W2.cell? ⟨w.heap.size, 1, none⟩ = some (.int .i64 sz) := HM3.out.1.cell 1 _ rfl
  have d2 : W2.cell? ⟨w.heap.size, 2, none⟩ = some (.int .i64 tm) := HM3.out.1.cell 2 _ rfl
  have d3 : W2.cell? ⟨w.heap.size, 3, none⟩ = some (.int .i64 vt) := HM3.out.1.cell 3 _ rfl
  have d4 : W2.cell? ⟨w.heap.size, 4, none⟩ = some (.int .i64 1) := HM3.out.1.cell 4 _ rfl
  have d5 : W2.cell? ⟨w.heap.size, 5, none⟩ = some (.int .i64 ld) := HM3.out.1.cell 5 _ rfl
  have d7 : W2.cell? ⟨w.heap.size, 7, none⟩ = some (.int .i64 vs) := HM3.out.1.cell 7 _ rfl
  have d8 : W2.cell? ⟨w.heap.size, 8, none⟩ = some (.slice ga es.length gc) := HM3.out.1.cell 8 _ rfl
  have d10 : W2.cell? ⟨w.heap.size, 10, none⟩ = some (.slice an xs.length cn) := HM3.out.1.cell 10 _ rfl
  have d11 : W2.cell? ⟨w.heap.size, 11, none⟩ = some (.slice am ys.length cc) := HM3.out.1.cell 11 _ rfl
  by_cases t1 : tm < 1
  · have p1 : decide (tm < 1) = true := decide_eq_true t1
    have HV : Hid (R = false) := Lib.hid (by rw [HR.out, HF.out, decide_eq_false (by omega)]; simp)
    go_wp2_with fail
    go_ret
    exact ⟨ret_b HV.out, HM3.out.2⟩
  have p1 : decide (tm < 1) = false := decide_eq_false t1
  have k1 : decide (1 ≤ tm) = true := decide_eq_true (by omega)
  by_cases t2 : vt = id
  rotate_left
  · have p2 : (vt == id) = false := beq_eq_false_iff_ne.2 t2
    have p2' : (vt != id) = true := by rw [bne, p2]; rfl
    have HV : Hid (R = false) := Lib.hid (by rw [HR.out, HF.out, decide_eq_false t2]; simp)
    go_wp2_with fail
    go_ret
    exact ⟨ret_b HV.out, HM3.out.2⟩
  have k2 : decide (vt = id) = true := decide_eq_true t2
  have p2 : (vt == id) = true := beq_iff_eq.2 t2
  have p2' : (vt != id) = false := by rw [bne, p2]; rfl
  cases t3 : ((vs / 2 ^ id.toNat).tmod 2 == 0)
  rotate_left
  ·
    have HV : Hid (R = false) := Lib.hid (by rw [HR.out, HF.out, t3]; simp)
    go_wp2_with fail
    go_ret
    exact ⟨ret_b HV.out, HM3.out.2⟩
  have HF2 : Hid (FB = true) := Lib.hid (by rw [HF.out, k1, k2, t3]; rfl)
  clear HF k1 k2 t1 t2
  by_cases t4 : ld = -1
  rotate_left
  · have p3 : (ld == -1) = false := beq_eq_false_iff_ne.2 t4
    have p3' : (ld != -1) = true := by rw [bne, p3]; rfl
    have HV : Hid (R = false) := Lib.hid (by rw [HR.out, decide_eq_false t4]; simp)
    go_wp2_with fail
    have hz := HM3.out.1.1.lt
    have hBd := HM3.out.2
    have hBd' := hBd.drew
    go_region_held3 (fun W => W.cell? ⟨w.heap.size, 0, none⟩ = some (.int .i64 id) ∧ W.cell? ⟨w.heap.size, 1, none⟩ = some (.int .i64 sz) ∧ W.cell? ⟨w.heap.size, 4, none⟩ = some (.int .i64 1) ∧ W.cell? ⟨w.heap.size, 5, none⟩ = some (.int .i64 ld) ∧ W.cell? ⟨w.heap.size, 7, none⟩ = some (.int .i64 vs) ∧ W.cell? ⟨w.heap.size, 8, none⟩ = some (.slice ga es.length gc) ∧ W.cell? ⟨w.heap.size, 10, none⟩ = some (.slice an xs.length cn) ∧ W.cell? ⟨w.heap.size, 11, none⟩ = some (.slice am ys.length cc) ∧ w.heap.size < W.heap.size ∧ Below w.heap.size w W) (refine ⟨?_, ?_, ?_, ?_, ?_, ?_, ?_, ?_, ?_, ?_⟩ <;> assumption) (first | (go_at_call 34; refine (HVo.out _).mono ?_; rintro e wq ⟨rfl, rfl⟩) | (go_at_call 13; refine (HMa.out _).mono ?_; rintro e wq ⟨rfl, rfl⟩))
    all_goals (go_wp2_with fail; go_ret; exact ⟨ret_b HV.out, by assumption⟩)
  have p3 : (ld == -1) = true := beq_iff_eq.2 t4
  have p3' : (ld != -1) = false := by rw [bne, p3]; rfl
  by_cases t5 : mj ≤ c
  · have p4 : decide (mj ≤ c) = true := decide_eq_true t5
    have HV : Hid (R = false) := Lib.hid (by rw [HR.out, decide_eq_false (show ¬ c < mj by omega)]; simp)
    go_wp2_with fail
    have hz := HM3.out.1.1.lt
    have hBd := HM3.out.2
    have hBd' := hBd.drew
    go_region_held3 (fun W => W.cell? ⟨w.heap.size, 0, none⟩ = some (.int .i64 id) ∧ W.cell? ⟨w.heap.size, 1, none⟩ = some (.int .i64 sz) ∧ W.cell? ⟨w.heap.size, 4, none⟩ = some (.int .i64 1) ∧ W.cell? ⟨w.heap.size, 5, none⟩ = some (.int .i64 ld) ∧ W.cell? ⟨w.heap.size, 7, none⟩ = some (.int .i64 vs) ∧ W.cell? ⟨w.heap.size, 8, none⟩ = some (.slice ga es.length gc) ∧ W.cell? ⟨w.heap.size, 10, none⟩ = some (.slice an xs.length cn) ∧ W.cell? ⟨w.heap.size, 11, none⟩ = some (.slice am ys.length cc) ∧ w.heap.size < W.heap.size ∧ Below w.heap.size w W) (refine ⟨?_, ?_, ?_, ?_, ?_, ?_, ?_, ?_, ?_, ?_⟩ <;> assumption) (first | (go_at_call 34; refine (HVo.out _).mono ?_; rintro e wq ⟨rfl, rfl⟩) | (go_at_call 13; refine (HMa.out _).mono ?_; rintro e wq ⟨rfl, rfl⟩))
    all_goals (go_wp2_with fail; go_ret; exact ⟨ret_b HV.out, by assumption⟩)
  have p4 : decide (mj ≤ c) = false := decide_eq_false t5
  have HR2 : Hid (R = (decide ((xs.length : Int) = 0) && decide ((ys.length : Int) = 0))) := Lib.hid (by rw [HR.out, HF2.out, decide_eq_true t4, decide_eq_true (show c < mj by omega)]; rfl)
  clear HR HF2 t4
  by_cases hn : (xs.length : Int) = 0
  · have pn : ((xs.length : Int) == 0) = true := beq_iff_eq.2 hn
    by_cases hm2 : (ys.length : Int) = 0
    · have pm : ((ys.length : Int) == 0) = true := beq_iff_eq.2 hm2
      have HV : Hid (R = true) := Lib.hid (by rw [HR2.out, decide_eq_true hn, decide_eq_true hm2]; rfl)
      clear hn hm2
      go_wp2_with fail
      have hz := HM3.out.1.1.lt
      have hBd := HM3.out.2
      have hBd' := hBd.drew
      go_region_held3 (fun W => W.cell? ⟨w.heap.size, 0, none⟩ = some (.int .i64 id) ∧ W.cell? ⟨w.heap.size, 1, none⟩ = some (.int .i64 sz) ∧ W.cell? ⟨w.heap.size, 4, none⟩ = some (.int .i64 1) ∧ W.cell? ⟨w.heap.size, 5, none⟩ = some (.int .i64 ld) ∧ W.cell? ⟨w.heap.size, 7, none⟩ = some (.int .i64 vs) ∧ W.cell? ⟨w.heap.size, 8, none⟩ = some (.slice ga es.length gc) ∧ W.cell? ⟨w.heap.size, 10, none⟩ = some (.slice an xs.length cn) ∧ W.cell? ⟨w.heap.size, 11, none⟩ = some (.slice am ys.length cc) ∧ w.heap.size < W.heap.size ∧ Below w.heap.size w W) (refine ⟨?_, ?_, ?_, ?_, ?_, ?_, ?_, ?_, ?_, ?_⟩ <;> assumption) (first | (go_at_call 34; refine (HVo.out _).mono ?_; rintro e wq ⟨rfl, rfl⟩) | (go_at_call 13; refine (HMa.out _).mono ?_; rintro e wq ⟨rfl, rfl⟩))
      all_goals (go_wp2_with fail; go_ret; exact ⟨ret_b HV.out, by assumption⟩)
    · have pm : ((ys.length : Int) == 0) = false := beq_eq_false_iff_ne.2 hm2
      have HV : Hid (R = false) := Lib.hid (by rw [HR2.out, decide_eq_false hm2, Bool.and_false])
      clear hn hm2
      go_wp2_with fail
      have hz := HM3.out.1.1.lt
      have hBd := HM3.out.2
      have hBd' := hBd.drew
      go_region_held3 (fun W => W.cell? ⟨w.heap.size, 0, none⟩ = some (.int .i64 id) ∧ W.cell? ⟨w.heap.size, 1, none⟩ = some (.int .i64 sz) ∧ W.cell? ⟨w.heap.size, 4, none⟩ = some (.int .i64 1) ∧ W.cell? ⟨w.heap.size, 5, none⟩ = some (.int .i64 ld) ∧ W.cell? ⟨w.heap.size, 7, none⟩ = some (.int .i64 vs) ∧ W.cell? ⟨w.heap.size, 8, none⟩ = some (.slice ga es.length gc) ∧ W.cell? ⟨w.heap.size, 10, none⟩ = some (.slice an xs.length cn) ∧ W.cell? ⟨w.heap.size, 11, none⟩ = some (.slice am ys.length cc) ∧ w.heap.size < W.heap.size ∧ Below w.heap.size w W) (refine ⟨?_, ?_, ?_, ?_, ?_, ?_, ?_, ?_, ?_, ?_⟩ <;> assumption) (first | (go_at_call 34; refine (HVo.out _).mono ?_; rintro e wq ⟨rfl, rfl⟩) | (go_at_call 13; refine (HMa.out _).mono ?_; rintro e wq ⟨rfl, rfl⟩))
      all_goals (go_wp2_with fail; go_ret; exact ⟨ret_b HV.out, by assumption⟩)
  · have pn : ((xs.length : Int) == 0) = false := beq_eq_false_iff_ne.2 hn
    have HV : Hid (R = false) := Lib.hid (by rw [HR2.out, decide_eq_false hn, Bool.false_and])
    clear hn
    go_wp2_with fail
    have hz := HM3.out.1.1.lt
    have hBd := HM3.out.2
    have hBd' := hBd.drew
    go_region_held3 (fun W => W.cell? ⟨w.heap.size, 0, none⟩ = some (.int .i64 id) ∧ W.cell? ⟨w.heap.size, 1, none⟩ = some (.int .i64 sz) ∧ W.cell? ⟨w.heap.size, 4, none⟩ = some (.int .i64 1) ∧ W.cell? ⟨w.heap.size, 5, none⟩ = some (.int .i64 ld) ∧ W.cell? ⟨w.heap.size, 7, none⟩ = some (.int .i64 vs) ∧ W.cell? ⟨w.heap.size, 8, none⟩ = some (.slice ga es.length gc) ∧ W.cell? ⟨w.heap.size, 10, none⟩ = some (.slice an xs.length cn) ∧ W.cell? ⟨w.heap.size, 11, none⟩ = some (.slice am ys.length cc) ∧ w.heap.size < W.heap.size ∧ Below w.heap.size w W) (refine ⟨?_, ?_, ?_, ?_, ?_, ?_, ?_, ?_, ?_, ?_⟩ <;> assumption) (first | (go_at_call 34; refine (HVo.out _).mono ?_; rintro e wq ⟨rfl, rfl⟩) | (go_at_call 13; refine (HMa.out _).mono ?_; rintro e wq ⟨rfl, rfl⟩))
    all_goals (go_wp2_with fail; go_ret; exact ⟨ret_b HV.out, by assumption⟩)
end Go.Proofs.Ytfpgklhbghahoaa
