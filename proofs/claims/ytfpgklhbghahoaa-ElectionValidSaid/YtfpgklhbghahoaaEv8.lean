/- Election: Valid decides what a member must be. -/
import Derived.Test.YtfpgklhbghahoaaEv7
namespace Go.Proofs.Ytfpgklhbghahoaa
open Go.ChangeShapes Go.WideShapes Go.ChangeAt Go.RowKit Go.Deep
set_option linter.unusedVariables false
set_option linter.unusedSimpArgs false
abbrev G0 (id sz tm vt ld : Int) : Prop := 1 ≤ sz ∧ sz ≤ 7 ∧ 0 ≤ id ∧ id < sz ∧ 0 ≤ tm ∧ -1 ≤ vt ∧ vt < sz ∧ -1 ≤ ld ∧ ld < sz
abbrev G1 (sz rl ti vs : Int) : Prop := 0 ≤ rl ∧ rl ≤ 2 ∧ 0 ≤ ti ∧ 0 ≤ vs ∧ vs < 2 ^ sz.toNat
def restB (id sz tm vt rl ld vs cm : Int) (es : List (List Value)) (xs ys : List Int) : Bool := lgB tm cm es && roleB id sz tm vt rl ld vs xs.length ys.length (inB es.length xs) (inB es.length ys)
/-- a member's state is possible -/
def validB (id sz tm vt rl ld ti vs cm : Int) (es : List (List Value)) (xs ys : List Int) : Bool :=
  decide (G0 id sz tm vt ld) && decide (G1 sz rl ti vs) && restB id sz tm vt rl ld vs cm es xs ys
theorem validB_no (id sz tm vt rl ld ti vs cm : Int) (es : List (List Value)) (xs ys : List Int) (h : ¬ (G0 id sz tm vt ld ∧ G1 sz rl ti vs)) : validB id sz tm vt rl ld ti vs cm es xs ys = false := by
  unfold validB
  by_cases h0 : G0 id sz tm vt ld
  · rw [decide_eq_false (fun h1 => h ⟨h0, h1⟩ : ¬ G1 sz rl ti vs), Bool.and_false, Bool.false_and]
  · rw [decide_eq_false h0, Bool.false_and, Bool.false_and]
theorem validB_yes (id sz tm vt rl ld ti vs cm : Int) (es : List (List Value)) (xs ys : List Int) (h0 : G0 id sz tm vt ld) (h1 : G1 sz rl ti vs) : validB id sz tm vt rl ld ti vs cm es xs ys = restB id sz tm vt rl ld vs cm es xs ys := by
  unfold validB
  rw [decide_eq_true h0, decide_eq_true h1, Bool.true_and, Bool.true_and]
theorem pow_le (sz : Int) (h1 : 1 ≤ sz) (h7 : sz ≤ 7) : (2 : Int) ≤ 2 ^ sz.toNat ∧ (2 : Int) ^ sz.toNat ≤ 128 := by
  have h : sz.toNat = 1 ∨ sz.toNat = 2 ∨ sz.toNat = 3 ∨ sz.toNat = 4 ∨ sz.toNat = 5 ∨ sz.toNat = 6 ∨ sz.toNat = 7 := by omega
  rcases h with h | h | h | h | h | h | h <;> rw [h] <;> decide
theorem pow_wrap (sz : Int) (h1 : 1 ≤ sz) (h7 : sz ≤ 7) : wrap64 (2 ^ sz.toNat) = 2 ^ sz.toNat := by
  have := pow_le sz h1 h7
  exact IntWalk.wrap64_in _ (by omega)
set_option maxRecDepth 100000 in
set_option maxHeartbeats 1600000 in
theorem valid_n0 (id sz tm vt rl ld ti vs : Int) (lg : Value) (cm : Int) (nx mt : Value) (w : World) (hG : ¬ (G0 id sz tm vt ld ∧ 0 ≤ rl ∧ rl ≤ 2 ∧ 0 ≤ ti)) :
    Calls Try.prog 16 #[mem id sz tm vt rl ld ti vs lg cm nx mt] w fun e w' => e = .returned (.bool false) ∧ Below w.heap.size w w' := by
  have HG := Lib.hid hG
  clear hG
  have hbw : Below w.heap.size w (w.alloc (.cells #[.int .i64 id, .int .i64 sz, .int .i64 tm, .int .i64 vt, .int .i64 rl, .int .i64 ld, .int .i64 ti, .int .i64 vs, lg, .int .i64 cm, nx, mt] 25)) := (Below.refl _ _).alloc (Nat.le_refl _) _
  have HB := Lib.hid hbw
  clear hbw
  go_enter Try.func16, Try.ntmps16
  go_wp2_with fail
  all_goals first
    | (go_ret; exact ⟨rfl, HB.out⟩)
    | exact absurd ⟨⟨by omega, by omega, by omega, by omega, by omega, by omega, by omega, by omega, by omega⟩, by omega, by omega, by omega⟩ HG.out
set_option maxRecDepth 100000 in
set_option maxHeartbeats 1600000 in
theorem valid_n1 (id sz tm vt rl ld ti vs : Int) (lg : Value) (cm : Int) (nx mt : Value) (w : World) (a1 : 1 ≤ sz) (a2 : sz ≤ 7) (a3 : 0 ≤ id) (a4 : id < sz) (a5 : 0 ≤ tm) (a6 : -1 ≤ vt) (a7 : vt < sz) (a8 : -1 ≤ ld) (a9 : ld < sz) (b1 : 0 ≤ rl) (b2 : rl ≤ 2) (b3 : 0 ≤ ti) (hV : vs < 0 ∨ 2 ^ sz.toNat ≤ vs) :
    Calls Try.prog 16 #[mem id sz tm vt rl ld ti vs lg cm nx mt] w fun e w' => e = .returned (.bool false) ∧ Below w.heap.size w w' := by
  have f1 : decide (sz < 1) = false := decide_eq_false (by omega)
  have f2 : decide (7 < sz) = false := decide_eq_false (by omega)
  have f3 : decide (id < 0) = false := decide_eq_false (by omega)
  have f4 : decide (sz ≤ id) = false := decide_eq_false (by omega)
  have f5 : decide (tm < 0) = false := decide_eq_false (by omega)
  have f6 : decide (vt < -1) = false := decide_eq_false (by omega)
  have f7 : decide (sz ≤ vt) = false := decide_eq_false (by omega)
  have f8 : decide (ld < -1) = false := decide_eq_false (by omega)
  have f9 : decide (sz ≤ ld) = false := decide_eq_false (by omega)
  have e1 : decide (rl < 0) = false := decide_eq_false (by omega)
  have e2 : decide (2 < rl) = false := decide_eq_false (by omega)
  have e3 : decide (ti < 0) = false := decide_eq_false (by omega)
  have HW := pow_wrap sz a1 a2
  have hbw : Below w.heap.size w (w.alloc (.cells #[.int .i64 id, .int .i64 sz, .int .i64 tm, .int .i64 vt, .int .i64 rl, .int .i64 ld, .int .i64 ti, .int .i64 vs, lg, .int .i64 cm, nx, mt] 25)) := (Below.refl _ _).alloc (Nat.le_refl _) _
  have HB := Lib.hid hbw
  clear hbw
  by_cases h0 : vs < 0
  · have e4 : decide (vs < 0) = true := decide_eq_true h0
    clear hV HW
    go_enter Try.func16, Try.ntmps16
    go_wp2_with fail
    go_quiet (fail)
    go_wp2_with fail
    go_ret
    exact ⟨rfl, below_drewN' HB.out _⟩
  · have e4 : decide (vs < 0) = false := decide_eq_false h0
    have e5 : decide (wrap64 (2 ^ sz.toNat) ≤ vs) = true := decide_eq_true (by rw [HW]; omega)
    clear hV HW
    go_enter Try.func16, Try.ntmps16
    go_wp2_with fail
    go_quiet (fail)
    go_wp2_with fail
    go_ret
    exact ⟨rfl, below_drewN' HB.out _⟩
set_option maxRecDepth 100000 in
set_option maxHeartbeats 1600000 in
theorem valid_y (id sz tm vt rl ld ti vs : Int) (lg : Value) (es : List (List Value)) (cm : Int) (nx mt : Value) (xs ys : List Int) (w : World) (h0 : G0 id sz tm vt ld) (h1 : G1 sz rl ti vs) (hl : es.length ≤ 100) (he : EntArg w lg es) (hX : IntsIn w nx xs) (hY : IntsIn w mt ys) (hxl : xs.length ≤ 9223372036854775807) (hyl : ys.length ≤ 9223372036854775807) :
    Calls Try.prog 16 #[mem id sz tm vt rl ld ti vs lg cm nx mt] w fun e w' => e = .returned (.bool (restB id sz tm vt rl ld vs cm es xs ys)) ∧ Below w.heap.size w w' := by
  obtain ⟨ga, gc, rfl⟩ := he.len
  obtain ⟨an, cn, rfl⟩ : ∃ a c, nx = .slice a xs.length c := by
    rcases hX with ⟨rfl, a, cap, rfl⟩ | ⟨B, o, cap, rfl, _⟩ <;> exact ⟨_, _, rfl⟩
  obtain ⟨am, cc, rfl⟩ : ∃ a c, mt = .slice a ys.length c := by
    rcases hY with ⟨rfl, a, cap, rfl⟩ | ⟨B, o, cap, rfl, _⟩ <;> exact ⟨_, _, rfl⟩
  obtain ⟨a1, a2, a3, a4, a5, a6, a7, a8, a9⟩ := h0
  obtain ⟨b1, b2, b3, b4, b5⟩ := h1
  have HP := Lib.hid (pow_le sz a1 a2)
  have HE := Lib.hid he
  have HX := Lib.hid hX
  have HY := Lib.hid hY
  have HL : Hid (∀ W, EntArg W (.slice ga es.length gc) es → Calls Try.prog 31 #[mem id sz tm vt rl ld ti vs (.slice ga es.length gc) cm (.slice an xs.length cn) (.slice am ys.length cc)] W fun e w' => e = .returned (.bool (lgB tm cm es)) ∧ Below W.heap.size W w') :=
    Lib.hid (fun W hW => vlog_at id sz tm vt rl ld ti vs _ es cm _ _ W hl hW)
  have HRo : Hid (∀ W, IntsIn W (.slice an xs.length cn) xs → IntsIn W (.slice am ys.length cc) ys → Calls Try.prog 32 #[mem id sz tm vt rl ld ti vs (.slice ga es.length gc) cm (.slice an xs.length cn) (.slice am ys.length cc)] W fun e w' => e = .returned (.bool (roleB id sz tm vt rl ld vs xs.length ys.length (inB es.length xs) (inB es.length ys))) ∧ Below W.heap.size W w') :=
    Lib.hid (fun W hx hy => by
      have hp := HP.out
      have v2 : vs < 128 := by omega
      rcases (show rl = 0 ∨ rl = 1 ∨ rl = 2 by omega) with rfl | rfl | rfl
      · exact role_0 id sz tm vt ld ti vs ga es.length gc cm an cn am cc xs ys _ _ W a1 a2 a3 a4 b4 b5 v2 hxl hyl
      · exact role_1 id sz tm vt ld ti vs ga es.length gc cm an cn am cc xs ys W a1 a2 a3 a4 b4 b5 v2 hxl hyl hl
      · exact role_2 id sz tm vt ld ti vs ga es.length gc cm an cn am cc xs ys W a1 a2 a3 a4 b4 b5 v2 hxl hyl hl hx hy)
  have HV : Hid (restB id sz tm vt rl ld vs cm es xs ys = (lgB tm cm es && roleB id sz tm vt rl ld vs xs.length ys.length (inB es.length xs) (inB es.length ys))) := Lib.hid rfl
  generalize restB id sz tm vt rl ld vs cm es xs ys = R at *
  generalize roleB id sz tm vt rl ld vs xs.length ys.length (inB es.length xs) (inB es.length ys) = ro at *
  generalize lgB tm cm es = lb at *
  clear he hX hY
  have f1 : decide (sz < 1) = false := decide_eq_false (by omega)
  have f2 : decide (7 < sz) = false := decide_eq_false (by omega)
  have f3 : decide (id < 0) = false := decide_eq_false (by omega)
  have f4 : decide (sz ≤ id) = false := decide_eq_false (by omega)
  have f5 : decide (tm < 0) = false := decide_eq_false (by omega)
  have f6 : decide (vt < -1) = false := decide_eq_false (by omega)
  have f7 : decide (sz ≤ vt) = false := decide_eq_false (by omega)
  have f8 : decide (ld < -1) = false := decide_eq_false (by omega)
  have f9 : decide (sz ≤ ld) = false := decide_eq_false (by omega)
  have e1 : decide (rl < 0) = false := decide_eq_false (by omega)
  have e2 : decide (2 < rl) = false := decide_eq_false (by omega)
  have e3 : decide (ti < 0) = false := decide_eq_false (by omega)
  have e4 : decide (vs < 0) = false := decide_eq_false (by omega)
  have e5 : decide (wrap64 (2 ^ sz.toNat) ≤ vs) = false := decide_eq_false (by rw [pow_wrap sz a1 a2]; omega)
  clear b5
  have HM0 := Lib.hid (VM.start w (memL id sz tm vt rl ld ti vs (.slice ga es.length gc) cm (.slice an xs.length cn) (.slice am ys.length cc)) 25 rfl)
  go_enter Try.func16, Try.ntmps16
  go_wp2_with fail
  go_quiet (fail)
  have HM1 := Lib.hid (HM0.out.drewN nq)
  clear HM0 f1 f2 f3 f4 f5 f6 f7 f8 f9 e1 e2 e3 e4 e5
  have hA := HM1.out.1
  go_wp2_with (with_reducible refine wpList_box_load 25 1 w.heap.size (memL id sz tm vt rl ld ti vs (.slice ga es.length gc) cm (.slice an xs.length cn) (.slice am ys.length cc)) _ _ _ _ _ _ ?_ hA wideMem ?_)
  · rfl
  go_wp2_with fail
  refine (HL.out _ (HE.out.below HM1.out.2)).mono ?_
  rintro e w2 ⟨rfl, hb2⟩
  have HM2 := Lib.hid (HM1.out.keep hb2)
  clear hb2 hA HM1
  cases lb
  · go_wp2_with fail
    go_ret
    exact ⟨ret_b (by rw [HV.out]; rfl), HM2.out.2⟩
  have hA := HM2.out.1
  go_wp2_with (with_reducible refine wpList_box_load_g 25 1 w.heap.size (memL id sz tm vt rl ld ti vs (.slice ga es.length gc) cm (.slice an xs.length cn) (.slice am ys.length cc)) _ _ _ _ _ _ _ ?_ hA wideMem ?_ ?_)
  · rfl
  go_wp2_with fail
  refine (HRo.out _ (HX.out.below HM2.out.2) (HY.out.below HM2.out.2)).mono ?_
  rintro e w3 ⟨rfl, hb3⟩
  have HM3 := Lib.hid (HM2.out.keep hb3)
  clear hb3 hA
  have HV2 : Hid (R = ro) := Lib.hid (by rw [HV.out, Bool.true_and])
  cases ro
  all_goals
    go_wp2_with fail
    go_ret
    exact ⟨ret_b HV2.out, HM3.out.2⟩
theorem IntsIn.le {w : World} {v : Value} {xs : List Int} (h : IntsIn w v xs) : xs.length ≤ 9223372036854775807 := by
  rcases h with ⟨rfl, _⟩ | ⟨_, _, _, _, _, _, h, _⟩
  · simp
  · exact h
theorem valid_at (id sz tm vt rl ld ti vs : Int) (lg : Value) (es : List (List Value)) (cm : Int) (nx mt : Value) (xs ys : List Int) (w : World) (hl : es.length ≤ 100) (he : EntArg w lg es) (hX : IntsIn w nx xs) (hY : IntsIn w mt ys) :
    Calls Try.prog 16 #[mem id sz tm vt rl ld ti vs lg cm nx mt] w fun e w' => e = .returned (.bool (validB id sz tm vt rl ld ti vs cm es xs ys)) ∧ Below w.heap.size w w' := by
  by_cases h : G0 id sz tm vt ld ∧ 0 ≤ rl ∧ rl ≤ 2 ∧ 0 ≤ ti
  · obtain ⟨h0, b1, b2, b3⟩ := h
    by_cases h1 : G1 sz rl ti vs
    · rw [validB_yes _ _ _ _ _ _ _ _ _ _ _ _ h0 h1]
      exact valid_y id sz tm vt rl ld ti vs lg es cm nx mt xs ys w h0 h1 hl he hX hY hX.le hY.le
    · rw [validB_no _ _ _ _ _ _ _ _ _ _ _ _ (fun h => h1 h.2)]
      obtain ⟨a1, a2, a3, a4, a5, a6, a7, a8, a9⟩ := h0
      refine valid_n1 id sz tm vt rl ld ti vs lg cm nx mt w a1 a2 a3 a4 a5 a6 a7 a8 a9 b1 b2 b3 ?_
      by_cases hv : vs < 0
      · exact .inl hv
      · exact .inr (by
          rcases Int.lt_or_le vs (2 ^ sz.toNat) with h2 | h2
          · exact absurd ⟨b1, b2, b3, by omega, h2⟩ h1
          · exact h2)
  · rw [validB_no _ _ _ _ _ _ _ _ _ _ _ _ (fun h2 => h ⟨h2.1, h2.2.1, h2.2.2.1, h2.2.2.2.1⟩)]
    exact valid_n0 id sz tm vt rl ld ti vs lg cm nx mt w h
end Go.Proofs.Ytfpgklhbghahoaa
