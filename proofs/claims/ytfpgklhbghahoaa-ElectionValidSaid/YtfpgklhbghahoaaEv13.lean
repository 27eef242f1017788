/- Election: the reference's Valid in all cases; the law Valid. -/
import Derived.Test.YtfpgklhbghahoaaEv9
import Derived.Test.YtfpgklhbghahoaaEv10
import Derived.Test.YtfpgklhbghahoaaEv11
import Derived.Test.YtfpgklhbghahoaaEv12
import Derived.Deep.RegionHeld3
namespace Go.Proofs.Ytfpgklhbghahoaa
open Go.ChangeShapes Go.WideShapes Go.ChangeAt Go.RowKit Go.Deep
set_option linter.unusedVariables false
set_option linter.unusedSimpArgs false
theorem rvalid_at (id sz tm vt rl ld ti vs : Int) (lg : Value) (es : List (List Value)) (cm : Int) (nx mt : Value) (xs ys : List Int) (w : World) (hl : es.length ≤ 100) (he : EntArg w lg es) (hX : IntsIn w nx xs) (hY : IntsIn w mt ys) :
    Calls Try.prog 17 #[mem id sz tm vt rl ld ti vs lg cm nx mt] w fun e w' => e = .returned (.bool (validB id sz tm vt rl ld ti vs cm es xs ys)) ∧ Below w.heap.size w w' := by
  by_cases h : G0 id sz tm vt ld ∧ G1 sz rl ti vs
  · obtain ⟨h0, h1⟩ := h
    rw [validB_yes _ _ _ _ _ _ _ _ _ _ _ _ h0 h1]
    obtain ⟨a1, a2, a3, a4, a5, a6, a7, a8, a9⟩ := h0
    obtain ⟨b1, b2, b3, b4, b5⟩ := h1
    have hxl := hX.le
    have hyl := hY.le
    obtain ⟨ga, gc, rfl⟩ := he.len
    obtain ⟨an, cn, rfl⟩ : ∃ a c, nx = .slice a xs.length c := by
      rcases hX with ⟨rfl, a, cap, rfl⟩ | ⟨B, o, cap, rfl, _⟩ <;> exact ⟨_, _, rfl⟩
    obtain ⟨am, cc, rfl⟩ : ∃ a c, mt = .slice a ys.length c := by
      rcases hY with ⟨rfl, a, cap, rfl⟩ | ⟨B, o, cap, rfl, _⟩ <;> exact ⟨_, _, rfl⟩
    rcases (show rl = 0 ∨ rl = 1 ∨ rl = 2 by omega) with hr | hr | hr
    · exact rvalid_y0 id sz tm vt rl ld ti vs hr ga gc es cm an cn am cc xs ys w a1 a2 a3 a4 a5 a6 a7 a8 a9 (by omega) (by omega) b5 hl he hX hY hxl hyl
    · exact rvalid_y1 id sz tm vt rl ld ti vs hr ga gc es cm an cn am cc xs ys w a1 a2 a3 a4 a5 a6 a7 a8 a9 (by omega) (by omega) b5 hl he hX hY hxl hyl
    · exact rvalid_y2 id sz tm vt rl ld ti vs hr ga gc es cm an cn am cc xs ys w a1 a2 a3 a4 a5 a6 a7 a8 a9 (by omega) (by omega) b5 hl he hX hY hxl hyl
  · rw [validB_no _ _ _ _ _ _ _ _ _ _ _ _ h]
    by_cases h0 : G0 id sz tm vt ld
    · obtain ⟨a1, a2, a3, a4, a5, a6, a7, a8, a9⟩ := h0
      by_cases b1 : rl < 0
      · exact rvalid_m1 id sz tm vt rl ld ti vs lg cm nx mt w a1 a2 a3 a4 a5 a6 a7 a8 a9 b1
      by_cases b2 : 2 < rl
      · exact rvalid_m2 id sz tm vt rl ld ti vs lg cm nx mt w a1 a2 a3 a4 a5 a6 a7 a8 a9 b1 b2
      by_cases b3 : ti < 0
      · exact rvalid_m3 id sz tm vt rl ld ti vs lg cm nx mt w a1 a2 a3 a4 a5 a6 a7 a8 a9 b1 b2 b3
      by_cases b4 : vs < 0
      · exact rvalid_m4 id sz tm vt rl ld ti vs lg cm nx mt w a1 a2 a3 a4 a5 a6 a7 a8 a9 b1 b2 b3 b4
      by_cases b5 : wrap64 (2 ^ sz.toNat) ≤ vs
      · exact rvalid_m5 id sz tm vt rl ld ti vs lg cm nx mt w a1 a2 a3 a4 a5 a6 a7 a8 a9 b1 b2 b3 b4 b5
      · rw [pow_wrap sz a1 a2] at b5
        exact absurd ⟨⟨a1, a2, a3, a4, a5, a6, a7, a8, a9⟩, by omega, by omega, by omega, by omega, by omega⟩ h
    · exact rvalid_n0 id sz tm vt rl ld ti vs lg cm nx mt w h0
/-- a boxed member stands in its block; nothing of before has turned -/
def MB (w : World) (id sz tm vt rl ld ti vs : Int) (lg : Value) (cm : Int) (nx mt : Value) (W : World) : Prop := W.cell? ⟨w.heap.size, 0, none⟩ = some (.int .i64 id) ∧ W.cell? ⟨w.heap.size, 1, none⟩ = some (.int .i64 sz) ∧ W.cell? ⟨w.heap.size, 2, none⟩ = some (.int .i64 tm) ∧ W.cell? ⟨w.heap.size, 3, none⟩ = some (.int .i64 vt) ∧ W.cell? ⟨w.heap.size, 4, none⟩ = some (.int .i64 rl) ∧ W.cell? ⟨w.heap.size, 5, none⟩ = some (.int .i64 ld) ∧ W.cell? ⟨w.heap.size, 6, none⟩ = some (.int .i64 ti) ∧ W.cell? ⟨w.heap.size, 7, none⟩ = some (.int .i64 vs) ∧ W.cell? ⟨w.heap.size, 8, none⟩ = some (lg) ∧ W.cell? ⟨w.heap.size, 9, none⟩ = some (.int .i64 cm) ∧ W.cell? ⟨w.heap.size, 10, none⟩ = some (nx) ∧ W.cell? ⟨w.heap.size, 11, none⟩ = some (mt) ∧ w.heap.size < W.heap.size ∧ Below w.heap.size w W
theorem MB.next {w : World} {id sz tm vt rl ld ti vs : Int} {lg : Value} {cm : Int} {nx mt : Value} {W : World} (h : MB w id sz tm vt rl ld ti vs lg cm nx mt W) {P : Program} {f : Nat} {args : Array Value} {F : Ending → Prop} (hc : Calls P f args W fun e w' => F e ∧ Below W.heap.size W w') :
    Calls P f args W fun e w' => F e ∧ MB w id sz tm vt rl ld ti vs lg cm nx mt w' := by
  refine hc.mono ?_
  rintro e W' ⟨he, hb⟩
  obtain ⟨c0, c1, c2, c3, c4, c5, c6, c7, c8, c9, c10, c11, hz, hB⟩ := h
  obtain ⟨g, _⟩ := bcell hb
  exact ⟨he, (g _ _ hz).trans c0, (g _ _ hz).trans c1, (g _ _ hz).trans c2, (g _ _ hz).trans c3, (g _ _ hz).trans c4, (g _ _ hz).trans c5, (g _ _ hz).trans c6, (g _ _ hz).trans c7, (g _ _ hz).trans c8, (g _ _ hz).trans c9, (g _ _ hz).trans c10, (g _ _ hz).trans c11, Nat.lt_of_lt_of_le hz hb.size, hB.trans (hb.mono (Nat.le_of_lt hz))⟩
theorem MB.start (w : World) (id sz tm vt rl ld ti vs : Int) (lg : Value) (cm : Int) (nx mt : Value) : MB w id sz tm vt rl ld ti vs lg cm nx mt (w.alloc (.cells #[.int .i64 id, .int .i64 sz, .int .i64 tm, .int .i64 vt, .int .i64 rl, .int .i64 ld, .int .i64 ti, .int .i64 vs, lg, .int .i64 cm, nx, mt] 25)) :=
  ⟨by simp [go_sem], by simp [go_sem], by simp [go_sem], by simp [go_sem], by simp [go_sem], by simp [go_sem], by simp [go_sem], by simp [go_sem], by simp [go_sem], by simp [go_sem], by simp [go_sem], by simp [go_sem], by simp, (Below.refl _ _).alloc (Nat.le_refl _) _⟩
theorem MB.below {w : World} {id sz tm vt rl ld ti vs : Int} {lg : Value} {cm : Int} {nx mt : Value} {W : World} (h : MB w id sz tm vt rl ld ti vs lg cm nx mt W) : Below w.heap.size w W := h.2.2.2.2.2.2.2.2.2.2.2.2.2
set_option maxRecDepth 100000 in
theorem few_any (id sz tm vt rl ld ti vs : Int) (ga : Option Addr) (gl gc : Nat) (cm : Int) (nx mt : Value) (w : World) (hg : gl ≤ 9223372036854775807) :
    Calls Try.prog 15 #[mem id sz tm vt rl ld ti vs (.slice ga gl gc) cm nx mt] w fun e w' => e = .returned (.bool (decide (gl ≤ 60))) ∧ Below w.heap.size w w' := by
  by_cases h : gl ≤ 60
  · have q : decide ((gl : Int) ≤ 60) = true := decide_eq_true (by omega)
    have HD : Hid (decide (gl ≤ 60) = true) := Lib.hid (decide_eq_true h)
    go_enter Try.func15, Try.ntmps15
    go_wp2_with fail
    go_ret
    exact ⟨ret_b HD.out, (Below.refl _ _).alloc (Nat.le_refl _) _⟩
  · have q : decide ((gl : Int) ≤ 60) = false := decide_eq_false (by omega)
    have HD : Hid (decide (gl ≤ 60) = false) := Lib.hid (decide_eq_false h)
    go_enter Try.func15, Try.ntmps15
    go_wp2_with fail
    go_ret
    exact ⟨ret_b HD.out, (Below.refl _ _).alloc (Nat.le_refl _) _⟩
set_option maxRecDepth 100000 in
set_option maxHeartbeats 1600000 in
theorem law_valid (id sz tm vt rl ld ti vs : Int) (lg : Value) (cm : Int) (nx mt : Value) (es : List (List Value)) (w : World) (he : EntArg w lg es) (hn : IntArg w nx) (hm : IntArg w mt) :
    Calls Try.prog 4 #[mem id sz tm vt rl ld ti vs lg cm nx mt] w fun e w' => e = .returned (.bool true) ∧ Below w.heap.size w w' := by
  obtain ⟨xs, hX⟩ := hn.ints
  obtain ⟨ys, hY⟩ := hm.ints
  have hel := he.le
  have HFew : Hid (∀ W, Calls Try.prog 15 #[mem id sz tm vt rl ld ti vs lg cm nx mt] W fun e w' => e = .returned (.bool (decide (es.length ≤ 60))) ∧ Below W.heap.size W w') := Lib.hid (by
    obtain ⟨ga, gc, rfl⟩ := he.len
    exact fun W => few_any id sz tm vt rl ld ti vs ga es.length gc cm nx mt W hel)
  have HE := Lib.hid he
  have HX := Lib.hid hX
  have HY := Lib.hid hY
  have HV1 : Hid (es.length ≤ 60 → ∀ W, Below w.heap.size w W → Calls Try.prog 16 #[mem id sz tm vt rl ld ti vs lg cm nx mt] W fun e w' => e = .returned (.bool (validB id sz tm vt rl ld ti vs cm es xs ys)) ∧ Below W.heap.size W w') :=
    Lib.hid (fun h W hW => valid_at id sz tm vt rl ld ti vs lg es cm nx mt xs ys W (by omega) (HE.out.below hW) (HX.out.below hW) (HY.out.below hW))
  have HV2 : Hid (es.length ≤ 60 → ∀ W, Below w.heap.size w W → Calls Try.prog 17 #[mem id sz tm vt rl ld ti vs lg cm nx mt] W fun e w' => e = .returned (.bool (validB id sz tm vt rl ld ti vs cm es xs ys)) ∧ Below W.heap.size W w') :=
    Lib.hid (fun h W hW => rvalid_at id sz tm vt rl ld ti vs lg es cm nx mt xs ys W (by omega) (HE.out.below hW) (HX.out.below hW) (HY.out.below hW))
  generalize validB id sz tm vt rl ld ti vs cm es xs ys = vb at *
  clear he hn hm hX hY HE HX HY
  go_enter Try.func4, Try.ntmps4
  go_wp2_with fail
  refine (MB.next (MB.start w id sz tm vt rl ld ti vs lg cm nx mt) (HFew.out _)).mono ?_
  rintro e w1 ⟨hee, d0, d1, d2, d3, d4, d5, d6, d7, d8, d9, d10, d11, dz, dB⟩
  subst hee
  by_cases hf : es.length ≤ 60
  · have HD : Hid (∀ W, Below w.heap.size w W → Calls Try.prog 16 #[mem id sz tm vt rl ld ti vs lg cm nx mt] W fun e w' => e = .returned (.bool vb) ∧ Below W.heap.size W w') := Lib.hid (HV1.out hf)
    have HD2 : Hid (∀ W, Below w.heap.size w W → Calls Try.prog 17 #[mem id sz tm vt rl ld ti vs lg cm nx mt] W fun e w' => e = .returned (.bool vb) ∧ Below W.heap.size W w') := Lib.hid (HV2.out hf)
    have q : decide (es.length ≤ 60) = true := decide_eq_true hf
    rw [q]
    clear HV1 HV2 HFew hf q
    have hvv : (vb == vb) = true := beq_self_eq_true vb
    cases vb
    all_goals
      go_wp2_with fail
      have hBd := dB.drew
      go_region_held3 (fun W => W.cell? ⟨w.heap.size, 0, none⟩ = some (.int .i64 id) ∧ W.cell? ⟨w.heap.size, 1, none⟩ = some (.int .i64 sz) ∧ W.cell? ⟨w.heap.size, 2, none⟩ = some (.int .i64 tm) ∧ W.cell? ⟨w.heap.size, 3, none⟩ = some (.int .i64 vt) ∧ W.cell? ⟨w.heap.size, 4, none⟩ = some (.int .i64 rl) ∧ W.cell? ⟨w.heap.size, 5, none⟩ = some (.int .i64 ld) ∧ W.cell? ⟨w.heap.size, 6, none⟩ = some (.int .i64 ti) ∧ W.cell? ⟨w.heap.size, 7, none⟩ = some (.int .i64 vs) ∧ W.cell? ⟨w.heap.size, 8, none⟩ = some (lg) ∧ W.cell? ⟨w.heap.size, 9, none⟩ = some (.int .i64 cm) ∧ W.cell? ⟨w.heap.size, 10, none⟩ = some (nx) ∧ W.cell? ⟨w.heap.size, 11, none⟩ = some (mt) ∧ w.heap.size < W.heap.size ∧ Below w.heap.size w W) (refine ⟨?_, ?_, ?_, ?_, ?_, ?_, ?_, ?_, ?_, ?_, ?_, ?_, ?_, ?_⟩ <;> assumption) (first | (go_at_call 16; refine (MB.next (w := w) (id := id) (sz := sz) (tm := tm) (vt := vt) (rl := rl) (ld := ld) (ti := ti) (vs := vs) (lg := lg) (cm := cm) (nx := nx) (mt := mt) ⟨by assumption, by assumption, by assumption, by assumption, by assumption, by assumption, by assumption, by assumption, by assumption, by assumption, by assumption, by assumption, by assumption, by assumption⟩ (HD.out _ (by assumption))).mono ?_; rintro e wn ⟨hee, g0, g1, g2, g3, g4, g5, g6, g7, g8, g9, g10, g11, gz, gB⟩; subst hee) | (go_at_call 17; refine (MB.next (w := w) (id := id) (sz := sz) (tm := tm) (vt := vt) (rl := rl) (ld := ld) (ti := ti) (vs := vs) (lg := lg) (cm := cm) (nx := nx) (mt := mt) ⟨by assumption, by assumption, by assumption, by assumption, by assumption, by assumption, by assumption, by assumption, by assumption, by assumption, by assumption, by assumption, by assumption, by assumption⟩ (HD2.out _ (by assumption))).mono ?_; rintro e wn ⟨hee, g0, g1, g2, g3, g4, g5, g6, g7, g8, g9, g10, g11, gz, gB⟩; subst hee) | (go_at_call 14; refine (MB.next (w := w) (id := id) (sz := sz) (tm := tm) (vt := vt) (rl := rl) (ld := ld) (ti := ti) (vs := vs) (lg := lg) (cm := cm) (nx := nx) (mt := mt) ⟨by assumption, by assumption, by assumption, by assumption, by assumption, by assumption, by assumption, by assumption, by assumption, by assumption, by assumption, by assumption, by assumption, by assumption⟩ (awake_any _)).mono ?_; rintro e wn ⟨hee, g0, g1, g2, g3, g4, g5, g6, g7, g8, g9, g10, g11, gz, gB⟩; subst hee))
      all_goals go_wp2_with fail
      all_goals (go_ret; exact ⟨rfl, by assumption⟩)
  · have q : decide (es.length ≤ 60) = false := decide_eq_false hf
    rw [q]
    clear HV1 HV2 HFew hf q
    go_wp2_with fail
    refine (MB.next (w := w) (id := id) (sz := sz) (tm := tm) (vt := vt) (rl := rl) (ld := ld) (ti := ti) (vs := vs) (lg := lg) (cm := cm) (nx := nx) (mt := mt) ⟨d0, d1, d2, d3, d4, d5, d6, d7, d8, d9, d10, d11, dz, dB⟩ (awake_any _)).mono ?_
    rintro e w2 ⟨hee, g0, g1, g2, g3, g4, g5, g6, g7, g8, g9, g10, g11, gz, gB⟩
    subst hee
    go_wp2_with fail
    go_ret
    exact ⟨rfl, gB⟩
end Go.Proofs.Ytfpgklhbghahoaa
