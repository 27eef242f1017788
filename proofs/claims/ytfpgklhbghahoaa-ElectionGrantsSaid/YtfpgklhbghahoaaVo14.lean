/- Merged texts: Eh16, Eh17, Close2. -/
import Derived.Test.YtfpgklhbghahoaaVo13
import Derived.Test.YtfpgklhbghahoaaRows
import Derived.ProofKit
import Derived.Below
import Derived.ChangeSame
import Derived.WideKeyArgs
import Derived.OpenShut
/- Election: the law Votes. -/
namespace Go.Proofs.Ytfpgklhbghahoaa
open Go.ChangeShapes Go.WideShapes Go.ChangeAt Go.RowKit Go.ChangeMaps Go.Joins Go.Deep
set_option linter.unusedVariables false
set_option linter.unusedSimpArgs false
set_option maxRecDepth 100000
theorem valid_g {id sz tm vt rl ld ti vs cm : Int} {es : List (List Value)} {xs ys : List Int} (h : validB id sz tm vt rl ld ti vs cm es xs ys = true) : G0 id sz tm vt ld ∧ G1 sz rl ti vs := by
  unfold validB at h
  simp only [Bool.and_eq_true, decide_eq_true_eq] at h
  exact h.1
theorem wf_of {x : Int} (h : -9223372036854775808 ≤ x ∧ x ≤ 9223372036854775807) : (Lit.int .i64 x).wf = true := by
  simp only [Lit.wf, Bool.and_eq_true, decide_eq_true_eq]
  exact h
theorem of_wf {x : Int} (h : (Lit.int .i64 x).wf = true) : -9223372036854775808 ≤ x ∧ x ≤ 9223372036854775807 := by
  simp only [Lit.wf, Bool.and_eq_true, decide_eq_true_eq] at h
  exact h
theorem mem_wfs {W : World} {n : Nat} {id sz tm vt rl ld ti vs cm : Int} {lg nx mt : Value} (h : GoodC Try.prog W n 25 (memL id sz tm vt rl ld ti vs lg cm nx mt)) : ∀ x ∈ [id, sz, tm, vt, rl, ld, ti, vs, cm], (Lit.int .i64 x).wf = true := by
  cases n with
  | zero => exact h.elim
  | succ n =>
    obtain ⟨_, _, hi, _⟩ := mem_parts (EqC.refl (F := TT) (fun _ _ => trivial) _ _ _ h)
    intro x hx
    simp only [List.mem_cons, List.not_mem_nil, or_false] at hx
    rcases hx with rfl | rfl | rfl | rfl | rfl | rfl | rfl | rfl | rfl
    · exact eqC_wf (hi 0 (by decide) (by decide) (by decide) (by decide))
    · exact eqC_wf (hi 1 (by decide) (by decide) (by decide) (by decide))
    · exact eqC_wf (hi 2 (by decide) (by decide) (by decide) (by decide))
    · exact eqC_wf (hi 3 (by decide) (by decide) (by decide) (by decide))
    · exact eqC_wf (hi 4 (by decide) (by decide) (by decide) (by decide))
    · exact eqC_wf (hi 5 (by decide) (by decide) (by decide) (by decide))
    · exact eqC_wf (hi 6 (by decide) (by decide) (by decide) (by decide))
    · exact eqC_wf (hi 7 (by decide) (by decide) (by decide) (by decide))
    · exact eqC_wf (hi 9 (by decide) (by decide) (by decide) (by decide))
theorem mem_last {W : World} {n : Nat} {id sz tm vt rl ld ti vs cm : Int} {lg nx mt : Value} (h : GoodC Try.prog W n 25 (memL id sz tm vt rl ld ti vs lg cm nx mt)) : ∃ lt, LastAt W lg lt ∧ (Lit.int .i64 lt).wf = true := by
  cases n with
  | zero => exact h.elim
  | succ n =>
    obtain ⟨_, _, _, h8, _⟩ := mem_parts (EqC.refl (F := TT) (fun _ _ => trivial) _ _ _ h)
    have h8' : EqC Try.prog W W TT TT n 22 [lg] [lg] := h8
    obtain ⟨t, _, _, _, _, _, _, _, h1, _, _, h2⟩ := lastAt_eq h8'
    exact ⟨t, h1, h2⟩
theorem nil_eqC {W W' : World} {F F' : Nat → Prop} {n : Nat} : EqC Try.prog W W' F F' (n + 1) 23 [.slice none 0 0] [.slice none 0 0] :=
  eqC_slice Try.underlying23 ⟨none, 0, 0, none, 0, rfl, rfl, Nat.le_refl _, ⟨by unfold maxLen; omega, by omega, fun _ => rfl⟩, Nat.le_refl _, ⟨by unfold maxLen; omega, by omega, fun _ => rfl⟩, fun h0 => absurd h0 (Nat.lt_irrefl _)⟩
theorem fol_ints {W W' : World} {F F' : Nat → Prop} {n : Nat} (tm xt : Int) {na na2 : Option Addr} {nl nc nc2 : Nat} (h : EqC Try.prog W W' F F' (n + 1) 23 [.slice na nl nc] [.slice na2 nl nc2]) : EqC Try.prog W W' F F' (n + 1) 23 [.slice (fA tm xt na) (fN tm xt nl) (fN tm xt nc)] [.slice (fA tm xt na2) (fN tm xt nl) (fN tm xt nc2)] := by
  by_cases ht : xt ≤ tm
  · simp only [fA, fN, if_pos ht]; exact h
  · simp only [fA, fN, if_neg ht]; exact nil_eqC
theorem fol_wfs {id sz tm vt rl ld ti vs cm xt xf : Int} (gr : Bool) (hw : ∀ x ∈ [id, sz, tm, vt, rl, ld, ti, vs, cm], (Lit.int .i64 x).wf = true) (h0 : 0 ≤ id) (h7 : id ≤ 7) (hx : (Lit.int .i64 xt).wf = true) (hf : (Lit.int .i64 xf).wf = true) :
    ∀ x ∈ [id, sz, fTm tm xt, if gr then xf else fVt tm xt vt, fRl tm xt rl, fLd tm xt ld, if gr then 10 + 3 * id else fTi tm xt rl ti id, fVs tm xt vs, cm], (Lit.int .i64 x).wf = true := by
  have w0 : (Lit.int .i64 0).wf = true := by decide
  have w1 : (Lit.int .i64 (-1)).wf = true := by decide
  have wt : (Lit.int .i64 (10 + 3 * id)).wf = true := wf_of (by omega)
  have a0 := hw id (by simp)
  have a1 := hw sz (by simp)
  have a2 := hw tm (by simp)
  have a3 := hw vt (by simp)
  have a4 := hw rl (by simp)
  have a5 := hw ld (by simp)
  have a6 := hw ti (by simp)
  have a7 := hw vs (by simp)
  have a9 := hw cm (by simp)
  intro x hx'
  simp only [List.mem_cons, List.not_mem_nil, or_false] at hx'
  rcases hx' with rfl | rfl | rfl | rfl | rfl | rfl | rfl | rfl | rfl
  · exact a0
  · exact a1
  · unfold fTm; split <;> assumption
  · unfold fVt; split <;> (try split) <;> assumption
  · unfold fRl; split <;> assumption
  · unfold fLd; split <;> assumption
  · unfold fTi; split <;> (try split) <;> (try split) <;> assumption
  · unfold fVs; split <;> assumption
  · exact a9
theorem msgs_nil (w : World) : Calls Try.prog 21 #[nil, nil] w fun e w' => e = .returned (.bool true) ∧ Below w.heap.size w w' := by
  go_enter Try.func21, Try.ntmps21
  go_wp2_with fail
  go_loopw [5] (fun i wr => i = .int .i64 0 ∧ wr = w) (fun i wr => 0)
  case atStart => exact ⟨rfl, rfl⟩
  case round =>
    obtain ⟨rfl, rfl⟩ := hrel
    go_wp2_with fail
    go_ret
    exact ⟨rfl, Below.refl _ _⟩
theorem valOf_mem (cs : List Value) : valOf Try.prog 25 cs = .agg cs.toArray := by unfold valOf; simp only [Try.underlying25]; rfl
theorem same_mem {n : Nat} {xs ys : List Value} {w : World} (h : EqC Try.prog w w TT TT n 25 xs ys) : Calls Try.prog 11 #[.agg xs.toArray, .agg ys.toArray] w fun e w' => e = .returned (.bool true) ∧ Below w.heap.size w w' := by
  have := Same42_ok n w xs ys h
  rwa [valOf_mem, valOf_mem] at this
theorem law_votes (n : Nat) (id sz tm vt rl ld ti vs : Int) (ga : Option Addr) (gc : Nat) (es : List (List Value)) (cm : Int) (na : Option Addr) (nl nc : Nat) (ma : Option Addr) (ml mc : Nat) (xs ys : List Int) (xf xto xk xt xi xl xc : Int) (ea : Option Addr) (el ec : Nat) (xok : Bool) (w : World) (hee : EntArg w (.slice ga es.length gc) es) (hXs : IntsIn w (.slice na nl nc) xs) (hYs : IntsIn w (.slice ma ml mc) ys) (hg : GoodC Try.prog w n 25 (memL id sz tm vt rl ld ti vs (.slice ga es.length gc) cm (.slice na nl nc) (.slice ma ml mc))) (hxt : (Lit.int .i64 xt).wf = true) :
    Calls Try.prog 5 #[mem id sz tm vt rl ld ti vs (.slice ga es.length gc) cm (.slice na nl nc) (.slice ma ml mc), .agg #[.int .i64 xf, .int .i64 xto, .int .i64 xk, .int .i64 xt, .int .i64 xi, .int .i64 xl, .int .i64 xc, .slice ea el ec, .bool xok]] w fun e w' => e = .returned (.bool true) ∧ Below w.heap.size w w' := by
  obtain ⟨lt, hlt, _⟩ := mem_last hg
  have hws := mem_wfs hg
  refine calls_frv (N := 37) (vs := [.agg #[.int .i64 id, .int .i64 sz, .int .i64 tm, .int .i64 vt, .int .i64 rl, .int .i64 ld, .int .i64 ti, .int .i64 vs, .slice ga es.length gc, .int .i64 cm, .slice na nl nc, .slice ma ml mc], .agg #[.int .i64 xf, .int .i64 xto, .int .i64 xk, .int .i64 xt, .int .i64 xi, .int .i64 xl, .int .i64 xc, .slice ea el ec, .bool xok]]) [(0, .agg #[.int .i64 id, .int .i64 sz, .int .i64 tm, .int .i64 vt, .int .i64 rl, .int .i64 ld, .int .i64 ti, .int .i64 vs, .slice ga es.length gc, .int .i64 cm, .slice na nl nc, .slice ma ml mc]), (1, .agg #[.int .i64 xf, .int .i64 xto, .int .i64 xk, .int .i64 xt, .int .i64 xi, .int .i64 xl, .int .i64 xc, .slice ea el ec, .bool xok])] Try.func5 rfl rfl (of_decide_eq_true rfl) (fun p hp => by simp only [List.mem_cons, List.not_mem_nil, or_false] at hp; rcases hp with rfl | rfl <;> rfl) (fun a hf => ?_)
  have hX := Bx.start w
  refine wp_seq ?_
  refine wp_region_lit ?_
  refine sv_box hf hX rfl (by decide) (fun a C1 W hC hf hX => ?_)
  clear hC
  refine sv_box hf hX rfl (by decide) (fun a C2 W hC hf hX => ?_)
  clear hC
  refine sv_ac hf (by decide) (fun a hf => ?_)
  replace hf := hf.sub (env' := [(4, .bool false), (3, .pointer (some ⟨C2, 0, none⟩)), (2, .pointer (some ⟨C1, 0, none⟩))]) (sub_cons rfl (sub_cons rfl (sub_cons rfl (sub_nil))))
  refine sv_nil hf ?_
  refine wp_seq ?_
  refine wp_seq ?_
  refine wp_region_lit ?_
  refine sv_lr hf hX rfl 1 rfl Try.underlying25 info_mem (by decide) (fun a hf => ?_)
  refine sv_lr hf hX rfl 0 rfl Try.underlying35 info_msg (by decide) (fun a hf => ?_)
  refine sv_call hf fnOK_18 rfl (fits_any id sz tm vt rl ld ti vs ga gc es cm na nl nc ma ml mc xs ys xf xto xk xt xi xl xc ea el ec xok _ (hee.below hX.low) (hXs.below hX.low) (hYs.below hX.low)) (by decide) ?_
  rintro e W ⟨b, rfl, hfit, hb⟩
  replace hX := hX.keep hb
  clear hb
  refine ⟨_, rfl, fun a hf => ?_⟩
  cases b
  ·
    refine sv_not hf rfl (by decide) (fun a hf => ?_)
    replace hf := hf.sub (env' := [(12, .bool true), (4, .bool false), (3, .pointer (some ⟨C2, 0, none⟩)), (2, .pointer (some ⟨C1, 0, none⟩))]) (sub_cons rfl (sub_cons rfl (sub_cons rfl (sub_cons rfl (sub_nil)))))
    refine sv_nil hf ?_
    refine wp_cond_true (hf.rel _ _ rfl) ?_
    refine wp_seq ?_
    refine wp_region_lit ?_
    refine sv_call hf fnOK_14 rfl (awake_any _) (by decide) ?_
    rintro e W ⟨rfl, hb⟩
    replace hX := hX.keep hb
    clear hb
    refine ⟨_, rfl, fun a hf => ?_⟩
    refine sv_as hf rfl (by decide) (fun a hf => ?_)
    replace hf := hf.sub (env' := [(4, .bool true), (3, .pointer (some ⟨C2, 0, none⟩)), (2, .pointer (some ⟨C1, 0, none⟩))]) (sub_cons rfl (sub_cons rfl (sub_cons rfl (sub_nil))))
    refine sv_nil hf ?_
    refine wp_ret ?_
    try simp only [Exit.inBlock, Exit.then]
    exact bodyPost_ret (res_tmp (d := 4) (v := .bool true) rfl (hf.rel 4 _ rfl)) hf.defers ⟨rfl, hX.low⟩
  ·
    obtain ⟨f1, f2, f3, f4, f5, f6, f7, f8, f9⟩ := hfit rfl
    obtain ⟨⟨g1, g2, g3, g4, g5, g6, g7, g8, g9⟩, _⟩ := valid_g f2
    have h0 : 0 ≤ id := g3
    have h7 : id ≤ 7 := by omega
    clear hfit f1 f2 g5 g6 g7 g8 g9 f3 f6 f7 f8 f9
    have hxf : (Lit.int .i64 xf).wf = true := wf_of (by omega)
    clear f4 f5 g1 g2 g3 g4
    obtain ⟨gr, hgr⟩ : ∃ g, g = grantB xt xf (fTm tm xt) (fVt tm xt vt) (newB xl xi lt es.length) := ⟨_, rfl⟩
    rcases Decidable.em (xk = 1) with hk | hk
    ·
      refine sv_not hf rfl (by decide) (fun a hf => ?_)
      replace hf := hf.sub (env' := [(12, .bool false), (4, .bool false), (3, .pointer (some ⟨C2, 0, none⟩)), (2, .pointer (some ⟨C1, 0, none⟩))]) (sub_cons rfl (sub_cons rfl (sub_cons rfl (sub_cons rfl (sub_nil)))))
      refine sv_nil hf ?_
      refine wp_cond_false (hf.rel _ _ rfl) ?_
      refine wp_skip ?_
      refine wp_seq ?_
      refine wp_region_lit ?_
      refine sv_lr hf hX rfl 1 rfl Try.underlying25 info_mem (by decide) (fun a hf => ?_)
      refine sv_lr hf hX rfl 0 rfl Try.underlying35 info_msg (by decide) (fun a hf => ?_)
      have hsA : w.heap.size ≤ W.heap.size := hX.low.size
      obtain ⟨WA1, hWA1⟩ : ∃ X, X = W := ⟨_, rfl⟩
      rw [← hWA1] at hsA
      refine sv_call hf fnOK_19 rfl (vote_any n id sz tm vt rl ld ti vs ga es.length gc cm na nl nc ma ml mc xf xto xk xt xi xl xc ea el ec xok lt w _ hX.low hg (hlt.below hX.low) h0 h7 hk gr hgr) (by decide) ?_
      rintro e W2 ⟨ga2, gc2, na2, nc2, ma2, mc2, G, rfl, hE, hbG, hgG, hb⟩
      rw [← hWA1] at hgG
      replace hX := hX.made hb
      clear hb
      rw [← hWA1] at hE hX
      have HE := Lib.hid hE
      clear hE
      obtain ⟨WC1, hWC1⟩ : ∃ X, X = W2 := ⟨_, rfl⟩
      obtain ⟨β1, hβ1⟩ : ∃ b : Base, b = ⟨w, (WC1, fun k => k < w.heap.size ∨ WA1.heap.size ≤ k) :: []⟩ := ⟨_, rfl⟩
      replace hX : Bx β1 [(C2, [.int .i64 xf, .int .i64 xto, .int .i64 xk, .int .i64 xt, .int .i64 xi, .int .i64 xl, .int .i64 xc, .slice ea el ec, .bool xok]), (C1, [.int .i64 id, .int .i64 sz, .int .i64 tm, .int .i64 vt, .int .i64 rl, .int .i64 ld, .int .i64 ti, .int .i64 vs, .slice ga es.length gc, .int .i64 cm, .slice na nl nc, .slice ma ml mc])] W2 := by rw [hβ1, hWC1]; exact hX
      have hm1 : (WC1, fun k => k < w.heap.size ∨ WA1.heap.size ≤ k) ∈ β1.bs := by rw [hβ1]; exact List.mem_cons_self
      have hβ1w : β1.w = w := by rw [hβ1]
      rw [← hWC1] at HE hbG
      refine ⟨_, rfl, fun a hf => ?_⟩
      refine sv_mv hf rfl (by decide) (fun a hf => ?_)
      refine sv_ext hf rfl rfl (by decide) (fun a hf => ?_)
      refine sv_ext hf rfl rfl (by decide) (fun a hf => ?_)
      refine sv_alloc (zs := [.int .i64 0, .int .i64 0, .int .i64 0, .int .i64 0, .int .i64 0, .int .i64 0, .int .i64 0, .int .i64 0, .slice none 0 0, .int .i64 0, .slice none 0 0, .slice none 0 0]) hf hX zero_mem (by decide) (fun a C3 W hC hf hX => ?_)
      clear hC
      refine sv_sr hf hX rfl rfl 0 rfl rfl info_mem (fun v hv => List.all_eq_true.1 (show List.all [.int .i64 id, .int .i64 sz, .int .i64 (fTm tm xt), .int .i64 (if gr then xf else fVt tm xt vt), .int .i64 (fRl tm xt rl), .int .i64 (fLd tm xt ld), .int .i64 (if gr then 10 + 3 * id else fTi tm xt rl ti id), .int .i64 (fVs tm xt vs), .slice ga2 es.length gc2, .int .i64 cm, .slice (fA tm xt na2) (fN tm xt nl) (fN tm xt nc2), .slice (fA tm xt ma2) (fN tm xt ml) (fN tm xt mc2)] (·.oneCell') = true from rfl) v hv) [(C3, [.int .i64 id, .int .i64 sz, .int .i64 (fTm tm xt), .int .i64 (if gr then xf else fVt tm xt vt), .int .i64 (fRl tm xt rl), .int .i64 (fLd tm xt ld), .int .i64 (if gr then 10 + 3 * id else fTi tm xt rl ti id), .int .i64 (fVs tm xt vs), .slice ga2 es.length gc2, .int .i64 cm, .slice (fA tm xt na2) (fN tm xt nl) (fN tm xt nc2), .slice (fA tm xt ma2) (fN tm xt ml) (fN tm xt mc2)]), (C2, [.int .i64 xf, .int .i64 xto, .int .i64 xk, .int .i64 xt, .int .i64 xi, .int .i64 xl, .int .i64 xc, .slice ea el ec, .bool xok]), (C1, [.int .i64 id, .int .i64 sz, .int .i64 tm, .int .i64 vt, .int .i64 rl, .int .i64 ld, .int .i64 ti, .int .i64 vs, .slice ga es.length gc, .int .i64 cm, .slice na nl nc, .slice ma ml mc])] rfl (fun W hX => ?_)
      refine sv_as hf rfl (by decide) (fun a hf => ?_)
      replace hf := hf.sub (env' := [(6, .slice (some ⟨G, 0, none⟩) 1 1), (5, .pointer (some ⟨C3, 0, none⟩)), (4, .bool false), (3, .pointer (some ⟨C2, 0, none⟩)), (2, .pointer (some ⟨C1, 0, none⟩))]) (sub_cons rfl (sub_cons rfl (sub_cons rfl (sub_cons rfl (sub_cons rfl (sub_nil))))))
      refine sv_nil hf ?_
      refine wp_seq ?_
      refine wp_region_lit ?_
      refine sv_lr hf hX rfl 2 rfl Try.underlying25 info_mem (by decide) (fun a hf => ?_)
      refine sv_lr hf hX rfl 1 rfl Try.underlying35 info_msg (by decide) (fun a hf => ?_)
      have hlw := hX.low
      rw [hβ1w] at hlw
      obtain ⟨WA2, hWA2⟩ : ∃ X, X = W := ⟨_, rfl⟩
      refine sv_call hf fnOK_20 rfl (rvote_any id sz tm vt rl ld ti vs ga es.length gc cm na nl nc ma ml mc xf xto xk xt xi xl xc ea el ec xok lt _ (hlt.below hlw) h0 h7 hk gr hgr) (by decide) ?_
      rintro e W2 ⟨H, rfl, hbH, hgH, hb⟩
      rw [← hWA2] at hgH
      replace hX := hX.made hb
      clear hb
      rw [← hWA2, hβ1w] at hX
      clear hlw
      obtain ⟨WC2, hWC2⟩ : ∃ X, X = W2 := ⟨_, rfl⟩
      obtain ⟨β2, hβ2⟩ : ∃ b : Base, b = ⟨w, (W2, fun k => k < w.heap.size ∨ WA2.heap.size ≤ k) :: β1.bs⟩ := ⟨_, rfl⟩
      rw [← hβ2] at hX
      have hm1' : (WC1, fun k => k < w.heap.size ∨ WA1.heap.size ≤ k) ∈ β2.bs := by rw [hβ2]; exact List.mem_cons_of_mem _ hm1
      have hm2 : (W2, fun k => k < w.heap.size ∨ WA2.heap.size ≤ k) ∈ β2.bs := by rw [hβ2]; exact List.mem_cons_self
      have hβ2w : β2.w = w := by rw [hβ2]
      rw [← hWC2] at hm2 hbH
      refine ⟨_, rfl, fun a hf => ?_⟩
      refine sv_mv hf rfl (by decide) (fun a hf => ?_)
      refine sv_ext hf rfl rfl (by decide) (fun a hf => ?_)
      refine sv_ext hf rfl rfl (by decide) (fun a hf => ?_)
      refine sv_alloc (zs := [.int .i64 0, .int .i64 0, .int .i64 0, .int .i64 0, .int .i64 0, .int .i64 0, .int .i64 0, .int .i64 0, .slice none 0 0, .int .i64 0, .slice none 0 0, .slice none 0 0]) hf hX zero_mem (by decide) (fun a C4 W hC hf hX => ?_)
      clear hC
      refine sv_sr hf hX rfl rfl 0 rfl rfl info_mem (fun v hv => List.all_eq_true.1 (show List.all [.int .i64 id, .int .i64 sz, .int .i64 (fTm tm xt), .int .i64 (if gr then xf else fVt tm xt vt), .int .i64 (fRl tm xt rl), .int .i64 (fLd tm xt ld), .int .i64 (if gr then 10 + 3 * id else fTi tm xt rl ti id), .int .i64 (fVs tm xt vs), .slice ga es.length gc, .int .i64 cm, .slice (fA tm xt na) (fN tm xt nl) (fN tm xt nc), .slice (fA tm xt ma) (fN tm xt ml) (fN tm xt mc)] (·.oneCell') = true from rfl) v hv) [(C4, [.int .i64 id, .int .i64 sz, .int .i64 (fTm tm xt), .int .i64 (if gr then xf else fVt tm xt vt), .int .i64 (fRl tm xt rl), .int .i64 (fLd tm xt ld), .int .i64 (if gr then 10 + 3 * id else fTi tm xt rl ti id), .int .i64 (fVs tm xt vs), .slice ga es.length gc, .int .i64 cm, .slice (fA tm xt na) (fN tm xt nl) (fN tm xt nc), .slice (fA tm xt ma) (fN tm xt ml) (fN tm xt mc)]), (C3, [.int .i64 id, .int .i64 sz, .int .i64 (fTm tm xt), .int .i64 (if gr then xf else fVt tm xt vt), .int .i64 (fRl tm xt rl), .int .i64 (fLd tm xt ld), .int .i64 (if gr then 10 + 3 * id else fTi tm xt rl ti id), .int .i64 (fVs tm xt vs), .slice ga2 es.length gc2, .int .i64 cm, .slice (fA tm xt na2) (fN tm xt nl) (fN tm xt nc2), .slice (fA tm xt ma2) (fN tm xt ml) (fN tm xt mc2)]), (C2, [.int .i64 xf, .int .i64 xto, .int .i64 xk, .int .i64 xt, .int .i64 xi, .int .i64 xl, .int .i64 xc, .slice ea el ec, .bool xok]), (C1, [.int .i64 id, .int .i64 sz, .int .i64 tm, .int .i64 vt, .int .i64 rl, .int .i64 ld, .int .i64 ti, .int .i64 vs, .slice ga es.length gc, .int .i64 cm, .slice na nl nc, .slice ma ml mc])] rfl (fun W hX => ?_)
      refine sv_as hf rfl (by decide) (fun a hf => ?_)
      replace hf := hf.sub (env' := [(8, .slice (some ⟨H, 0, none⟩) 1 1), (7, .pointer (some ⟨C4, 0, none⟩)), (6, .slice (some ⟨G, 0, none⟩) 1 1), (5, .pointer (some ⟨C3, 0, none⟩)), (4, .bool false)]) (sub_cons rfl (sub_cons rfl (sub_cons rfl (sub_cons rfl (sub_cons rfl (sub_nil))))))
      refine sv_nil hf ?_
      refine wp_seq ?_
      refine wp_region_lit ?_
      refine sv_lr hf hX rfl 1 rfl Try.underlying25 info_mem (by decide) (fun a hf => ?_)
      refine sv_lr hf hX rfl 0 rfl Try.underlying25 info_mem (by decide) (fun a hf => ?_)
      obtain ⟨m, h8, h10, h11⟩ := HE.out
      refine sv_call hf fnOK_11 rfl (same_mem (EqC.symm _ _ _ _ (memEq (fol_wfs gr hws h0 h7 hxt hxf) (hX.later hm1' (fun k h => Or.inl h) (fun k h => Or.inr h) h8) (fol_ints tm xt (hX.later hm1' (fun k h => Or.inl h) (fun k h => Or.inr h) h10)) (fol_ints tm xt (hX.later hm1' (fun k h => Or.inl h) (fun k h => Or.inr h) h11))))) (by decide) ?_
      rintro e W ⟨rfl, hb⟩
      replace hX := hX.keep hb
      clear hb
      refine ⟨_, rfl, fun a hf => ?_⟩
      refine sv_mv hf rfl (by decide) (fun a hf => ?_)
      refine sv_want hf rfl rfl ?_
      refine sv_mv hf rfl (by decide) (fun a hf => ?_)
      refine sv_want hf rfl rfl ?_
      refine sv_mv hf rfl (by decide) (fun a hf => ?_)
      refine sv_want hf rfl rfl ?_
      refine sv_call hf fnOK_21 rfl (msgs_one G H id xf 2 (fTm tm xt) 0 0 0 gr _ (hX.box_later hm1' (Or.inr hgG) hbG) (hX.box_later hm2 (Or.inr hgH) hbH)) (by decide) ?_
      rintro e W ⟨rfl, hb⟩
      replace hX := hX.keep hb
      clear hb
      refine ⟨_, rfl, fun a hf => ?_⟩
      refine sv_pk hf rfl rfl (by decide) (fun a hf => ?_)
      refine sv_mv hf rfl (by decide) (fun a hf => ?_)
      refine sv_want hf rfl rfl ?_
      refine sv_call hf fnOK_14 rfl (awake_any _) (by decide) ?_
      rintro e W ⟨rfl, hb⟩
      replace hX := hX.keep hb
      clear hb
      refine ⟨_, rfl, fun a hf => ?_⟩
      refine sv_pk hf rfl rfl (by decide) (fun a hf => ?_)
      refine sv_as hf rfl (by decide) (fun a hf => ?_)
      replace hf := hf.sub (env' := [(4, .bool true)]) (sub_cons rfl (sub_nil))
      refine sv_nil hf ?_
      refine wp_ret ?_
      try simp only [Exit.inBlock, Exit.then]
      exact bodyPost_ret (res_tmp (d := 4) (v := .bool true) rfl (hf.rel 4 _ rfl)) hf.defers ⟨rfl, (by have := hX.low; rw [hβ2w] at this; exact this)⟩
    ·
      refine sv_not hf rfl (by decide) (fun a hf => ?_)
      replace hf := hf.sub (env' := [(12, .bool false), (4, .bool false), (3, .pointer (some ⟨C2, 0, none⟩)), (2, .pointer (some ⟨C1, 0, none⟩))]) (sub_cons rfl (sub_cons rfl (sub_cons rfl (sub_cons rfl (sub_nil)))))
      refine sv_nil hf ?_
      refine wp_cond_false (hf.rel _ _ rfl) ?_
      refine wp_skip ?_
      refine wp_seq ?_
      refine wp_region_lit ?_
      refine sv_lr hf hX rfl 1 rfl Try.underlying25 info_mem (by decide) (fun a hf => ?_)
      refine sv_lr hf hX rfl 0 rfl Try.underlying35 info_msg (by decide) (fun a hf => ?_)
      have hsA : w.heap.size ≤ W.heap.size := hX.low.size
      obtain ⟨WA1, hWA1⟩ : ∃ X, X = W := ⟨_, rfl⟩
      rw [← hWA1] at hsA
      refine sv_call hf fnOK_19 rfl (vote_none n id sz tm vt rl ld ti vs ga es.length gc cm na nl nc ma ml mc xf xto xk xt xi xl xc ea el ec xok w _ hX.low hg hk) (by decide) ?_
      rintro e W2 ⟨ga2, gc2, na2, nc2, ma2, mc2, rfl, hE, hb⟩
      replace hX := hX.made hb
      clear hb
      rw [← hWA1] at hE hX
      have HE := Lib.hid hE
      clear hE
      obtain ⟨WC1, hWC1⟩ : ∃ X, X = W2 := ⟨_, rfl⟩
      obtain ⟨β1, hβ1⟩ : ∃ b : Base, b = ⟨w, (WC1, fun k => k < w.heap.size ∨ WA1.heap.size ≤ k) :: []⟩ := ⟨_, rfl⟩
      replace hX : Bx β1 [(C2, [.int .i64 xf, .int .i64 xto, .int .i64 xk, .int .i64 xt, .int .i64 xi, .int .i64 xl, .int .i64 xc, .slice ea el ec, .bool xok]), (C1, [.int .i64 id, .int .i64 sz, .int .i64 tm, .int .i64 vt, .int .i64 rl, .int .i64 ld, .int .i64 ti, .int .i64 vs, .slice ga es.length gc, .int .i64 cm, .slice na nl nc, .slice ma ml mc])] W2 := by rw [hβ1, hWC1]; exact hX
      have hm1 : (WC1, fun k => k < w.heap.size ∨ WA1.heap.size ≤ k) ∈ β1.bs := by rw [hβ1]; exact List.mem_cons_self
      have hβ1w : β1.w = w := by rw [hβ1]
      rw [← hWC1] at HE
      refine ⟨_, rfl, fun a hf => ?_⟩
      refine sv_mv hf rfl (by decide) (fun a hf => ?_)
      refine sv_ext hf rfl rfl (by decide) (fun a hf => ?_)
      refine sv_ext hf rfl rfl (by decide) (fun a hf => ?_)
      refine sv_alloc (zs := [.int .i64 0, .int .i64 0, .int .i64 0, .int .i64 0, .int .i64 0, .int .i64 0, .int .i64 0, .int .i64 0, .slice none 0 0, .int .i64 0, .slice none 0 0, .slice none 0 0]) hf hX zero_mem (by decide) (fun a C5 W hC hf hX => ?_)
      clear hC
      refine sv_sr hf hX rfl rfl 0 rfl rfl info_mem (fun v hv => List.all_eq_true.1 (show List.all [.int .i64 id, .int .i64 sz, .int .i64 tm, .int .i64 vt, .int .i64 rl, .int .i64 ld, .int .i64 ti, .int .i64 vs, .slice ga2 es.length gc2, .int .i64 cm, .slice na2 nl nc2, .slice ma2 ml mc2] (·.oneCell') = true from rfl) v hv) [(C5, [.int .i64 id, .int .i64 sz, .int .i64 tm, .int .i64 vt, .int .i64 rl, .int .i64 ld, .int .i64 ti, .int .i64 vs, .slice ga2 es.length gc2, .int .i64 cm, .slice na2 nl nc2, .slice ma2 ml mc2]), (C2, [.int .i64 xf, .int .i64 xto, .int .i64 xk, .int .i64 xt, .int .i64 xi, .int .i64 xl, .int .i64 xc, .slice ea el ec, .bool xok]), (C1, [.int .i64 id, .int .i64 sz, .int .i64 tm, .int .i64 vt, .int .i64 rl, .int .i64 ld, .int .i64 ti, .int .i64 vs, .slice ga es.length gc, .int .i64 cm, .slice na nl nc, .slice ma ml mc])] rfl (fun W hX => ?_)
      refine sv_as hf rfl (by decide) (fun a hf => ?_)
      replace hf := hf.sub (env' := [(6, .slice none 0 0), (5, .pointer (some ⟨C5, 0, none⟩)), (4, .bool false), (3, .pointer (some ⟨C2, 0, none⟩)), (2, .pointer (some ⟨C1, 0, none⟩))]) (sub_cons rfl (sub_cons rfl (sub_cons rfl (sub_cons rfl (sub_cons rfl (sub_nil))))))
      refine sv_nil hf ?_
      refine wp_seq ?_
      refine wp_region_lit ?_
      refine sv_lr hf hX rfl 2 rfl Try.underlying25 info_mem (by decide) (fun a hf => ?_)
      refine sv_lr hf hX rfl 1 rfl Try.underlying35 info_msg (by decide) (fun a hf => ?_)
      have hlw := hX.low
      rw [hβ1w] at hlw
      obtain ⟨WA2, hWA2⟩ : ∃ X, X = W := ⟨_, rfl⟩
      refine sv_call hf fnOK_20 rfl (rvote_none id sz tm vt rl ld ti vs ga es.length gc cm na nl nc ma ml mc xf xto xk xt xi xl xc ea el ec xok _ hk) (by decide) ?_
      rintro e W2 ⟨rfl, hb⟩
      replace hX := hX.made hb
      clear hb
      rw [← hWA2, hβ1w] at hX
      clear hlw
      obtain ⟨WC2, hWC2⟩ : ∃ X, X = W2 := ⟨_, rfl⟩
      obtain ⟨β2, hβ2⟩ : ∃ b : Base, b = ⟨w, (W2, fun k => k < w.heap.size ∨ WA2.heap.size ≤ k) :: β1.bs⟩ := ⟨_, rfl⟩
      rw [← hβ2] at hX
      have hm1' : (WC1, fun k => k < w.heap.size ∨ WA1.heap.size ≤ k) ∈ β2.bs := by rw [hβ2]; exact List.mem_cons_of_mem _ hm1
      have hm2 : (W2, fun k => k < w.heap.size ∨ WA2.heap.size ≤ k) ∈ β2.bs := by rw [hβ2]; exact List.mem_cons_self
      have hβ2w : β2.w = w := by rw [hβ2]
      rw [← hWC2] at hm2
      refine ⟨_, rfl, fun a hf => ?_⟩
      refine sv_mv hf rfl (by decide) (fun a hf => ?_)
      refine sv_ext hf rfl rfl (by decide) (fun a hf => ?_)
      refine sv_ext hf rfl rfl (by decide) (fun a hf => ?_)
      refine sv_alloc (zs := [.int .i64 0, .int .i64 0, .int .i64 0, .int .i64 0, .int .i64 0, .int .i64 0, .int .i64 0, .int .i64 0, .slice none 0 0, .int .i64 0, .slice none 0 0, .slice none 0 0]) hf hX zero_mem (by decide) (fun a C6 W hC hf hX => ?_)
      clear hC
      refine sv_sr hf hX rfl rfl 0 rfl rfl info_mem (fun v hv => List.all_eq_true.1 (show List.all [.int .i64 id, .int .i64 sz, .int .i64 tm, .int .i64 vt, .int .i64 rl, .int .i64 ld, .int .i64 ti, .int .i64 vs, .slice ga es.length gc, .int .i64 cm, .slice na nl nc, .slice ma ml mc] (·.oneCell') = true from rfl) v hv) [(C6, [.int .i64 id, .int .i64 sz, .int .i64 tm, .int .i64 vt, .int .i64 rl, .int .i64 ld, .int .i64 ti, .int .i64 vs, .slice ga es.length gc, .int .i64 cm, .slice na nl nc, .slice ma ml mc]), (C5, [.int .i64 id, .int .i64 sz, .int .i64 tm, .int .i64 vt, .int .i64 rl, .int .i64 ld, .int .i64 ti, .int .i64 vs, .slice ga2 es.length gc2, .int .i64 cm, .slice na2 nl nc2, .slice ma2 ml mc2]), (C2, [.int .i64 xf, .int .i64 xto, .int .i64 xk, .int .i64 xt, .int .i64 xi, .int .i64 xl, .int .i64 xc, .slice ea el ec, .bool xok]), (C1, [.int .i64 id, .int .i64 sz, .int .i64 tm, .int .i64 vt, .int .i64 rl, .int .i64 ld, .int .i64 ti, .int .i64 vs, .slice ga es.length gc, .int .i64 cm, .slice na nl nc, .slice ma ml mc])] rfl (fun W hX => ?_)
      refine sv_as hf rfl (by decide) (fun a hf => ?_)
      replace hf := hf.sub (env' := [(8, .slice none 0 0), (7, .pointer (some ⟨C6, 0, none⟩)), (6, .slice none 0 0), (5, .pointer (some ⟨C5, 0, none⟩)), (4, .bool false)]) (sub_cons rfl (sub_cons rfl (sub_cons rfl (sub_cons rfl (sub_cons rfl (sub_nil))))))
      refine sv_nil hf ?_
      refine wp_seq ?_
      refine wp_region_lit ?_
      refine sv_lr hf hX rfl 1 rfl Try.underlying25 info_mem (by decide) (fun a hf => ?_)
      refine sv_lr hf hX rfl 0 rfl Try.underlying25 info_mem (by decide) (fun a hf => ?_)
      obtain ⟨m, h8, h10, h11⟩ := HE.out
      refine sv_call hf fnOK_11 rfl (same_mem (EqC.symm _ _ _ _ (memEq hws (hX.later hm1' (fun k h => Or.inl h) (fun k h => Or.inr h) h8) (hX.later hm1' (fun k h => Or.inl h) (fun k h => Or.inr h) h10) (hX.later hm1' (fun k h => Or.inl h) (fun k h => Or.inr h) h11)))) (by decide) ?_
      rintro e W ⟨rfl, hb⟩
      replace hX := hX.keep hb
      clear hb
      refine ⟨_, rfl, fun a hf => ?_⟩
      refine sv_mv hf rfl (by decide) (fun a hf => ?_)
      refine sv_want hf rfl rfl ?_
      refine sv_mv hf rfl (by decide) (fun a hf => ?_)
      refine sv_want hf rfl rfl ?_
      refine sv_mv hf rfl (by decide) (fun a hf => ?_)
      refine sv_want hf rfl rfl ?_
      refine sv_call hf fnOK_21 rfl (msgs_nil _) (by decide) ?_
      rintro e W ⟨rfl, hb⟩
      replace hX := hX.keep hb
      clear hb
      refine ⟨_, rfl, fun a hf => ?_⟩
      refine sv_pk hf rfl rfl (by decide) (fun a hf => ?_)
      refine sv_mv hf rfl (by decide) (fun a hf => ?_)
      refine sv_want hf rfl rfl ?_
      refine sv_call hf fnOK_14 rfl (awake_any _) (by decide) ?_
      rintro e W ⟨rfl, hb⟩
      replace hX := hX.keep hb
      clear hb
      refine ⟨_, rfl, fun a hf => ?_⟩
      refine sv_pk hf rfl rfl (by decide) (fun a hf => ?_)
      refine sv_as hf rfl (by decide) (fun a hf => ?_)
      replace hf := hf.sub (env' := [(4, .bool true)]) (sub_cons rfl (sub_nil))
      refine sv_nil hf ?_
      refine wp_ret ?_
      try simp only [Exit.inBlock, Exit.then]
      exact bodyPost_ret (res_tmp (d := 4) (v := .bool true) rfl (hf.rel 4 _ rfl)) hf.defers ⟨rfl, (by have := hX.low; rw [hβ2w] at this; exact this)⟩
end Go.Proofs.Ytfpgklhbghahoaa
/- Election: a message that came in; a member that came in, with all that it reaches. -/
namespace Go.Proofs.Ytfpgklhbghahoaa
open Go.ChangeShapes Go.WideShapes Go.ChangeAt Go.RowKit Go.ChangeMaps Go.Joins Go.Deep
set_option linter.unusedVariables false
set_option linter.unusedSimpArgs false
set_option maxRecDepth 100000
section
variable {H : Type} {enc : TypeId × Value → H} {P : Program} {w : World} {base : Nat} {spare : Nat → Bool} {held : Bool}
theorem open_agg9 {r : Reach} {b0 : Nat} {t : TypeId} {f0 f1 f2 f3 f4 f5 f6 f7 f8 : Field} {v : Value} {d : DataW H} {p : List MemPlace} (hs : P.underlying t = some (.struct #[f0, f1, f2, f3, f4, f5, f6, f7, f8])) (hone : oneCellFields P #[f0, f1, f2, f3, f4, f5, f6, f7, f8] = true) (hC : P.cellsOf t = 9)
    (hv : Value.okWide P w r b0 t v) (h : DataW.Trod enc P w base spare held t v d p) :
    ∃ (v0 v1 v2 v3 v4 v5 v6 v7 v8 : Value) (y0 y1 y2 y3 y4 y5 y6 y7 y8 : DataW H × List MemPlace) (n : Nat), v = .agg #[v0, v1, v2, v3, v4, v5, v6, v7, v8] ∧ DataW.trod enc P w base spare held n f0.type [v0] = some y0 ∧ DataW.trod enc P w base spare held n f1.type [v1] = some y1 ∧ DataW.trod enc P w base spare held n f2.type [v2] = some y2 ∧ DataW.trod enc P w base spare held n f3.type [v3] = some y3 ∧ DataW.trod enc P w base spare held n f4.type [v4] = some y4 ∧ DataW.trod enc P w base spare held n f5.type [v5] = some y5 ∧ DataW.trod enc P w base spare held n f6.type [v6] = some y6 ∧ DataW.trod enc P w base spare held n f7.type [v7] = some y7 ∧ DataW.trod enc P w base spare held n f8.type [v8] = some y8 := by
  obtain ⟨cs, rfl, hsz⟩ := okWide_struct hs hv
  obtain ⟨l⟩ := cs
  match l, hsz.trans hC with
  | [c0, c1, c2, c3, c4, c5, c6, c7, c8], _ =>
    obtain ⟨fuel, hf⟩ := h
    obtain ⟨xs, n, _, hx, _, hlen, hg⟩ := DataW.trod_struct hs hf
    obtain ⟨o0, k0⟩ := hone_of hone 0 f0 rfl
    obtain ⟨o1, k1⟩ := hone_of hone 1 f1 rfl
    obtain ⟨o2, k2⟩ := hone_of hone 2 f2 rfl
    obtain ⟨o3, k3⟩ := hone_of hone 3 f3 rfl
    obtain ⟨o4, k4⟩ := hone_of hone 4 f4 rfl
    obtain ⟨o5, k5⟩ := hone_of hone 5 f5 rfl
    obtain ⟨o6, k6⟩ := hone_of hone 6 f6 rfl
    obtain ⟨o7, k7⟩ := hone_of hone 7 f7 rfl
    obtain ⟨o8, k8⟩ := hone_of hone 8 f8 rfl
    match xs, hlen with
    | [y0, y1, y2, y3, y4, y5, y6, y7, y8], _ =>
      exact ⟨c0, c1, c2, c3, c4, c5, c6, c7, c8, y0, y1, y2, y3, y4, y5, y6, y7, y8, n, rfl, by simpa [Value.cells, o0, k0] using hg 0 f0 rfl, by simpa [Value.cells, o1, k1] using hg 1 f1 rfl, by simpa [Value.cells, o2, k2] using hg 2 f2 rfl, by simpa [Value.cells, o3, k3] using hg 3 f3 rfl, by simpa [Value.cells, o4, k4] using hg 4 f4 rfl, by simpa [Value.cells, o5, k5] using hg 5 f5 rfl, by simpa [Value.cells, o6, k6] using hg 6 f6 rfl, by simpa [Value.cells, o7, k7] using hg 7 f7 rfl, by simpa [Value.cells, o8, k8] using hg 8 f8 rfl⟩
end
set_option maxRecDepth 100000 in
theorem msgArg_of {H : Type} {enc : TypeId × Value → H} {w : World} {v : Value} {d : DataW H} {ps : List MemPlace} {r : Reach} {b0 : Nat}
    (hv : Value.okWide Try.prog w r b0 35 v) (h : DataW.Trod enc Try.prog w 0 (fun _ => true) true 35 v d ps) : ∃ (xf xto xk xt xi xl xc : Int) (ea : Option Addr) (el ec : Nat) (xok : Bool), v = .agg #[.int .i64 xf, .int .i64 xto, .int .i64 xk, .int .i64 xt, .int .i64 xi, .int .i64 xl, .int .i64 xc, .slice ea el ec, .bool xok] ∧ (Lit.int .i64 xt).wf = true := by
  obtain ⟨v0, v1, v2, v3, v4, v5, v6, v7, v8, y0, y1, y2, y3, y4, y5, y6, y7, y8, n, rfl, t0, t1, t2, t3, t4, t5, t6, t7, t8⟩ := open_agg9 Try.underlying35 (by kernel_rfl) (by kernel_rfl) hv h
  obtain ⟨s0, e0, _, g0⟩ := DataW.trod_int Try.underlying3 t0
  obtain rfl := (List.cons.inj e0).1
  obtain ⟨s1, e1, _, g1⟩ := DataW.trod_int Try.underlying3 t1
  obtain rfl := (List.cons.inj e1).1
  obtain ⟨s2, e2, _, g2⟩ := DataW.trod_int Try.underlying3 t2
  obtain rfl := (List.cons.inj e2).1
  obtain ⟨s3, e3, _, g3⟩ := DataW.trod_int Try.underlying3 t3
  obtain rfl := (List.cons.inj e3).1
  obtain ⟨s4, e4, _, g4⟩ := DataW.trod_int Try.underlying3 t4
  obtain rfl := (List.cons.inj e4).1
  obtain ⟨s5, e5, _, g5⟩ := DataW.trod_int Try.underlying3 t5
  obtain rfl := (List.cons.inj e5).1
  obtain ⟨s6, e6, _, g6⟩ := DataW.trod_int Try.underlying3 t6
  obtain rfl := (List.cons.inj e6).1
  obtain ⟨b, eb, _⟩ := DataW.trod_bool Try.underlying4 t8
  obtain rfl := (List.cons.inj eb).1
  rcases DataW.trod_slice Try.underlying22 t7 with ⟨hcs, _⟩ | ⟨a, len, cap, el, re, n', _, hcs, _⟩
  · obtain rfl := (List.cons.inj hcs).1
    exact ⟨s0, s1, s2, s3, s4, s5, s6, none, 0, 0, b, rfl, g3⟩
  · obtain rfl := (List.cons.inj hcs).1
    exact ⟨s0, s1, s2, s3, s4, s5, s6, _, _, _, b, rfl, g3⟩
def tysM : List TypeId := 25 :: tysE
theorem tysM_closed : closedB Try.prog tysM = true := by kernel_rfl
theorem goodM_of {H : Type} {enc : TypeId × Value → H} {w : World} {cs : List Value} {d : DataW H} {ps : List MemPlace} (h : DataW.Trod enc Try.prog w 0 (fun _ => true) true 25 (.agg cs.toArray) d ps) (hw : (d.weights Try.prog 25).all (· ≤ reachBytes) = true) : ∃ n, GoodC Try.prog w n 25 cs := by
  obtain ⟨fuel, hf⟩ := h
  have hf' : DataW.trod enc Try.prog w 0 (fun _ => true) true fuel 25 cs = some (d, ps) := by simpa [Value.cells] using hf
  exact ⟨fuel, goodC_of tysM tysM_closed fuel _ (by decide) cs (d, ps) hf' hw⟩
/-- a member that came in, by letters -/
theorem memIn {H : Type} {enc : TypeId × Value → H} {w : World} {v : Value} {d : DataW H} {ps : List MemPlace} {r : Reach} {b0 : Nat} (hv : Value.okWide Try.prog w r b0 25 v) (h : DataW.Trod enc Try.prog w 0 (fun _ => true) true 25 v d ps) (hw : (d.weights Try.prog 25).all (· ≤ reachBytes) = true) :
    ∃ (n : Nat) (id sz tm vt rl ld ti vs : Int) (ga : Option Addr) (gc : Nat) (es : List (List Value)) (cm : Int) (na : Option Addr) (nl nc : Nat) (ma : Option Addr) (ml mc : Nat) (xs ys : List Int), v = mem id sz tm vt rl ld ti vs (.slice ga es.length gc) cm (.slice na nl nc) (.slice ma ml mc) ∧ EntArg w (.slice ga es.length gc) es ∧ IntsIn w (.slice na nl nc) xs ∧ IntsIn w (.slice ma ml mc) ys ∧ GoodC Try.prog w n 25 (memL id sz tm vt rl ld ti vs (.slice ga es.length gc) cm (.slice na nl nc) (.slice ma ml mc)) := by
  obtain ⟨es, id, sz, tm, vt, rl, ld, ti, vs, lg, cm, nx, mt, rfl, he, hn, hm, _, _⟩ := memArg_of hv h
  obtain ⟨ga, gc, rfl⟩ := he.len
  obtain ⟨na, nl, nc, rfl, _⟩ := hn.len
  obtain ⟨ma, ml, mc, rfl, _⟩ := hm.len
  obtain ⟨xs, hX⟩ := hn.ints
  obtain ⟨ys, hY⟩ := hm.ints
  obtain ⟨n, hg⟩ := goodM_of (cs := memL id sz tm vt rl ld ti vs (.slice ga es.length gc) cm (.slice na nl nc) (.slice ma ml mc)) h hw
  exact ⟨n, id, sz, tm, vt, rl, ld, ti, vs, ga, gc, es, cm, na, nl, nc, ma, ml, mc, xs, ys, rfl, he, hX, hY, hg⟩
end Go.Proofs.Ytfpgklhbghahoaa
/- The step from a law's contract to its row, where the law only makes memory; whatever the parameters' types. -/
namespace Go.Proofs.Ytfpgklhbghahoaa
open Go.RowKit Go.WideShapes Go.ChangeShapes
section
variable {H : Type} {enc : TypeId × Value → H} {P : Program}
theorem post_of_below2 {f : Func} {s : ChangeSpec} {apart fresh handsOn again : Bool} {W W' : World} {args : Array Value} {v : Value} {ds gs : List (DataW H)} {before pa pv : List MemPlace}
    (hW : DataW.Whole enc P f.params.toList s.vars apart W args.toList ds gs before)
    (hres : ∀ (b : Nat) (sp : Nat → Bool) (hd : Bool), DataW.TrodAll enc P W' b sp hd f.resultTypes.toList (v.resultList f.resultTypes.size) (s.fn H (ds ++ gs)).results [])
    (hargs : ∀ sp : Nat → Bool, (∀ p ∈ before, sp p.block = true) → DataW.TrodAll enc P W' 0 sp true f.params.toList args.toList (s.fn H (ds ++ gs)).args pa)
    (hvars : ∀ sp : Nat → Bool, (∀ p ∈ before, sp p.block = true) → DataW.TrodVars enc P W' sp s.vars (s.fn H (ds ++ gs)).vars pv)
    (hps : before = pa ++ pv) (hb : Below W.heap.size W W')
    (hok : ∀ (j : Nat) (t : TypeId) (r : Value), f.resultTypes[j]? = some t → (v.resultList f.resultTypes.size)[j]? = some r → Value.okWide P W' .any 0 t r) :
    s.post enc P f apart fresh handsOn again W args v W' := by
  have hlt : ∀ p ∈ before, p.block < W.heap.size := fun p hp => hW.lt p hp
  have hold : ∀ p ∈ before, (fun b => decide (b < W.heap.size)) p.block = true := fun p hp => by simpa using hlt p hp
  refine ⟨ds, gs, before, [], pa, pv, hW, hres _ _ _, hargs _ hold, hvars _ hold, World.keptBut_mono (fun p hp => ⟨hp, ?_⟩) (hb.frame (· ∈ before)), fun _ => ?_⟩
  · rw [hps, List.mem_append] at hp
    exact Or.inr hp
  · obtain ⟨_, _, _, _, _, hz, hn⟩ := hW
    refine ⟨hok, _, _, ([] ++ pa) ++ pv, ⟨[] ++ pa, pv, trodAll_append (hargs _ (fun _ _ => rfl)) (hres _ _ _), hvars _ (fun _ _ => rfl), rfl, ?_, ?_⟩, ?_⟩
    · intro b off hp
      have hin : MemPlace.cell b off ∈ before := by rw [hps]; simpa using hp
      rw [hb.frozen (hlt _ hin)]
      exact hz b off hin
    · intro ha
      have := hn ha
      rw [hps] at this
      simpa using this
    · intro p hp _
      rw [hps]
      simpa using hp
end

section
variable {H : Type} {enc : TypeId × Value → H} {P : Program}
theorem trodAll_stays (hl : laidOutB P = true) {W W' : World} {sp : Nat → Bool} (hb : Below W.heap.size W W') :
    ∀ (ts : List TypeId) (vs : List Value) (ds : List (DataW H)) (ps : List MemPlace), ts.all (fun t => P.readableRec t && decide (t < P.types.size)) = true →
      DataW.TrodAll enc P W 0 (fun _ => true) true ts vs ds ps → (∀ p ∈ ps, p.block < W.heap.size) → (∀ p ∈ ps, sp p.block = true) → DataW.TrodAll enc P W' 0 sp true ts vs ds ps
  | [], vs, ds, ps, _, h, _, _ => by
    obtain ⟨rfl, rfl, rfl⟩ := trodAll_nil h
    exact trodAll_mk0
  | t :: ts, vs, ds, ps, ha, h, hlt, hs => by
    obtain ⟨v, vs', d, ds', p, q, rfl, rfl, rfl, h1, h2⟩ := trodAll_cons h
    simp only [List.all_cons, Bool.and_eq_true, decide_eq_true_eq] at ha
    exact trodAll_cons_mk (WideElems.Trod_stays hl ha.1.1 ha.1.2 h1 (fun x hx => hb.same (hlt x (List.mem_append_left _ hx))) (fun x hx => hs x (List.mem_append_left _ hx)))
      (trodAll_stays hl hb ts vs' ds' q ha.2 h2 (fun x hx => hlt x (List.mem_append_right _ hx)) (fun x hx => hs x (List.mem_append_right _ hx)))
/-- a law that returned true and only made memory meets its row -/
theorem post_law {f : Func} {s : ChangeSpec} {apart fresh handsOn again : Bool} {W W' : World} {args : Array Value} {ds gs : List (DataW H)} {before : List MemPlace} {T : TypeId}
    (hl : laidOutB P = true) (hp : f.params.toList.all (fun t => P.readableRec t && decide (t < P.types.size)) = true) (hv : s.vars = [])
    (hW : DataW.Whole enc P f.params.toList s.vars apart W args.toList ds gs before)
    (hfn : s.fn H ds = { results := [.lit (.bool true)], args := ds }) (hrt : f.resultTypes = #[T]) (hT : P.underlying T = some .bool) (hb : Below W.heap.size W W') :
    s.post enc P f apart fresh handsOn again W args (.bool true) W' := by
  have hW' := hW
  have hlt : ∀ p ∈ before, p.block < W.heap.size := fun p hp => hW.lt p hp
  obtain ⟨p, q, hA, hV, hpq, _, _⟩ := hW
  rw [hv] at hV
  obtain ⟨rfl, rfl⟩ := trodVars_none hV
  rw [List.append_nil] at hpq
  subst hpq
  have hfn' : s.fn H (ds ++ []) = { results := [.lit (.bool true)], args := ds } := by rw [List.append_nil]; exact hfn
  refine post_of_below2 (pa := before) (pv := []) hW' ?_ ?_ ?_ (by simp) hb ?_
  · intro b sp hd
    rw [hfn', hrt]
    exact trodAll_cons_mk (shut_bool hT _) trodAll_mk0
  · intro sp hsp
    rw [hfn']
    exact trodAll_stays hl hb _ _ _ _ hp hA hlt hsp
  · intro sp hsp
    rw [hfn', hv]
    rfl
  · exact ok_one hrt rfl (okWide_bool_mk hT _)
end
end Go.Proofs.Ytfpgklhbghahoaa
