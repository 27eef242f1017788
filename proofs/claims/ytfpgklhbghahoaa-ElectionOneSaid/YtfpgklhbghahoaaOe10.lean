/- Merged texts: Eh12, Eh13, Eh14, Eh15, Eh16. -/
import Derived.Test.YtfpgklhbghahoaaOe9
/- Election: Vote. -/
namespace Go.Proofs.Ytfpgklhbghahoaa
open Go.ChangeShapes Go.WideShapes Go.ChangeAt Go.RowKit Go.ChangeMaps Go.Joins Go.Deep
set_option linter.unusedVariables false
set_option linter.unusedSimpArgs false
set_option maxRecDepth 100000
theorem vote_any (n : Nat) (id sz tm vt rl ld ti vs : Int) (ga : Option Addr) (gl gc : Nat) (cm : Int) (na : Option Addr) (nl nc : Nat) (ma : Option Addr) (ml mc : Nat) (xf xto xk xt xi xl xc : Int) (ea : Option Addr) (el ec : Nat) (xok : Bool) (lt : Int) (W0 w : World) (hb0 : Below W0.heap.size W0 w) (hg : GoodC Try.prog W0 n 25 (memL id sz tm vt rl ld ti vs (.slice ga gl gc) cm (.slice na nl nc) (.slice ma ml mc))) (hlt : LastAt w (.slice ga gl gc) lt) (h0 : 0 ≤ id) (h7 : id ≤ 7) (hxk : xk = 1) (gr : Bool) (hgr : gr = grantB xt xf (fTm tm xt) (fVt tm xt vt) (newB xl xi lt gl)) :
    Calls Try.prog 19 #[mem id sz tm vt rl ld ti vs (.slice ga gl gc) cm (.slice na nl nc) (.slice ma ml mc), .agg #[.int .i64 xf, .int .i64 xto, .int .i64 xk, .int .i64 xt, .int .i64 xi, .int .i64 xl, .int .i64 xc, .slice ea el ec, .bool xok]] w fun e w' => ∃ ga2 gc2 na2 nc2 ma2 mc2 G, e = .returned (.tuple #[mem id sz (fTm tm xt) (if gr then xf else fVt tm xt vt) (fRl tm xt rl) (fLd tm xt ld) (if gr then 10 + 3 * id else fTi tm xt rl ti id) (fVs tm xt vs) (.slice ga2 gl gc2) cm (.slice (fA tm xt na2) (fN tm xt nl) (fN tm xt nc2)) (.slice (fA tm xt ma2) (fN tm xt ml) (fN tm xt mc2)), .slice (some ⟨G, 0, none⟩) 1 1]) ∧ (∃ m, EqC Try.prog w' w' (fun k => k < W0.heap.size) (fun k => w.heap.size ≤ k) (m + 1) 22 [.slice ga gl gc] [.slice ga2 gl gc2] ∧ EqC Try.prog w' w' (fun k => k < W0.heap.size) (fun k => w.heap.size ≤ k) (m + 1) 23 [.slice na nl nc] [.slice na2 nl nc2] ∧ EqC Try.prog w' w' (fun k => k < W0.heap.size) (fun k => w.heap.size ≤ k) (m + 1) 23 [.slice ma ml mc] [.slice ma2 ml mc2]) ∧ Box w' G [.int .i64 id, .int .i64 xf, .int .i64 2, .int .i64 (fTm tm xt), .int .i64 0, .int .i64 0, .int .i64 0, .slice none 0 0, .bool gr] ∧ w.heap.size ≤ G ∧ Below w.heap.size w w' := by
  obtain ⟨nw, hnw⟩ : ∃ b, b = newB xl xi lt gl := ⟨_, rfl⟩
  rw [← hnw] at hgr
  subst hxk
  refine calls_frv (N := 80) (vs := [.agg #[.int .i64 id, .int .i64 sz, .int .i64 tm, .int .i64 vt, .int .i64 rl, .int .i64 ld, .int .i64 ti, .int .i64 vs, .slice ga gl gc, .int .i64 cm, .slice na nl nc, .slice ma ml mc], .agg #[.int .i64 xf, .int .i64 xto, .int .i64 1, .int .i64 xt, .int .i64 xi, .int .i64 xl, .int .i64 xc, .slice ea el ec, .bool xok]]) [(0, .agg #[.int .i64 id, .int .i64 sz, .int .i64 tm, .int .i64 vt, .int .i64 rl, .int .i64 ld, .int .i64 ti, .int .i64 vs, .slice ga gl gc, .int .i64 cm, .slice na nl nc, .slice ma ml mc]), (1, .agg #[.int .i64 xf, .int .i64 xto, .int .i64 1, .int .i64 xt, .int .i64 xi, .int .i64 xl, .int .i64 xc, .slice ea el ec, .bool xok])] Try.func19 rfl rfl (of_decide_eq_true rfl) (fun p hp => by simp only [List.mem_cons, List.not_mem_nil, or_false] at hp; rcases hp with rfl | rfl <;> rfl) (fun a hf => ?_)
  have hX := Bx.start w
  refine wp_seq ?_
  refine wp_region_lit ?_
  refine sv_box hf hX rfl (by decide) (fun a C1 W hC hf hX hA => ?_)
  clear hC hA
  refine sv_box hf hX rfl (by decide) (fun a C2 W hC hf hX hA => ?_)
  clear hC hA
  refine sv_alloc (zs := [.int .i64 0, .int .i64 0, .int .i64 0, .int .i64 0, .int .i64 0, .int .i64 0, .int .i64 0, .int .i64 0, .slice none 0 0, .int .i64 0, .slice none 0 0, .slice none 0 0]) hf hX zero_mem (by decide) (fun a C3 W hC hf hX hA => ?_)
  clear hC hA
  refine sv_ac hf (by decide) (fun a hf => ?_)
  replace hf := hf.sub (env' := [(5, .slice none 0 0), (4, .pointer (some ⟨C3, 0, none⟩)), (3, .pointer (some ⟨C2, 0, none⟩)), (2, .pointer (some ⟨C1, 0, none⟩))]) (sub_cons rfl (sub_cons rfl (sub_cons rfl (sub_cons rfl (sub_nil)))))
  refine sv_nil hf ?_
  refine wp_seq ?_
  refine wp_region_lit ?_
  refine sv_lr hf hX rfl 2 rfl Try.underlying25 info_mem (by decide) (fun a hf => ?_)
  have hsA : w.heap.size ≤ W.heap.size := hX.low.size
  obtain ⟨WA, hWA⟩ : ∃ X, X = W := ⟨_, rfl⟩
  rw [← hWA] at hsA
  refine sv_call hf fnOK_36 rfl (copyMember_let n _ _ _ _ _ _ _ _ _ _ _ _ _ _ _ _ _ _ W0 W (hb0.trans (hX.low.mono hb0.size)) hg) (by decide) ?_
  rintro e W2 ⟨ga2, gc2, na2, nc2, ma2, mc2, rfl, hE, hb⟩
  replace hX := hX.made hb
  clear hb
  rw [← hWA] at hE hX
  have HE := Lib.hid hE
  clear hE
  refine ⟨_, rfl, fun a hf => ?_⟩
  obtain ⟨WC, hWC⟩ : ∃ X, X = W2 := ⟨_, rfl⟩
  rw [← hWC] at HE hX
  obtain ⟨β, hβ⟩ : ∃ b : Base, b = ⟨w, [(WC, fun k => k < w.heap.size ∨ WA.heap.size ≤ k)]⟩ := ⟨_, rfl⟩
  replace hX : Bx β [(C3, [.int .i64 0, .int .i64 0, .int .i64 0, .int .i64 0, .int .i64 0, .int .i64 0, .int .i64 0, .int .i64 0, .slice none 0 0, .int .i64 0, .slice none 0 0, .slice none 0 0]), (C2, [.int .i64 xf, .int .i64 xto, .int .i64 1, .int .i64 xt, .int .i64 xi, .int .i64 xl, .int .i64 xc, .slice ea el ec, .bool xok]), (C1, [.int .i64 id, .int .i64 sz, .int .i64 tm, .int .i64 vt, .int .i64 rl, .int .i64 ld, .int .i64 ti, .int .i64 vs, .slice ga gl gc, .int .i64 cm, .slice na nl nc, .slice ma ml mc])] W2 := by rw [hWC] at hX; rw [hβ, hWC]; exact hX
  have hmem : (WC, fun k => k < w.heap.size ∨ WA.heap.size ≤ k) ∈ β.bs := by rw [hβ]; exact List.mem_cons_self
  refine sv_sr hf hX rfl rfl 2 rfl rfl info_mem (fun v hv => List.all_eq_true.1 (show List.all [.int .i64 id, .int .i64 sz, .int .i64 tm, .int .i64 vt, .int .i64 rl, .int .i64 ld, .int .i64 ti, .int .i64 vs, .slice ga2 gl gc2, .int .i64 cm, .slice na2 nl nc2, .slice ma2 ml mc2] (·.oneCell') = true from rfl) v hv) [(C3, [.int .i64 0, .int .i64 0, .int .i64 0, .int .i64 0, .int .i64 0, .int .i64 0, .int .i64 0, .int .i64 0, .slice none 0 0, .int .i64 0, .slice none 0 0, .slice none 0 0]), (C2, [.int .i64 xf, .int .i64 xto, .int .i64 1, .int .i64 xt, .int .i64 xi, .int .i64 xl, .int .i64 xc, .slice ea el ec, .bool xok]), (C1, [.int .i64 id, .int .i64 sz, .int .i64 tm, .int .i64 vt, .int .i64 rl, .int .i64 ld, .int .i64 ti, .int .i64 vs, .slice ga2 gl gc2, .int .i64 cm, .slice na2 nl nc2, .slice ma2 ml mc2])] rfl (fun W hX hO => ?_)
  clear hO
  replace hf := hf.sub (env' := [(5, .slice none 0 0), (4, .pointer (some ⟨C3, 0, none⟩)), (3, .pointer (some ⟨C2, 0, none⟩)), (2, .pointer (some ⟨C1, 0, none⟩))]) (sub_cons rfl (sub_cons rfl (sub_cons rfl (sub_cons rfl (sub_nil)))))
  refine sv_nil hf ?_
  refine wp_seq ?_
  refine wp_seq ?_
  refine wp_region_lit ?_
  refine sv_fld hf rfl Try.underlying35 rfl sz_int (2) rfl (by decide) (fun a hf => ?_)
  refine sv_lc hf hX rfl 1 rfl rfl Try.underlying3 rfl (by decide) (fun a hf => ?_)
  refine sv_cmp hf rfl rfl false (congrArg some (by rw [decide_eq_true rfl]; rfl)) (by decide) (fun a hf => ?_)
  replace hf := hf.sub (env' := [(14, .bool false), (5, .slice none 0 0), (4, .pointer (some ⟨C3, 0, none⟩)), (3, .pointer (some ⟨C2, 0, none⟩)), (2, .pointer (some ⟨C1, 0, none⟩))]) (sub_cons rfl (sub_cons rfl (sub_cons rfl (sub_cons rfl (sub_cons rfl (sub_nil))))))
  refine sv_nil hf ?_
  refine wp_cond_false (hf.rel _ _ rfl) ?_
  refine wp_skip ?_
  refine wp_seq ?_
  refine wp_region_lit ?_
  refine sv_lr hf hX rfl 2 rfl Try.underlying25 info_mem (by decide) (fun a hf => ?_)
  refine sv_fld hf rfl Try.underlying35 rfl sz_int (3) rfl (by decide) (fun a hf => ?_)
  refine sv_lc hf hX rfl 1 rfl rfl Try.underlying3 rfl (by decide) (fun a hf => ?_)
  refine sv_call hf fnOK_37 rfl (follow_let _ _ _ _ _ _ _ _ _ _ _ _ _ _ _ _ _ _ _ _ h0 h7) (by decide) ?_
  rintro e W ⟨rfl, hb⟩
  replace hX := hX.keep hb
  clear hb
  refine ⟨_, rfl, fun a hf => ?_⟩
  refine sv_sr hf hX rfl rfl 2 rfl rfl info_mem (fun v hv => List.all_eq_true.1 (show List.all [.int .i64 id, .int .i64 sz, .int .i64 (fTm tm xt), .int .i64 (fVt tm xt vt), .int .i64 (fRl tm xt rl), .int .i64 (fLd tm xt ld), .int .i64 (fTi tm xt rl ti id), .int .i64 (fVs tm xt vs), .slice ga2 gl gc2, .int .i64 cm, .slice (fA tm xt na2) (fN tm xt nl) (fN tm xt nc2), .slice (fA tm xt ma2) (fN tm xt ml) (fN tm xt mc2)] (·.oneCell') = true from rfl) v hv) [(C3, [.int .i64 0, .int .i64 0, .int .i64 0, .int .i64 0, .int .i64 0, .int .i64 0, .int .i64 0, .int .i64 0, .slice none 0 0, .int .i64 0, .slice none 0 0, .slice none 0 0]), (C2, [.int .i64 xf, .int .i64 xto, .int .i64 1, .int .i64 xt, .int .i64 xi, .int .i64 xl, .int .i64 xc, .slice ea el ec, .bool xok]), (C1, [.int .i64 id, .int .i64 sz, .int .i64 (fTm tm xt), .int .i64 (fVt tm xt vt), .int .i64 (fRl tm xt rl), .int .i64 (fLd tm xt ld), .int .i64 (fTi tm xt rl ti id), .int .i64 (fVs tm xt vs), .slice ga2 gl gc2, .int .i64 cm, .slice (fA tm xt na2) (fN tm xt nl) (fN tm xt nc2), .slice (fA tm xt ma2) (fN tm xt ml) (fN tm xt mc2)])] rfl (fun W hX hO => ?_)
  clear hO
  replace hf := hf.sub (env' := [(5, .slice none 0 0), (4, .pointer (some ⟨C3, 0, none⟩)), (3, .pointer (some ⟨C2, 0, none⟩)), (2, .pointer (some ⟨C1, 0, none⟩))]) (sub_cons rfl (sub_cons rfl (sub_cons rfl (sub_cons rfl (sub_nil)))))
  refine sv_nil hf ?_
  refine wp_seq ?_
  refine wp_region_lit ?_
  refine sv_fld hf rfl Try.underlying25 rfl sz_ents (8) rfl (by decide) (fun a hf => ?_)
  refine sv_lc hf hX rfl 2 rfl rfl Try.underlying22 rfl (by decide) (fun a hf => ?_)
  refine sv_call hf fnOK_38 rfl (lastTerm_any _ lt _ (by obtain ⟨m, _, h8, _, _⟩ := HE.out; exact last_copy (hX.later hmem (fun k h => Or.inl (Nat.lt_of_lt_of_le h hb0.size)) (fun k h => Or.inr h) h8) (hlt.below (by have := hX.low; rw [hβ] at this; exact this)))) (by decide) ?_
  rintro e W' ⟨rfl, hw⟩
  subst hw
  refine ⟨_, rfl, fun a hf => ?_⟩
  refine sv_as hf rfl (by decide) (fun a hf => ?_)
  replace hf := hf.sub (env' := [(6, .int .i64 lt), (5, .slice none 0 0), (4, .pointer (some ⟨C3, 0, none⟩)), (3, .pointer (some ⟨C2, 0, none⟩)), (2, .pointer (some ⟨C1, 0, none⟩))]) (sub_cons rfl (sub_cons rfl (sub_cons rfl (sub_cons rfl (sub_cons rfl (sub_nil))))))
  refine sv_nil hf ?_
  refine wp_seq ?_
  refine wp_meet_region (fun a X => FrV 80 [(7, .bool nw), (5, .slice none 0 0), (4, .pointer (some ⟨C3, 0, none⟩)), (3, .pointer (some ⟨C2, 0, none⟩)), (2, .pointer (some ⟨C1, 0, none⟩))] a ∧ Bx β [(C3, [.int .i64 0, .int .i64 0, .int .i64 0, .int .i64 0, .int .i64 0, .int .i64 0, .int .i64 0, .int .i64 0, .slice none 0 0, .int .i64 0, .slice none 0 0, .slice none 0 0]), (C2, [.int .i64 xf, .int .i64 xto, .int .i64 1, .int .i64 xt, .int .i64 xi, .int .i64 xl, .int .i64 xc, .slice ea el ec, .bool xok]), (C1, [.int .i64 id, .int .i64 sz, .int .i64 (fTm tm xt), .int .i64 (fVt tm xt vt), .int .i64 (fRl tm xt rl), .int .i64 (fLd tm xt ld), .int .i64 (fTi tm xt rl ti id), .int .i64 (fVs tm xt vs), .slice ga2 gl gc2, .int .i64 cm, .slice (fA tm xt na2) (fN tm xt nl) (fN tm xt nc2), .slice (fA tm xt ma2) (fN tm xt ml) (fN tm xt mc2)])] X) (fun K hK => ?_) (fun a W hJ => ?_)
  ·
    refine wp_region_lit ?_
    refine sv_fld hf rfl Try.underlying35 rfl sz_int (5) rfl (by decide) (fun a hf => ?_)
    refine sv_lc hf hX rfl 1 rfl rfl Try.underlying3 rfl (by decide) (fun a hf => ?_)
    refine sv_mv hf rfl (by decide) (fun a hf => ?_)
    rcases Decidable.em (lt < xl) with h4 | h4
    ·
      refine sv_cmp hf rfl rfl true (congrArg some (decide_eq_true h4)) (by decide) (fun a hf => ?_)
      refine sv_mv hf rfl (by decide) (fun a hf => ?_)
      refine sv_skip1 hf rfl rfl (by decide) (by decide) (fun a hf => ?_)
      refine sv_skip1 hf rfl rfl (by decide) (by decide) (fun a hf => ?_)
      refine sv_skip1 hf rfl rfl (by decide) (by decide) (fun a hf => ?_)
      refine sv_skip1 hf rfl rfl (by decide) (by decide) (fun a hf => ?_)
      refine sv_skip1 hf rfl rfl (by decide) (by decide) (fun a hf => ?_)
      refine sv_skip2 hf rfl rfl (by decide) (fun a hf => ?_)
      refine sv_skip2 hf rfl rfl (by decide) (fun a hf => ?_)
      refine sv_skip2 hf rfl rfl (by decide) (fun a hf => ?_)
      refine sv_skip2 hf rfl rfl (by decide) (fun a hf => ?_)
      refine sv_skip2 hf rfl rfl (by decide) (fun a hf => ?_)
      refine sv_skip2 hf rfl rfl (by decide) (fun a hf => ?_)
      refine sv_skip1 hf rfl rfl (by decide) (by decide) (fun a hf => ?_)
      refine sv_pk hf rfl rfl (by decide) (fun a hf => ?_)
      refine sv_as hf rfl (by decide) (fun a hf => ?_)
      replace hf := hf.sub (env' := [(7, .bool true), (5, .slice none 0 0), (4, .pointer (some ⟨C3, 0, none⟩)), (3, .pointer (some ⟨C2, 0, none⟩)), (2, .pointer (some ⟨C1, 0, none⟩))]) (sub_cons rfl (sub_cons rfl (sub_cons rfl (sub_cons rfl (sub_cons rfl (sub_nil))))))
      refine sv_nil hf ?_
      exact hK _ _ ⟨hf.sub (sub_cons (congrArg some (congrArg Value.bool (show true = nw by rw [hnw]; unfold newB; simp only [decide_eq_true h4]; first | done | rfl | simp))) (sub_cons rfl (sub_cons rfl (sub_cons rfl (sub_cons rfl (sub_nil)))))), hX⟩
    ·
      refine sv_cmp hf rfl rfl false (congrArg some (decide_eq_false h4)) (by decide) (fun a hf => ?_)
      refine sv_mv hf rfl (by decide) (fun a hf => ?_)
      refine sv_want hf rfl rfl ?_
      refine sv_fld hf rfl Try.underlying35 rfl sz_int (5) rfl (by decide) (fun a hf => ?_)
      refine sv_want hf rfl rfl ?_
      refine sv_lc hf hX rfl 1 rfl rfl Try.underlying3 rfl (by decide) (fun a hf => ?_)
      refine sv_want hf rfl rfl ?_
      refine sv_mv hf rfl (by decide) (fun a hf => ?_)
      refine sv_want hf rfl rfl ?_
      rcases Decidable.em (xl = lt) with h5 | h5
      ·
        refine sv_cmp hf rfl rfl true (congrArg some (decide_eq_true h5)) (by decide) (fun a hf => ?_)
        refine sv_want hf rfl rfl ?_
        refine sv_mv hf rfl (by decide) (fun a hf => ?_)
        refine sv_want hf rfl rfl ?_
        refine sv_fld hf rfl Try.underlying35 rfl sz_int (4) rfl (by decide) (fun a hf => ?_)
        refine sv_want hf rfl rfl ?_
        refine sv_lc hf hX rfl 1 rfl rfl Try.underlying3 rfl (by decide) (fun a hf => ?_)
        refine sv_want hf rfl rfl ?_
        refine sv_fld hf rfl Try.underlying25 rfl sz_ents (8) rfl (by decide) (fun a hf => ?_)
        refine sv_want hf rfl rfl ?_
        refine sv_lc hf hX rfl 2 rfl rfl Try.underlying22 rfl (by decide) (fun a hf => ?_)
        refine sv_want hf rfl rfl ?_
        refine sv_len hf rfl Try.underlying22 (by decide) (fun a hf => ?_)
        refine sv_want hf rfl rfl ?_
        rcases Decidable.em (((gl : Nat) : Int) ≤ xi) with h6 | h6
        ·
          refine sv_cmp hf rfl rfl true (congrArg some (decide_eq_true h6)) (by decide) (fun a hf => ?_)
          refine sv_want hf rfl rfl ?_
          refine sv_pk hf rfl rfl (by decide) (fun a hf => ?_)
          refine sv_pk hf rfl rfl (by decide) (fun a hf => ?_)
          refine sv_as hf rfl (by decide) (fun a hf => ?_)
          replace hf := hf.sub (env' := [(7, .bool true), (5, .slice none 0 0), (4, .pointer (some ⟨C3, 0, none⟩)), (3, .pointer (some ⟨C2, 0, none⟩)), (2, .pointer (some ⟨C1, 0, none⟩))]) (sub_cons rfl (sub_cons rfl (sub_cons rfl (sub_cons rfl (sub_cons rfl (sub_nil))))))
          refine sv_nil hf ?_
          exact hK _ _ ⟨hf.sub (sub_cons (congrArg some (congrArg Value.bool (show true = nw by rw [hnw]; unfold newB; simp only [decide_eq_false h4, decide_eq_true h5, decide_eq_true h6]; first | done | rfl | simp))) (sub_cons rfl (sub_cons rfl (sub_cons rfl (sub_cons rfl (sub_nil)))))), hX⟩
        ·
          refine sv_cmp hf rfl rfl false (congrArg some (decide_eq_false h6)) (by decide) (fun a hf => ?_)
          refine sv_want hf rfl rfl ?_
          refine sv_pk hf rfl rfl (by decide) (fun a hf => ?_)
          refine sv_pk hf rfl rfl (by decide) (fun a hf => ?_)
          refine sv_as hf rfl (by decide) (fun a hf => ?_)
          replace hf := hf.sub (env' := [(7, .bool false), (5, .slice none 0 0), (4, .pointer (some ⟨C3, 0, none⟩)), (3, .pointer (some ⟨C2, 0, none⟩)), (2, .pointer (some ⟨C1, 0, none⟩))]) (sub_cons rfl (sub_cons rfl (sub_cons rfl (sub_cons rfl (sub_cons rfl (sub_nil))))))
          refine sv_nil hf ?_
          exact hK _ _ ⟨hf.sub (sub_cons (congrArg some (congrArg Value.bool (show false = nw by rw [hnw]; unfold newB; simp only [decide_eq_false h4, decide_eq_true h5, decide_eq_false h6]; first | done | rfl | simp))) (sub_cons rfl (sub_cons rfl (sub_cons rfl (sub_cons rfl (sub_nil)))))), hX⟩
      ·
        refine sv_cmp hf rfl rfl false (congrArg some (decide_eq_false h5)) (by decide) (fun a hf => ?_)
        refine sv_want hf rfl rfl ?_
        refine sv_mv hf rfl (by decide) (fun a hf => ?_)
        refine sv_skip1 hf rfl rfl (by decide) (by decide) (fun a hf => ?_)
        refine sv_skip1 hf rfl rfl (by decide) (by decide) (fun a hf => ?_)
        refine sv_skip1 hf rfl rfl (by decide) (by decide) (fun a hf => ?_)
        refine sv_skip1 hf rfl rfl (by decide) (by decide) (fun a hf => ?_)
        refine sv_skip1 hf rfl rfl (by decide) (by decide) (fun a hf => ?_)
        refine sv_skip1 hf rfl rfl (by decide) (by decide) (fun a hf => ?_)
        refine sv_want hf rfl rfl ?_
        refine sv_pk hf rfl rfl (by decide) (fun a hf => ?_)
        refine sv_pk hf rfl rfl (by decide) (fun a hf => ?_)
        refine sv_as hf rfl (by decide) (fun a hf => ?_)
        replace hf := hf.sub (env' := [(7, .bool false), (5, .slice none 0 0), (4, .pointer (some ⟨C3, 0, none⟩)), (3, .pointer (some ⟨C2, 0, none⟩)), (2, .pointer (some ⟨C1, 0, none⟩))]) (sub_cons rfl (sub_cons rfl (sub_cons rfl (sub_cons rfl (sub_cons rfl (sub_nil))))))
        refine sv_nil hf ?_
        exact hK _ _ ⟨hf.sub (sub_cons (congrArg some (congrArg Value.bool (show false = nw by rw [hnw]; unfold newB; simp only [decide_eq_false h4, decide_eq_false h5]; first | done | rfl | simp))) (sub_cons rfl (sub_cons rfl (sub_cons rfl (sub_cons rfl (sub_nil)))))), hX⟩
  obtain ⟨hf, hX⟩ := hJ
  refine wp_seq ?_
  refine wp_meet_region (fun a X => FrV 80 [(8, .bool gr), (5, .slice none 0 0), (4, .pointer (some ⟨C3, 0, none⟩)), (3, .pointer (some ⟨C2, 0, none⟩)), (2, .pointer (some ⟨C1, 0, none⟩))] a ∧ Bx β [(C3, [.int .i64 0, .int .i64 0, .int .i64 0, .int .i64 0, .int .i64 0, .int .i64 0, .int .i64 0, .int .i64 0, .slice none 0 0, .int .i64 0, .slice none 0 0, .slice none 0 0]), (C2, [.int .i64 xf, .int .i64 xto, .int .i64 1, .int .i64 xt, .int .i64 xi, .int .i64 xl, .int .i64 xc, .slice ea el ec, .bool xok]), (C1, [.int .i64 id, .int .i64 sz, .int .i64 (fTm tm xt), .int .i64 (fVt tm xt vt), .int .i64 (fRl tm xt rl), .int .i64 (fLd tm xt ld), .int .i64 (fTi tm xt rl ti id), .int .i64 (fVs tm xt vs), .slice ga2 gl gc2, .int .i64 cm, .slice (fA tm xt na2) (fN tm xt nl) (fN tm xt nc2), .slice (fA tm xt ma2) (fN tm xt ml) (fN tm xt mc2)])] X) (fun K hK => ?_) (fun a W hJ => ?_)
  ·
    refine wp_region_lit ?_
    refine sv_fld hf rfl Try.underlying35 rfl sz_int (3) rfl (by decide) (fun a hf => ?_)
    refine sv_lc hf hX rfl 1 rfl rfl Try.underlying3 rfl (by decide) (fun a hf => ?_)
    refine sv_fld hf rfl Try.underlying25 rfl sz_int (2) rfl (by decide) (fun a hf => ?_)
    refine sv_lc hf hX rfl 2 rfl rfl Try.underlying3 rfl (by decide) (fun a hf => ?_)
    rcases Decidable.em (xt = fTm tm xt) with h7 | h7
    ·
      refine sv_cmp hf rfl rfl true (congrArg some (decide_eq_true h7)) (by decide) (fun a hf => ?_)
      refine sv_mv hf rfl (by decide) (fun a hf => ?_)
      refine sv_want hf rfl rfl ?_
      refine sv_fld hf rfl Try.underlying25 rfl sz_int (3) rfl (by decide) (fun a hf => ?_)
      refine sv_want hf rfl rfl ?_
      refine sv_lc hf hX rfl 2 rfl rfl Try.underlying3 rfl (by decide) (fun a hf => ?_)
      refine sv_want hf rfl rfl ?_
      rcases Decidable.em (fVt tm xt vt = (-1)) with h8 | h8
      ·
        refine sv_cmp hf rfl rfl true (congrArg some (decide_eq_true h8)) (by decide) (fun a hf => ?_)
        refine sv_want hf rfl rfl ?_
        refine sv_mv hf rfl (by decide) (fun a hf => ?_)
        refine sv_skip1 hf rfl rfl (by decide) (by decide) (fun a hf => ?_)
        refine sv_skip1 hf rfl rfl (by decide) (by decide) (fun a hf => ?_)
        refine sv_skip1 hf rfl rfl (by decide) (by decide) (fun a hf => ?_)
        refine sv_skip1 hf rfl rfl (by decide) (by decide) (fun a hf => ?_)
        refine sv_skip1 hf rfl rfl (by decide) (by decide) (fun a hf => ?_)
        refine sv_want hf rfl rfl ?_
        refine sv_pk hf rfl rfl (by decide) (fun a hf => ?_)
        refine sv_pk hf rfl rfl (by decide) (fun a hf => ?_)
        refine sv_mv hf rfl (by decide) (fun a hf => ?_)
        refine sv_want hf rfl rfl ?_
        refine sv_mv hf rfl (by decide) (fun a hf => ?_)
        refine sv_pk hf rfl rfl (by decide) (fun a hf => ?_)
        refine sv_as hf rfl (by decide) (fun a hf => ?_)
        replace hf := hf.sub (env' := [(8, .bool nw), (5, .slice none 0 0), (4, .pointer (some ⟨C3, 0, none⟩)), (3, .pointer (some ⟨C2, 0, none⟩)), (2, .pointer (some ⟨C1, 0, none⟩))]) (sub_cons rfl (sub_cons rfl (sub_cons rfl (sub_cons rfl (sub_cons rfl (sub_nil))))))
        refine sv_nil hf ?_
        exact hK _ _ ⟨hf.sub (sub_cons (congrArg some (congrArg Value.bool (show nw = gr by rw [hgr]; unfold grantB; simp only [decide_eq_true h7, decide_eq_true h8]; first | done | rfl | simp))) (sub_cons rfl (sub_cons rfl (sub_cons rfl (sub_cons rfl (sub_nil)))))), hX⟩
      ·
        refine sv_cmp hf rfl rfl false (congrArg some (decide_eq_false h8)) (by decide) (fun a hf => ?_)
        refine sv_want hf rfl rfl ?_
        refine sv_mv hf rfl (by decide) (fun a hf => ?_)
        refine sv_want hf rfl rfl ?_
        refine sv_fld hf rfl Try.underlying25 rfl sz_int (3) rfl (by decide) (fun a hf => ?_)
        refine sv_want hf rfl rfl ?_
        refine sv_lc hf hX rfl 2 rfl rfl Try.underlying3 rfl (by decide) (fun a hf => ?_)
        refine sv_want hf rfl rfl ?_
        refine sv_fld hf rfl Try.underlying35 rfl sz_int (0) rfl (by decide) (fun a hf => ?_)
        refine sv_want hf rfl rfl ?_
        refine sv_lc hf hX rfl 1 rfl rfl Try.underlying3 rfl (by decide) (fun a hf => ?_)
        refine sv_want hf rfl rfl ?_
        rcases Decidable.em (fVt tm xt vt = xf) with h9 | h9
        ·
          refine sv_cmp hf rfl rfl true (congrArg some (decide_eq_true h9)) (by decide) (fun a hf => ?_)
          refine sv_want hf rfl rfl ?_
          refine sv_pk hf rfl rfl (by decide) (fun a hf => ?_)
          refine sv_pk hf rfl rfl (by decide) (fun a hf => ?_)
          refine sv_mv hf rfl (by decide) (fun a hf => ?_)
          refine sv_want hf rfl rfl ?_
          refine sv_mv hf rfl (by decide) (fun a hf => ?_)
          refine sv_pk hf rfl rfl (by decide) (fun a hf => ?_)
          refine sv_as hf rfl (by decide) (fun a hf => ?_)
          replace hf := hf.sub (env' := [(8, .bool nw), (5, .slice none 0 0), (4, .pointer (some ⟨C3, 0, none⟩)), (3, .pointer (some ⟨C2, 0, none⟩)), (2, .pointer (some ⟨C1, 0, none⟩))]) (sub_cons rfl (sub_cons rfl (sub_cons rfl (sub_cons rfl (sub_cons rfl (sub_nil))))))
          refine sv_nil hf ?_
          exact hK _ _ ⟨hf.sub (sub_cons (congrArg some (congrArg Value.bool (show nw = gr by rw [hgr]; unfold grantB; simp only [decide_eq_true h7, decide_eq_false h8, decide_eq_true h9]; first | done | rfl | simp))) (sub_cons rfl (sub_cons rfl (sub_cons rfl (sub_cons rfl (sub_nil)))))), hX⟩
        ·
          refine sv_cmp hf rfl rfl false (congrArg some (decide_eq_false h9)) (by decide) (fun a hf => ?_)
          refine sv_want hf rfl rfl ?_
          refine sv_pk hf rfl rfl (by decide) (fun a hf => ?_)
          refine sv_pk hf rfl rfl (by decide) (fun a hf => ?_)
          refine sv_mv hf rfl (by decide) (fun a hf => ?_)
          refine sv_skip1 hf rfl rfl (by decide) (by decide) (fun a hf => ?_)
          refine sv_pk hf rfl rfl (by decide) (fun a hf => ?_)
          refine sv_as hf rfl (by decide) (fun a hf => ?_)
          replace hf := hf.sub (env' := [(8, .bool false), (5, .slice none 0 0), (4, .pointer (some ⟨C3, 0, none⟩)), (3, .pointer (some ⟨C2, 0, none⟩)), (2, .pointer (some ⟨C1, 0, none⟩))]) (sub_cons rfl (sub_cons rfl (sub_cons rfl (sub_cons rfl (sub_cons rfl (sub_nil))))))
          refine sv_nil hf ?_
          exact hK _ _ ⟨hf.sub (sub_cons (congrArg some (congrArg Value.bool (show false = gr by rw [hgr]; unfold grantB; simp only [decide_eq_true h7, decide_eq_false h8, decide_eq_false h9]; first | done | rfl | simp))) (sub_cons rfl (sub_cons rfl (sub_cons rfl (sub_cons rfl (sub_nil)))))), hX⟩
    ·
      refine sv_cmp hf rfl rfl false (congrArg some (decide_eq_false h7)) (by decide) (fun a hf => ?_)
      refine sv_mv hf rfl (by decide) (fun a hf => ?_)
      refine sv_skip1 hf rfl rfl (by decide) (by decide) (fun a hf => ?_)
      refine sv_skip1 hf rfl rfl (by decide) (by decide) (fun a hf => ?_)
      refine sv_skip1 hf rfl rfl (by decide) (by decide) (fun a hf => ?_)
      refine sv_skip1 hf rfl rfl (by decide) (by decide) (fun a hf => ?_)
      refine sv_skip2 hf rfl rfl (by decide) (fun a hf => ?_)
      refine sv_skip2 hf rfl rfl (by decide) (fun a hf => ?_)
      refine sv_skip2 hf rfl rfl (by decide) (fun a hf => ?_)
      refine sv_skip2 hf rfl rfl (by decide) (fun a hf => ?_)
      refine sv_skip2 hf rfl rfl (by decide) (fun a hf => ?_)
      refine sv_skip1 hf rfl rfl (by decide) (by decide) (fun a hf => ?_)
      refine sv_pk hf rfl rfl (by decide) (fun a hf => ?_)
      refine sv_mv hf rfl (by decide) (fun a hf => ?_)
      refine sv_skip1 hf rfl rfl (by decide) (by decide) (fun a hf => ?_)
      refine sv_pk hf rfl rfl (by decide) (fun a hf => ?_)
      refine sv_as hf rfl (by decide) (fun a hf => ?_)
      replace hf := hf.sub (env' := [(8, .bool false), (5, .slice none 0 0), (4, .pointer (some ⟨C3, 0, none⟩)), (3, .pointer (some ⟨C2, 0, none⟩)), (2, .pointer (some ⟨C1, 0, none⟩))]) (sub_cons rfl (sub_cons rfl (sub_cons rfl (sub_cons rfl (sub_cons rfl (sub_nil))))))
      refine sv_nil hf ?_
      exact hK _ _ ⟨hf.sub (sub_cons (congrArg some (congrArg Value.bool (show false = gr by rw [hgr]; unfold grantB; simp only [decide_eq_false h7]; first | done | rfl | simp))) (sub_cons rfl (sub_cons rfl (sub_cons rfl (sub_cons rfl (sub_nil)))))), hX⟩
  obtain ⟨hf, hX⟩ := hJ
  refine wp_seq ?_
  refine wp_seq ?_
  refine wp_region_lit ?_
  refine sv_mv hf rfl (by decide) (fun a hf => ?_)
  refine sv_nil hf ?_
  cases gr
  ·
    refine wp_cond_false (hf.rel _ _ rfl) ?_
    refine wp_skip ?_
    refine wp_seq ?_
    refine wp_region_lit ?_
    refine sv_fld hf rfl Try.underlying25 rfl sz_int (0) rfl (by decide) (fun a hf => ?_)
    refine sv_lc hf hX rfl 2 rfl rfl Try.underlying3 rfl (by decide) (fun a hf => ?_)
    refine sv_fld hf rfl Try.underlying35 rfl sz_int (0) rfl (by decide) (fun a hf => ?_)
    refine sv_lc hf hX rfl 1 rfl rfl Try.underlying3 rfl (by decide) (fun a hf => ?_)
    refine sv_fld hf rfl Try.underlying25 rfl sz_int (2) rfl (by decide) (fun a hf => ?_)
    refine sv_lc hf hX rfl 2 rfl rfl Try.underlying3 rfl (by decide) (fun a hf => ?_)
    refine sv_mv hf rfl (by decide) (fun a hf => ?_)
    refine sv_build (cs := [.int .i64 id, .int .i64 xf, .int .i64 2, .int .i64 (fTm tm xt), .int .i64 0, .int .i64 0, .int .i64 0, .slice none 0 0, .bool false]) hf rfl (by kernel_rfl) (by decide) (fun a hf => ?_)
    refine sv_alloc (zs := [.int .i64 0, .int .i64 0, .int .i64 0, .int .i64 0, .int .i64 0, .int .i64 0, .int .i64 0, .slice none 0 0, .bool false]) hf hX zero_msg (by decide) (fun a C10 W hC hf hX hA => ?_)
    clear hC hA
    refine sv_sr hf hX rfl rfl 0 rfl rfl info_msg (fun v hv => List.all_eq_true.1 (show List.all [.int .i64 id, .int .i64 xf, .int .i64 2, .int .i64 (fTm tm xt), .int .i64 0, .int .i64 0, .int .i64 0, .slice none 0 0, .bool false] (·.oneCell') = true from rfl) v hv) [(C10, [.int .i64 id, .int .i64 xf, .int .i64 2, .int .i64 (fTm tm xt), .int .i64 0, .int .i64 0, .int .i64 0, .slice none 0 0, .bool false]), (C3, [.int .i64 0, .int .i64 0, .int .i64 0, .int .i64 0, .int .i64 0, .int .i64 0, .int .i64 0, .int .i64 0, .slice none 0 0, .int .i64 0, .slice none 0 0, .slice none 0 0]), (C2, [.int .i64 xf, .int .i64 xto, .int .i64 1, .int .i64 xt, .int .i64 xi, .int .i64 xl, .int .i64 xc, .slice ea el ec, .bool xok]), (C1, [.int .i64 id, .int .i64 sz, .int .i64 (fTm tm xt), .int .i64 (fVt tm xt vt), .int .i64 (fRl tm xt rl), .int .i64 (fLd tm xt ld), .int .i64 (fTi tm xt rl ti id), .int .i64 (fVs tm xt vs), .slice ga2 gl gc2, .int .i64 cm, .slice (fA tm xt na2) (fN tm xt nl) (fN tm xt nc2), .slice (fA tm xt ma2) (fN tm xt ml) (fN tm xt mc2)])] rfl (fun W hX hO => ?_)
    clear hO
    replace hf := hf.sub (env' := [(9, .pointer (some ⟨C10, 0, none⟩)), (5, .slice none 0 0), (4, .pointer (some ⟨C3, 0, none⟩)), (2, .pointer (some ⟨C1, 0, none⟩))]) (sub_cons rfl (sub_cons rfl (sub_cons rfl (sub_cons rfl (sub_nil)))))
    refine sv_nil hf ?_
    refine wp_seq ?_
    replace hf := hf.sub (env' := [(9, .pointer (some ⟨C10, 0, none⟩)), (4, .pointer (some ⟨C3, 0, none⟩)), (2, .pointer (some ⟨C1, 0, none⟩))]) (sub_cons rfl (sub_cons rfl (sub_cons rfl (sub_nil))))
    obtain ⟨G11, hG11⟩ : ∃ g, g = W.heap.size := ⟨_, rfl⟩
    refine wp_region_SV (N := 80) (env := [(9, .pointer (some ⟨C10, 0, none⟩)), (4, .pointer (some ⟨C3, 0, none⟩)), (2, .pointer (some ⟨C1, 0, none⟩))]) [(77, .agg #[.int .i64 id, .int .i64 sz, .int .i64 (fTm tm xt), .int .i64 (fVt tm xt vt), .int .i64 (fRl tm xt rl), .int .i64 (fLd tm xt ld), .int .i64 (fTi tm xt rl ti id), .int .i64 (fVs tm xt vs), .slice ga2 gl gc2, .int .i64 cm, .slice (fA tm xt na2) (fN tm xt nl) (fN tm xt nc2), .slice (fA tm xt ma2) (fN tm xt ml) (fN tm xt mc2)]), (78, .agg #[.int .i64 id, .int .i64 xf, .int .i64 2, .int .i64 (fTm tm xt), .int .i64 0, .int .i64 0, .int .i64 0, .slice none 0 0, .bool false]), (79, .slice (some ⟨G11, 0, none⟩) 1 1), (5, .slice (some ⟨G11, 0, none⟩) 1 1)] (fun f X => X.heap.size = G11 + (if f 2 then 1 else 0) ∧ Bx β ((if f 2 then [(G11, [.int .i64 id, .int .i64 xf, .int .i64 2, .int .i64 (fTm tm xt), .int .i64 0, .int .i64 0, .int .i64 0, .slice none 0 0, .bool false])] else []) ++ [(C10, [.int .i64 id, .int .i64 xf, .int .i64 2, .int .i64 (fTm tm xt), .int .i64 0, .int .i64 0, .int .i64 0, .slice none 0 0, .bool false]), (C3, if f 3 then [.int .i64 id, .int .i64 sz, .int .i64 (fTm tm xt), .int .i64 (fVt tm xt vt), .int .i64 (fRl tm xt rl), .int .i64 (fLd tm xt ld), .int .i64 (fTi tm xt rl ti id), .int .i64 (fVs tm xt vs), .slice ga2 gl gc2, .int .i64 cm, .slice (fA tm xt na2) (fN tm xt nl) (fN tm xt nc2), .slice (fA tm xt ma2) (fN tm xt ml) (fN tm xt mc2)] else [.int .i64 0, .int .i64 0, .int .i64 0, .int .i64 0, .int .i64 0, .int .i64 0, .int .i64 0, .int .i64 0, .slice none 0 0, .int .i64 0, .slice none 0 0, .slice none 0 0]), (C2, [.int .i64 xf, .int .i64 xto, .int .i64 1, .int .i64 xt, .int .i64 xi, .int .i64 xl, .int .i64 xc, .slice ea el ec, .bool xok]), (C1, [.int .i64 id, .int .i64 sz, .int .i64 (fTm tm xt), .int .i64 (fVt tm xt vt), .int .i64 (fRl tm xt rl), .int .i64 (fLd tm xt ld), .int .i64 (fTi tm xt rl ti id), .int .i64 (fVs tm xt vs), .slice ga2 gl gc2, .int .i64 cm, .slice (fA tm xt na2) (fN tm xt nl) (fN tm xt nc2), .slice (fA tm xt ma2) (fN tm xt ml) (fN tm xt mc2)])]) X) mixed (by kernel_rfl) (by kernel_rfl) (by kernel_rfl) hf ⟨by simp [hG11], hX.drew⟩ (fun i o ho f a X hu hpast hN hd hv hS => ?_) (fun f a X hall hS hf => ?_)
    · match i, ho with
      | 0, ho =>
        obtain rfl := Option.some.inj ho
        have hf : FrV 80 [(2, .pointer (some ⟨C1, 0, none⟩))] a := frv_of hN hd (all_cons (hv 2 _ rfl (by kernel_rfl)) (all_nil))
        exact ⟨rfl, .inl ⟨77, .agg #[.int .i64 id, .int .i64 sz, .int .i64 (fTm tm xt), .int .i64 (fVt tm xt vt), .int .i64 (fRl tm xt rl), .int .i64 (fLd tm xt ld), .int .i64 (fTi tm xt rl ti id), .int .i64 (fVs tm xt vs), .slice ga2 gl gc2, .int .i64 cm, .slice (fA tm xt na2) (fN tm xt nl) (fN tm xt nc2), .slice (fA tm xt ma2) (fN tm xt ml) (fN tm xt mc2)], X, rfl, ex_vlr (cs := [.int .i64 id, .int .i64 sz, .int .i64 (fTm tm xt), .int .i64 (fVt tm xt vt), .int .i64 (fRl tm xt rl), .int .i64 (fLd tm xt ld), .int .i64 (fTi tm xt rl ti id), .int .i64 (fVs tm xt vs), .slice ga2 gl gc2, .int .i64 cm, .slice (fA tm xt na2) (fN tm xt nl) (fN tm xt nc2), .slice (fA tm xt ma2) (fN tm xt ml) (fN tm xt mc2)]) hf rfl rfl (hS.2.box (C1, [.int .i64 id, .int .i64 sz, .int .i64 (fTm tm xt), .int .i64 (fVt tm xt vt), .int .i64 (fRl tm xt rl), .int .i64 (fLd tm xt ld), .int .i64 (fTi tm xt rl ti id), .int .i64 (fVs tm xt vs), .slice ga2 gl gc2, .int .i64 cm, .slice (fA tm xt na2) (fN tm xt nl) (fN tm xt nc2), .slice (fA tm xt ma2) (fN tm xt ml) (fN tm xt mc2)]) (List.mem_append_right _ (by simp))) Try.underlying25 info_mem, rfl, hS⟩⟩
      | 1, ho =>
        obtain rfl := Option.some.inj ho
        have hf : FrV 80 [(9, .pointer (some ⟨C10, 0, none⟩))] a := frv_of hN hd (all_cons (hv 9 _ rfl (by kernel_rfl)) (all_nil))
        exact ⟨rfl, .inl ⟨78, .agg #[.int .i64 id, .int .i64 xf, .int .i64 2, .int .i64 (fTm tm xt), .int .i64 0, .int .i64 0, .int .i64 0, .slice none 0 0, .bool false], X, rfl, ex_vlr (cs := [.int .i64 id, .int .i64 xf, .int .i64 2, .int .i64 (fTm tm xt), .int .i64 0, .int .i64 0, .int .i64 0, .slice none 0 0, .bool false]) hf rfl rfl (hS.2.box (C10, [.int .i64 id, .int .i64 xf, .int .i64 2, .int .i64 (fTm tm xt), .int .i64 0, .int .i64 0, .int .i64 0, .slice none 0 0, .bool false]) (List.mem_append_right _ (by simp))) Try.underlying35 info_msg, rfl, hS⟩⟩
      | 2, ho =>
        obtain rfl := Option.some.inj ho
        have hG2 : X.heap.size = G11 := by have := hS.1; rw [hu] at this; simpa using this
        have hl : Bx β [(C10, [.int .i64 id, .int .i64 xf, .int .i64 2, .int .i64 (fTm tm xt), .int .i64 0, .int .i64 0, .int .i64 0, .slice none 0 0, .bool false]), (C3, if f 3 then [.int .i64 id, .int .i64 sz, .int .i64 (fTm tm xt), .int .i64 (fVt tm xt vt), .int .i64 (fRl tm xt rl), .int .i64 (fLd tm xt ld), .int .i64 (fTi tm xt rl ti id), .int .i64 (fVs tm xt vs), .slice ga2 gl gc2, .int .i64 cm, .slice (fA tm xt na2) (fN tm xt nl) (fN tm xt nc2), .slice (fA tm xt ma2) (fN tm xt ml) (fN tm xt mc2)] else [.int .i64 0, .int .i64 0, .int .i64 0, .int .i64 0, .int .i64 0, .int .i64 0, .int .i64 0, .int .i64 0, .slice none 0 0, .int .i64 0, .slice none 0 0, .slice none 0 0]), (C2, [.int .i64 xf, .int .i64 xto, .int .i64 1, .int .i64 xt, .int .i64 xi, .int .i64 xl, .int .i64 xc, .slice ea el ec, .bool xok]), (C1, [.int .i64 id, .int .i64 sz, .int .i64 (fTm tm xt), .int .i64 (fVt tm xt vt), .int .i64 (fRl tm xt rl), .int .i64 (fLd tm xt ld), .int .i64 (fTi tm xt rl ti id), .int .i64 (fVs tm xt vs), .slice ga2 gl gc2, .int .i64 cm, .slice (fA tm xt na2) (fN tm xt nl) (fN tm xt nc2), .slice (fA tm xt ma2) (fN tm xt ml) (fN tm xt mc2)])] X := by have := hS.2; rw [hu] at this; exact this
        have hn := hl.new [.int .i64 id, .int .i64 xf, .int .i64 2, .int .i64 (fTm tm xt), .int .i64 0, .int .i64 0, .int .i64 0, .slice none 0 0, .bool false] 35
        rw [hG2] at hn
        exact ⟨rfl, .inl ⟨79, _, _, rfl, ex_bs1 (P := Try.prog) (w := X) (k := 9) (cs := [.int .i64 id, .int .i64 xf, .int .i64 2, .int .i64 (fTm tm xt), .int .i64 0, .int .i64 0, .int .i64 0, .slice none 0 0, .bool false]) rfl (hv 78 _ rfl (by kernel_rfl)) Try.underlying37 (by kernel_rfl) info_msg rfl (by decide) (by decide), by rw [hG2]; rfl, by simp [upd, hG2], hn⟩⟩
      | 3, ho =>
        obtain rfl := Option.some.inj ho
        have hb : Box X C3 [.int .i64 0, .int .i64 0, .int .i64 0, .int .i64 0, .int .i64 0, .int .i64 0, .int .i64 0, .int .i64 0, .slice none 0 0, .int .i64 0, .slice none 0 0, .slice none 0 0] := by have := hS.2.box (C3, if f 3 then [.int .i64 id, .int .i64 sz, .int .i64 (fTm tm xt), .int .i64 (fVt tm xt vt), .int .i64 (fRl tm xt rl), .int .i64 (fLd tm xt ld), .int .i64 (fTi tm xt rl ti id), .int .i64 (fVs tm xt vs), .slice ga2 gl gc2, .int .i64 cm, .slice (fA tm xt na2) (fN tm xt nl) (fN tm xt nc2), .slice (fA tm xt ma2) (fN tm xt ml) (fN tm xt mc2)] else [.int .i64 0, .int .i64 0, .int .i64 0, .int .i64 0, .int .i64 0, .int .i64 0, .int .i64 0, .int .i64 0, .slice none 0 0, .int .i64 0, .slice none 0 0, .slice none 0 0]) (List.mem_append_right _ (by simp)); rw [hu] at this; exact this
        refine ⟨rfl, .inr ⟨_, rfl, ex_store_row (w := X) 25 (.tmp 4) (.tmp 77) C3 0 [.int .i64 id, .int .i64 sz, .int .i64 (fTm tm xt), .int .i64 (fVt tm xt vt), .int .i64 (fRl tm xt rl), .int .i64 (fLd tm xt ld), .int .i64 (fTi tm xt rl ti id), .int .i64 (fVs tm xt vs), .slice ga2 gl gc2, .int .i64 cm, .slice (fA tm xt na2) (fN tm xt nl) (fN tm xt nc2), .slice (fA tm xt ma2) (fN tm xt ml) (fN tm xt mc2)] rfl (hv 4 _ rfl (by kernel_rfl)) (hv 77 _ rfl (by kernel_rfl)) (hb.there 0 12 (by decide)) info_mem (fun v hv => List.all_eq_true.1 (show List.all [.int .i64 id, .int .i64 sz, .int .i64 (fTm tm xt), .int .i64 (fVt tm xt vt), .int .i64 (fRl tm xt rl), .int .i64 (fLd tm xt ld), .int .i64 (fTi tm xt rl ti id), .int .i64 (fVs tm xt vs), .slice ga2 gl gc2, .int .i64 cm, .slice (fA tm xt na2) (fN tm xt nl) (fN tm xt nc2), .slice (fA tm xt ma2) (fN tm xt ml) (fN tm xt mc2)] (·.oneCell') = true from rfl) v hv), ?_⟩⟩
        have ho := Only.setCells X C3 0 [.int .i64 id, .int .i64 sz, .int .i64 (fTm tm xt), .int .i64 (fVt tm xt vt), .int .i64 (fRl tm xt rl), .int .i64 (fLd tm xt ld), .int .i64 (fTi tm xt rl ti id), .int .i64 (fVs tm xt vs), .slice ga2 gl gc2, .int .i64 cm, .slice (fA tm xt na2) (fN tm xt nl) (fN tm xt nc2), .slice (fA tm xt ma2) (fN tm xt ml) (fN tm xt mc2)] hb.lt
        refine ⟨ho.size.trans hS.1, ?_⟩
        cases h2 : f 2
        · have hl : Bx β [(C10, [.int .i64 id, .int .i64 xf, .int .i64 2, .int .i64 (fTm tm xt), .int .i64 0, .int .i64 0, .int .i64 0, .slice none 0 0, .bool false]), (C3, [.int .i64 0, .int .i64 0, .int .i64 0, .int .i64 0, .int .i64 0, .int .i64 0, .int .i64 0, .int .i64 0, .slice none 0 0, .int .i64 0, .slice none 0 0, .slice none 0 0]), (C2, [.int .i64 xf, .int .i64 xto, .int .i64 1, .int .i64 xt, .int .i64 xi, .int .i64 xl, .int .i64 xc, .slice ea el ec, .bool xok]), (C1, [.int .i64 id, .int .i64 sz, .int .i64 (fTm tm xt), .int .i64 (fVt tm xt vt), .int .i64 (fRl tm xt rl), .int .i64 (fLd tm xt ld), .int .i64 (fTi tm xt rl ti id), .int .i64 (fVs tm xt vs), .slice ga2 gl gc2, .int .i64 cm, .slice (fA tm xt na2) (fN tm xt nl) (fN tm xt nc2), .slice (fA tm xt ma2) (fN tm xt ml) (fN tm xt mc2)])] X := by have := hS.2; rw [h2, hu] at this; exact this
          have hn : Bx β [(C10, [.int .i64 id, .int .i64 xf, .int .i64 2, .int .i64 (fTm tm xt), .int .i64 0, .int .i64 0, .int .i64 0, .slice none 0 0, .bool false]), (C3, [.int .i64 id, .int .i64 sz, .int .i64 (fTm tm xt), .int .i64 (fVt tm xt vt), .int .i64 (fRl tm xt rl), .int .i64 (fLd tm xt ld), .int .i64 (fTi tm xt rl ti id), .int .i64 (fVs tm xt vs), .slice ga2 gl gc2, .int .i64 cm, .slice (fA tm xt na2) (fN tm xt nl) (fN tm xt nc2), .slice (fA tm xt ma2) (fN tm xt ml) (fN tm xt mc2)]), (C2, [.int .i64 xf, .int .i64 xto, .int .i64 1, .int .i64 xt, .int .i64 xi, .int .i64 xl, .int .i64 xc, .slice ea el ec, .bool xok]), (C1, [.int .i64 id, .int .i64 sz, .int .i64 (fTm tm xt), .int .i64 (fVt tm xt vt), .int .i64 (fRl tm xt rl), .int .i64 (fLd tm xt ld), .int .i64 (fTi tm xt rl ti id), .int .i64 (fVs tm xt vs), .slice ga2 gl gc2, .int .i64 cm, .slice (fA tm xt na2) (fN tm xt nl) (fN tm xt nc2), .slice (fA tm xt ma2) (fN tm xt ml) (fN tm xt mc2)])] _ := hl.set (i := 1) rfl (hb.store rfl) ho
          show Bx β ((if f 2 = true then _ else _) ++ _) _
          rw [h2]; exact hn
        · have hl : Bx β [(G11, [.int .i64 id, .int .i64 xf, .int .i64 2, .int .i64 (fTm tm xt), .int .i64 0, .int .i64 0, .int .i64 0, .slice none 0 0, .bool false]), (C10, [.int .i64 id, .int .i64 xf, .int .i64 2, .int .i64 (fTm tm xt), .int .i64 0, .int .i64 0, .int .i64 0, .slice none 0 0, .bool false]), (C3, [.int .i64 0, .int .i64 0, .int .i64 0, .int .i64 0, .int .i64 0, .int .i64 0, .int .i64 0, .int .i64 0, .slice none 0 0, .int .i64 0, .slice none 0 0, .slice none 0 0]), (C2, [.int .i64 xf, .int .i64 xto, .int .i64 1, .int .i64 xt, .int .i64 xi, .int .i64 xl, .int .i64 xc, .slice ea el ec, .bool xok]), (C1, [.int .i64 id, .int .i64 sz, .int .i64 (fTm tm xt), .int .i64 (fVt tm xt vt), .int .i64 (fRl tm xt rl), .int .i64 (fLd tm xt ld), .int .i64 (fTi tm xt rl ti id), .int .i64 (fVs tm xt vs), .slice ga2 gl gc2, .int .i64 cm, .slice (fA tm xt na2) (fN tm xt nl) (fN tm xt nc2), .slice (fA tm xt ma2) (fN tm xt ml) (fN tm xt mc2)])] X := by have := hS.2; rw [h2, hu] at this; exact this
          have hn : Bx β [(G11, [.int .i64 id, .int .i64 xf, .int .i64 2, .int .i64 (fTm tm xt), .int .i64 0, .int .i64 0, .int .i64 0, .slice none 0 0, .bool false]), (C10, [.int .i64 id, .int .i64 xf, .int .i64 2, .int .i64 (fTm tm xt), .int .i64 0, .int .i64 0, .int .i64 0, .slice none 0 0, .bool false]), (C3, [.int .i64 id, .int .i64 sz, .int .i64 (fTm tm xt), .int .i64 (fVt tm xt vt), .int .i64 (fRl tm xt rl), .int .i64 (fLd tm xt ld), .int .i64 (fTi tm xt rl ti id), .int .i64 (fVs tm xt vs), .slice ga2 gl gc2, .int .i64 cm, .slice (fA tm xt na2) (fN tm xt nl) (fN tm xt nc2), .slice (fA tm xt ma2) (fN tm xt ml) (fN tm xt mc2)]), (C2, [.int .i64 xf, .int .i64 xto, .int .i64 1, .int .i64 xt, .int .i64 xi, .int .i64 xl, .int .i64 xc, .slice ea el ec, .bool xok]), (C1, [.int .i64 id, .int .i64 sz, .int .i64 (fTm tm xt), .int .i64 (fVt tm xt vt), .int .i64 (fRl tm xt rl), .int .i64 (fLd tm xt ld), .int .i64 (fTi tm xt rl ti id), .int .i64 (fVs tm xt vs), .slice ga2 gl gc2, .int .i64 cm, .slice (fA tm xt na2) (fN tm xt nl) (fN tm xt nc2), .slice (fA tm xt ma2) (fN tm xt ml) (fN tm xt mc2)])] _ := hl.set (i := 2) rfl (hb.store rfl) ho
          show Bx β ((if f 2 = true then _ else _) ++ _) _
          rw [h2]; exact hn
      | 4, ho =>
        obtain rfl := Option.some.inj ho
        have hf : FrV 80 [(79, .slice (some ⟨G11, 0, none⟩) 1 1)] a := frv_of hN hd (all_cons (hv 79 _ rfl (by kernel_rfl)) (all_nil))
        exact ⟨rfl, .inl ⟨5, .slice (some ⟨G11, 0, none⟩) 1 1, X, rfl, ex_vas hf rfl rfl, rfl, hS⟩⟩
      | j + 5, ho => simp at ho
    replace hX := hS.2
    rw [hall 2 (by decide), hall 3 (by decide)] at hX
    replace hX : Bx β [(G11, [.int .i64 id, .int .i64 xf, .int .i64 2, .int .i64 (fTm tm xt), .int .i64 0, .int .i64 0, .int .i64 0, .slice none 0 0, .bool false]), (C10, [.int .i64 id, .int .i64 xf, .int .i64 2, .int .i64 (fTm tm xt), .int .i64 0, .int .i64 0, .int .i64 0, .slice none 0 0, .bool false]), (C3, [.int .i64 id, .int .i64 sz, .int .i64 (fTm tm xt), .int .i64 (fVt tm xt vt), .int .i64 (fRl tm xt rl), .int .i64 (fLd tm xt ld), .int .i64 (fTi tm xt rl ti id), .int .i64 (fVs tm xt vs), .slice ga2 gl gc2, .int .i64 cm, .slice (fA tm xt na2) (fN tm xt nl) (fN tm xt nc2), .slice (fA tm xt ma2) (fN tm xt ml) (fN tm xt mc2)]), (C2, [.int .i64 xf, .int .i64 xto, .int .i64 1, .int .i64 xt, .int .i64 xi, .int .i64 xl, .int .i64 xc, .slice ea el ec, .bool xok]), (C1, [.int .i64 id, .int .i64 sz, .int .i64 (fTm tm xt), .int .i64 (fVt tm xt vt), .int .i64 (fRl tm xt rl), .int .i64 (fLd tm xt ld), .int .i64 (fTi tm xt rl ti id), .int .i64 (fVs tm xt vs), .slice ga2 gl gc2, .int .i64 cm, .slice (fA tm xt na2) (fN tm xt nl) (fN tm xt nc2), .slice (fA tm xt ma2) (fN tm xt ml) (fN tm xt mc2)])] X := hX
    replace hf := hf.sub (env' := [(5, .slice (some ⟨G11, 0, none⟩) 1 1), (4, .pointer (some ⟨C3, 0, none⟩))]) (sub_cons rfl (sub_cons rfl (sub_nil)))
    refine wp_ret ?_
    try simp only [Exit.inBlock, Exit.then]
    refine bodyPost_ret (res_cell_tmp (c := 4) (d := 5) (C := C3) (cs := [.int .i64 id, .int .i64 sz, .int .i64 (fTm tm xt), .int .i64 (fVt tm xt vt), .int .i64 (fRl tm xt rl), .int .i64 (fLd tm xt ld), .int .i64 (fTi tm xt rl ti id), .int .i64 (fVs tm xt vs), .slice ga2 gl gc2, .int .i64 cm, .slice (fA tm xt na2) (fN tm xt nl) (fN tm xt nc2), .slice (fA tm xt ma2) (fN tm xt ml) (fN tm xt mc2)]) (T := 25) rfl (hf.rel 4 _ rfl) (hf.rel 5 _ rfl) (hX.get (i := 2) rfl) Try.underlying25 info_mem) hf.defers ⟨ga2, gc2, na2, nc2, ma2, mc2, G11, rfl, ?_, hX.get (i := 0) rfl, by have := hX.ge _ (List.mem_of_getElem? (i := 0) rfl); rw [hβ] at this; exact this, by have := hX.low; rw [hβ] at this; exact this⟩
    obtain ⟨m, _, h8, h10, h11⟩ := HE.out
    exact ⟨m, hX.later2 hmem (fun k h => Or.inl (Nat.lt_of_lt_of_le h hb0.size)) (fun k h => Or.inr h) (fun k h => h) (fun k h => Nat.le_trans hsA h) h8, hX.later2 hmem (fun k h => Or.inl (Nat.lt_of_lt_of_le h hb0.size)) (fun k h => Or.inr h) (fun k h => h) (fun k h => Nat.le_trans hsA h) h10, hX.later2 hmem (fun k h => Or.inl (Nat.lt_of_lt_of_le h hb0.size)) (fun k h => Or.inr h) (fun k h => h) (fun k h => Nat.le_trans hsA h) h11⟩
  ·
    refine wp_cond_true (hf.rel _ _ rfl) ?_
    refine wp_seq ?_
    refine wp_region_lit ?_
    refine sv_fld hf rfl Try.underlying35 rfl sz_int (0) rfl (by decide) (fun a hf => ?_)
    refine sv_lc hf hX rfl 1 rfl rfl Try.underlying3 rfl (by decide) (fun a hf => ?_)
    refine sv_fld hf rfl Try.underlying25 rfl sz_int (3) rfl (by decide) (fun a hf => ?_)
    refine sv_sc (cs' := [.int .i64 id, .int .i64 sz, .int .i64 (fTm tm xt), .int .i64 xf, .int .i64 (fRl tm xt rl), .int .i64 (fLd tm xt ld), .int .i64 (fTi tm xt rl ti id), .int .i64 (fVs tm xt vs), .slice ga2 gl gc2, .int .i64 cm, .slice (fA tm xt na2) (fN tm xt nl) (fN tm xt nc2), .slice (fA tm xt ma2) (fN tm xt ml) (fN tm xt mc2)]) hf hX rfl rfl 2 rfl (of_decide_eq_true rfl) rfl info_int rfl [(C3, [.int .i64 0, .int .i64 0, .int .i64 0, .int .i64 0, .int .i64 0, .int .i64 0, .int .i64 0, .int .i64 0, .slice none 0 0, .int .i64 0, .slice none 0 0, .slice none 0 0]), (C2, [.int .i64 xf, .int .i64 xto, .int .i64 1, .int .i64 xt, .int .i64 xi, .int .i64 xl, .int .i64 xc, .slice ea el ec, .bool xok]), (C1, [.int .i64 id, .int .i64 sz, .int .i64 (fTm tm xt), .int .i64 xf, .int .i64 (fRl tm xt rl), .int .i64 (fLd tm xt ld), .int .i64 (fTi tm xt rl ti id), .int .i64 (fVs tm xt vs), .slice ga2 gl gc2, .int .i64 cm, .slice (fA tm xt na2) (fN tm xt nl) (fN tm xt nc2), .slice (fA tm xt ma2) (fN tm xt ml) (fN tm xt mc2)])] rfl (fun W hX hO => ?_)
    clear hO
    replace hf := hf.sub (env' := [(8, .bool true), (5, .slice none 0 0), (4, .pointer (some ⟨C3, 0, none⟩)), (3, .pointer (some ⟨C2, 0, none⟩)), (2, .pointer (some ⟨C1, 0, none⟩))]) (sub_cons rfl (sub_cons rfl (sub_cons rfl (sub_cons rfl (sub_cons rfl (sub_nil))))))
    refine sv_nil hf ?_
    refine wp_region_lit ?_
    refine sv_fld hf rfl Try.underlying25 rfl sz_int (0) rfl (by decide) (fun a hf => ?_)
    refine sv_lc hf hX rfl 2 rfl rfl Try.underlying3 rfl (by decide) (fun a hf => ?_)
    refine sv_call hf fnOK_27 rfl (usual_any _ _ h0 h7) (by decide) ?_
    rintro e W' ⟨rfl, hw⟩
    subst hw
    refine ⟨_, rfl, fun a hf => ?_⟩
    refine sv_fld hf rfl Try.underlying25 rfl sz_int (6) rfl (by decide) (fun a hf => ?_)
    refine sv_sc (cs' := [.int .i64 id, .int .i64 sz, .int .i64 (fTm tm xt), .int .i64 xf, .int .i64 (fRl tm xt rl), .int .i64 (fLd tm xt ld), .int .i64 (10 + 3 * id), .int .i64 (fVs tm xt vs), .slice ga2 gl gc2, .int .i64 cm, .slice (fA tm xt na2) (fN tm xt nl) (fN tm xt nc2), .slice (fA tm xt ma2) (fN tm xt ml) (fN tm xt mc2)]) hf hX rfl rfl 2 rfl (of_decide_eq_true rfl) rfl info_int rfl [(C3, [.int .i64 0, .int .i64 0, .int .i64 0, .int .i64 0, .int .i64 0, .int .i64 0, .int .i64 0, .int .i64 0, .slice none 0 0, .int .i64 0, .slice none 0 0, .slice none 0 0]), (C2, [.int .i64 xf, .int .i64 xto, .int .i64 1, .int .i64 xt, .int .i64 xi, .int .i64 xl, .int .i64 xc, .slice ea el ec, .bool xok]), (C1, [.int .i64 id, .int .i64 sz, .int .i64 (fTm tm xt), .int .i64 xf, .int .i64 (fRl tm xt rl), .int .i64 (fLd tm xt ld), .int .i64 (10 + 3 * id), .int .i64 (fVs tm xt vs), .slice ga2 gl gc2, .int .i64 cm, .slice (fA tm xt na2) (fN tm xt nl) (fN tm xt nc2), .slice (fA tm xt ma2) (fN tm xt ml) (fN tm xt mc2)])] rfl (fun W hX hO => ?_)
    clear hO
    replace hf := hf.sub (env' := [(8, .bool true), (5, .slice none 0 0), (4, .pointer (some ⟨C3, 0, none⟩)), (3, .pointer (some ⟨C2, 0, none⟩)), (2, .pointer (some ⟨C1, 0, none⟩))]) (sub_cons rfl (sub_cons rfl (sub_cons rfl (sub_cons rfl (sub_cons rfl (sub_nil))))))
    refine sv_nil hf ?_
    refine wp_seq ?_
    refine wp_region_lit ?_
    refine sv_fld hf rfl Try.underlying25 rfl sz_int (0) rfl (by decide) (fun a hf => ?_)
    refine sv_lc hf hX rfl 2 rfl rfl Try.underlying3 rfl (by decide) (fun a hf => ?_)
    refine sv_fld hf rfl Try.underlying35 rfl sz_int (0) rfl (by decide) (fun a hf => ?_)
    refine sv_lc hf hX rfl 1 rfl rfl Try.underlying3 rfl (by decide) (fun a hf => ?_)
    refine sv_fld hf rfl Try.underlying25 rfl sz_int (2) rfl (by decide) (fun a hf => ?_)
    refine sv_lc hf hX rfl 2 rfl rfl Try.underlying3 rfl (by decide) (fun a hf => ?_)
    refine sv_mv hf rfl (by decide) (fun a hf => ?_)
    refine sv_build (cs := [.int .i64 id, .int .i64 xf, .int .i64 2, .int .i64 (fTm tm xt), .int .i64 0, .int .i64 0, .int .i64 0, .slice none 0 0, .bool true]) hf rfl (by kernel_rfl) (by decide) (fun a hf => ?_)
    refine sv_alloc (zs := [.int .i64 0, .int .i64 0, .int .i64 0, .int .i64 0, .int .i64 0, .int .i64 0, .int .i64 0, .slice none 0 0, .bool false]) hf hX zero_msg (by decide) (fun a C12 W hC hf hX hA => ?_)
    clear hC hA
    refine sv_sr hf hX rfl rfl 0 rfl rfl info_msg (fun v hv => List.all_eq_true.1 (show List.all [.int .i64 id, .int .i64 xf, .int .i64 2, .int .i64 (fTm tm xt), .int .i64 0, .int .i64 0, .int .i64 0, .slice none 0 0, .bool true] (·.oneCell') = true from rfl) v hv) [(C12, [.int .i64 id, .int .i64 xf, .int .i64 2, .int .i64 (fTm tm xt), .int .i64 0, .int .i64 0, .int .i64 0, .slice none 0 0, .bool true]), (C3, [.int .i64 0, .int .i64 0, .int .i64 0, .int .i64 0, .int .i64 0, .int .i64 0, .int .i64 0, .int .i64 0, .slice none 0 0, .int .i64 0, .slice none 0 0, .slice none 0 0]), (C2, [.int .i64 xf, .int .i64 xto, .int .i64 1, .int .i64 xt, .int .i64 xi, .int .i64 xl, .int .i64 xc, .slice ea el ec, .bool xok]), (C1, [.int .i64 id, .int .i64 sz, .int .i64 (fTm tm xt), .int .i64 xf, .int .i64 (fRl tm xt rl), .int .i64 (fLd tm xt ld), .int .i64 (10 + 3 * id), .int .i64 (fVs tm xt vs), .slice ga2 gl gc2, .int .i64 cm, .slice (fA tm xt na2) (fN tm xt nl) (fN tm xt nc2), .slice (fA tm xt ma2) (fN tm xt ml) (fN tm xt mc2)])] rfl (fun W hX hO => ?_)
    clear hO
    replace hf := hf.sub (env' := [(9, .pointer (some ⟨C12, 0, none⟩)), (5, .slice none 0 0), (4, .pointer (some ⟨C3, 0, none⟩)), (2, .pointer (some ⟨C1, 0, none⟩))]) (sub_cons rfl (sub_cons rfl (sub_cons rfl (sub_cons rfl (sub_nil)))))
    refine sv_nil hf ?_
    refine wp_seq ?_
    replace hf := hf.sub (env' := [(9, .pointer (some ⟨C12, 0, none⟩)), (4, .pointer (some ⟨C3, 0, none⟩)), (2, .pointer (some ⟨C1, 0, none⟩))]) (sub_cons rfl (sub_cons rfl (sub_cons rfl (sub_nil))))
    obtain ⟨G13, hG13⟩ : ∃ g, g = W.heap.size := ⟨_, rfl⟩
    refine wp_region_SV (N := 80) (env := [(9, .pointer (some ⟨C12, 0, none⟩)), (4, .pointer (some ⟨C3, 0, none⟩)), (2, .pointer (some ⟨C1, 0, none⟩))]) [(77, .agg #[.int .i64 id, .int .i64 sz, .int .i64 (fTm tm xt), .int .i64 xf, .int .i64 (fRl tm xt rl), .int .i64 (fLd tm xt ld), .int .i64 (10 + 3 * id), .int .i64 (fVs tm xt vs), .slice ga2 gl gc2, .int .i64 cm, .slice (fA tm xt na2) (fN tm xt nl) (fN tm xt nc2), .slice (fA tm xt ma2) (fN tm xt ml) (fN tm xt mc2)]), (78, .agg #[.int .i64 id, .int .i64 xf, .int .i64 2, .int .i64 (fTm tm xt), .int .i64 0, .int .i64 0, .int .i64 0, .slice none 0 0, .bool true]), (79, .slice (some ⟨G13, 0, none⟩) 1 1), (5, .slice (some ⟨G13, 0, none⟩) 1 1)] (fun f X => X.heap.size = G13 + (if f 2 then 1 else 0) ∧ Bx β ((if f 2 then [(G13, [.int .i64 id, .int .i64 xf, .int .i64 2, .int .i64 (fTm tm xt), .int .i64 0, .int .i64 0, .int .i64 0, .slice none 0 0, .bool true])] else []) ++ [(C12, [.int .i64 id, .int .i64 xf, .int .i64 2, .int .i64 (fTm tm xt), .int .i64 0, .int .i64 0, .int .i64 0, .slice none 0 0, .bool true]), (C3, if f 3 then [.int .i64 id, .int .i64 sz, .int .i64 (fTm tm xt), .int .i64 xf, .int .i64 (fRl tm xt rl), .int .i64 (fLd tm xt ld), .int .i64 (10 + 3 * id), .int .i64 (fVs tm xt vs), .slice ga2 gl gc2, .int .i64 cm, .slice (fA tm xt na2) (fN tm xt nl) (fN tm xt nc2), .slice (fA tm xt ma2) (fN tm xt ml) (fN tm xt mc2)] else [.int .i64 0, .int .i64 0, .int .i64 0, .int .i64 0, .int .i64 0, .int .i64 0, .int .i64 0, .int .i64 0, .slice none 0 0, .int .i64 0, .slice none 0 0, .slice none 0 0]), (C2, [.int .i64 xf, .int .i64 xto, .int .i64 1, .int .i64 xt, .int .i64 xi, .int .i64 xl, .int .i64 xc, .slice ea el ec, .bool xok]), (C1, [.int .i64 id, .int .i64 sz, .int .i64 (fTm tm xt), .int .i64 xf, .int .i64 (fRl tm xt rl), .int .i64 (fLd tm xt ld), .int .i64 (10 + 3 * id), .int .i64 (fVs tm xt vs), .slice ga2 gl gc2, .int .i64 cm, .slice (fA tm xt na2) (fN tm xt nl) (fN tm xt nc2), .slice (fA tm xt ma2) (fN tm xt ml) (fN tm xt mc2)])]) X) mixed (by kernel_rfl) (by kernel_rfl) (by kernel_rfl) hf ⟨by simp [hG13], hX.drew⟩ (fun i o ho f a X hu hpast hN hd hv hS => ?_) (fun f a X hall hS hf => ?_)
    · match i, ho with
      | 0, ho =>
        obtain rfl := Option.some.inj ho
        have hf : FrV 80 [(2, .pointer (some ⟨C1, 0, none⟩))] a := frv_of hN hd (all_cons (hv 2 _ rfl (by kernel_rfl)) (all_nil))
        exact ⟨rfl, .inl ⟨77, .agg #[.int .i64 id, .int .i64 sz, .int .i64 (fTm tm xt), .int .i64 xf, .int .i64 (fRl tm xt rl), .int .i64 (fLd tm xt ld), .int .i64 (10 + 3 * id), .int .i64 (fVs tm xt vs), .slice ga2 gl gc2, .int .i64 cm, .slice (fA tm xt na2) (fN tm xt nl) (fN tm xt nc2), .slice (fA tm xt ma2) (fN tm xt ml) (fN tm xt mc2)], X, rfl, ex_vlr (cs := [.int .i64 id, .int .i64 sz, .int .i64 (fTm tm xt), .int .i64 xf, .int .i64 (fRl tm xt rl), .int .i64 (fLd tm xt ld), .int .i64 (10 + 3 * id), .int .i64 (fVs tm xt vs), .slice ga2 gl gc2, .int .i64 cm, .slice (fA tm xt na2) (fN tm xt nl) (fN tm xt nc2), .slice (fA tm xt ma2) (fN tm xt ml) (fN tm xt mc2)]) hf rfl rfl (hS.2.box (C1, [.int .i64 id, .int .i64 sz, .int .i64 (fTm tm xt), .int .i64 xf, .int .i64 (fRl tm xt rl), .int .i64 (fLd tm xt ld), .int .i64 (10 + 3 * id), .int .i64 (fVs tm xt vs), .slice ga2 gl gc2, .int .i64 cm, .slice (fA tm xt na2) (fN tm xt nl) (fN tm xt nc2), .slice (fA tm xt ma2) (fN tm xt ml) (fN tm xt mc2)]) (List.mem_append_right _ (by simp))) Try.underlying25 info_mem, rfl, hS⟩⟩
      | 1, ho =>
        obtain rfl := Option.some.inj ho
        have hf : FrV 80 [(9, .pointer (some ⟨C12, 0, none⟩))] a := frv_of hN hd (all_cons (hv 9 _ rfl (by kernel_rfl)) (all_nil))
        exact ⟨rfl, .inl ⟨78, .agg #[.int .i64 id, .int .i64 xf, .int .i64 2, .int .i64 (fTm tm xt), .int .i64 0, .int .i64 0, .int .i64 0, .slice none 0 0, .bool true], X, rfl, ex_vlr (cs := [.int .i64 id, .int .i64 xf, .int .i64 2, .int .i64 (fTm tm xt), .int .i64 0, .int .i64 0, .int .i64 0, .slice none 0 0, .bool true]) hf rfl rfl (hS.2.box (C12, [.int .i64 id, .int .i64 xf, .int .i64 2, .int .i64 (fTm tm xt), .int .i64 0, .int .i64 0, .int .i64 0, .slice none 0 0, .bool true]) (List.mem_append_right _ (by simp))) Try.underlying35 info_msg, rfl, hS⟩⟩
      | 2, ho =>
        obtain rfl := Option.some.inj ho
        have hG2 : X.heap.size = G13 := by have := hS.1; rw [hu] at this; simpa using this
        have hl : Bx β [(C12, [.int .i64 id, .int .i64 xf, .int .i64 2, .int .i64 (fTm tm xt), .int .i64 0, .int .i64 0, .int .i64 0, .slice none 0 0, .bool true]), (C3, if f 3 then [.int .i64 id, .int .i64 sz, .int .i64 (fTm tm xt), .int .i64 xf, .int .i64 (fRl tm xt rl), .int .i64 (fLd tm xt ld), .int .i64 (10 + 3 * id), .int .i64 (fVs tm xt vs), .slice ga2 gl gc2, .int .i64 cm, .slice (fA tm xt na2) (fN tm xt nl) (fN tm xt nc2), .slice (fA tm xt ma2) (fN tm xt ml) (fN tm xt mc2)] else [.int .i64 0, .int .i64 0, .int .i64 0, .int .i64 0, .int .i64 0, .int .i64 0, .int .i64 0, .int .i64 0, .slice none 0 0, .int .i64 0, .slice none 0 0, .slice none 0 0]), (C2, [.int .i64 xf, .int .i64 xto, .int .i64 1, .int .i64 xt, .int .i64 xi, .int .i64 xl, .int .i64 xc, .slice ea el ec, .bool xok]), (C1, [.int .i64 id, .int .i64 sz, .int .i64 (fTm tm xt), .int .i64 xf, .int .i64 (fRl tm xt rl), .int .i64 (fLd tm xt ld), .int .i64 (10 + 3 * id), .int .i64 (fVs tm xt vs), .slice ga2 gl gc2, .int .i64 cm, .slice (fA tm xt na2) (fN tm xt nl) (fN tm xt nc2), .slice (fA tm xt ma2) (fN tm xt ml) (fN tm xt mc2)])] X := by have := hS.2; rw [hu] at this; exact this
        have hn := hl.new [.int .i64 id, .int .i64 xf, .int .i64 2, .int .i64 (fTm tm xt), .int .i64 0, .int .i64 0, .int .i64 0, .slice none 0 0, .bool true] 35
        rw [hG2] at hn
        exact ⟨rfl, .inl ⟨79, _, _, rfl, ex_bs1 (P := Try.prog) (w := X) (k := 9) (cs := [.int .i64 id, .int .i64 xf, .int .i64 2, .int .i64 (fTm tm xt), .int .i64 0, .int .i64 0, .int .i64 0, .slice none 0 0, .bool true]) rfl (hv 78 _ rfl (by kernel_rfl)) Try.underlying37 (by kernel_rfl) info_msg rfl (by decide) (by decide), by rw [hG2]; rfl, by simp [upd, hG2], hn⟩⟩
      | 3, ho =>
        obtain rfl := Option.some.inj ho
        have hb : Box X C3 [.int .i64 0, .int .i64 0, .int .i64 0, .int .i64 0, .int .i64 0, .int .i64 0, .int .i64 0, .int .i64 0, .slice none 0 0, .int .i64 0, .slice none 0 0, .slice none 0 0] := by have := hS.2.box (C3, if f 3 then [.int .i64 id, .int .i64 sz, .int .i64 (fTm tm xt), .int .i64 xf, .int .i64 (fRl tm xt rl), .int .i64 (fLd tm xt ld), .int .i64 (10 + 3 * id), .int .i64 (fVs tm xt vs), .slice ga2 gl gc2, .int .i64 cm, .slice (fA tm xt na2) (fN tm xt nl) (fN tm xt nc2), .slice (fA tm xt ma2) (fN tm xt ml) (fN tm xt mc2)] else [.int .i64 0, .int .i64 0, .int .i64 0, .int .i64 0, .int .i64 0, .int .i64 0, .int .i64 0, .int .i64 0, .slice none 0 0, .int .i64 0, .slice none 0 0, .slice none 0 0]) (List.mem_append_right _ (by simp)); rw [hu] at this; exact this
        refine ⟨rfl, .inr ⟨_, rfl, ex_store_row (w := X) 25 (.tmp 4) (.tmp 77) C3 0 [.int .i64 id, .int .i64 sz, .int .i64 (fTm tm xt), .int .i64 xf, .int .i64 (fRl tm xt rl), .int .i64 (fLd tm xt ld), .int .i64 (10 + 3 * id), .int .i64 (fVs tm xt vs), .slice ga2 gl gc2, .int .i64 cm, .slice (fA tm xt na2) (fN tm xt nl) (fN tm xt nc2), .slice (fA tm xt ma2) (fN tm xt ml) (fN tm xt mc2)] rfl (hv 4 _ rfl (by kernel_rfl)) (hv 77 _ rfl (by kernel_rfl)) (hb.there 0 12 (by decide)) info_mem (fun v hv => List.all_eq_true.1 (show List.all [.int .i64 id, .int .i64 sz, .int .i64 (fTm tm xt), .int .i64 xf, .int .i64 (fRl tm xt rl), .int .i64 (fLd tm xt ld), .int .i64 (10 + 3 * id), .int .i64 (fVs tm xt vs), .slice ga2 gl gc2, .int .i64 cm, .slice (fA tm xt na2) (fN tm xt nl) (fN tm xt nc2), .slice (fA tm xt ma2) (fN tm xt ml) (fN tm xt mc2)] (·.oneCell') = true from rfl) v hv), ?_⟩⟩
        have ho := Only.setCells X C3 0 [.int .i64 id, .int .i64 sz, .int .i64 (fTm tm xt), .int .i64 xf, .int .i64 (fRl tm xt rl), .int .i64 (fLd tm xt ld), .int .i64 (10 + 3 * id), .int .i64 (fVs tm xt vs), .slice ga2 gl gc2, .int .i64 cm, .slice (fA tm xt na2) (fN tm xt nl) (fN tm xt nc2), .slice (fA tm xt ma2) (fN tm xt ml) (fN tm xt mc2)] hb.lt
        refine ⟨ho.size.trans hS.1, ?_⟩
        cases h2 : f 2
        · have hl : Bx β [(C12, [.int .i64 id, .int .i64 xf, .int .i64 2, .int .i64 (fTm tm xt), .int .i64 0, .int .i64 0, .int .i64 0, .slice none 0 0, .bool true]), (C3, [.int .i64 0, .int .i64 0, .int .i64 0, .int .i64 0, .int .i64 0, .int .i64 0, .int .i64 0, .int .i64 0, .slice none 0 0, .int .i64 0, .slice none 0 0, .slice none 0 0]), (C2, [.int .i64 xf, .int .i64 xto, .int .i64 1, .int .i64 xt, .int .i64 xi, .int .i64 xl, .int .i64 xc, .slice ea el ec, .bool xok]), (C1, [.int .i64 id, .int .i64 sz, .int .i64 (fTm tm xt), .int .i64 xf, .int .i64 (fRl tm xt rl), .int .i64 (fLd tm xt ld), .int .i64 (10 + 3 * id), .int .i64 (fVs tm xt vs), .slice ga2 gl gc2, .int .i64 cm, .slice (fA tm xt na2) (fN tm xt nl) (fN tm xt nc2), .slice (fA tm xt ma2) (fN tm xt ml) (fN tm xt mc2)])] X := by have := hS.2; rw [h2, hu] at this; exact this
          have hn : Bx β [(C12, [.int .i64 id, .int .i64 xf, .int .i64 2, .int .i64 (fTm tm xt), .int .i64 0, .int .i64 0, .int .i64 0, .slice none 0 0, .bool true]), (C3, [.int .i64 id, .int .i64 sz, .int .i64 (fTm tm xt), .int .i64 xf, .int .i64 (fRl tm xt rl), .int .i64 (fLd tm xt ld), .int .i64 (10 + 3 * id), .int .i64 (fVs tm xt vs), .slice ga2 gl gc2, .int .i64 cm, .slice (fA tm xt na2) (fN tm xt nl) (fN tm xt nc2), .slice (fA tm xt ma2) (fN tm xt ml) (fN tm xt mc2)]), (C2, [.int .i64 xf, .int .i64 xto, .int .i64 1, .int .i64 xt, .int .i64 xi, .int .i64 xl, .int .i64 xc, .slice ea el ec, .bool xok]), (C1, [.int .i64 id, .int .i64 sz, .int .i64 (fTm tm xt), .int .i64 xf, .int .i64 (fRl tm xt rl), .int .i64 (fLd tm xt ld), .int .i64 (10 + 3 * id), .int .i64 (fVs tm xt vs), .slice ga2 gl gc2, .int .i64 cm, .slice (fA tm xt na2) (fN tm xt nl) (fN tm xt nc2), .slice (fA tm xt ma2) (fN tm xt ml) (fN tm xt mc2)])] _ := hl.set (i := 1) rfl (hb.store rfl) ho
          show Bx β ((if f 2 = true then _ else _) ++ _) _
          rw [h2]; exact hn
        · have hl : Bx β [(G13, [.int .i64 id, .int .i64 xf, .int .i64 2, .int .i64 (fTm tm xt), .int .i64 0, .int .i64 0, .int .i64 0, .slice none 0 0, .bool true]), (C12, [.int .i64 id, .int .i64 xf, .int .i64 2, .int .i64 (fTm tm xt), .int .i64 0, .int .i64 0, .int .i64 0, .slice none 0 0, .bool true]), (C3, [.int .i64 0, .int .i64 0, .int .i64 0, .int .i64 0, .int .i64 0, .int .i64 0, .int .i64 0, .int .i64 0, .slice none 0 0, .int .i64 0, .slice none 0 0, .slice none 0 0]), (C2, [.int .i64 xf, .int .i64 xto, .int .i64 1, .int .i64 xt, .int .i64 xi, .int .i64 xl, .int .i64 xc, .slice ea el ec, .bool xok]), (C1, [.int .i64 id, .int .i64 sz, .int .i64 (fTm tm xt), .int .i64 xf, .int .i64 (fRl tm xt rl), .int .i64 (fLd tm xt ld), .int .i64 (10 + 3 * id), .int .i64 (fVs tm xt vs), .slice ga2 gl gc2, .int .i64 cm, .slice (fA tm xt na2) (fN tm xt nl) (fN tm xt nc2), .slice (fA tm xt ma2) (fN tm xt ml) (fN tm xt mc2)])] X := by have := hS.2; rw [h2, hu] at this; exact this
          have hn : Bx β [(G13, [.int .i64 id, .int .i64 xf, .int .i64 2, .int .i64 (fTm tm xt), .int .i64 0, .int .i64 0, .int .i64 0, .slice none 0 0, .bool true]), (C12, [.int .i64 id, .int .i64 xf, .int .i64 2, .int .i64 (fTm tm xt), .int .i64 0, .int .i64 0, .int .i64 0, .slice none 0 0, .bool true]), (C3, [.int .i64 id, .int .i64 sz, .int .i64 (fTm tm xt), .int .i64 xf, .int .i64 (fRl tm xt rl), .int .i64 (fLd tm xt ld), .int .i64 (10 + 3 * id), .int .i64 (fVs tm xt vs), .slice ga2 gl gc2, .int .i64 cm, .slice (fA tm xt na2) (fN tm xt nl) (fN tm xt nc2), .slice (fA tm xt ma2) (fN tm xt ml) (fN tm xt mc2)]), (C2, [.int .i64 xf, .int .i64 xto, .int .i64 1, .int .i64 xt, .int .i64 xi, .int .i64 xl, .int .i64 xc, .slice ea el ec, .bool xok]), (C1, [.int .i64 id, .int .i64 sz, .int .i64 (fTm tm xt), .int .i64 xf, .int .i64 (fRl tm xt rl), .int .i64 (fLd tm xt ld), .int .i64 (10 + 3 * id), .int .i64 (fVs tm xt vs), .slice ga2 gl gc2, .int .i64 cm, .slice (fA tm xt na2) (fN tm xt nl) (fN tm xt nc2), .slice (fA tm xt ma2) (fN tm xt ml) (fN tm xt mc2)])] _ := hl.set (i := 2) rfl (hb.store rfl) ho
          show Bx β ((if f 2 = true then _ else _) ++ _) _
          rw [h2]; exact hn
      | 4, ho =>
        obtain rfl := Option.some.inj ho
        have hf : FrV 80 [(79, .slice (some ⟨G13, 0, none⟩) 1 1)] a := frv_of hN hd (all_cons (hv 79 _ rfl (by kernel_rfl)) (all_nil))
        exact ⟨rfl, .inl ⟨5, .slice (some ⟨G13, 0, none⟩) 1 1, X, rfl, ex_vas hf rfl rfl, rfl, hS⟩⟩
      | j + 5, ho => simp at ho
    replace hX := hS.2
    rw [hall 2 (by decide), hall 3 (by decide)] at hX
    replace hX : Bx β [(G13, [.int .i64 id, .int .i64 xf, .int .i64 2, .int .i64 (fTm tm xt), .int .i64 0, .int .i64 0, .int .i64 0, .slice none 0 0, .bool true]), (C12, [.int .i64 id, .int .i64 xf, .int .i64 2, .int .i64 (fTm tm xt), .int .i64 0, .int .i64 0, .int .i64 0, .slice none 0 0, .bool true]), (C3, [.int .i64 id, .int .i64 sz, .int .i64 (fTm tm xt), .int .i64 xf, .int .i64 (fRl tm xt rl), .int .i64 (fLd tm xt ld), .int .i64 (10 + 3 * id), .int .i64 (fVs tm xt vs), .slice ga2 gl gc2, .int .i64 cm, .slice (fA tm xt na2) (fN tm xt nl) (fN tm xt nc2), .slice (fA tm xt ma2) (fN tm xt ml) (fN tm xt mc2)]), (C2, [.int .i64 xf, .int .i64 xto, .int .i64 1, .int .i64 xt, .int .i64 xi, .int .i64 xl, .int .i64 xc, .slice ea el ec, .bool xok]), (C1, [.int .i64 id, .int .i64 sz, .int .i64 (fTm tm xt), .int .i64 xf, .int .i64 (fRl tm xt rl), .int .i64 (fLd tm xt ld), .int .i64 (10 + 3 * id), .int .i64 (fVs tm xt vs), .slice ga2 gl gc2, .int .i64 cm, .slice (fA tm xt na2) (fN tm xt nl) (fN tm xt nc2), .slice (fA tm xt ma2) (fN tm xt ml) (fN tm xt mc2)])] X := hX
    replace hf := hf.sub (env' := [(5, .slice (some ⟨G13, 0, none⟩) 1 1), (4, .pointer (some ⟨C3, 0, none⟩))]) (sub_cons rfl (sub_cons rfl (sub_nil)))
    refine wp_ret ?_
    try simp only [Exit.inBlock, Exit.then]
    refine bodyPost_ret (res_cell_tmp (c := 4) (d := 5) (C := C3) (cs := [.int .i64 id, .int .i64 sz, .int .i64 (fTm tm xt), .int .i64 xf, .int .i64 (fRl tm xt rl), .int .i64 (fLd tm xt ld), .int .i64 (10 + 3 * id), .int .i64 (fVs tm xt vs), .slice ga2 gl gc2, .int .i64 cm, .slice (fA tm xt na2) (fN tm xt nl) (fN tm xt nc2), .slice (fA tm xt ma2) (fN tm xt ml) (fN tm xt mc2)]) (T := 25) rfl (hf.rel 4 _ rfl) (hf.rel 5 _ rfl) (hX.get (i := 2) rfl) Try.underlying25 info_mem) hf.defers ⟨ga2, gc2, na2, nc2, ma2, mc2, G13, rfl, ?_, hX.get (i := 0) rfl, by have := hX.ge _ (List.mem_of_getElem? (i := 0) rfl); rw [hβ] at this; exact this, by have := hX.low; rw [hβ] at this; exact this⟩
    obtain ⟨m, _, h8, h10, h11⟩ := HE.out
    exact ⟨m, hX.later2 hmem (fun k h => Or.inl (Nat.lt_of_lt_of_le h hb0.size)) (fun k h => Or.inr h) (fun k h => h) (fun k h => Nat.le_trans hsA h) h8, hX.later2 hmem (fun k h => Or.inl (Nat.lt_of_lt_of_le h hb0.size)) (fun k h => Or.inr h) (fun k h => h) (fun k h => Nat.le_trans hsA h) h10, hX.later2 hmem (fun k h => Or.inl (Nat.lt_of_lt_of_le h hb0.size)) (fun k h => Or.inr h) (fun k h => h) (fun k h => Nat.le_trans hsA h) h11⟩
end Go.Proofs.Ytfpgklhbghahoaa
/- Election: the reference's Vote. -/
namespace Go.Proofs.Ytfpgklhbghahoaa
open Go.ChangeShapes Go.WideShapes Go.ChangeAt Go.RowKit Go.ChangeMaps Go.Joins Go.Deep
set_option linter.unusedVariables false
set_option linter.unusedSimpArgs false
set_option maxRecDepth 100000
end Go.Proofs.Ytfpgklhbghahoaa
/- Election: fits; lists of one message. -/
namespace Go.Proofs.Ytfpgklhbghahoaa
open Go.ChangeShapes Go.WideShapes Go.ChangeAt Go.RowKit Go.ChangeMaps Go.Joins Go.Deep
set_option linter.unusedVariables false
set_option linter.unusedSimpArgs false
set_option maxRecDepth 100000
end Go.Proofs.Ytfpgklhbghahoaa
/- Election: lists of one message that hold the same. -/
namespace Go.Proofs.Ytfpgklhbghahoaa
open Go.ChangeShapes Go.WideShapes Go.ChangeAt Go.RowKit Go.ChangeMaps Go.Joins Go.Deep
set_option linter.unusedVariables false
set_option linter.unusedSimpArgs false
set_option maxRecDepth 100000
/-- two boxes under way: what has been made, what has been filled -/
structure Two (b8 b9 b10 b11 : Bool) (u v : Value) (ms zs : List Value) (w X : World) : Prop where
  low : Below w.heap.size w X
  fst : b8 = true → ∃ C, u = .pointer (some ⟨C, 0, none⟩) ∧ Box X C (if b10 then ms else zs) ∧ w.heap.size ≤ C
  snd : b9 = true → ∃ D, v = .pointer (some ⟨D, 0, none⟩) ∧ Box X D (if b11 then ms else zs) ∧ w.heap.size ≤ D
  ne : b8 = true → b9 = true → u ≠ v
  i10 : b10 = true → b8 = true
  i11 : b11 = true → b9 = true
theorem Two.keep {b8 b9 b10 b11 : Bool} {u v : Value} {ms zs : List Value} {w X X' : World} (h : Two b8 b9 b10 b11 u v ms zs w X) (hb : Below X.heap.size X X') : Two b8 b9 b10 b11 u v ms zs w X' :=
  ⟨h.low.trans (hb.mono h.low.size), fun h8 => by obtain ⟨C, h1, h2, h3⟩ := h.fst h8; exact ⟨C, h1, h2.keep hb, h3⟩, fun h9 => by obtain ⟨C, h1, h2, h3⟩ := h.snd h9; exact ⟨C, h1, h2.keep hb, h3⟩, h.ne, h.i10, h.i11⟩
theorem Two.a8 {b9 b10 b11 : Bool} {u v : Value} {ms zs : List Value} {w X : World} (h : Two false b9 b10 b11 u v ms zs w X) (T : TypeId) : Two true b9 b10 b11 (.pointer (some ⟨X.heap.size, 0, none⟩)) v ms zs w (X.alloc (.cells zs.toArray T)) := by
  have h2 := h.keep ((Below.refl X.heap.size X).alloc (Nat.le_refl _) (.cells zs.toArray T))
  refine ⟨h2.low, fun _ => ⟨_, rfl, ?_, h.low.size⟩, h2.snd, fun _ h9 e => ?_, fun _ => rfl, h.i11⟩
  · cases b10 with
    | true => exact absurd (h.i10 rfl) (by decide)
    | false => exact Box.new X zs T
  · obtain ⟨D, h3, h4, _⟩ := h.snd h9
    rw [h3] at e
    have : X.heap.size = D := by injection e with e; injection e with e; injection e
    have := h4.lt
    omega
theorem Two.a9 {b8 b10 b11 : Bool} {u v : Value} {ms zs : List Value} {w X : World} (h : Two b8 false b10 b11 u v ms zs w X) (T : TypeId) : Two b8 true b10 b11 u (.pointer (some ⟨X.heap.size, 0, none⟩)) ms zs w (X.alloc (.cells zs.toArray T)) := by
  have h2 := h.keep ((Below.refl X.heap.size X).alloc (Nat.le_refl _) (.cells zs.toArray T))
  refine ⟨h2.low, h2.fst, fun _ => ⟨_, rfl, ?_, h.low.size⟩, fun h8 _ e => ?_, h.i10, fun _ => rfl⟩
  · cases b11 with
    | true => exact absurd (h.i11 rfl) (by decide)
    | false => exact Box.new X zs T
  · obtain ⟨D, h3, h4, _⟩ := h.fst h8
    rw [h3] at e
    have : D = X.heap.size := by injection e with e; injection e with e; injection e
    have := h4.lt
    omega
theorem Two.s10 {b9 b11 : Bool} {u v : Value} {ms zs : List Value} {w X : World} (h : Two true b9 false b11 u v ms zs w X) (hl : ms.length = zs.length) : ∃ C, u = .pointer (some ⟨C, 0, none⟩) ∧ Box X C zs ∧ Two true b9 true b11 u v ms zs w (X.setCells C 0 ms) := by
  obtain ⟨C, h1, h2, h3⟩ := h.fst rfl
  have h2' : Box X C zs := h2
  have ho := Only.setCells X C 0 ms h2'.lt
  refine ⟨C, h1, h2', h.low.trans (ho.below _ h3), fun _ => ⟨C, h1, h2'.store hl, h3⟩, fun h9 => ?_, h.ne, fun _ => rfl, h.i11⟩
  obtain ⟨D, g1, g2, g3⟩ := h.snd h9
  refine ⟨D, g1, g2.other ho (fun e => h.ne rfl h9 (by rw [h1, g1, e])), g3⟩
theorem Two.s11 {b8 b10 : Bool} {u v : Value} {ms zs : List Value} {w X : World} (h : Two b8 true b10 false u v ms zs w X) (hl : ms.length = zs.length) : ∃ C, v = .pointer (some ⟨C, 0, none⟩) ∧ Box X C zs ∧ Two b8 true b10 true u v ms zs w (X.setCells C 0 ms) := by
  obtain ⟨C, h1, h2, h3⟩ := h.snd rfl
  have h2' : Box X C zs := h2
  have ho := Only.setCells X C 0 ms h2'.lt
  refine ⟨C, h1, h2', h.low.trans (ho.below _ h3), fun h8 => ?_, fun _ => ⟨C, h1, h2'.store hl, h3⟩, h.ne, h.i10, fun _ => rfl⟩
  obtain ⟨D, g1, g2, g3⟩ := h.fst h8
  refine ⟨D, g1, g2.other ho (fun e => h.ne h8 rfl (by rw [h1, g1, e])), g3⟩
end Go.Proofs.Ytfpgklhbghahoaa
/- Election: the law Votes. -/
namespace Go.Proofs.Ytfpgklhbghahoaa
open Go.ChangeShapes Go.WideShapes Go.ChangeAt Go.RowKit Go.ChangeMaps Go.Joins Go.Deep
set_option linter.unusedVariables false
set_option linter.unusedSimpArgs false
set_option maxRecDepth 100000
theorem valid_g {id sz tm vt rl ld ti vs cm : Int} {es : List (List Value)} {xs ys : List Int} (h : validB id sz tm vt rl ld ti vs cm es xs ys = true) : G0 id sz tm vt ld ∧ G1 sz rl ti vs := by
  unfold validB at h
  simp only [Bool.and_eq_true, decide_eq_true_eq] at h
  exact h.1
theorem wf_of {x : Int} (h : -9223372036854775808 ≤ x ∧ x ≤ 9223372036854775807) : (Lit.int .i64 x).wf = true := by
  simp only [Lit.wf, Bool.and_eq_true, decide_eq_true_eq]
  exact h
theorem nil_eqC {W W' : World} {F F' : Nat → Prop} {n : Nat} : EqC Try.prog W W' F F' (n + 1) 23 [.slice none 0 0] [.slice none 0 0] :=
  eqC_slice Try.underlying23 ⟨none, 0, 0, none, 0, rfl, rfl, Nat.le_refl _, ⟨by unfold maxLen; omega, by omega, fun _ => rfl⟩, Nat.le_refl _, ⟨by unfold maxLen; omega, by omega, fun _ => rfl⟩, fun h0 => absurd h0 (Nat.lt_irrefl _)⟩
theorem fol_ints {W W' : World} {F F' : Nat → Prop} {n : Nat} (tm xt : Int) {na na2 : Option Addr} {nl nc nc2 : Nat} (h : EqC Try.prog W W' F F' (n + 1) 23 [.slice na nl nc] [.slice na2 nl nc2]) : EqC Try.prog W W' F F' (n + 1) 23 [.slice (fA tm xt na) (fN tm xt nl) (fN tm xt nc)] [.slice (fA tm xt na2) (fN tm xt nl) (fN tm xt nc2)] := by
  by_cases ht : xt ≤ tm
  · simp only [fA, fN, if_pos ht]; exact h
  · simp only [fA, fN, if_neg ht]; exact nil_eqC
theorem fol_wfs {id sz tm vt rl ld ti vs cm xt xf : Int} (gr : Bool) (hw : ∀ x ∈ [id, sz, tm, vt, rl, ld, ti, vs, cm], (Lit.int .i64 x).wf = true) (h0 : 0 ≤ id) (h7 : id ≤ 7) (hx : (Lit.int .i64 xt).wf = true) (hf : (Lit.int .i64 xf).wf = true) :
    ∀ x ∈ [id, sz, fTm tm xt, if gr then xf else fVt tm xt vt, fRl tm xt rl, fLd tm xt ld, if gr then 10 + 3 * id else fTi tm xt rl ti id, fVs tm xt vs, cm], (Lit.int .i64 x).wf = true := by
  have w0 : (Lit.int .i64 0).wf = true := by decide
  have w1 : (Lit.int .i64 (-1)).wf = true := by decide
  have wt : (Lit.int .i64 (10 + 3 * id)).wf = true := wf_of (by omega)
  have a0 := hw id (by simp)
  have a1 := hw sz (by simp)
  have a2 := hw tm (by simp)
  have a3 := hw vt (by simp)
  have a4 := hw rl (by simp)
  have a5 := hw ld (by simp)
  have a6 := hw ti (by simp)
  have a7 := hw vs (by simp)
  have a9 := hw cm (by simp)
  intro x hx'
  simp only [List.mem_cons, List.not_mem_nil, or_false] at hx'
  rcases hx' with rfl | rfl | rfl | rfl | rfl | rfl | rfl | rfl | rfl
  · exact a0
  · exact a1
  · unfold fTm; split <;> assumption
  · unfold fVt; split <;> (try split) <;> assumption
  · unfold fRl; split <;> assumption
  · unfold fLd; split <;> assumption
  · unfold fTi; split <;> (try split) <;> (try split) <;> assumption
  · unfold fVs; split <;> assumption
  · exact a9
end Go.Proofs.Ytfpgklhbghahoaa
