/- Merged texts: Eh13. -/
import Derived.Test.YtfpgklhbghahoaaVo11
/- Election: the reference's Vote. -/
namespace Go.Proofs.Ytfpgklhbghahoaa
open Go.ChangeShapes Go.WideShapes Go.ChangeAt Go.RowKit Go.ChangeMaps Go.Joins Go.Deep
set_option linter.unusedVariables false
set_option linter.unusedSimpArgs false
set_option maxRecDepth 100000
theorem rvote_any (id sz tm vt rl ld ti vs : Int) (ga : Option Addr) (gl gc : Nat) (cm : Int) (na : Option Addr) (nl nc : Nat) (ma : Option Addr) (ml mc : Nat) (xf xto xk xt xi xl xc : Int) (ea : Option Addr) (el ec : Nat) (xok : Bool) (lt : Int) (w : World) (hlt : LastAt w (.slice ga gl gc) lt) (h0 : 0 ≤ id) (h7 : id ≤ 7) (hxk : xk = 1) (gr : Bool) (hgr : gr = grantB xt xf (fTm tm xt) (fVt tm xt vt) (newB xl xi lt gl)) :
    Calls Try.prog 20 #[mem id sz tm vt rl ld ti vs (.slice ga gl gc) cm (.slice na nl nc) (.slice ma ml mc), .agg #[.int .i64 xf, .int .i64 xto, .int .i64 xk, .int .i64 xt, .int .i64 xi, .int .i64 xl, .int .i64 xc, .slice ea el ec, .bool xok]] w fun e w' => ∃ G, e = .returned (.tuple #[mem id sz (fTm tm xt) (if gr then xf else fVt tm xt vt) (fRl tm xt rl) (fLd tm xt ld) (if gr then 10 + 3 * id else fTi tm xt rl ti id) (fVs tm xt vs) (.slice ga gl gc) cm (.slice (fA tm xt na) (fN tm xt nl) (fN tm xt nc)) (.slice (fA tm xt ma) (fN tm xt ml) (fN tm xt mc)), .slice (some ⟨G, 0, none⟩) 1 1]) ∧ Box w' G [.int .i64 id, .int .i64 xf, .int .i64 2, .int .i64 (fTm tm xt), .int .i64 0, .int .i64 0, .int .i64 0, .slice none 0 0, .bool gr] ∧ w.heap.size ≤ G ∧ Below w.heap.size w w' := by
  obtain ⟨nw, hnw⟩ : ∃ b, b = newB xl xi lt gl := ⟨_, rfl⟩
  rw [← hnw] at hgr
  subst hxk
  refine calls_frv (N := 74) (vs := [.agg #[.int .i64 id, .int .i64 sz, .int .i64 tm, .int .i64 vt, .int .i64 rl, .int .i64 ld, .int .i64 ti, .int .i64 vs, .slice ga gl gc, .int .i64 cm, .slice na nl nc, .slice ma ml mc], .agg #[.int .i64 xf, .int .i64 xto, .int .i64 1, .int .i64 xt, .int .i64 xi, .int .i64 xl, .int .i64 xc, .slice ea el ec, .bool xok]]) [(0, .agg #[.int .i64 id, .int .i64 sz, .int .i64 tm, .int .i64 vt, .int .i64 rl, .int .i64 ld, .int .i64 ti, .int .i64 vs, .slice ga gl gc, .int .i64 cm, .slice na nl nc, .slice ma ml mc]), (1, .agg #[.int .i64 xf, .int .i64 xto, .int .i64 1, .int .i64 xt, .int .i64 xi, .int .i64 xl, .int .i64 xc, .slice ea el ec, .bool xok])] Try.func20 rfl rfl (of_decide_eq_true rfl) (fun p hp => by simp only [List.mem_cons, List.not_mem_nil, or_false] at hp; rcases hp with rfl | rfl <;> rfl) (fun a hf => ?_)
  have hX := Bx.start w
  refine wp_seq ?_
  refine wp_region_lit ?_
  refine sv_box hf hX rfl (by decide) (fun a C1 W hC hf hX => ?_)
  clear hC
  refine sv_box hf hX rfl (by decide) (fun a C2 W hC hf hX => ?_)
  clear hC
  refine sv_alloc (zs := [.int .i64 0, .int .i64 0, .int .i64 0, .int .i64 0, .int .i64 0, .int .i64 0, .int .i64 0, .int .i64 0, .slice none 0 0, .int .i64 0, .slice none 0 0, .slice none 0 0]) hf hX zero_mem (by decide) (fun a C3 W hC hf hX => ?_)
  clear hC
  refine sv_ac hf (by decide) (fun a hf => ?_)
  replace hf := hf.sub (env' := [(5, .slice none 0 0), (4, .pointer (some ⟨C3, 0, none⟩)), (3, .pointer (some ⟨C2, 0, none⟩)), (2, .pointer (some ⟨C1, 0, none⟩))]) (sub_cons rfl (sub_cons rfl (sub_cons rfl (sub_cons rfl (sub_nil)))))
  refine sv_nil hf ?_
  refine wp_seq ?_
  refine wp_seq ?_
  refine wp_region_lit ?_
  refine sv_fld hf rfl Try.underlying35 rfl sz_int (2) rfl (by decide) (fun a hf => ?_)
  refine sv_lc hf hX rfl 1 rfl rfl Try.underlying3 rfl (by decide) (fun a hf => ?_)
  refine sv_cmp hf rfl rfl false (congrArg some (by rw [decide_eq_true rfl]; rfl)) (by decide) (fun a hf => ?_)
  replace hf := hf.sub (env' := [(10, .bool false), (5, .slice none 0 0), (4, .pointer (some ⟨C3, 0, none⟩)), (3, .pointer (some ⟨C2, 0, none⟩)), (2, .pointer (some ⟨C1, 0, none⟩))]) (sub_cons rfl (sub_cons rfl (sub_cons rfl (sub_cons rfl (sub_cons rfl (sub_nil))))))
  refine sv_nil hf ?_
  refine wp_cond_false (hf.rel _ _ rfl) ?_
  refine wp_skip ?_
  refine wp_seq ?_
  refine wp_region_lit ?_
  refine sv_lr hf hX rfl 2 rfl Try.underlying25 info_mem (by decide) (fun a hf => ?_)
  refine sv_fld hf rfl Try.underlying35 rfl sz_int (3) rfl (by decide) (fun a hf => ?_)
  refine sv_lc hf hX rfl 1 rfl rfl Try.underlying3 rfl (by decide) (fun a hf => ?_)
  refine sv_call hf fnOK_39 rfl (rstep_let _ _ _ _ _ _ _ _ _ _ _ _ _ _ _ _ _ _ _ _ h0 h7) (by decide) ?_
  rintro e W ⟨rfl, hb⟩
  replace hX := hX.keep hb
  clear hb
  refine ⟨_, rfl, fun a hf => ?_⟩
  refine sv_sr hf hX rfl rfl 2 rfl rfl info_mem (fun v hv => List.all_eq_true.1 (show List.all [.int .i64 id, .int .i64 sz, .int .i64 (fTm tm xt), .int .i64 (fVt tm xt vt), .int .i64 (fRl tm xt rl), .int .i64 (fLd tm xt ld), .int .i64 (fTi tm xt rl ti id), .int .i64 (fVs tm xt vs), .slice ga gl gc, .int .i64 cm, .slice (fA tm xt na) (fN tm xt nl) (fN tm xt nc), .slice (fA tm xt ma) (fN tm xt ml) (fN tm xt mc)] (·.oneCell') = true from rfl) v hv) [(C3, [.int .i64 0, .int .i64 0, .int .i64 0, .int .i64 0, .int .i64 0, .int .i64 0, .int .i64 0, .int .i64 0, .slice none 0 0, .int .i64 0, .slice none 0 0, .slice none 0 0]), (C2, [.int .i64 xf, .int .i64 xto, .int .i64 1, .int .i64 xt, .int .i64 xi, .int .i64 xl, .int .i64 xc, .slice ea el ec, .bool xok]), (C1, [.int .i64 id, .int .i64 sz, .int .i64 (fTm tm xt), .int .i64 (fVt tm xt vt), .int .i64 (fRl tm xt rl), .int .i64 (fLd tm xt ld), .int .i64 (fTi tm xt rl ti id), .int .i64 (fVs tm xt vs), .slice ga gl gc, .int .i64 cm, .slice (fA tm xt na) (fN tm xt nl) (fN tm xt nc), .slice (fA tm xt ma) (fN tm xt ml) (fN tm xt mc)])] rfl (fun W hX => ?_)
  replace hf := hf.sub (env' := [(5, .slice none 0 0), (4, .pointer (some ⟨C3, 0, none⟩)), (3, .pointer (some ⟨C2, 0, none⟩)), (2, .pointer (some ⟨C1, 0, none⟩))]) (sub_cons rfl (sub_cons rfl (sub_cons rfl (sub_cons rfl (sub_nil)))))
  refine sv_nil hf ?_
  refine wp_seq ?_
  refine wp_meet_region (fun a X => FrV 74 [(6, .bool nw), (5, .slice none 0 0), (4, .pointer (some ⟨C3, 0, none⟩)), (3, .pointer (some ⟨C2, 0, none⟩)), (2, .pointer (some ⟨C1, 0, none⟩))] a ∧ Bx ⟨w, []⟩ [(C3, [.int .i64 0, .int .i64 0, .int .i64 0, .int .i64 0, .int .i64 0, .int .i64 0, .int .i64 0, .int .i64 0, .slice none 0 0, .int .i64 0, .slice none 0 0, .slice none 0 0]), (C2, [.int .i64 xf, .int .i64 xto, .int .i64 1, .int .i64 xt, .int .i64 xi, .int .i64 xl, .int .i64 xc, .slice ea el ec, .bool xok]), (C1, [.int .i64 id, .int .i64 sz, .int .i64 (fTm tm xt), .int .i64 (fVt tm xt vt), .int .i64 (fRl tm xt rl), .int .i64 (fLd tm xt ld), .int .i64 (fTi tm xt rl ti id), .int .i64 (fVs tm xt vs), .slice ga gl gc, .int .i64 cm, .slice (fA tm xt na) (fN tm xt nl) (fN tm xt nc), .slice (fA tm xt ma) (fN tm xt ml) (fN tm xt mc)])] X) (fun K hK => ?_) (fun a W hJ => ?_)
  ·
    refine wp_region_ordW 21 20 [(0, 0), (1, 1), (2, 1), (3, 2), (4, 0), (5, 0), (6, 0), (7, 1), (8, 1), (9, 2), (10, 0), (11, 0), (12, 0), (13, 1), (14, 0), (15, 1), (16, 0), (17, 0), (18, 0), (19, 0), (20, 3)] (fun X => Bx ⟨w, []⟩ [(C3, [.int .i64 0, .int .i64 0, .int .i64 0, .int .i64 0, .int .i64 0, .int .i64 0, .int .i64 0, .int .i64 0, .slice none 0 0, .int .i64 0, .slice none 0 0, .slice none 0 0]), (C2, [.int .i64 xf, .int .i64 xto, .int .i64 1, .int .i64 xt, .int .i64 xi, .int .i64 xl, .int .i64 xc, .slice ea el ec, .bool xok]), (C1, [.int .i64 id, .int .i64 sz, .int .i64 (fTm tm xt), .int .i64 (fVt tm xt vt), .int .i64 (fRl tm xt rl), .int .i64 (fLd tm xt ld), .int .i64 (fTi tm xt rl ti id), .int .i64 (fVs tm xt vs), .slice ga gl gc, .int .i64 cm, .slice (fA tm xt na) (fN tm xt nl) (fN tm xt nc), .slice (fA tm xt ma) (fN tm xt ml) (fN tm xt mc)])] X) mixed (by kernel_rfl) hX.drew (fun c a d v w h => by cases d <;> exact h) ?_
    replace hX := hX.drew
    refine ov0 hf rfl rfl (by decide) rfl (fun X => ex_vfld (5) hf rfl rfl Try.underlying35 rfl sz_int rfl) (fun a hf => ?_)
    refine ov1 hf rfl rfl (by decide) rfl (fun X hS => ex_vlc (cs := [.int .i64 xf, .int .i64 xto, .int .i64 1, .int .i64 xt, .int .i64 xi, .int .i64 xl, .int .i64 xc, .slice ea el ec, .bool xok]) hf rfl rfl (hS.get (i := 1) rfl) rfl Try.underlying3 rfl) (fun a hf => ?_)
    refine ov1 hf rfl rfl (by decide) rfl (fun X hS => ex_vlr (cs := [.int .i64 id, .int .i64 sz, .int .i64 (fTm tm xt), .int .i64 (fVt tm xt vt), .int .i64 (fRl tm xt rl), .int .i64 (fLd tm xt ld), .int .i64 (fTi tm xt rl ti id), .int .i64 (fVs tm xt vs), .slice ga gl gc, .int .i64 cm, .slice (fA tm xt na) (fN tm xt nl) (fN tm xt nc), .slice (fA tm xt ma) (fN tm xt ml) (fN tm xt mc)]) hf rfl rfl (hS.get (i := 2) rfl) Try.underlying25 info_mem) (fun a hf => ?_)
    refine ov2c hf rfl rfl (by decide) rfl rfl fnOK_40 rfl (last_any _ _ _ _ _ _ _ _ _ _ _ _ lt _ (hlt.below hX.low)) ?_
    rintro e W ⟨rfl, hb⟩
    replace hX := hX.keep hb
    clear hb
    refine ⟨_, rfl, hX, fun a hf => ?_⟩
    rcases Decidable.em (lt < xl) with h4 | h4
    ·
      refine ov0 hf rfl rfl (by decide) rfl (fun X => ex_cmp (b := true) hf rfl rfl rfl (congrArg some (decide_eq_true h4))) (fun a hf => ?_)
      refine ov0 hf rfl rfl (by decide) rfl (fun X => ex_vmv hf rfl rfl) (fun a hf => ?_)
      refine ovs hf rfl rfl (by decide) (unwanted_known hf rfl rfl rfl (by decide)) (fun a hf => ?_)
      refine ovs1 hf rfl rfl (by decide) (unwanted_known hf rfl rfl rfl (by decide)) (fun a hf => ?_)
      refine ovs1 hf rfl rfl (by decide) (unwanted_known hf rfl rfl rfl (by decide)) (fun a hf => ?_)
      refine ov2s hf rfl rfl (by decide) (unwanted_known hf rfl rfl rfl (by decide)) hX (fun a hf => ?_)
      refine ovs hf rfl rfl (by decide) (unwanted_known hf rfl rfl rfl (by decide)) (fun a hf => ?_)
      refine ovs hf rfl rfl (by decide) (unwanted_known hf rfl rfl rfl (by decide)) (fun a hf => ?_)
      refine ovs hf rfl rfl (by decide) (unwanted_undef hf rfl rfl rfl) (fun a hf => ?_)
      refine ovs1 hf rfl rfl (by decide) (unwanted_undef hf rfl rfl rfl) (fun a hf => ?_)
      refine ovs hf rfl rfl (by decide) (unwanted_undef hf rfl rfl rfl) (fun a hf => ?_)
      refine ovs1 hf rfl rfl (by decide) (unwanted_undef hf rfl rfl rfl) (fun a hf => ?_)
      refine ovs hf rfl rfl (by decide) (unwanted_undef hf rfl rfl rfl) (fun a hf => ?_)
      refine ovs hf rfl rfl (by decide) (unwanted_undef hf rfl rfl rfl) (fun a hf => ?_)
      refine ovs hf rfl rfl (by decide) (unwanted_known hf rfl rfl rfl (by decide)) (fun a hf => ?_)
      refine ov0 hf rfl rfl (by decide) rfl (fun X => ex_pk (b := true) hf rfl rfl rfl) (fun a hf => ?_)
      refine ov3v hf rfl rfl (by decide) rfl (ex_vas hf rfl rfl) (fun a hf => ?_)
      replace hf := hf.sub (env' := [(6, .bool true), (5, .slice none 0 0), (4, .pointer (some ⟨C3, 0, none⟩)), (3, .pointer (some ⟨C2, 0, none⟩)), (2, .pointer (some ⟨C1, 0, none⟩))]) (sub_cons rfl (sub_cons rfl (sub_cons rfl (sub_cons rfl (sub_cons rfl (sub_nil))))))
      refine wpOrd_nil ?_
      exact hK _ _ ⟨hf.sub (sub_cons (congrArg some (congrArg Value.bool (show true = nw by rw [hnw]; unfold newB; simp only [decide_eq_true h4]; first | done | rfl | simp))) (sub_cons rfl (sub_cons rfl (sub_cons rfl (sub_cons rfl (sub_nil)))))), hX⟩
    ·
      refine ov0 hf rfl rfl (by decide) rfl (fun X => ex_cmp (b := false) hf rfl rfl rfl (congrArg some (decide_eq_false h4))) (fun a hf => ?_)
      refine ov0 hf rfl rfl (by decide) rfl (fun X => ex_vmv hf rfl rfl) (fun a hf => ?_)
      refine ov0 hf rfl rfl (by decide) (wanted_known hf rfl rfl rfl) (fun X => ex_vfld (5) hf rfl rfl Try.underlying35 rfl sz_int rfl) (fun a hf => ?_)
      refine ov1 hf rfl rfl (by decide) (wanted_known hf rfl rfl rfl) (fun X hS => ex_vlc (cs := [.int .i64 xf, .int .i64 xto, .int .i64 1, .int .i64 xt, .int .i64 xi, .int .i64 xl, .int .i64 xc, .slice ea el ec, .bool xok]) hf rfl rfl (hS.get (i := 1) rfl) rfl Try.underlying3 rfl) (fun a hf => ?_)
      refine ov1 hf rfl rfl (by decide) (wanted_known hf rfl rfl rfl) (fun X hS => ex_vlr (cs := [.int .i64 id, .int .i64 sz, .int .i64 (fTm tm xt), .int .i64 (fVt tm xt vt), .int .i64 (fRl tm xt rl), .int .i64 (fLd tm xt ld), .int .i64 (fTi tm xt rl ti id), .int .i64 (fVs tm xt vs), .slice ga gl gc, .int .i64 cm, .slice (fA tm xt na) (fN tm xt nl) (fN tm xt nc), .slice (fA tm xt ma) (fN tm xt ml) (fN tm xt mc)]) hf rfl rfl (hS.get (i := 2) rfl) Try.underlying25 info_mem) (fun a hf => ?_)
      refine ov2c hf rfl rfl (by decide) (wanted_known hf rfl rfl rfl) rfl fnOK_40 rfl (last_any _ _ _ _ _ _ _ _ _ _ _ _ lt _ (hlt.below hX.low)) ?_
      rintro e W ⟨rfl, hb⟩
      replace hX := hX.keep hb
      clear hb
      refine ⟨_, rfl, hX, fun a hf => ?_⟩
      rcases Decidable.em (xl = lt) with h5 | h5
      ·
        refine ov0 hf rfl rfl (by decide) (wanted_known hf rfl rfl rfl) (fun X => ex_cmp (b := true) hf rfl rfl rfl (congrArg some (decide_eq_true h5))) (fun a hf => ?_)
        refine ov0 hf rfl rfl (by decide) (wanted_known hf rfl rfl rfl) (fun X => ex_vmv hf rfl rfl) (fun a hf => ?_)
        refine ov0 hf rfl rfl (by decide) (wanted_known hf rfl rfl rfl) (fun X => ex_vfld (4) hf rfl rfl Try.underlying35 rfl sz_int rfl) (fun a hf => ?_)
        refine ov1 hf rfl rfl (by decide) (wanted_known hf rfl rfl rfl) (fun X hS => ex_vlc (cs := [.int .i64 xf, .int .i64 xto, .int .i64 1, .int .i64 xt, .int .i64 xi, .int .i64 xl, .int .i64 xc, .slice ea el ec, .bool xok]) hf rfl rfl (hS.get (i := 1) rfl) rfl Try.underlying3 rfl) (fun a hf => ?_)
        refine ov0 hf rfl rfl (by decide) (wanted_known hf rfl rfl rfl) (fun X => ex_vfld (8) hf rfl rfl Try.underlying25 rfl sz_ents rfl) (fun a hf => ?_)
        refine ov1 hf rfl rfl (by decide) (wanted_known hf rfl rfl rfl) (fun X hS => ex_vlc (cs := [.int .i64 id, .int .i64 sz, .int .i64 (fTm tm xt), .int .i64 (fVt tm xt vt), .int .i64 (fRl tm xt rl), .int .i64 (fLd tm xt ld), .int .i64 (fTi tm xt rl ti id), .int .i64 (fVs tm xt vs), .slice ga gl gc, .int .i64 cm, .slice (fA tm xt na) (fN tm xt nl) (fN tm xt nc), .slice (fA tm xt ma) (fN tm xt ml) (fN tm xt mc)]) hf rfl rfl (hS.get (i := 2) rfl) rfl Try.underlying22 rfl) (fun a hf => ?_)
        refine ov0 hf rfl rfl (by decide) (wanted_known hf rfl rfl rfl) (fun X => ex_len hf rfl rfl Try.underlying22) (fun a hf => ?_)
        rcases Decidable.em (((gl : Nat) : Int) ≤ xi) with h6 | h6
        ·
          refine ov0 hf rfl rfl (by decide) (wanted_known hf rfl rfl rfl) (fun X => ex_cmp (b := true) hf rfl rfl rfl (congrArg some (decide_eq_true h6))) (fun a hf => ?_)
          refine ov0 hf rfl rfl (by decide) (wanted_known hf rfl rfl rfl) (fun X => ex_pk (b := true) hf rfl rfl rfl) (fun a hf => ?_)
          refine ov0 hf rfl rfl (by decide) rfl (fun X => ex_pk (b := false) hf rfl rfl rfl) (fun a hf => ?_)
          refine ov3v hf rfl rfl (by decide) rfl (ex_vas hf rfl rfl) (fun a hf => ?_)
          replace hf := hf.sub (env' := [(6, .bool true), (5, .slice none 0 0), (4, .pointer (some ⟨C3, 0, none⟩)), (3, .pointer (some ⟨C2, 0, none⟩)), (2, .pointer (some ⟨C1, 0, none⟩))]) (sub_cons rfl (sub_cons rfl (sub_cons rfl (sub_cons rfl (sub_cons rfl (sub_nil))))))
          refine wpOrd_nil ?_
          exact hK _ _ ⟨hf.sub (sub_cons (congrArg some (congrArg Value.bool (show true = nw by rw [hnw]; unfold newB; simp only [decide_eq_false h4, decide_eq_true h5, decide_eq_true h6]; first | done | rfl | simp))) (sub_cons rfl (sub_cons rfl (sub_cons rfl (sub_cons rfl (sub_nil)))))), hX⟩
        ·
          refine ov0 hf rfl rfl (by decide) (wanted_known hf rfl rfl rfl) (fun X => ex_cmp (b := false) hf rfl rfl rfl (congrArg some (decide_eq_false h6))) (fun a hf => ?_)
          refine ov0 hf rfl rfl (by decide) (wanted_known hf rfl rfl rfl) (fun X => ex_pk (b := true) hf rfl rfl rfl) (fun a hf => ?_)
          refine ov0 hf rfl rfl (by decide) rfl (fun X => ex_pk (b := false) hf rfl rfl rfl) (fun a hf => ?_)
          refine ov3v hf rfl rfl (by decide) rfl (ex_vas hf rfl rfl) (fun a hf => ?_)
          replace hf := hf.sub (env' := [(6, .bool false), (5, .slice none 0 0), (4, .pointer (some ⟨C3, 0, none⟩)), (3, .pointer (some ⟨C2, 0, none⟩)), (2, .pointer (some ⟨C1, 0, none⟩))]) (sub_cons rfl (sub_cons rfl (sub_cons rfl (sub_cons rfl (sub_cons rfl (sub_nil))))))
          refine wpOrd_nil ?_
          exact hK _ _ ⟨hf.sub (sub_cons (congrArg some (congrArg Value.bool (show false = nw by rw [hnw]; unfold newB; simp only [decide_eq_false h4, decide_eq_true h5, decide_eq_false h6]; first | done | rfl | simp))) (sub_cons rfl (sub_cons rfl (sub_cons rfl (sub_cons rfl (sub_nil)))))), hX⟩
      ·
        refine ov0 hf rfl rfl (by decide) (wanted_known hf rfl rfl rfl) (fun X => ex_cmp (b := false) hf rfl rfl rfl (congrArg some (decide_eq_false h5))) (fun a hf => ?_)
        refine ov0 hf rfl rfl (by decide) (wanted_known hf rfl rfl rfl) (fun X => ex_vmv hf rfl rfl) (fun a hf => ?_)
        refine ovs hf rfl rfl (by decide) (unwanted_known hf rfl rfl rfl (by decide)) (fun a hf => ?_)
        refine ovs1 hf rfl rfl (by decide) (unwanted_known hf rfl rfl rfl (by decide)) (fun a hf => ?_)
        refine ovs hf rfl rfl (by decide) (unwanted_known hf rfl rfl rfl (by decide)) (fun a hf => ?_)
        refine ovs1 hf rfl rfl (by decide) (unwanted_known hf rfl rfl rfl (by decide)) (fun a hf => ?_)
        refine ovs hf rfl rfl (by decide) (unwanted_known hf rfl rfl rfl (by decide)) (fun a hf => ?_)
        refine ovs hf rfl rfl (by decide) (unwanted_known hf rfl rfl rfl (by decide)) (fun a hf => ?_)
        refine ov0 hf rfl rfl (by decide) (wanted_known hf rfl rfl rfl) (fun X => ex_pk (b := false) hf rfl rfl rfl) (fun a hf => ?_)
        refine ov0 hf rfl rfl (by decide) rfl (fun X => ex_pk (b := false) hf rfl rfl rfl) (fun a hf => ?_)
        refine ov3v hf rfl rfl (by decide) rfl (ex_vas hf rfl rfl) (fun a hf => ?_)
        replace hf := hf.sub (env' := [(6, .bool false), (5, .slice none 0 0), (4, .pointer (some ⟨C3, 0, none⟩)), (3, .pointer (some ⟨C2, 0, none⟩)), (2, .pointer (some ⟨C1, 0, none⟩))]) (sub_cons rfl (sub_cons rfl (sub_cons rfl (sub_cons rfl (sub_cons rfl (sub_nil))))))
        refine wpOrd_nil ?_
        exact hK _ _ ⟨hf.sub (sub_cons (congrArg some (congrArg Value.bool (show false = nw by rw [hnw]; unfold newB; simp only [decide_eq_false h4, decide_eq_false h5]; first | done | rfl | simp))) (sub_cons rfl (sub_cons rfl (sub_cons rfl (sub_cons rfl (sub_nil)))))), hX⟩
  obtain ⟨hf, hX⟩ := hJ
  refine wp_seq ?_
  refine wp_meet_region (fun a X => FrV 74 [(7, .bool gr), (5, .slice none 0 0), (4, .pointer (some ⟨C3, 0, none⟩)), (3, .pointer (some ⟨C2, 0, none⟩)), (2, .pointer (some ⟨C1, 0, none⟩))] a ∧ Bx ⟨w, []⟩ [(C3, [.int .i64 0, .int .i64 0, .int .i64 0, .int .i64 0, .int .i64 0, .int .i64 0, .int .i64 0, .int .i64 0, .slice none 0 0, .int .i64 0, .slice none 0 0, .slice none 0 0]), (C2, [.int .i64 xf, .int .i64 xto, .int .i64 1, .int .i64 xt, .int .i64 xi, .int .i64 xl, .int .i64 xc, .slice ea el ec, .bool xok]), (C1, [.int .i64 id, .int .i64 sz, .int .i64 (fTm tm xt), .int .i64 (fVt tm xt vt), .int .i64 (fRl tm xt rl), .int .i64 (fLd tm xt ld), .int .i64 (fTi tm xt rl ti id), .int .i64 (fVs tm xt vs), .slice ga gl gc, .int .i64 cm, .slice (fA tm xt na) (fN tm xt nl) (fN tm xt nc), .slice (fA tm xt ma) (fN tm xt ml) (fN tm xt mc)])] X) (fun K hK => ?_) (fun a W hJ => ?_)
  ·
    refine wp_region_lit ?_
    refine sv_fld hf rfl Try.underlying35 rfl sz_int (3) rfl (by decide) (fun a hf => ?_)
    refine sv_lc hf hX rfl 1 rfl rfl Try.underlying3 rfl (by decide) (fun a hf => ?_)
    refine sv_fld hf rfl Try.underlying25 rfl sz_int (2) rfl (by decide) (fun a hf => ?_)
    refine sv_lc hf hX rfl 2 rfl rfl Try.underlying3 rfl (by decide) (fun a hf => ?_)
    rcases Decidable.em (xt = fTm tm xt) with h7 | h7
    ·
      refine sv_cmp hf rfl rfl true (congrArg some (decide_eq_true h7)) (by decide) (fun a hf => ?_)
      refine sv_mv hf rfl (by decide) (fun a hf => ?_)
      refine sv_want hf rfl rfl ?_
      refine sv_fld hf rfl Try.underlying25 rfl sz_int (3) rfl (by decide) (fun a hf => ?_)
      refine sv_want hf rfl rfl ?_
      refine sv_lc hf hX rfl 2 rfl rfl Try.underlying3 rfl (by decide) (fun a hf => ?_)
      refine sv_want hf rfl rfl ?_
      rcases Decidable.em (fVt tm xt vt = (-1)) with h8 | h8
      ·
        refine sv_cmp hf rfl rfl true (congrArg some (decide_eq_true h8)) (by decide) (fun a hf => ?_)
        refine sv_want hf rfl rfl ?_
        refine sv_mv hf rfl (by decide) (fun a hf => ?_)
        refine sv_skip1 hf rfl rfl (by decide) (by decide) (fun a hf => ?_)
        refine sv_skip1 hf rfl rfl (by decide) (by decide) (fun a hf => ?_)
        refine sv_skip1 hf rfl rfl (by decide) (by decide) (fun a hf => ?_)
        refine sv_skip1 hf rfl rfl (by decide) (by decide) (fun a hf => ?_)
        refine sv_skip1 hf rfl rfl (by decide) (by decide) (fun a hf => ?_)
        refine sv_want hf rfl rfl ?_
        refine sv_pk hf rfl rfl (by decide) (fun a hf => ?_)
        refine sv_pk hf rfl rfl (by decide) (fun a hf => ?_)
        refine sv_mv hf rfl (by decide) (fun a hf => ?_)
        refine sv_want hf rfl rfl ?_
        refine sv_mv hf rfl (by decide) (fun a hf => ?_)
        refine sv_pk hf rfl rfl (by decide) (fun a hf => ?_)
        refine sv_as hf rfl (by decide) (fun a hf => ?_)
        replace hf := hf.sub (env' := [(7, .bool nw), (5, .slice none 0 0), (4, .pointer (some ⟨C3, 0, none⟩)), (3, .pointer (some ⟨C2, 0, none⟩)), (2, .pointer (some ⟨C1, 0, none⟩))]) (sub_cons rfl (sub_cons rfl (sub_cons rfl (sub_cons rfl (sub_cons rfl (sub_nil))))))
        refine sv_nil hf ?_
        exact hK _ _ ⟨hf.sub (sub_cons (congrArg some (congrArg Value.bool (show nw = gr by rw [hgr]; unfold grantB; simp only [decide_eq_true h7, decide_eq_true h8]; first | done | rfl | simp))) (sub_cons rfl (sub_cons rfl (sub_cons rfl (sub_cons rfl (sub_nil)))))), hX⟩
      ·
        refine sv_cmp hf rfl rfl false (congrArg some (decide_eq_false h8)) (by decide) (fun a hf => ?_)
        refine sv_want hf rfl rfl ?_
        refine sv_mv hf rfl (by decide) (fun a hf => ?_)
        refine sv_want hf rfl rfl ?_
        refine sv_fld hf rfl Try.underlying25 rfl sz_int (3) rfl (by decide) (fun a hf => ?_)
        refine sv_want hf rfl rfl ?_
        refine sv_lc hf hX rfl 2 rfl rfl Try.underlying3 rfl (by decide) (fun a hf => ?_)
        refine sv_want hf rfl rfl ?_
        refine sv_fld hf rfl Try.underlying35 rfl sz_int (0) rfl (by decide) (fun a hf => ?_)
        refine sv_want hf rfl rfl ?_
        refine sv_lc hf hX rfl 1 rfl rfl Try.underlying3 rfl (by decide) (fun a hf => ?_)
        refine sv_want hf rfl rfl ?_
        rcases Decidable.em (fVt tm xt vt = xf) with h9 | h9
        ·
          refine sv_cmp hf rfl rfl true (congrArg some (decide_eq_true h9)) (by decide) (fun a hf => ?_)
          refine sv_want hf rfl rfl ?_
          refine sv_pk hf rfl rfl (by decide) (fun a hf => ?_)
          refine sv_pk hf rfl rfl (by decide) (fun a hf => ?_)
          refine sv_mv hf rfl (by decide) (fun a hf => ?_)
          refine sv_want hf rfl rfl ?_
          refine sv_mv hf rfl (by decide) (fun a hf => ?_)
          refine sv_pk hf rfl rfl (by decide) (fun a hf => ?_)
          refine sv_as hf rfl (by decide) (fun a hf => ?_)
          replace hf := hf.sub (env' := [(7, .bool nw), (5, .slice none 0 0), (4, .pointer (some ⟨C3, 0, none⟩)), (3, .pointer (some ⟨C2, 0, none⟩)), (2, .pointer (some ⟨C1, 0, none⟩))]) (sub_cons rfl (sub_cons rfl (sub_cons rfl (sub_cons rfl (sub_cons rfl (sub_nil))))))
          refine sv_nil hf ?_
          exact hK _ _ ⟨hf.sub (sub_cons (congrArg some (congrArg Value.bool (show nw = gr by rw [hgr]; unfold grantB; simp only [decide_eq_true h7, decide_eq_false h8, decide_eq_true h9]; first | done | rfl | simp))) (sub_cons rfl (sub_cons rfl (sub_cons rfl (sub_cons rfl (sub_nil)))))), hX⟩
        ·
          refine sv_cmp hf rfl rfl false (congrArg some (decide_eq_false h9)) (by decide) (fun a hf => ?_)
          refine sv_want hf rfl rfl ?_
          refine sv_pk hf rfl rfl (by decide) (fun a hf => ?_)
          refine sv_pk hf rfl rfl (by decide) (fun a hf => ?_)
          refine sv_mv hf rfl (by decide) (fun a hf => ?_)
          refine sv_skip1 hf rfl rfl (by decide) (by decide) (fun a hf => ?_)
          refine sv_pk hf rfl rfl (by decide) (fun a hf => ?_)
          refine sv_as hf rfl (by decide) (fun a hf => ?_)
          replace hf := hf.sub (env' := [(7, .bool false), (5, .slice none 0 0), (4, .pointer (some ⟨C3, 0, none⟩)), (3, .pointer (some ⟨C2, 0, none⟩)), (2, .pointer (some ⟨C1, 0, none⟩))]) (sub_cons rfl (sub_cons rfl (sub_cons rfl (sub_cons rfl (sub_cons rfl (sub_nil))))))
          refine sv_nil hf ?_
          exact hK _ _ ⟨hf.sub (sub_cons (congrArg some (congrArg Value.bool (show false = gr by rw [hgr]; unfold grantB; simp only [decide_eq_true h7, decide_eq_false h8, decide_eq_false h9]; first | done | rfl | simp))) (sub_cons rfl (sub_cons rfl (sub_cons rfl (sub_cons rfl (sub_nil)))))), hX⟩
    ·
      refine sv_cmp hf rfl rfl false (congrArg some (decide_eq_false h7)) (by decide) (fun a hf => ?_)
      refine sv_mv hf rfl (by decide) (fun a hf => ?_)
      refine sv_skip1 hf rfl rfl (by decide) (by decide) (fun a hf => ?_)
      refine sv_skip1 hf rfl rfl (by decide) (by decide) (fun a hf => ?_)
      refine sv_skip1 hf rfl rfl (by decide) (by decide) (fun a hf => ?_)
      refine sv_skip1 hf rfl rfl (by decide) (by decide) (fun a hf => ?_)
      refine sv_skip2 hf rfl rfl (by decide) (fun a hf => ?_)
      refine sv_skip2 hf rfl rfl (by decide) (fun a hf => ?_)
      refine sv_skip2 hf rfl rfl (by decide) (fun a hf => ?_)
      refine sv_skip2 hf rfl rfl (by decide) (fun a hf => ?_)
      refine sv_skip2 hf rfl rfl (by decide) (fun a hf => ?_)
      refine sv_skip1 hf rfl rfl (by decide) (by decide) (fun a hf => ?_)
      refine sv_pk hf rfl rfl (by decide) (fun a hf => ?_)
      refine sv_mv hf rfl (by decide) (fun a hf => ?_)
      refine sv_skip1 hf rfl rfl (by decide) (by decide) (fun a hf => ?_)
      refine sv_pk hf rfl rfl (by decide) (fun a hf => ?_)
      refine sv_as hf rfl (by decide) (fun a hf => ?_)
      replace hf := hf.sub (env' := [(7, .bool false), (5, .slice none 0 0), (4, .pointer (some ⟨C3, 0, none⟩)), (3, .pointer (some ⟨C2, 0, none⟩)), (2, .pointer (some ⟨C1, 0, none⟩))]) (sub_cons rfl (sub_cons rfl (sub_cons rfl (sub_cons rfl (sub_cons rfl (sub_nil))))))
      refine sv_nil hf ?_
      exact hK _ _ ⟨hf.sub (sub_cons (congrArg some (congrArg Value.bool (show false = gr by rw [hgr]; unfold grantB; simp only [decide_eq_false h7]; first | done | rfl | simp))) (sub_cons rfl (sub_cons rfl (sub_cons rfl (sub_cons rfl (sub_nil)))))), hX⟩
  obtain ⟨hf, hX⟩ := hJ
  refine wp_seq ?_
  refine wp_seq ?_
  refine wp_region_lit ?_
  refine sv_mv hf rfl (by decide) (fun a hf => ?_)
  refine sv_nil hf ?_
  cases gr
  ·
    refine wp_cond_false (hf.rel _ _ rfl) ?_
    refine wp_skip ?_
    refine wp_seq ?_
    replace hf := hf.sub (env' := [(7, .bool false), (4, .pointer (some ⟨C3, 0, none⟩)), (3, .pointer (some ⟨C2, 0, none⟩)), (2, .pointer (some ⟨C1, 0, none⟩))]) (sub_cons rfl (sub_cons rfl (sub_cons rfl (sub_cons rfl (sub_nil)))))
    obtain ⟨G10, hG10⟩ : ∃ g, g = W.heap.size := ⟨_, rfl⟩
    refine wp_region_SV (N := 74) (env := [(7, .bool false), (4, .pointer (some ⟨C3, 0, none⟩)), (3, .pointer (some ⟨C2, 0, none⟩)), (2, .pointer (some ⟨C1, 0, none⟩))]) [(64, .agg #[.int .i64 id, .int .i64 sz, .int .i64 (fTm tm xt), .int .i64 (fVt tm xt vt), .int .i64 (fRl tm xt rl), .int .i64 (fLd tm xt ld), .int .i64 (fTi tm xt rl ti id), .int .i64 (fVs tm xt vs), .slice ga gl gc, .int .i64 cm, .slice (fA tm xt na) (fN tm xt nl) (fN tm xt nc), .slice (fA tm xt ma) (fN tm xt ml) (fN tm xt mc)]), (65, .pointer (some ⟨C1, 0, none⟩)), (66, .int .i64 id), (67, .pointer (some ⟨C2, 0, none⟩)), (68, .int .i64 xf), (69, .pointer (some ⟨C1, 2, none⟩)), (70, .int .i64 (fTm tm xt)), (71, .bool false), (72, .agg #[.int .i64 id, .int .i64 xf, .int .i64 2, .int .i64 (fTm tm xt), .int .i64 0, .int .i64 0, .int .i64 0, .slice none 0 0, .bool false]), (73, .slice (some ⟨G10, 0, none⟩) 1 1), (5, .slice (some ⟨G10, 0, none⟩) 1 1)] (fun f X => X.heap.size = G10 + (if f 9 then 1 else 0) ∧ Bx ⟨w, []⟩ ((if f 9 then [(G10, [.int .i64 id, .int .i64 xf, .int .i64 2, .int .i64 (fTm tm xt), .int .i64 0, .int .i64 0, .int .i64 0, .slice none 0 0, .bool false])] else []) ++ [(C3, if f 10 then [.int .i64 id, .int .i64 sz, .int .i64 (fTm tm xt), .int .i64 (fVt tm xt vt), .int .i64 (fRl tm xt rl), .int .i64 (fLd tm xt ld), .int .i64 (fTi tm xt rl ti id), .int .i64 (fVs tm xt vs), .slice ga gl gc, .int .i64 cm, .slice (fA tm xt na) (fN tm xt nl) (fN tm xt nc), .slice (fA tm xt ma) (fN tm xt ml) (fN tm xt mc)] else [.int .i64 0, .int .i64 0, .int .i64 0, .int .i64 0, .int .i64 0, .int .i64 0, .int .i64 0, .int .i64 0, .slice none 0 0, .int .i64 0, .slice none 0 0, .slice none 0 0]), (C2, [.int .i64 xf, .int .i64 xto, .int .i64 1, .int .i64 xt, .int .i64 xi, .int .i64 xl, .int .i64 xc, .slice ea el ec, .bool xok]), (C1, [.int .i64 id, .int .i64 sz, .int .i64 (fTm tm xt), .int .i64 (fVt tm xt vt), .int .i64 (fRl tm xt rl), .int .i64 (fLd tm xt ld), .int .i64 (fTi tm xt rl ti id), .int .i64 (fVs tm xt vs), .slice ga gl gc, .int .i64 cm, .slice (fA tm xt na) (fN tm xt nl) (fN tm xt nc), .slice (fA tm xt ma) (fN tm xt ml) (fN tm xt mc)])]) X) mixed (by kernel_rfl) (by kernel_rfl) (by kernel_rfl) hf ⟨by simp [hG10], hX.drew⟩ (fun i o ho f a X hu hpast hN hd hv hS => ?_) (fun f a X hall hS hf => ?_)
    · match i, ho with
      | 0, ho =>
        obtain rfl := Option.some.inj ho
        have hf : FrV 74 [(2, .pointer (some ⟨C1, 0, none⟩))] a := frv_of hN hd (all_cons (hv 2 _ rfl (by kernel_rfl)) (all_nil))
        exact ⟨rfl, .inl ⟨64, .agg #[.int .i64 id, .int .i64 sz, .int .i64 (fTm tm xt), .int .i64 (fVt tm xt vt), .int .i64 (fRl tm xt rl), .int .i64 (fLd tm xt ld), .int .i64 (fTi tm xt rl ti id), .int .i64 (fVs tm xt vs), .slice ga gl gc, .int .i64 cm, .slice (fA tm xt na) (fN tm xt nl) (fN tm xt nc), .slice (fA tm xt ma) (fN tm xt ml) (fN tm xt mc)], X, rfl, ex_vlr (cs := [.int .i64 id, .int .i64 sz, .int .i64 (fTm tm xt), .int .i64 (fVt tm xt vt), .int .i64 (fRl tm xt rl), .int .i64 (fLd tm xt ld), .int .i64 (fTi tm xt rl ti id), .int .i64 (fVs tm xt vs), .slice ga gl gc, .int .i64 cm, .slice (fA tm xt na) (fN tm xt nl) (fN tm xt nc), .slice (fA tm xt ma) (fN tm xt ml) (fN tm xt mc)]) hf rfl rfl (hS.2.box (C1, [.int .i64 id, .int .i64 sz, .int .i64 (fTm tm xt), .int .i64 (fVt tm xt vt), .int .i64 (fRl tm xt rl), .int .i64 (fLd tm xt ld), .int .i64 (fTi tm xt rl ti id), .int .i64 (fVs tm xt vs), .slice ga gl gc, .int .i64 cm, .slice (fA tm xt na) (fN tm xt nl) (fN tm xt nc), .slice (fA tm xt ma) (fN tm xt ml) (fN tm xt mc)]) (List.mem_append_right _ (by simp))) Try.underlying25 info_mem, rfl, hS⟩⟩
      | 1, ho =>
        obtain rfl := Option.some.inj ho
        have hf : FrV 74 [(2, .pointer (some ⟨C1, 0, none⟩))] a := frv_of hN hd (all_cons (hv 2 _ rfl (by kernel_rfl)) (all_nil))
        exact ⟨rfl, .inl ⟨65, .pointer (some ⟨C1, 0, none⟩), X, rfl, ex_vfld (0) hf rfl rfl Try.underlying25 rfl sz_int rfl, rfl, hS⟩⟩
      | 2, ho =>
        obtain rfl := Option.some.inj ho
        have hf : FrV 74 [(65, .pointer (some ⟨C1, 0, none⟩))] a := frv_of hN hd (all_cons (hv 65 _ rfl (by kernel_rfl)) (all_nil))
        exact ⟨rfl, .inl ⟨66, .int .i64 id, X, rfl, ex_vlc (cs := [.int .i64 id, .int .i64 sz, .int .i64 (fTm tm xt), .int .i64 (fVt tm xt vt), .int .i64 (fRl tm xt rl), .int .i64 (fLd tm xt ld), .int .i64 (fTi tm xt rl ti id), .int .i64 (fVs tm xt vs), .slice ga gl gc, .int .i64 cm, .slice (fA tm xt na) (fN tm xt nl) (fN tm xt nc), .slice (fA tm xt ma) (fN tm xt ml) (fN tm xt mc)]) hf rfl rfl (hS.2.box (C1, [.int .i64 id, .int .i64 sz, .int .i64 (fTm tm xt), .int .i64 (fVt tm xt vt), .int .i64 (fRl tm xt rl), .int .i64 (fLd tm xt ld), .int .i64 (fTi tm xt rl ti id), .int .i64 (fVs tm xt vs), .slice ga gl gc, .int .i64 cm, .slice (fA tm xt na) (fN tm xt nl) (fN tm xt nc), .slice (fA tm xt ma) (fN tm xt ml) (fN tm xt mc)]) (List.mem_append_right _ (by simp))) rfl Try.underlying3 rfl, rfl, hS⟩⟩
      | 3, ho =>
        obtain rfl := Option.some.inj ho
        have hf : FrV 74 [(3, .pointer (some ⟨C2, 0, none⟩))] a := frv_of hN hd (all_cons (hv 3 _ rfl (by kernel_rfl)) (all_nil))
        exact ⟨rfl, .inl ⟨67, .pointer (some ⟨C2, 0, none⟩), X, rfl, ex_vfld (0) hf rfl rfl Try.underlying35 rfl sz_int rfl, rfl, hS⟩⟩
      | 4, ho =>
        obtain rfl := Option.some.inj ho
        have hf : FrV 74 [(67, .pointer (some ⟨C2, 0, none⟩))] a := frv_of hN hd (all_cons (hv 67 _ rfl (by kernel_rfl)) (all_nil))
        exact ⟨rfl, .inl ⟨68, .int .i64 xf, X, rfl, ex_vlc (cs := [.int .i64 xf, .int .i64 xto, .int .i64 1, .int .i64 xt, .int .i64 xi, .int .i64 xl, .int .i64 xc, .slice ea el ec, .bool xok]) hf rfl rfl (hS.2.box (C2, [.int .i64 xf, .int .i64 xto, .int .i64 1, .int .i64 xt, .int .i64 xi, .int .i64 xl, .int .i64 xc, .slice ea el ec, .bool xok]) (List.mem_append_right _ (by simp))) rfl Try.underlying3 rfl, rfl, hS⟩⟩
      | 5, ho =>
        obtain rfl := Option.some.inj ho
        have hf : FrV 74 [(2, .pointer (some ⟨C1, 0, none⟩))] a := frv_of hN hd (all_cons (hv 2 _ rfl (by kernel_rfl)) (all_nil))
        exact ⟨rfl, .inl ⟨69, .pointer (some ⟨C1, 2, none⟩), X, rfl, ex_vfld (2) hf rfl rfl Try.underlying25 rfl sz_int rfl, rfl, hS⟩⟩
      | 6, ho =>
        obtain rfl := Option.some.inj ho
        have hf : FrV 74 [(69, .pointer (some ⟨C1, 2, none⟩))] a := frv_of hN hd (all_cons (hv 69 _ rfl (by kernel_rfl)) (all_nil))
        exact ⟨rfl, .inl ⟨70, .int .i64 (fTm tm xt), X, rfl, ex_vlc (cs := [.int .i64 id, .int .i64 sz, .int .i64 (fTm tm xt), .int .i64 (fVt tm xt vt), .int .i64 (fRl tm xt rl), .int .i64 (fLd tm xt ld), .int .i64 (fTi tm xt rl ti id), .int .i64 (fVs tm xt vs), .slice ga gl gc, .int .i64 cm, .slice (fA tm xt na) (fN tm xt nl) (fN tm xt nc), .slice (fA tm xt ma) (fN tm xt ml) (fN tm xt mc)]) hf rfl rfl (hS.2.box (C1, [.int .i64 id, .int .i64 sz, .int .i64 (fTm tm xt), .int .i64 (fVt tm xt vt), .int .i64 (fRl tm xt rl), .int .i64 (fLd tm xt ld), .int .i64 (fTi tm xt rl ti id), .int .i64 (fVs tm xt vs), .slice ga gl gc, .int .i64 cm, .slice (fA tm xt na) (fN tm xt nl) (fN tm xt nc), .slice (fA tm xt ma) (fN tm xt ml) (fN tm xt mc)]) (List.mem_append_right _ (by simp))) rfl Try.underlying3 rfl, rfl, hS⟩⟩
      | 7, ho =>
        obtain rfl := Option.some.inj ho
        have hf : FrV 74 [(7, .bool false)] a := frv_of hN hd (all_cons (hv 7 _ rfl (by kernel_rfl)) (all_nil))
        exact ⟨rfl, .inl ⟨71, .bool false, X, rfl, ex_vmv hf rfl rfl, rfl, hS⟩⟩
      | 8, ho =>
        obtain rfl := Option.some.inj ho
        have hf : FrV 74 [(66, .int .i64 id), (68, .int .i64 xf), (70, .int .i64 (fTm tm xt)), (71, .bool false)] a := frv_of hN hd (all_cons (hv 66 _ rfl (by kernel_rfl)) (all_cons (hv 68 _ rfl (by kernel_rfl)) (all_cons (hv 70 _ rfl (by kernel_rfl)) (all_cons (hv 71 _ rfl (by kernel_rfl)) (all_nil)))))
        exact ⟨rfl, .inl ⟨72, .agg #[.int .i64 id, .int .i64 xf, .int .i64 2, .int .i64 (fTm tm xt), .int .i64 0, .int .i64 0, .int .i64 0, .slice none 0 0, .bool false], X, rfl, ex_bld (cs := [.int .i64 id, .int .i64 xf, .int .i64 2, .int .i64 (fTm tm xt), .int .i64 0, .int .i64 0, .int .i64 0, .slice none 0 0, .bool false]) hf rfl rfl (by kernel_rfl), rfl, hS⟩⟩
      | 9, ho =>
        obtain rfl := Option.some.inj ho
        have hG2 : X.heap.size = G10 := by have := hS.1; rw [hu] at this; simpa using this
        have hl : Bx ⟨w, []⟩ [(C3, if f 10 then [.int .i64 id, .int .i64 sz, .int .i64 (fTm tm xt), .int .i64 (fVt tm xt vt), .int .i64 (fRl tm xt rl), .int .i64 (fLd tm xt ld), .int .i64 (fTi tm xt rl ti id), .int .i64 (fVs tm xt vs), .slice ga gl gc, .int .i64 cm, .slice (fA tm xt na) (fN tm xt nl) (fN tm xt nc), .slice (fA tm xt ma) (fN tm xt ml) (fN tm xt mc)] else [.int .i64 0, .int .i64 0, .int .i64 0, .int .i64 0, .int .i64 0, .int .i64 0, .int .i64 0, .int .i64 0, .slice none 0 0, .int .i64 0, .slice none 0 0, .slice none 0 0]), (C2, [.int .i64 xf, .int .i64 xto, .int .i64 1, .int .i64 xt, .int .i64 xi, .int .i64 xl, .int .i64 xc, .slice ea el ec, .bool xok]), (C1, [.int .i64 id, .int .i64 sz, .int .i64 (fTm tm xt), .int .i64 (fVt tm xt vt), .int .i64 (fRl tm xt rl), .int .i64 (fLd tm xt ld), .int .i64 (fTi tm xt rl ti id), .int .i64 (fVs tm xt vs), .slice ga gl gc, .int .i64 cm, .slice (fA tm xt na) (fN tm xt nl) (fN tm xt nc), .slice (fA tm xt ma) (fN tm xt ml) (fN tm xt mc)])] X := by have := hS.2; rw [hu] at this; exact this
        have hn := hl.new [.int .i64 id, .int .i64 xf, .int .i64 2, .int .i64 (fTm tm xt), .int .i64 0, .int .i64 0, .int .i64 0, .slice none 0 0, .bool false] 35
        rw [hG2] at hn
        exact ⟨rfl, .inl ⟨73, _, _, rfl, ex_bs1 (P := Try.prog) (w := X) (k := 9) (cs := [.int .i64 id, .int .i64 xf, .int .i64 2, .int .i64 (fTm tm xt), .int .i64 0, .int .i64 0, .int .i64 0, .slice none 0 0, .bool false]) rfl (hv 72 _ rfl (by kernel_rfl)) Try.underlying37 (by kernel_rfl) info_msg rfl (by decide) (by decide), by rw [hG2]; rfl, by simp [upd, hG2], hn⟩⟩
      | 10, ho =>
        obtain rfl := Option.some.inj ho
        have hb : Box X C3 [.int .i64 0, .int .i64 0, .int .i64 0, .int .i64 0, .int .i64 0, .int .i64 0, .int .i64 0, .int .i64 0, .slice none 0 0, .int .i64 0, .slice none 0 0, .slice none 0 0] := by have := hS.2.box (C3, if f 10 then [.int .i64 id, .int .i64 sz, .int .i64 (fTm tm xt), .int .i64 (fVt tm xt vt), .int .i64 (fRl tm xt rl), .int .i64 (fLd tm xt ld), .int .i64 (fTi tm xt rl ti id), .int .i64 (fVs tm xt vs), .slice ga gl gc, .int .i64 cm, .slice (fA tm xt na) (fN tm xt nl) (fN tm xt nc), .slice (fA tm xt ma) (fN tm xt ml) (fN tm xt mc)] else [.int .i64 0, .int .i64 0, .int .i64 0, .int .i64 0, .int .i64 0, .int .i64 0, .int .i64 0, .int .i64 0, .slice none 0 0, .int .i64 0, .slice none 0 0, .slice none 0 0]) (List.mem_append_right _ (by simp)); rw [hu] at this; exact this
        refine ⟨rfl, .inr ⟨_, rfl, ex_store_row (w := X) 25 (.tmp 4) (.tmp 64) C3 0 [.int .i64 id, .int .i64 sz, .int .i64 (fTm tm xt), .int .i64 (fVt tm xt vt), .int .i64 (fRl tm xt rl), .int .i64 (fLd tm xt ld), .int .i64 (fTi tm xt rl ti id), .int .i64 (fVs tm xt vs), .slice ga gl gc, .int .i64 cm, .slice (fA tm xt na) (fN tm xt nl) (fN tm xt nc), .slice (fA tm xt ma) (fN tm xt ml) (fN tm xt mc)] rfl (hv 4 _ rfl (by kernel_rfl)) (hv 64 _ rfl (by kernel_rfl)) (hb.there 0 12 (by decide)) info_mem (fun v hv => List.all_eq_true.1 (show List.all [.int .i64 id, .int .i64 sz, .int .i64 (fTm tm xt), .int .i64 (fVt tm xt vt), .int .i64 (fRl tm xt rl), .int .i64 (fLd tm xt ld), .int .i64 (fTi tm xt rl ti id), .int .i64 (fVs tm xt vs), .slice ga gl gc, .int .i64 cm, .slice (fA tm xt na) (fN tm xt nl) (fN tm xt nc), .slice (fA tm xt ma) (fN tm xt ml) (fN tm xt mc)] (·.oneCell') = true from rfl) v hv), ?_⟩⟩
        have ho := Only.setCells X C3 0 [.int .i64 id, .int .i64 sz, .int .i64 (fTm tm xt), .int .i64 (fVt tm xt vt), .int .i64 (fRl tm xt rl), .int .i64 (fLd tm xt ld), .int .i64 (fTi tm xt rl ti id), .int .i64 (fVs tm xt vs), .slice ga gl gc, .int .i64 cm, .slice (fA tm xt na) (fN tm xt nl) (fN tm xt nc), .slice (fA tm xt ma) (fN tm xt ml) (fN tm xt mc)] hb.lt
        refine ⟨ho.size.trans hS.1, ?_⟩
        cases h2 : f 9
        · have hl : Bx ⟨w, []⟩ [(C3, [.int .i64 0, .int .i64 0, .int .i64 0, .int .i64 0, .int .i64 0, .int .i64 0, .int .i64 0, .int .i64 0, .slice none 0 0, .int .i64 0, .slice none 0 0, .slice none 0 0]), (C2, [.int .i64 xf, .int .i64 xto, .int .i64 1, .int .i64 xt, .int .i64 xi, .int .i64 xl, .int .i64 xc, .slice ea el ec, .bool xok]), (C1, [.int .i64 id, .int .i64 sz, .int .i64 (fTm tm xt), .int .i64 (fVt tm xt vt), .int .i64 (fRl tm xt rl), .int .i64 (fLd tm xt ld), .int .i64 (fTi tm xt rl ti id), .int .i64 (fVs tm xt vs), .slice ga gl gc, .int .i64 cm, .slice (fA tm xt na) (fN tm xt nl) (fN tm xt nc), .slice (fA tm xt ma) (fN tm xt ml) (fN tm xt mc)])] X := by have := hS.2; rw [h2, hu] at this; exact this
          have hn : Bx ⟨w, []⟩ [(C3, [.int .i64 id, .int .i64 sz, .int .i64 (fTm tm xt), .int .i64 (fVt tm xt vt), .int .i64 (fRl tm xt rl), .int .i64 (fLd tm xt ld), .int .i64 (fTi tm xt rl ti id), .int .i64 (fVs tm xt vs), .slice ga gl gc, .int .i64 cm, .slice (fA tm xt na) (fN tm xt nl) (fN tm xt nc), .slice (fA tm xt ma) (fN tm xt ml) (fN tm xt mc)]), (C2, [.int .i64 xf, .int .i64 xto, .int .i64 1, .int .i64 xt, .int .i64 xi, .int .i64 xl, .int .i64 xc, .slice ea el ec, .bool xok]), (C1, [.int .i64 id, .int .i64 sz, .int .i64 (fTm tm xt), .int .i64 (fVt tm xt vt), .int .i64 (fRl tm xt rl), .int .i64 (fLd tm xt ld), .int .i64 (fTi tm xt rl ti id), .int .i64 (fVs tm xt vs), .slice ga gl gc, .int .i64 cm, .slice (fA tm xt na) (fN tm xt nl) (fN tm xt nc), .slice (fA tm xt ma) (fN tm xt ml) (fN tm xt mc)])] _ := hl.set (i := 0) rfl (hb.store rfl) ho
          show Bx ⟨w, []⟩ ((if f 9 = true then _ else _) ++ _) _
          rw [h2]; exact hn
        · have hl : Bx ⟨w, []⟩ [(G10, [.int .i64 id, .int .i64 xf, .int .i64 2, .int .i64 (fTm tm xt), .int .i64 0, .int .i64 0, .int .i64 0, .slice none 0 0, .bool false]), (C3, [.int .i64 0, .int .i64 0, .int .i64 0, .int .i64 0, .int .i64 0, .int .i64 0, .int .i64 0, .int .i64 0, .slice none 0 0, .int .i64 0, .slice none 0 0, .slice none 0 0]), (C2, [.int .i64 xf, .int .i64 xto, .int .i64 1, .int .i64 xt, .int .i64 xi, .int .i64 xl, .int .i64 xc, .slice ea el ec, .bool xok]), (C1, [.int .i64 id, .int .i64 sz, .int .i64 (fTm tm xt), .int .i64 (fVt tm xt vt), .int .i64 (fRl tm xt rl), .int .i64 (fLd tm xt ld), .int .i64 (fTi tm xt rl ti id), .int .i64 (fVs tm xt vs), .slice ga gl gc, .int .i64 cm, .slice (fA tm xt na) (fN tm xt nl) (fN tm xt nc), .slice (fA tm xt ma) (fN tm xt ml) (fN tm xt mc)])] X := by have := hS.2; rw [h2, hu] at this; exact this
          have hn : Bx ⟨w, []⟩ [(G10, [.int .i64 id, .int .i64 xf, .int .i64 2, .int .i64 (fTm tm xt), .int .i64 0, .int .i64 0, .int .i64 0, .slice none 0 0, .bool false]), (C3, [.int .i64 id, .int .i64 sz, .int .i64 (fTm tm xt), .int .i64 (fVt tm xt vt), .int .i64 (fRl tm xt rl), .int .i64 (fLd tm xt ld), .int .i64 (fTi tm xt rl ti id), .int .i64 (fVs tm xt vs), .slice ga gl gc, .int .i64 cm, .slice (fA tm xt na) (fN tm xt nl) (fN tm xt nc), .slice (fA tm xt ma) (fN tm xt ml) (fN tm xt mc)]), (C2, [.int .i64 xf, .int .i64 xto, .int .i64 1, .int .i64 xt, .int .i64 xi, .int .i64 xl, .int .i64 xc, .slice ea el ec, .bool xok]), (C1, [.int .i64 id, .int .i64 sz, .int .i64 (fTm tm xt), .int .i64 (fVt tm xt vt), .int .i64 (fRl tm xt rl), .int .i64 (fLd tm xt ld), .int .i64 (fTi tm xt rl ti id), .int .i64 (fVs tm xt vs), .slice ga gl gc, .int .i64 cm, .slice (fA tm xt na) (fN tm xt nl) (fN tm xt nc), .slice (fA tm xt ma) (fN tm xt ml) (fN tm xt mc)])] _ := hl.set (i := 1) rfl (hb.store rfl) ho
          show Bx ⟨w, []⟩ ((if f 9 = true then _ else _) ++ _) _
          rw [h2]; exact hn
      | 11, ho =>
        obtain rfl := Option.some.inj ho
        have hf : FrV 74 [(73, .slice (some ⟨G10, 0, none⟩) 1 1)] a := frv_of hN hd (all_cons (hv 73 _ rfl (by kernel_rfl)) (all_nil))
        exact ⟨rfl, .inl ⟨5, .slice (some ⟨G10, 0, none⟩) 1 1, X, rfl, ex_vas hf rfl rfl, rfl, hS⟩⟩
      | j + 12, ho => simp at ho
    replace hX := hS.2
    rw [hall 9 (by decide), hall 10 (by decide)] at hX
    replace hX : Bx ⟨w, []⟩ [(G10, [.int .i64 id, .int .i64 xf, .int .i64 2, .int .i64 (fTm tm xt), .int .i64 0, .int .i64 0, .int .i64 0, .slice none 0 0, .bool false]), (C3, [.int .i64 id, .int .i64 sz, .int .i64 (fTm tm xt), .int .i64 (fVt tm xt vt), .int .i64 (fRl tm xt rl), .int .i64 (fLd tm xt ld), .int .i64 (fTi tm xt rl ti id), .int .i64 (fVs tm xt vs), .slice ga gl gc, .int .i64 cm, .slice (fA tm xt na) (fN tm xt nl) (fN tm xt nc), .slice (fA tm xt ma) (fN tm xt ml) (fN tm xt mc)]), (C2, [.int .i64 xf, .int .i64 xto, .int .i64 1, .int .i64 xt, .int .i64 xi, .int .i64 xl, .int .i64 xc, .slice ea el ec, .bool xok]), (C1, [.int .i64 id, .int .i64 sz, .int .i64 (fTm tm xt), .int .i64 (fVt tm xt vt), .int .i64 (fRl tm xt rl), .int .i64 (fLd tm xt ld), .int .i64 (fTi tm xt rl ti id), .int .i64 (fVs tm xt vs), .slice ga gl gc, .int .i64 cm, .slice (fA tm xt na) (fN tm xt nl) (fN tm xt nc), .slice (fA tm xt ma) (fN tm xt ml) (fN tm xt mc)])] X := hX
    replace hf := hf.sub (env' := [(5, .slice (some ⟨G10, 0, none⟩) 1 1), (4, .pointer (some ⟨C3, 0, none⟩))]) (sub_cons rfl (sub_cons rfl (sub_nil)))
    refine wp_ret ?_
    try simp only [Exit.inBlock, Exit.then]
    exact bodyPost_ret (res_cell_tmp (c := 4) (d := 5) (C := C3) (cs := [.int .i64 id, .int .i64 sz, .int .i64 (fTm tm xt), .int .i64 (fVt tm xt vt), .int .i64 (fRl tm xt rl), .int .i64 (fLd tm xt ld), .int .i64 (fTi tm xt rl ti id), .int .i64 (fVs tm xt vs), .slice ga gl gc, .int .i64 cm, .slice (fA tm xt na) (fN tm xt nl) (fN tm xt nc), .slice (fA tm xt ma) (fN tm xt ml) (fN tm xt mc)]) (T := 25) rfl (hf.rel 4 _ rfl) (hf.rel 5 _ rfl) (hX.get (i := 1) rfl) Try.underlying25 info_mem) hf.defers ⟨G10, rfl, hX.get (i := 0) rfl, hX.ge _ (List.mem_of_getElem? (i := 0) rfl), hX.low⟩
  ·
    refine wp_cond_true (hf.rel _ _ rfl) ?_
    refine wp_seq ?_
    refine wp_region_lit ?_
    refine sv_fld hf rfl Try.underlying35 rfl sz_int (0) rfl (by decide) (fun a hf => ?_)
    refine sv_lc hf hX rfl 1 rfl rfl Try.underlying3 rfl (by decide) (fun a hf => ?_)
    refine sv_fld hf rfl Try.underlying25 rfl sz_int (3) rfl (by decide) (fun a hf => ?_)
    refine sv_sc (cs' := [.int .i64 id, .int .i64 sz, .int .i64 (fTm tm xt), .int .i64 xf, .int .i64 (fRl tm xt rl), .int .i64 (fLd tm xt ld), .int .i64 (fTi tm xt rl ti id), .int .i64 (fVs tm xt vs), .slice ga gl gc, .int .i64 cm, .slice (fA tm xt na) (fN tm xt nl) (fN tm xt nc), .slice (fA tm xt ma) (fN tm xt ml) (fN tm xt mc)]) hf hX rfl rfl 2 rfl (of_decide_eq_true rfl) rfl info_int rfl [(C3, [.int .i64 0, .int .i64 0, .int .i64 0, .int .i64 0, .int .i64 0, .int .i64 0, .int .i64 0, .int .i64 0, .slice none 0 0, .int .i64 0, .slice none 0 0, .slice none 0 0]), (C2, [.int .i64 xf, .int .i64 xto, .int .i64 1, .int .i64 xt, .int .i64 xi, .int .i64 xl, .int .i64 xc, .slice ea el ec, .bool xok]), (C1, [.int .i64 id, .int .i64 sz, .int .i64 (fTm tm xt), .int .i64 xf, .int .i64 (fRl tm xt rl), .int .i64 (fLd tm xt ld), .int .i64 (fTi tm xt rl ti id), .int .i64 (fVs tm xt vs), .slice ga gl gc, .int .i64 cm, .slice (fA tm xt na) (fN tm xt nl) (fN tm xt nc), .slice (fA tm xt ma) (fN tm xt ml) (fN tm xt mc)])] rfl (fun W hX => ?_)
    replace hf := hf.sub (env' := [(7, .bool true), (5, .slice none 0 0), (4, .pointer (some ⟨C3, 0, none⟩)), (3, .pointer (some ⟨C2, 0, none⟩)), (2, .pointer (some ⟨C1, 0, none⟩))]) (sub_cons rfl (sub_cons rfl (sub_cons rfl (sub_cons rfl (sub_cons rfl (sub_nil))))))
    refine sv_nil hf ?_
    refine wp_region_lit ?_
    refine sv_fld hf rfl Try.underlying25 rfl sz_int (0) rfl (by decide) (fun a hf => ?_)
    refine sv_lc hf hX rfl 2 rfl rfl Try.underlying3 rfl (by decide) (fun a hf => ?_)
    refine sv_call hf fnOK_28 rfl (timer_any _ _ h0 h7) (by decide) ?_
    rintro e W' ⟨rfl, hw⟩
    subst hw
    refine ⟨_, rfl, fun a hf => ?_⟩
    refine sv_fld hf rfl Try.underlying25 rfl sz_int (6) rfl (by decide) (fun a hf => ?_)
    refine sv_sc (cs' := [.int .i64 id, .int .i64 sz, .int .i64 (fTm tm xt), .int .i64 xf, .int .i64 (fRl tm xt rl), .int .i64 (fLd tm xt ld), .int .i64 (10 + 3 * id), .int .i64 (fVs tm xt vs), .slice ga gl gc, .int .i64 cm, .slice (fA tm xt na) (fN tm xt nl) (fN tm xt nc), .slice (fA tm xt ma) (fN tm xt ml) (fN tm xt mc)]) hf hX rfl rfl 2 rfl (of_decide_eq_true rfl) rfl info_int rfl [(C3, [.int .i64 0, .int .i64 0, .int .i64 0, .int .i64 0, .int .i64 0, .int .i64 0, .int .i64 0, .int .i64 0, .slice none 0 0, .int .i64 0, .slice none 0 0, .slice none 0 0]), (C2, [.int .i64 xf, .int .i64 xto, .int .i64 1, .int .i64 xt, .int .i64 xi, .int .i64 xl, .int .i64 xc, .slice ea el ec, .bool xok]), (C1, [.int .i64 id, .int .i64 sz, .int .i64 (fTm tm xt), .int .i64 xf, .int .i64 (fRl tm xt rl), .int .i64 (fLd tm xt ld), .int .i64 (10 + 3 * id), .int .i64 (fVs tm xt vs), .slice ga gl gc, .int .i64 cm, .slice (fA tm xt na) (fN tm xt nl) (fN tm xt nc), .slice (fA tm xt ma) (fN tm xt ml) (fN tm xt mc)])] rfl (fun W hX => ?_)
    replace hf := hf.sub (env' := [(7, .bool true), (5, .slice none 0 0), (4, .pointer (some ⟨C3, 0, none⟩)), (3, .pointer (some ⟨C2, 0, none⟩)), (2, .pointer (some ⟨C1, 0, none⟩))]) (sub_cons rfl (sub_cons rfl (sub_cons rfl (sub_cons rfl (sub_cons rfl (sub_nil))))))
    refine sv_nil hf ?_
    refine wp_seq ?_
    replace hf := hf.sub (env' := [(7, .bool true), (4, .pointer (some ⟨C3, 0, none⟩)), (3, .pointer (some ⟨C2, 0, none⟩)), (2, .pointer (some ⟨C1, 0, none⟩))]) (sub_cons rfl (sub_cons rfl (sub_cons rfl (sub_cons rfl (sub_nil)))))
    obtain ⟨G11, hG11⟩ : ∃ g, g = W.heap.size := ⟨_, rfl⟩
    refine wp_region_SV (N := 74) (env := [(7, .bool true), (4, .pointer (some ⟨C3, 0, none⟩)), (3, .pointer (some ⟨C2, 0, none⟩)), (2, .pointer (some ⟨C1, 0, none⟩))]) [(64, .agg #[.int .i64 id, .int .i64 sz, .int .i64 (fTm tm xt), .int .i64 xf, .int .i64 (fRl tm xt rl), .int .i64 (fLd tm xt ld), .int .i64 (10 + 3 * id), .int .i64 (fVs tm xt vs), .slice ga gl gc, .int .i64 cm, .slice (fA tm xt na) (fN tm xt nl) (fN tm xt nc), .slice (fA tm xt ma) (fN tm xt ml) (fN tm xt mc)]), (65, .pointer (some ⟨C1, 0, none⟩)), (66, .int .i64 id), (67, .pointer (some ⟨C2, 0, none⟩)), (68, .int .i64 xf), (69, .pointer (some ⟨C1, 2, none⟩)), (70, .int .i64 (fTm tm xt)), (71, .bool true), (72, .agg #[.int .i64 id, .int .i64 xf, .int .i64 2, .int .i64 (fTm tm xt), .int .i64 0, .int .i64 0, .int .i64 0, .slice none 0 0, .bool true]), (73, .slice (some ⟨G11, 0, none⟩) 1 1), (5, .slice (some ⟨G11, 0, none⟩) 1 1)] (fun f X => X.heap.size = G11 + (if f 9 then 1 else 0) ∧ Bx ⟨w, []⟩ ((if f 9 then [(G11, [.int .i64 id, .int .i64 xf, .int .i64 2, .int .i64 (fTm tm xt), .int .i64 0, .int .i64 0, .int .i64 0, .slice none 0 0, .bool true])] else []) ++ [(C3, if f 10 then [.int .i64 id, .int .i64 sz, .int .i64 (fTm tm xt), .int .i64 xf, .int .i64 (fRl tm xt rl), .int .i64 (fLd tm xt ld), .int .i64 (10 + 3 * id), .int .i64 (fVs tm xt vs), .slice ga gl gc, .int .i64 cm, .slice (fA tm xt na) (fN tm xt nl) (fN tm xt nc), .slice (fA tm xt ma) (fN tm xt ml) (fN tm xt mc)] else [.int .i64 0, .int .i64 0, .int .i64 0, .int .i64 0, .int .i64 0, .int .i64 0, .int .i64 0, .int .i64 0, .slice none 0 0, .int .i64 0, .slice none 0 0, .slice none 0 0]), (C2, [.int .i64 xf, .int .i64 xto, .int .i64 1, .int .i64 xt, .int .i64 xi, .int .i64 xl, .int .i64 xc, .slice ea el ec, .bool xok]), (C1, [.int .i64 id, .int .i64 sz, .int .i64 (fTm tm xt), .int .i64 xf, .int .i64 (fRl tm xt rl), .int .i64 (fLd tm xt ld), .int .i64 (10 + 3 * id), .int .i64 (fVs tm xt vs), .slice ga gl gc, .int .i64 cm, .slice (fA tm xt na) (fN tm xt nl) (fN tm xt nc), .slice (fA tm xt ma) (fN tm xt ml) (fN tm xt mc)])]) X) mixed (by kernel_rfl) (by kernel_rfl) (by kernel_rfl) hf ⟨by simp [hG11], hX.drew⟩ (fun i o ho f a X hu hpast hN hd hv hS => ?_) (fun f a X hall hS hf => ?_)
    · match i, ho with
      | 0, ho =>
        obtain rfl := Option.some.inj ho
        have hf : FrV 74 [(2, .pointer (some ⟨C1, 0, none⟩))] a := frv_of hN hd (all_cons (hv 2 _ rfl (by kernel_rfl)) (all_nil))
        exact ⟨rfl, .inl ⟨64, .agg #[.int .i64 id, .int .i64 sz, .int .i64 (fTm tm xt), .int .i64 xf, .int .i64 (fRl tm xt rl), .int .i64 (fLd tm xt ld), .int .i64 (10 + 3 * id), .int .i64 (fVs tm xt vs), .slice ga gl gc, .int .i64 cm, .slice (fA tm xt na) (fN tm xt nl) (fN tm xt nc), .slice (fA tm xt ma) (fN tm xt ml) (fN tm xt mc)], X, rfl, ex_vlr (cs := [.int .i64 id, .int .i64 sz, .int .i64 (fTm tm xt), .int .i64 xf, .int .i64 (fRl tm xt rl), .int .i64 (fLd tm xt ld), .int .i64 (10 + 3 * id), .int .i64 (fVs tm xt vs), .slice ga gl gc, .int .i64 cm, .slice (fA tm xt na) (fN tm xt nl) (fN tm xt nc), .slice (fA tm xt ma) (fN tm xt ml) (fN tm xt mc)]) hf rfl rfl (hS.2.box (C1, [.int .i64 id, .int .i64 sz, .int .i64 (fTm tm xt), .int .i64 xf, .int .i64 (fRl tm xt rl), .int .i64 (fLd tm xt ld), .int .i64 (10 + 3 * id), .int .i64 (fVs tm xt vs), .slice ga gl gc, .int .i64 cm, .slice (fA tm xt na) (fN tm xt nl) (fN tm xt nc), .slice (fA tm xt ma) (fN tm xt ml) (fN tm xt mc)]) (List.mem_append_right _ (by simp))) Try.underlying25 info_mem, rfl, hS⟩⟩
      | 1, ho =>
        obtain rfl := Option.some.inj ho
        have hf : FrV 74 [(2, .pointer (some ⟨C1, 0, none⟩))] a := frv_of hN hd (all_cons (hv 2 _ rfl (by kernel_rfl)) (all_nil))
        exact ⟨rfl, .inl ⟨65, .pointer (some ⟨C1, 0, none⟩), X, rfl, ex_vfld (0) hf rfl rfl Try.underlying25 rfl sz_int rfl, rfl, hS⟩⟩
      | 2, ho =>
        obtain rfl := Option.some.inj ho
        have hf : FrV 74 [(65, .pointer (some ⟨C1, 0, none⟩))] a := frv_of hN hd (all_cons (hv 65 _ rfl (by kernel_rfl)) (all_nil))
        exact ⟨rfl, .inl ⟨66, .int .i64 id, X, rfl, ex_vlc (cs := [.int .i64 id, .int .i64 sz, .int .i64 (fTm tm xt), .int .i64 xf, .int .i64 (fRl tm xt rl), .int .i64 (fLd tm xt ld), .int .i64 (10 + 3 * id), .int .i64 (fVs tm xt vs), .slice ga gl gc, .int .i64 cm, .slice (fA tm xt na) (fN tm xt nl) (fN tm xt nc), .slice (fA tm xt ma) (fN tm xt ml) (fN tm xt mc)]) hf rfl rfl (hS.2.box (C1, [.int .i64 id, .int .i64 sz, .int .i64 (fTm tm xt), .int .i64 xf, .int .i64 (fRl tm xt rl), .int .i64 (fLd tm xt ld), .int .i64 (10 + 3 * id), .int .i64 (fVs tm xt vs), .slice ga gl gc, .int .i64 cm, .slice (fA tm xt na) (fN tm xt nl) (fN tm xt nc), .slice (fA tm xt ma) (fN tm xt ml) (fN tm xt mc)]) (List.mem_append_right _ (by simp))) rfl Try.underlying3 rfl, rfl, hS⟩⟩
      | 3, ho =>
        obtain rfl := Option.some.inj ho
        have hf : FrV 74 [(3, .pointer (some ⟨C2, 0, none⟩))] a := frv_of hN hd (all_cons (hv 3 _ rfl (by kernel_rfl)) (all_nil))
        exact ⟨rfl, .inl ⟨67, .pointer (some ⟨C2, 0, none⟩), X, rfl, ex_vfld (0) hf rfl rfl Try.underlying35 rfl sz_int rfl, rfl, hS⟩⟩
      | 4, ho =>
        obtain rfl := Option.some.inj ho
        have hf : FrV 74 [(67, .pointer (some ⟨C2, 0, none⟩))] a := frv_of hN hd (all_cons (hv 67 _ rfl (by kernel_rfl)) (all_nil))
        exact ⟨rfl, .inl ⟨68, .int .i64 xf, X, rfl, ex_vlc (cs := [.int .i64 xf, .int .i64 xto, .int .i64 1, .int .i64 xt, .int .i64 xi, .int .i64 xl, .int .i64 xc, .slice ea el ec, .bool xok]) hf rfl rfl (hS.2.box (C2, [.int .i64 xf, .int .i64 xto, .int .i64 1, .int .i64 xt, .int .i64 xi, .int .i64 xl, .int .i64 xc, .slice ea el ec, .bool xok]) (List.mem_append_right _ (by simp))) rfl Try.underlying3 rfl, rfl, hS⟩⟩
      | 5, ho =>
        obtain rfl := Option.some.inj ho
        have hf : FrV 74 [(2, .pointer (some ⟨C1, 0, none⟩))] a := frv_of hN hd (all_cons (hv 2 _ rfl (by kernel_rfl)) (all_nil))
        exact ⟨rfl, .inl ⟨69, .pointer (some ⟨C1, 2, none⟩), X, rfl, ex_vfld (2) hf rfl rfl Try.underlying25 rfl sz_int rfl, rfl, hS⟩⟩
      | 6, ho =>
        obtain rfl := Option.some.inj ho
        have hf : FrV 74 [(69, .pointer (some ⟨C1, 2, none⟩))] a := frv_of hN hd (all_cons (hv 69 _ rfl (by kernel_rfl)) (all_nil))
        exact ⟨rfl, .inl ⟨70, .int .i64 (fTm tm xt), X, rfl, ex_vlc (cs := [.int .i64 id, .int .i64 sz, .int .i64 (fTm tm xt), .int .i64 xf, .int .i64 (fRl tm xt rl), .int .i64 (fLd tm xt ld), .int .i64 (10 + 3 * id), .int .i64 (fVs tm xt vs), .slice ga gl gc, .int .i64 cm, .slice (fA tm xt na) (fN tm xt nl) (fN tm xt nc), .slice (fA tm xt ma) (fN tm xt ml) (fN tm xt mc)]) hf rfl rfl (hS.2.box (C1, [.int .i64 id, .int .i64 sz, .int .i64 (fTm tm xt), .int .i64 xf, .int .i64 (fRl tm xt rl), .int .i64 (fLd tm xt ld), .int .i64 (10 + 3 * id), .int .i64 (fVs tm xt vs), .slice ga gl gc, .int .i64 cm, .slice (fA tm xt na) (fN tm xt nl) (fN tm xt nc), .slice (fA tm xt ma) (fN tm xt ml) (fN tm xt mc)]) (List.mem_append_right _ (by simp))) rfl Try.underlying3 rfl, rfl, hS⟩⟩
      | 7, ho =>
        obtain rfl := Option.some.inj ho
        have hf : FrV 74 [(7, .bool true)] a := frv_of hN hd (all_cons (hv 7 _ rfl (by kernel_rfl)) (all_nil))
        exact ⟨rfl, .inl ⟨71, .bool true, X, rfl, ex_vmv hf rfl rfl, rfl, hS⟩⟩
      | 8, ho =>
        obtain rfl := Option.some.inj ho
        have hf : FrV 74 [(66, .int .i64 id), (68, .int .i64 xf), (70, .int .i64 (fTm tm xt)), (71, .bool true)] a := frv_of hN hd (all_cons (hv 66 _ rfl (by kernel_rfl)) (all_cons (hv 68 _ rfl (by kernel_rfl)) (all_cons (hv 70 _ rfl (by kernel_rfl)) (all_cons (hv 71 _ rfl (by kernel_rfl)) (all_nil)))))
        exact ⟨rfl, .inl ⟨72, .agg #[.int .i64 id, .int .i64 xf, .int .i64 2, .int .i64 (fTm tm xt), .int .i64 0, .int .i64 0, .int .i64 0, .slice none 0 0, .bool true], X, rfl, ex_bld (cs := [.int .i64 id, .int .i64 xf, .int .i64 2, .int .i64 (fTm tm xt), .int .i64 0, .int .i64 0, .int .i64 0, .slice none 0 0, .bool true]) hf rfl rfl (by kernel_rfl), rfl, hS⟩⟩
      | 9, ho =>
        obtain rfl := Option.some.inj ho
        have hG2 : X.heap.size = G11 := by have := hS.1; rw [hu] at this; simpa using this
        have hl : Bx ⟨w, []⟩ [(C3, if f 10 then [.int .i64 id, .int .i64 sz, .int .i64 (fTm tm xt), .int .i64 xf, .int .i64 (fRl tm xt rl), .int .i64 (fLd tm xt ld), .int .i64 (10 + 3 * id), .int .i64 (fVs tm xt vs), .slice ga gl gc, .int .i64 cm, .slice (fA tm xt na) (fN tm xt nl) (fN tm xt nc), .slice (fA tm xt ma) (fN tm xt ml) (fN tm xt mc)] else [.int .i64 0, .int .i64 0, .int .i64 0, .int .i64 0, .int .i64 0, .int .i64 0, .int .i64 0, .int .i64 0, .slice none 0 0, .int .i64 0, .slice none 0 0, .slice none 0 0]), (C2, [.int .i64 xf, .int .i64 xto, .int .i64 1, .int .i64 xt, .int .i64 xi, .int .i64 xl, .int .i64 xc, .slice ea el ec, .bool xok]), (C1, [.int .i64 id, .int .i64 sz, .int .i64 (fTm tm xt), .int .i64 xf, .int .i64 (fRl tm xt rl), .int .i64 (fLd tm xt ld), .int .i64 (10 + 3 * id), .int .i64 (fVs tm xt vs), .slice ga gl gc, .int .i64 cm, .slice (fA tm xt na) (fN tm xt nl) (fN tm xt nc), .slice (fA tm xt ma) (fN tm xt ml) (fN tm xt mc)])] X := by have := hS.2; rw [hu] at this; exact this
        have hn := hl.new [.int .i64 id, .int .i64 xf, .int .i64 2, .int .i64 (fTm tm xt), .int .i64 0, .int .i64 0, .int .i64 0, .slice none 0 0, .bool true] 35
        rw [hG2] at hn
        exact ⟨rfl, .inl ⟨73, _, _, rfl, ex_bs1 (P := Try.prog) (w := X) (k := 9) (cs := [.int .i64 id, .int .i64 xf, .int .i64 2, .int .i64 (fTm tm xt), .int .i64 0, .int .i64 0, .int .i64 0, .slice none 0 0, .bool true]) rfl (hv 72 _ rfl (by kernel_rfl)) Try.underlying37 (by kernel_rfl) info_msg rfl (by decide) (by decide), by rw [hG2]; rfl, by simp [upd, hG2], hn⟩⟩
      | 10, ho =>
        obtain rfl := Option.some.inj ho
        have hb : Box X C3 [.int .i64 0, .int .i64 0, .int .i64 0, .int .i64 0, .int .i64 0, .int .i64 0, .int .i64 0, .int .i64 0, .slice none 0 0, .int .i64 0, .slice none 0 0, .slice none 0 0] := by have := hS.2.box (C3, if f 10 then [.int .i64 id, .int .i64 sz, .int .i64 (fTm tm xt), .int .i64 xf, .int .i64 (fRl tm xt rl), .int .i64 (fLd tm xt ld), .int .i64 (10 + 3 * id), .int .i64 (fVs tm xt vs), .slice ga gl gc, .int .i64 cm, .slice (fA tm xt na) (fN tm xt nl) (fN tm xt nc), .slice (fA tm xt ma) (fN tm xt ml) (fN tm xt mc)] else [.int .i64 0, .int .i64 0, .int .i64 0, .int .i64 0, .int .i64 0, .int .i64 0, .int .i64 0, .int .i64 0, .slice none 0 0, .int .i64 0, .slice none 0 0, .slice none 0 0]) (List.mem_append_right _ (by simp)); rw [hu] at this; exact this
        refine ⟨rfl, .inr ⟨_, rfl, ex_store_row (w := X) 25 (.tmp 4) (.tmp 64) C3 0 [.int .i64 id, .int .i64 sz, .int .i64 (fTm tm xt), .int .i64 xf, .int .i64 (fRl tm xt rl), .int .i64 (fLd tm xt ld), .int .i64 (10 + 3 * id), .int .i64 (fVs tm xt vs), .slice ga gl gc, .int .i64 cm, .slice (fA tm xt na) (fN tm xt nl) (fN tm xt nc), .slice (fA tm xt ma) (fN tm xt ml) (fN tm xt mc)] rfl (hv 4 _ rfl (by kernel_rfl)) (hv 64 _ rfl (by kernel_rfl)) (hb.there 0 12 (by decide)) info_mem (fun v hv => List.all_eq_true.1 (show List.all [.int .i64 id, .int .i64 sz, .int .i64 (fTm tm xt), .int .i64 xf, .int .i64 (fRl tm xt rl), .int .i64 (fLd tm xt ld), .int .i64 (10 + 3 * id), .int .i64 (fVs tm xt vs), .slice ga gl gc, .int .i64 cm, .slice (fA tm xt na) (fN tm xt nl) (fN tm xt nc), .slice (fA tm xt ma) (fN tm xt ml) (fN tm xt mc)] (·.oneCell') = true from rfl) v hv), ?_⟩⟩
        have ho := Only.setCells X C3 0 [.int .i64 id, .int .i64 sz, .int .i64 (fTm tm xt), .int .i64 xf, .int .i64 (fRl tm xt rl), .int .i64 (fLd tm xt ld), .int .i64 (10 + 3 * id), .int .i64 (fVs tm xt vs), .slice ga gl gc, .int .i64 cm, .slice (fA tm xt na) (fN tm xt nl) (fN tm xt nc), .slice (fA tm xt ma) (fN tm xt ml) (fN tm xt mc)] hb.lt
        refine ⟨ho.size.trans hS.1, ?_⟩
        cases h2 : f 9
        · have hl : Bx ⟨w, []⟩ [(C3, [.int .i64 0, .int .i64 0, .int .i64 0, .int .i64 0, .int .i64 0, .int .i64 0, .int .i64 0, .int .i64 0, .slice none 0 0, .int .i64 0, .slice none 0 0, .slice none 0 0]), (C2, [.int .i64 xf, .int .i64 xto, .int .i64 1, .int .i64 xt, .int .i64 xi, .int .i64 xl, .int .i64 xc, .slice ea el ec, .bool xok]), (C1, [.int .i64 id, .int .i64 sz, .int .i64 (fTm tm xt), .int .i64 xf, .int .i64 (fRl tm xt rl), .int .i64 (fLd tm xt ld), .int .i64 (10 + 3 * id), .int .i64 (fVs tm xt vs), .slice ga gl gc, .int .i64 cm, .slice (fA tm xt na) (fN tm xt nl) (fN tm xt nc), .slice (fA tm xt ma) (fN tm xt ml) (fN tm xt mc)])] X := by have := hS.2; rw [h2, hu] at this; exact this
          have hn : Bx ⟨w, []⟩ [(C3, [.int .i64 id, .int .i64 sz, .int .i64 (fTm tm xt), .int .i64 xf, .int .i64 (fRl tm xt rl), .int .i64 (fLd tm xt ld), .int .i64 (10 + 3 * id), .int .i64 (fVs tm xt vs), .slice ga gl gc, .int .i64 cm, .slice (fA tm xt na) (fN tm xt nl) (fN tm xt nc), .slice (fA tm xt ma) (fN tm xt ml) (fN tm xt mc)]), (C2, [.int .i64 xf, .int .i64 xto, .int .i64 1, .int .i64 xt, .int .i64 xi, .int .i64 xl, .int .i64 xc, .slice ea el ec, .bool xok]), (C1, [.int .i64 id, .int .i64 sz, .int .i64 (fTm tm xt), .int .i64 xf, .int .i64 (fRl tm xt rl), .int .i64 (fLd tm xt ld), .int .i64 (10 + 3 * id), .int .i64 (fVs tm xt vs), .slice ga gl gc, .int .i64 cm, .slice (fA tm xt na) (fN tm xt nl) (fN tm xt nc), .slice (fA tm xt ma) (fN tm xt ml) (fN tm xt mc)])] _ := hl.set (i := 0) rfl (hb.store rfl) ho
          show Bx ⟨w, []⟩ ((if f 9 = true then _ else _) ++ _) _
          rw [h2]; exact hn
        · have hl : Bx ⟨w, []⟩ [(G11, [.int .i64 id, .int .i64 xf, .int .i64 2, .int .i64 (fTm tm xt), .int .i64 0, .int .i64 0, .int .i64 0, .slice none 0 0, .bool true]), (C3, [.int .i64 0, .int .i64 0, .int .i64 0, .int .i64 0, .int .i64 0, .int .i64 0, .int .i64 0, .int .i64 0, .slice none 0 0, .int .i64 0, .slice none 0 0, .slice none 0 0]), (C2, [.int .i64 xf, .int .i64 xto, .int .i64 1, .int .i64 xt, .int .i64 xi, .int .i64 xl, .int .i64 xc, .slice ea el ec, .bool xok]), (C1, [.int .i64 id, .int .i64 sz, .int .i64 (fTm tm xt), .int .i64 xf, .int .i64 (fRl tm xt rl), .int .i64 (fLd tm xt ld), .int .i64 (10 + 3 * id), .int .i64 (fVs tm xt vs), .slice ga gl gc, .int .i64 cm, .slice (fA tm xt na) (fN tm xt nl) (fN tm xt nc), .slice (fA tm xt ma) (fN tm xt ml) (fN tm xt mc)])] X := by have := hS.2; rw [h2, hu] at this; exact this
          have hn : Bx ⟨w, []⟩ [(G11, [.int .i64 id, .int .i64 xf, .int .i64 2, .int .i64 (fTm tm xt), .int .i64 0, .int .i64 0, .int .i64 0, .slice none 0 0, .bool true]), (C3, [.int .i64 id, .int .i64 sz, .int .i64 (fTm tm xt), .int .i64 xf, .int .i64 (fRl tm xt rl), .int .i64 (fLd tm xt ld), .int .i64 (10 + 3 * id), .int .i64 (fVs tm xt vs), .slice ga gl gc, .int .i64 cm, .slice (fA tm xt na) (fN tm xt nl) (fN tm xt nc), .slice (fA tm xt ma) (fN tm xt ml) (fN tm xt mc)]), (C2, [.int .i64 xf, .int .i64 xto, .int .i64 1, .int .i64 xt, .int .i64 xi, .int .i64 xl, .int .i64 xc, .slice ea el ec, .bool xok]), (C1, [.int .i64 id, .int .i64 sz, .int .i64 (fTm tm xt), .int .i64 xf, .int .i64 (fRl tm xt rl), .int .i64 (fLd tm xt ld), .int .i64 (10 + 3 * id), .int .i64 (fVs tm xt vs), .slice ga gl gc, .int .i64 cm, .slice (fA tm xt na) (fN tm xt nl) (fN tm xt nc), .slice (fA tm xt ma) (fN tm xt ml) (fN tm xt mc)])] _ := hl.set (i := 1) rfl (hb.store rfl) ho
          show Bx ⟨w, []⟩ ((if f 9 = true then _ else _) ++ _) _
          rw [h2]; exact hn
      | 11, ho =>
        obtain rfl := Option.some.inj ho
        have hf : FrV 74 [(73, .slice (some ⟨G11, 0, none⟩) 1 1)] a := frv_of hN hd (all_cons (hv 73 _ rfl (by kernel_rfl)) (all_nil))
        exact ⟨rfl, .inl ⟨5, .slice (some ⟨G11, 0, none⟩) 1 1, X, rfl, ex_vas hf rfl rfl, rfl, hS⟩⟩
      | j + 12, ho => simp at ho
    replace hX := hS.2
    rw [hall 9 (by decide), hall 10 (by decide)] at hX
    replace hX : Bx ⟨w, []⟩ [(G11, [.int .i64 id, .int .i64 xf, .int .i64 2, .int .i64 (fTm tm xt), .int .i64 0, .int .i64 0, .int .i64 0, .slice none 0 0, .bool true]), (C3, [.int .i64 id, .int .i64 sz, .int .i64 (fTm tm xt), .int .i64 xf, .int .i64 (fRl tm xt rl), .int .i64 (fLd tm xt ld), .int .i64 (10 + 3 * id), .int .i64 (fVs tm xt vs), .slice ga gl gc, .int .i64 cm, .slice (fA tm xt na) (fN tm xt nl) (fN tm xt nc), .slice (fA tm xt ma) (fN tm xt ml) (fN tm xt mc)]), (C2, [.int .i64 xf, .int .i64 xto, .int .i64 1, .int .i64 xt, .int .i64 xi, .int .i64 xl, .int .i64 xc, .slice ea el ec, .bool xok]), (C1, [.int .i64 id, .int .i64 sz, .int .i64 (fTm tm xt), .int .i64 xf, .int .i64 (fRl tm xt rl), .int .i64 (fLd tm xt ld), .int .i64 (10 + 3 * id), .int .i64 (fVs tm xt vs), .slice ga gl gc, .int .i64 cm, .slice (fA tm xt na) (fN tm xt nl) (fN tm xt nc), .slice (fA tm xt ma) (fN tm xt ml) (fN tm xt mc)])] X := hX
    replace hf := hf.sub (env' := [(5, .slice (some ⟨G11, 0, none⟩) 1 1), (4, .pointer (some ⟨C3, 0, none⟩))]) (sub_cons rfl (sub_cons rfl (sub_nil)))
    refine wp_ret ?_
    try simp only [Exit.inBlock, Exit.then]
    exact bodyPost_ret (res_cell_tmp (c := 4) (d := 5) (C := C3) (cs := [.int .i64 id, .int .i64 sz, .int .i64 (fTm tm xt), .int .i64 xf, .int .i64 (fRl tm xt rl), .int .i64 (fLd tm xt ld), .int .i64 (10 + 3 * id), .int .i64 (fVs tm xt vs), .slice ga gl gc, .int .i64 cm, .slice (fA tm xt na) (fN tm xt nl) (fN tm xt nc), .slice (fA tm xt ma) (fN tm xt ml) (fN tm xt mc)]) (T := 25) rfl (hf.rel 4 _ rfl) (hf.rel 5 _ rfl) (hX.get (i := 1) rfl) Try.underlying25 info_mem) hf.defers ⟨G11, rfl, hX.get (i := 0) rfl, hX.ge _ (List.mem_of_getElem? (i := 0) rfl), hX.low⟩
theorem rvote_none (id sz tm vt rl ld ti vs : Int) (ga : Option Addr) (gl gc : Nat) (cm : Int) (na : Option Addr) (nl nc : Nat) (ma : Option Addr) (ml mc : Nat) (xf xto xk xt xi xl xc : Int) (ea : Option Addr) (el ec : Nat) (xok : Bool) (w : World) (hxk : xk ≠ 1) :
    Calls Try.prog 20 #[mem id sz tm vt rl ld ti vs (.slice ga gl gc) cm (.slice na nl nc) (.slice ma ml mc), .agg #[.int .i64 xf, .int .i64 xto, .int .i64 xk, .int .i64 xt, .int .i64 xi, .int .i64 xl, .int .i64 xc, .slice ea el ec, .bool xok]] w fun e w' => e = .returned (.tuple #[mem id sz tm vt rl ld ti vs (.slice ga gl gc) cm (.slice na nl nc) (.slice ma ml mc), nil]) ∧ Below w.heap.size w w' := by
  refine calls_frv (N := 74) (vs := [.agg #[.int .i64 id, .int .i64 sz, .int .i64 tm, .int .i64 vt, .int .i64 rl, .int .i64 ld, .int .i64 ti, .int .i64 vs, .slice ga gl gc, .int .i64 cm, .slice na nl nc, .slice ma ml mc], .agg #[.int .i64 xf, .int .i64 xto, .int .i64 xk, .int .i64 xt, .int .i64 xi, .int .i64 xl, .int .i64 xc, .slice ea el ec, .bool xok]]) [(0, .agg #[.int .i64 id, .int .i64 sz, .int .i64 tm, .int .i64 vt, .int .i64 rl, .int .i64 ld, .int .i64 ti, .int .i64 vs, .slice ga gl gc, .int .i64 cm, .slice na nl nc, .slice ma ml mc]), (1, .agg #[.int .i64 xf, .int .i64 xto, .int .i64 xk, .int .i64 xt, .int .i64 xi, .int .i64 xl, .int .i64 xc, .slice ea el ec, .bool xok])] Try.func20 rfl rfl (of_decide_eq_true rfl) (fun p hp => by simp only [List.mem_cons, List.not_mem_nil, or_false] at hp; rcases hp with rfl | rfl <;> rfl) (fun a hf => ?_)
  have hX := Bx.start w
  refine wp_seq ?_
  refine wp_region_lit ?_
  refine sv_box hf hX rfl (by decide) (fun a C1 W hC hf hX => ?_)
  clear hC
  refine sv_box hf hX rfl (by decide) (fun a C2 W hC hf hX => ?_)
  clear hC
  refine sv_alloc (zs := [.int .i64 0, .int .i64 0, .int .i64 0, .int .i64 0, .int .i64 0, .int .i64 0, .int .i64 0, .int .i64 0, .slice none 0 0, .int .i64 0, .slice none 0 0, .slice none 0 0]) hf hX zero_mem (by decide) (fun a C3 W hC hf hX => ?_)
  clear hC
  refine sv_ac hf (by decide) (fun a hf => ?_)
  replace hf := hf.sub (env' := [(5, .slice none 0 0), (4, .pointer (some ⟨C3, 0, none⟩)), (3, .pointer (some ⟨C2, 0, none⟩)), (2, .pointer (some ⟨C1, 0, none⟩))]) (sub_cons rfl (sub_cons rfl (sub_cons rfl (sub_cons rfl (sub_nil)))))
  refine sv_nil hf ?_
  refine wp_seq ?_
  refine wp_seq ?_
  refine wp_region_lit ?_
  refine sv_fld hf rfl Try.underlying35 rfl sz_int (2) rfl (by decide) (fun a hf => ?_)
  refine sv_lc hf hX rfl 1 rfl rfl Try.underlying3 rfl (by decide) (fun a hf => ?_)
  refine sv_cmp hf rfl rfl true (congrArg some (by rw [decide_eq_false hxk]; rfl)) (by decide) (fun a hf => ?_)
  replace hf := hf.sub (env' := [(10, .bool true), (5, .slice none 0 0), (4, .pointer (some ⟨C3, 0, none⟩)), (3, .pointer (some ⟨C2, 0, none⟩)), (2, .pointer (some ⟨C1, 0, none⟩))]) (sub_cons rfl (sub_cons rfl (sub_cons rfl (sub_cons rfl (sub_cons rfl (sub_nil))))))
  refine sv_nil hf ?_
  refine wp_cond_true (hf.rel _ _ rfl) ?_
  refine wp_seq ?_
  refine wp_region_lit ?_
  refine sv_lr hf hX rfl 2 rfl Try.underlying25 info_mem (by decide) (fun a hf => ?_)
  refine sv_sr hf hX rfl rfl 0 rfl rfl info_mem (fun v hv => List.all_eq_true.1 (show List.all [.int .i64 id, .int .i64 sz, .int .i64 tm, .int .i64 vt, .int .i64 rl, .int .i64 ld, .int .i64 ti, .int .i64 vs, .slice ga gl gc, .int .i64 cm, .slice na nl nc, .slice ma ml mc] (·.oneCell') = true from rfl) v hv) [(C3, [.int .i64 id, .int .i64 sz, .int .i64 tm, .int .i64 vt, .int .i64 rl, .int .i64 ld, .int .i64 ti, .int .i64 vs, .slice ga gl gc, .int .i64 cm, .slice na nl nc, .slice ma ml mc]), (C2, [.int .i64 xf, .int .i64 xto, .int .i64 xk, .int .i64 xt, .int .i64 xi, .int .i64 xl, .int .i64 xc, .slice ea el ec, .bool xok]), (C1, [.int .i64 id, .int .i64 sz, .int .i64 tm, .int .i64 vt, .int .i64 rl, .int .i64 ld, .int .i64 ti, .int .i64 vs, .slice ga gl gc, .int .i64 cm, .slice na nl nc, .slice ma ml mc])] rfl (fun W hX => ?_)
  refine sv_ac hf (by decide) (fun a hf => ?_)
  replace hf := hf.sub (env' := [(5, .slice none 0 0), (4, .pointer (some ⟨C3, 0, none⟩)), (3, .pointer (some ⟨C2, 0, none⟩)), (2, .pointer (some ⟨C1, 0, none⟩))]) (sub_cons rfl (sub_cons rfl (sub_cons rfl (sub_cons rfl (sub_nil)))))
  refine sv_nil hf ?_
  refine wp_ret ?_
  try simp only [Exit.inBlock, Exit.then]
  exact bodyPost_ret (res_cell_tmp (c := 4) (d := 5) (C := C3) (cs := [.int .i64 id, .int .i64 sz, .int .i64 tm, .int .i64 vt, .int .i64 rl, .int .i64 ld, .int .i64 ti, .int .i64 vs, .slice ga gl gc, .int .i64 cm, .slice na nl nc, .slice ma ml mc]) (T := 25) rfl (hf.rel 4 _ rfl) (hf.rel 5 _ rfl) (hX.get (i := 0) rfl) Try.underlying25 info_mem) hf.defers ⟨rfl, hX.low⟩
theorem vote_none (n : Nat) (id sz tm vt rl ld ti vs : Int) (ga : Option Addr) (gl gc : Nat) (cm : Int) (na : Option Addr) (nl nc : Nat) (ma : Option Addr) (ml mc : Nat) (xf xto xk xt xi xl xc : Int) (ea : Option Addr) (el ec : Nat) (xok : Bool) (W0 w : World) (hb0 : Below W0.heap.size W0 w) (hg : GoodC Try.prog W0 n 25 (memL id sz tm vt rl ld ti vs (.slice ga gl gc) cm (.slice na nl nc) (.slice ma ml mc))) (hxk : xk ≠ 1) :
    Calls Try.prog 19 #[mem id sz tm vt rl ld ti vs (.slice ga gl gc) cm (.slice na nl nc) (.slice ma ml mc), .agg #[.int .i64 xf, .int .i64 xto, .int .i64 xk, .int .i64 xt, .int .i64 xi, .int .i64 xl, .int .i64 xc, .slice ea el ec, .bool xok]] w fun e w' => ∃ ga2 gc2 na2 nc2 ma2 mc2, e = .returned (.tuple #[mem id sz tm vt rl ld ti vs (.slice ga2 gl gc2) cm (.slice na2 nl nc2) (.slice ma2 ml mc2), nil]) ∧ (∃ m, EqC Try.prog w' w' (fun k => k < W0.heap.size) (fun k => w.heap.size ≤ k) (m + 1) 22 [.slice ga gl gc] [.slice ga2 gl gc2] ∧ EqC Try.prog w' w' (fun k => k < W0.heap.size) (fun k => w.heap.size ≤ k) (m + 1) 23 [.slice na nl nc] [.slice na2 nl nc2] ∧ EqC Try.prog w' w' (fun k => k < W0.heap.size) (fun k => w.heap.size ≤ k) (m + 1) 23 [.slice ma ml mc] [.slice ma2 ml mc2]) ∧ Below w.heap.size w w' := by
  refine calls_frv (N := 80) (vs := [.agg #[.int .i64 id, .int .i64 sz, .int .i64 tm, .int .i64 vt, .int .i64 rl, .int .i64 ld, .int .i64 ti, .int .i64 vs, .slice ga gl gc, .int .i64 cm, .slice na nl nc, .slice ma ml mc], .agg #[.int .i64 xf, .int .i64 xto, .int .i64 xk, .int .i64 xt, .int .i64 xi, .int .i64 xl, .int .i64 xc, .slice ea el ec, .bool xok]]) [(0, .agg #[.int .i64 id, .int .i64 sz, .int .i64 tm, .int .i64 vt, .int .i64 rl, .int .i64 ld, .int .i64 ti, .int .i64 vs, .slice ga gl gc, .int .i64 cm, .slice na nl nc, .slice ma ml mc]), (1, .agg #[.int .i64 xf, .int .i64 xto, .int .i64 xk, .int .i64 xt, .int .i64 xi, .int .i64 xl, .int .i64 xc, .slice ea el ec, .bool xok])] Try.func19 rfl rfl (of_decide_eq_true rfl) (fun p hp => by simp only [List.mem_cons, List.not_mem_nil, or_false] at hp; rcases hp with rfl | rfl <;> rfl) (fun a hf => ?_)
  have hX := Bx.start w
  refine wp_seq ?_
  refine wp_region_lit ?_
  refine sv_box hf hX rfl (by decide) (fun a C1 W hC hf hX => ?_)
  clear hC
  refine sv_box hf hX rfl (by decide) (fun a C2 W hC hf hX => ?_)
  clear hC
  refine sv_alloc (zs := [.int .i64 0, .int .i64 0, .int .i64 0, .int .i64 0, .int .i64 0, .int .i64 0, .int .i64 0, .int .i64 0, .slice none 0 0, .int .i64 0, .slice none 0 0, .slice none 0 0]) hf hX zero_mem (by decide) (fun a C3 W hC hf hX => ?_)
  clear hC
  refine sv_ac hf (by decide) (fun a hf => ?_)
  replace hf := hf.sub (env' := [(5, .slice none 0 0), (4, .pointer (some ⟨C3, 0, none⟩)), (3, .pointer (some ⟨C2, 0, none⟩)), (2, .pointer (some ⟨C1, 0, none⟩))]) (sub_cons rfl (sub_cons rfl (sub_cons rfl (sub_cons rfl (sub_nil)))))
  refine sv_nil hf ?_
  refine wp_seq ?_
  refine wp_region_lit ?_
  refine sv_lr hf hX rfl 2 rfl Try.underlying25 info_mem (by decide) (fun a hf => ?_)
  have hsA : w.heap.size ≤ W.heap.size := hX.low.size
  obtain ⟨WA, hWA⟩ : ∃ X, X = W := ⟨_, rfl⟩
  rw [← hWA] at hsA
  refine sv_call hf fnOK_36 rfl (copyMember_let n _ _ _ _ _ _ _ _ _ _ _ _ _ _ _ _ _ _ W0 W (hb0.trans (hX.low.mono hb0.size)) hg) (by decide) ?_
  rintro e W2 ⟨ga2, gc2, na2, nc2, ma2, mc2, rfl, hE, hb⟩
  replace hX := hX.made hb
  clear hb
  rw [← hWA] at hE hX
  have HE := Lib.hid hE
  clear hE
  refine ⟨_, rfl, fun a hf => ?_⟩
  obtain ⟨WC, hWC⟩ : ∃ X, X = W2 := ⟨_, rfl⟩
  rw [← hWC] at HE hX
  obtain ⟨β, hβ⟩ : ∃ b : Base, b = ⟨w, [(WC, fun k => k < w.heap.size ∨ WA.heap.size ≤ k)]⟩ := ⟨_, rfl⟩
  replace hX : Bx β [(C3, [.int .i64 0, .int .i64 0, .int .i64 0, .int .i64 0, .int .i64 0, .int .i64 0, .int .i64 0, .int .i64 0, .slice none 0 0, .int .i64 0, .slice none 0 0, .slice none 0 0]), (C2, [.int .i64 xf, .int .i64 xto, .int .i64 xk, .int .i64 xt, .int .i64 xi, .int .i64 xl, .int .i64 xc, .slice ea el ec, .bool xok]), (C1, [.int .i64 id, .int .i64 sz, .int .i64 tm, .int .i64 vt, .int .i64 rl, .int .i64 ld, .int .i64 ti, .int .i64 vs, .slice ga gl gc, .int .i64 cm, .slice na nl nc, .slice ma ml mc])] W2 := by rw [hWC] at hX; rw [hβ, hWC]; exact hX
  have hmem : (WC, fun k => k < w.heap.size ∨ WA.heap.size ≤ k) ∈ β.bs := by rw [hβ]; exact List.mem_cons_self
  refine sv_sr hf hX rfl rfl 2 rfl rfl info_mem (fun v hv => List.all_eq_true.1 (show List.all [.int .i64 id, .int .i64 sz, .int .i64 tm, .int .i64 vt, .int .i64 rl, .int .i64 ld, .int .i64 ti, .int .i64 vs, .slice ga2 gl gc2, .int .i64 cm, .slice na2 nl nc2, .slice ma2 ml mc2] (·.oneCell') = true from rfl) v hv) [(C3, [.int .i64 0, .int .i64 0, .int .i64 0, .int .i64 0, .int .i64 0, .int .i64 0, .int .i64 0, .int .i64 0, .slice none 0 0, .int .i64 0, .slice none 0 0, .slice none 0 0]), (C2, [.int .i64 xf, .int .i64 xto, .int .i64 xk, .int .i64 xt, .int .i64 xi, .int .i64 xl, .int .i64 xc, .slice ea el ec, .bool xok]), (C1, [.int .i64 id, .int .i64 sz, .int .i64 tm, .int .i64 vt, .int .i64 rl, .int .i64 ld, .int .i64 ti, .int .i64 vs, .slice ga2 gl gc2, .int .i64 cm, .slice na2 nl nc2, .slice ma2 ml mc2])] rfl (fun W hX => ?_)
  replace hf := hf.sub (env' := [(5, .slice none 0 0), (4, .pointer (some ⟨C3, 0, none⟩)), (3, .pointer (some ⟨C2, 0, none⟩)), (2, .pointer (some ⟨C1, 0, none⟩))]) (sub_cons rfl (sub_cons rfl (sub_cons rfl (sub_cons rfl (sub_nil)))))
  refine sv_nil hf ?_
  refine wp_seq ?_
  refine wp_seq ?_
  refine wp_region_lit ?_
  refine sv_fld hf rfl Try.underlying35 rfl sz_int (2) rfl (by decide) (fun a hf => ?_)
  refine sv_lc hf hX rfl 1 rfl rfl Try.underlying3 rfl (by decide) (fun a hf => ?_)
  refine sv_cmp hf rfl rfl true (congrArg some (by rw [decide_eq_false hxk]; rfl)) (by decide) (fun a hf => ?_)
  replace hf := hf.sub (env' := [(14, .bool true), (5, .slice none 0 0), (4, .pointer (some ⟨C3, 0, none⟩)), (3, .pointer (some ⟨C2, 0, none⟩)), (2, .pointer (some ⟨C1, 0, none⟩))]) (sub_cons rfl (sub_cons rfl (sub_cons rfl (sub_cons rfl (sub_cons rfl (sub_nil))))))
  refine sv_nil hf ?_
  refine wp_cond_true (hf.rel _ _ rfl) ?_
  refine wp_seq ?_
  refine wp_region_lit ?_
  refine sv_lr hf hX rfl 2 rfl Try.underlying25 info_mem (by decide) (fun a hf => ?_)
  refine sv_sr hf hX rfl rfl 0 rfl rfl info_mem (fun v hv => List.all_eq_true.1 (show List.all [.int .i64 id, .int .i64 sz, .int .i64 tm, .int .i64 vt, .int .i64 rl, .int .i64 ld, .int .i64 ti, .int .i64 vs, .slice ga2 gl gc2, .int .i64 cm, .slice na2 nl nc2, .slice ma2 ml mc2] (·.oneCell') = true from rfl) v hv) [(C3, [.int .i64 id, .int .i64 sz, .int .i64 tm, .int .i64 vt, .int .i64 rl, .int .i64 ld, .int .i64 ti, .int .i64 vs, .slice ga2 gl gc2, .int .i64 cm, .slice na2 nl nc2, .slice ma2 ml mc2]), (C2, [.int .i64 xf, .int .i64 xto, .int .i64 xk, .int .i64 xt, .int .i64 xi, .int .i64 xl, .int .i64 xc, .slice ea el ec, .bool xok]), (C1, [.int .i64 id, .int .i64 sz, .int .i64 tm, .int .i64 vt, .int .i64 rl, .int .i64 ld, .int .i64 ti, .int .i64 vs, .slice ga2 gl gc2, .int .i64 cm, .slice na2 nl nc2, .slice ma2 ml mc2])] rfl (fun W hX => ?_)
  refine sv_ac hf (by decide) (fun a hf => ?_)
  replace hf := hf.sub (env' := [(5, .slice none 0 0), (4, .pointer (some ⟨C3, 0, none⟩)), (3, .pointer (some ⟨C2, 0, none⟩)), (2, .pointer (some ⟨C1, 0, none⟩))]) (sub_cons rfl (sub_cons rfl (sub_cons rfl (sub_cons rfl (sub_nil)))))
  refine sv_nil hf ?_
  refine wp_ret ?_
  try simp only [Exit.inBlock, Exit.then]
  refine bodyPost_ret (res_cell_tmp (c := 4) (d := 5) (C := C3) (cs := [.int .i64 id, .int .i64 sz, .int .i64 tm, .int .i64 vt, .int .i64 rl, .int .i64 ld, .int .i64 ti, .int .i64 vs, .slice ga2 gl gc2, .int .i64 cm, .slice na2 nl nc2, .slice ma2 ml mc2]) (T := 25) rfl (hf.rel 4 _ rfl) (hf.rel 5 _ rfl) (hX.get (i := 0) rfl) Try.underlying25 info_mem) hf.defers ⟨ga2, gc2, na2, nc2, ma2, mc2, rfl, ?_, by have := hX.low; rw [hβ] at this; exact this⟩
  obtain ⟨m, _, h8, h10, h11⟩ := HE.out
  exact ⟨m, hX.later2 hmem (fun k h => Or.inl (Nat.lt_of_lt_of_le h hb0.size)) (fun k h => Or.inr h) (fun k h => h) (fun k h => Nat.le_trans hsA h) h8, hX.later2 hmem (fun k h => Or.inl (Nat.lt_of_lt_of_le h hb0.size)) (fun k h => Or.inr h) (fun k h => h) (fun k h => Nat.le_trans hsA h) h10, hX.later2 hmem (fun k h => Or.inl (Nat.lt_of_lt_of_le h hb0.size)) (fun k h => Or.inr h) (fun k h => h) (fun k h => Nat.le_trans hsA h) h11⟩
end Go.Proofs.Ytfpgklhbghahoaa
