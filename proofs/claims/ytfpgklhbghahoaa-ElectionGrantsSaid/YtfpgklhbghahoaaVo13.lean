/- Merged texts: Eh14, Eh15. -/
import Derived.Test.YtfpgklhbghahoaaVo12
/- Election: fits; lists of one message. -/
namespace Go.Proofs.Ytfpgklhbghahoaa
open Go.ChangeShapes Go.WideShapes Go.ChangeAt Go.RowKit Go.ChangeMaps Go.Joins Go.Deep
set_option linter.unusedVariables false
set_option linter.unusedSimpArgs false
set_option maxRecDepth 100000
theorem few_is {fb b : Bool} {n : Nat} (h : fb = b) (hb : fb = decide (n ≤ 60)) {m : Value} {w : World} (hc : Calls Try.prog 15 #[m] w fun e w' => e = .returned (.bool (decide (n ≤ 60))) ∧ Below w.heap.size w w') : Calls Try.prog 15 #[m] w fun e w' => e = .returned (.bool b) ∧ Below w.heap.size w w' := by
  rw [← hb, h] at hc
  exact hc
theorem valid_is {vb b : Bool} (hb : vb = b) {m : Value} {w : World} (hc : Calls Try.prog 17 #[m] w fun e w' => e = .returned (.bool b) ∧ Below w.heap.size w w') : Calls Try.prog 17 #[m] w fun e w' => e = .returned (.bool vb) ∧ Below w.heap.size w w' := by
  rw [← hb] at hc
  exact hc
theorem fits_any (id sz tm vt rl ld ti vs : Int) (ga : Option Addr) (gc : Nat) (es : List (List Value)) (cm : Int) (na : Option Addr) (nl nc : Nat) (ma : Option Addr) (ml mc : Nat) (xs ys : List Int) (xf xto xk xt xi xl xc : Int) (ea : Option Addr) (el ec : Nat) (xok : Bool) (w : World) (he : EntArg w (.slice ga es.length gc) es) (hX : IntsIn w (.slice na nl nc) xs) (hY : IntsIn w (.slice ma ml mc) ys) :
    Calls Try.prog 18 #[mem id sz tm vt rl ld ti vs (.slice ga es.length gc) cm (.slice na nl nc) (.slice ma ml mc), .agg #[.int .i64 xf, .int .i64 xto, .int .i64 xk, .int .i64 xt, .int .i64 xi, .int .i64 xl, .int .i64 xc, .slice ea el ec, .bool xok]] w fun e w' => ∃ b : Bool, e = .returned (.bool b) ∧ (b = true → es.length ≤ 60 ∧ validB id sz tm vt rl ld ti vs cm es xs ys = true ∧ xto = id ∧ 0 ≤ xf ∧ xf < sz ∧ xf ≠ id ∧ 0 ≤ xt ∧ 0 ≤ xi ∧ 0 ≤ xl) ∧ Below w.heap.size w w' := by
  obtain ⟨vb, hvb⟩ : ∃ b, b = validB id sz tm vt rl ld ti vs cm es xs ys := ⟨_, rfl⟩
  rw [← hvb]
  obtain ⟨fb, hfb⟩ : ∃ b, b = decide (es.length ≤ 60) := ⟨_, rfl⟩
  have HE := Lib.hid he
  have HXs := Lib.hid hX
  have HYs := Lib.hid hY
  have hel := he.le
  clear he hX hY
  rcases Nat.lt_or_ge 60 es.length with hgt | hle
  ·
    have hfe : fb = false := by rw [hfb]; exact decide_eq_false (by omega)
    refine calls_frv (N := 52) (vs := [.agg #[.int .i64 id, .int .i64 sz, .int .i64 tm, .int .i64 vt, .int .i64 rl, .int .i64 ld, .int .i64 ti, .int .i64 vs, .slice ga es.length gc, .int .i64 cm, .slice na nl nc, .slice ma ml mc], .agg #[.int .i64 xf, .int .i64 xto, .int .i64 xk, .int .i64 xt, .int .i64 xi, .int .i64 xl, .int .i64 xc, .slice ea el ec, .bool xok]]) [(0, .agg #[.int .i64 id, .int .i64 sz, .int .i64 tm, .int .i64 vt, .int .i64 rl, .int .i64 ld, .int .i64 ti, .int .i64 vs, .slice ga es.length gc, .int .i64 cm, .slice na nl nc, .slice ma ml mc]), (1, .agg #[.int .i64 xf, .int .i64 xto, .int .i64 xk, .int .i64 xt, .int .i64 xi, .int .i64 xl, .int .i64 xc, .slice ea el ec, .bool xok])] Try.func18 rfl rfl (of_decide_eq_true rfl) (fun p hp => by simp only [List.mem_cons, List.not_mem_nil, or_false] at hp; rcases hp with rfl | rfl <;> rfl) (fun a hf => ?_)
    have hX := Bx.start w
    refine wp_seq ?_
    refine wp_region_lit ?_
    refine sv_box hf hX rfl (by decide) (fun a C1 W hC hf hX => ?_)
    clear hC
    refine sv_box hf hX rfl (by decide) (fun a C2 W hC hf hX => ?_)
    clear hC
    refine sv_ac hf (by decide) (fun a hf => ?_)
    replace hf := hf.sub (env' := [(4, .bool false), (3, .pointer (some ⟨C2, 0, none⟩)), (2, .pointer (some ⟨C1, 0, none⟩))]) (sub_cons rfl (sub_cons rfl (sub_cons rfl (sub_nil))))
    refine sv_nil hf ?_
    refine wp_seq ?_
    refine wp_region_lit ?_
    refine sv_lr hf hX rfl 1 rfl Try.underlying25 info_mem (by decide) (fun a hf => ?_)
    refine sv_call hf fnOK_15 rfl (few_is hfe hfb (few_any _ _ _ _ _ _ _ _ _ _ _ _ _ _ _ hel)) (by decide) ?_
    rintro e W ⟨rfl, hb⟩
    replace hX := hX.keep hb
    clear hb
    refine ⟨_, rfl, fun a hf => ?_⟩
    refine sv_mv hf rfl (by decide) (fun a hf => ?_)
    refine sv_skip1 hf rfl rfl (by decide) (by decide) (fun a hf => ?_)
    refine sv_skip1 hf rfl rfl (by decide) (by decide) (fun a hf => ?_)
    refine sv_pk hf rfl rfl (by decide) (fun a hf => ?_)
    refine sv_mv hf rfl (by decide) (fun a hf => ?_)
    refine sv_skip1 hf rfl rfl (by decide) (by decide) (fun a hf => ?_)
    refine sv_skip1 hf rfl rfl (by decide) (by decide) (fun a hf => ?_)
    refine sv_skip1 hf rfl rfl (by decide) (by decide) (fun a hf => ?_)
    refine sv_skip1 hf rfl rfl (by decide) (by decide) (fun a hf => ?_)
    refine sv_skip1 hf rfl rfl (by decide) (by decide) (fun a hf => ?_)
    refine sv_pk hf rfl rfl (by decide) (fun a hf => ?_)
    refine sv_mv hf rfl (by decide) (fun a hf => ?_)
    refine sv_skip1 hf rfl rfl (by decide) (by decide) (fun a hf => ?_)
    refine sv_skip1 hf rfl rfl (by decide) (by decide) (fun a hf => ?_)
    refine sv_skip1 hf rfl rfl (by decide) (by decide) (fun a hf => ?_)
    refine sv_pk hf rfl rfl (by decide) (fun a hf => ?_)
    refine sv_mv hf rfl (by decide) (fun a hf => ?_)
    refine sv_skip1 hf rfl rfl (by decide) (by decide) (fun a hf => ?_)
    refine sv_skip1 hf rfl rfl (by decide) (by decide) (fun a hf => ?_)
    refine sv_skip1 hf rfl rfl (by decide) (by decide) (fun a hf => ?_)
    refine sv_skip1 hf rfl rfl (by decide) (by decide) (fun a hf => ?_)
    refine sv_skip1 hf rfl rfl (by decide) (by decide) (fun a hf => ?_)
    refine sv_pk hf rfl rfl (by decide) (fun a hf => ?_)
    refine sv_mv hf rfl (by decide) (fun a hf => ?_)
    refine sv_skip1 hf rfl rfl (by decide) (by decide) (fun a hf => ?_)
    refine sv_skip1 hf rfl rfl (by decide) (by decide) (fun a hf => ?_)
    refine sv_skip1 hf rfl rfl (by decide) (by decide) (fun a hf => ?_)
    refine sv_skip1 hf rfl rfl (by decide) (by decide) (fun a hf => ?_)
    refine sv_skip1 hf rfl rfl (by decide) (by decide) (fun a hf => ?_)
    refine sv_pk hf rfl rfl (by decide) (fun a hf => ?_)
    refine sv_mv hf rfl (by decide) (fun a hf => ?_)
    refine sv_skip1 hf rfl rfl (by decide) (by decide) (fun a hf => ?_)
    refine sv_skip1 hf rfl rfl (by decide) (by decide) (fun a hf => ?_)
    refine sv_skip1 hf rfl rfl (by decide) (by decide) (fun a hf => ?_)
    refine sv_pk hf rfl rfl (by decide) (fun a hf => ?_)
    refine sv_mv hf rfl (by decide) (fun a hf => ?_)
    refine sv_skip1 hf rfl rfl (by decide) (by decide) (fun a hf => ?_)
    refine sv_skip1 hf rfl rfl (by decide) (by decide) (fun a hf => ?_)
    refine sv_skip1 hf rfl rfl (by decide) (by decide) (fun a hf => ?_)
    refine sv_pk hf rfl rfl (by decide) (fun a hf => ?_)
    refine sv_mv hf rfl (by decide) (fun a hf => ?_)
    refine sv_skip1 hf rfl rfl (by decide) (by decide) (fun a hf => ?_)
    refine sv_skip1 hf rfl rfl (by decide) (by decide) (fun a hf => ?_)
    refine sv_skip1 hf rfl rfl (by decide) (by decide) (fun a hf => ?_)
    refine sv_pk hf rfl rfl (by decide) (fun a hf => ?_)
    refine sv_as hf rfl (by decide) (fun a hf => ?_)
    replace hf := hf.sub (env' := [(4, .bool false)]) (sub_cons rfl (sub_nil))
    refine sv_nil hf ?_
    refine wp_ret ?_
    try simp only [Exit.inBlock, Exit.then]
    exact bodyPost_ret (res_tmp (d := 4) (v := .bool false) rfl (hf.rel 4 _ rfl)) hf.defers ⟨false, rfl, (fun h => (by cases h)), hX.low⟩
  ·
    have hfe : fb = true := by rw [hfb]; exact decide_eq_true (by omega)
    refine calls_frv (N := 52) (vs := [.agg #[.int .i64 id, .int .i64 sz, .int .i64 tm, .int .i64 vt, .int .i64 rl, .int .i64 ld, .int .i64 ti, .int .i64 vs, .slice ga es.length gc, .int .i64 cm, .slice na nl nc, .slice ma ml mc], .agg #[.int .i64 xf, .int .i64 xto, .int .i64 xk, .int .i64 xt, .int .i64 xi, .int .i64 xl, .int .i64 xc, .slice ea el ec, .bool xok]]) [(0, .agg #[.int .i64 id, .int .i64 sz, .int .i64 tm, .int .i64 vt, .int .i64 rl, .int .i64 ld, .int .i64 ti, .int .i64 vs, .slice ga es.length gc, .int .i64 cm, .slice na nl nc, .slice ma ml mc]), (1, .agg #[.int .i64 xf, .int .i64 xto, .int .i64 xk, .int .i64 xt, .int .i64 xi, .int .i64 xl, .int .i64 xc, .slice ea el ec, .bool xok])] Try.func18 rfl rfl (of_decide_eq_true rfl) (fun p hp => by simp only [List.mem_cons, List.not_mem_nil, or_false] at hp; rcases hp with rfl | rfl <;> rfl) (fun a hf => ?_)
    have hX := Bx.start w
    refine wp_seq ?_
    refine wp_region_lit ?_
    refine sv_box hf hX rfl (by decide) (fun a C3 W hC hf hX => ?_)
    clear hC
    refine sv_box hf hX rfl (by decide) (fun a C4 W hC hf hX => ?_)
    clear hC
    refine sv_ac hf (by decide) (fun a hf => ?_)
    replace hf := hf.sub (env' := [(4, .bool false), (3, .pointer (some ⟨C4, 0, none⟩)), (2, .pointer (some ⟨C3, 0, none⟩))]) (sub_cons rfl (sub_cons rfl (sub_cons rfl (sub_nil))))
    refine sv_nil hf ?_
    refine wp_seq ?_
    refine wp_region_lit ?_
    refine sv_lr hf hX rfl 1 rfl Try.underlying25 info_mem (by decide) (fun a hf => ?_)
    refine sv_call hf fnOK_15 rfl (few_is hfe hfb (few_any _ _ _ _ _ _ _ _ _ _ _ _ _ _ _ hel)) (by decide) ?_
    rintro e W ⟨rfl, hb⟩
    replace hX := hX.keep hb
    clear hb
    refine ⟨_, rfl, fun a hf => ?_⟩
    refine sv_mv hf rfl (by decide) (fun a hf => ?_)
    refine sv_want hf rfl rfl ?_
    refine sv_lr hf hX rfl 1 rfl Try.underlying25 info_mem (by decide) (fun a hf => ?_)
    refine sv_want hf rfl rfl ?_
    refine sv_call hf fnOK_17 rfl (valid_is hvb (rvalid_at _ _ _ _ _ _ _ _ _ es _ _ _ xs ys _ (by omega) (HE.out.below hX.low) (HXs.out.below hX.low) (HYs.out.below hX.low))) (by decide) ?_
    rintro e W ⟨rfl, hb⟩
    replace hX := hX.keep hb
    clear hb
    refine ⟨_, rfl, fun a hf => ?_⟩
    refine sv_pk hf rfl rfl (by decide) (fun a hf => ?_)
    refine sv_mv hf rfl (by decide) (fun a hf => ?_)
    cases vb
    ·
      refine sv_skip1 hf rfl rfl (by decide) (by decide) (fun a hf => ?_)
      refine sv_skip1 hf rfl rfl (by decide) (by decide) (fun a hf => ?_)
      refine sv_skip1 hf rfl rfl (by decide) (by decide) (fun a hf => ?_)
      refine sv_skip1 hf rfl rfl (by decide) (by decide) (fun a hf => ?_)
      refine sv_skip1 hf rfl rfl (by decide) (by decide) (fun a hf => ?_)
      refine sv_pk hf rfl rfl (by decide) (fun a hf => ?_)
      refine sv_mv hf rfl (by decide) (fun a hf => ?_)
      refine sv_skip1 hf rfl rfl (by decide) (by decide) (fun a hf => ?_)
      refine sv_skip1 hf rfl rfl (by decide) (by decide) (fun a hf => ?_)
      refine sv_skip1 hf rfl rfl (by decide) (by decide) (fun a hf => ?_)
      refine sv_pk hf rfl rfl (by decide) (fun a hf => ?_)
      refine sv_mv hf rfl (by decide) (fun a hf => ?_)
      refine sv_skip1 hf rfl rfl (by decide) (by decide) (fun a hf => ?_)
      refine sv_skip1 hf rfl rfl (by decide) (by decide) (fun a hf => ?_)
      refine sv_skip1 hf rfl rfl (by decide) (by decide) (fun a hf => ?_)
      refine sv_skip1 hf rfl rfl (by decide) (by decide) (fun a hf => ?_)
      refine sv_skip1 hf rfl rfl (by decide) (by decide) (fun a hf => ?_)
      refine sv_pk hf rfl rfl (by decide) (fun a hf => ?_)
      refine sv_mv hf rfl (by decide) (fun a hf => ?_)
      refine sv_skip1 hf rfl rfl (by decide) (by decide) (fun a hf => ?_)
      refine sv_skip1 hf rfl rfl (by decide) (by decide) (fun a hf => ?_)
      refine sv_skip1 hf rfl rfl (by decide) (by decide) (fun a hf => ?_)
      refine sv_skip1 hf rfl rfl (by decide) (by decide) (fun a hf => ?_)
      refine sv_skip1 hf rfl rfl (by decide) (by decide) (fun a hf => ?_)
      refine sv_pk hf rfl rfl (by decide) (fun a hf => ?_)
      refine sv_mv hf rfl (by decide) (fun a hf => ?_)
      refine sv_skip1 hf rfl rfl (by decide) (by decide) (fun a hf => ?_)
      refine sv_skip1 hf rfl rfl (by decide) (by decide) (fun a hf => ?_)
      refine sv_skip1 hf rfl rfl (by decide) (by decide) (fun a hf => ?_)
      refine sv_pk hf rfl rfl (by decide) (fun a hf => ?_)
      refine sv_mv hf rfl (by decide) (fun a hf => ?_)
      refine sv_skip1 hf rfl rfl (by decide) (by decide) (fun a hf => ?_)
      refine sv_skip1 hf rfl rfl (by decide) (by decide) (fun a hf => ?_)
      refine sv_skip1 hf rfl rfl (by decide) (by decide) (fun a hf => ?_)
      refine sv_pk hf rfl rfl (by decide) (fun a hf => ?_)
      refine sv_mv hf rfl (by decide) (fun a hf => ?_)
      refine sv_skip1 hf rfl rfl (by decide) (by decide) (fun a hf => ?_)
      refine sv_skip1 hf rfl rfl (by decide) (by decide) (fun a hf => ?_)
      refine sv_skip1 hf rfl rfl (by decide) (by decide) (fun a hf => ?_)
      refine sv_pk hf rfl rfl (by decide) (fun a hf => ?_)
      refine sv_as hf rfl (by decide) (fun a hf => ?_)
      replace hf := hf.sub (env' := [(4, .bool false)]) (sub_cons rfl (sub_nil))
      refine sv_nil hf ?_
      refine wp_ret ?_
      try simp only [Exit.inBlock, Exit.then]
      exact bodyPost_ret (res_tmp (d := 4) (v := .bool false) rfl (hf.rel 4 _ rfl)) hf.defers ⟨false, rfl, (fun h => (by cases h)), hX.low⟩
    ·
      refine sv_want hf rfl rfl ?_
      refine sv_fld hf rfl Try.underlying35 rfl sz_int (1) rfl (by decide) (fun a hf => ?_)
      refine sv_want hf rfl rfl ?_
      refine sv_lc hf hX rfl 0 rfl rfl Try.underlying3 rfl (by decide) (fun a hf => ?_)
      refine sv_want hf rfl rfl ?_
      refine sv_fld hf rfl Try.underlying25 rfl sz_int (0) rfl (by decide) (fun a hf => ?_)
      refine sv_want hf rfl rfl ?_
      refine sv_lc hf hX rfl 1 rfl rfl Try.underlying3 rfl (by decide) (fun a hf => ?_)
      refine sv_want hf rfl rfl ?_
      rcases Decidable.em (xto = id) with h6 | h6
      ·
        refine sv_cmp hf rfl rfl true (congrArg some (decide_eq_true h6)) (by decide) (fun a hf => ?_)
        refine sv_pk hf rfl rfl (by decide) (fun a hf => ?_)
        refine sv_mv hf rfl (by decide) (fun a hf => ?_)
        refine sv_want hf rfl rfl ?_
        refine sv_fld hf rfl Try.underlying35 rfl sz_int (0) rfl (by decide) (fun a hf => ?_)
        refine sv_want hf rfl rfl ?_
        refine sv_lc hf hX rfl 0 rfl rfl Try.underlying3 rfl (by decide) (fun a hf => ?_)
        refine sv_want hf rfl rfl ?_
        rcases Decidable.em (0 ≤ xf) with h7 | h7
        ·
          refine sv_cmp hf rfl rfl true (congrArg some (decide_eq_true h7)) (by decide) (fun a hf => ?_)
          refine sv_pk hf rfl rfl (by decide) (fun a hf => ?_)
          refine sv_mv hf rfl (by decide) (fun a hf => ?_)
          refine sv_want hf rfl rfl ?_
          refine sv_fld hf rfl Try.underlying35 rfl sz_int (0) rfl (by decide) (fun a hf => ?_)
          refine sv_want hf rfl rfl ?_
          refine sv_lc hf hX rfl 0 rfl rfl Try.underlying3 rfl (by decide) (fun a hf => ?_)
          refine sv_want hf rfl rfl ?_
          refine sv_fld hf rfl Try.underlying25 rfl sz_int (1) rfl (by decide) (fun a hf => ?_)
          refine sv_want hf rfl rfl ?_
          refine sv_lc hf hX rfl 1 rfl rfl Try.underlying3 rfl (by decide) (fun a hf => ?_)
          refine sv_want hf rfl rfl ?_
          rcases Decidable.em (xf < sz) with h8 | h8
          ·
            refine sv_cmp hf rfl rfl true (congrArg some (decide_eq_true h8)) (by decide) (fun a hf => ?_)
            refine sv_pk hf rfl rfl (by decide) (fun a hf => ?_)
            refine sv_mv hf rfl (by decide) (fun a hf => ?_)
            refine sv_want hf rfl rfl ?_
            refine sv_fld hf rfl Try.underlying35 rfl sz_int (0) rfl (by decide) (fun a hf => ?_)
            refine sv_want hf rfl rfl ?_
            refine sv_lc hf hX rfl 0 rfl rfl Try.underlying3 rfl (by decide) (fun a hf => ?_)
            refine sv_want hf rfl rfl ?_
            refine sv_fld hf rfl Try.underlying25 rfl sz_int (0) rfl (by decide) (fun a hf => ?_)
            refine sv_want hf rfl rfl ?_
            refine sv_lc hf hX rfl 1 rfl rfl Try.underlying3 rfl (by decide) (fun a hf => ?_)
            refine sv_want hf rfl rfl ?_
            rcases Decidable.em (xf = id) with h9 | h9
            ·
              refine sv_cmp hf rfl rfl false (congrArg some (by rw [decide_eq_true h9]; rfl)) (by decide) (fun a hf => ?_)
              refine sv_pk hf rfl rfl (by decide) (fun a hf => ?_)
              refine sv_mv hf rfl (by decide) (fun a hf => ?_)
              refine sv_skip1 hf rfl rfl (by decide) (by decide) (fun a hf => ?_)
              refine sv_skip1 hf rfl rfl (by decide) (by decide) (fun a hf => ?_)
              refine sv_skip1 hf rfl rfl (by decide) (by decide) (fun a hf => ?_)
              refine sv_pk hf rfl rfl (by decide) (fun a hf => ?_)
              refine sv_mv hf rfl (by decide) (fun a hf => ?_)
              refine sv_skip1 hf rfl rfl (by decide) (by decide) (fun a hf => ?_)
              refine sv_skip1 hf rfl rfl (by decide) (by decide) (fun a hf => ?_)
              refine sv_skip1 hf rfl rfl (by decide) (by decide) (fun a hf => ?_)
              refine sv_pk hf rfl rfl (by decide) (fun a hf => ?_)
              refine sv_mv hf rfl (by decide) (fun a hf => ?_)
              refine sv_skip1 hf rfl rfl (by decide) (by decide) (fun a hf => ?_)
              refine sv_skip1 hf rfl rfl (by decide) (by decide) (fun a hf => ?_)
              refine sv_skip1 hf rfl rfl (by decide) (by decide) (fun a hf => ?_)
              refine sv_pk hf rfl rfl (by decide) (fun a hf => ?_)
              refine sv_as hf rfl (by decide) (fun a hf => ?_)
              replace hf := hf.sub (env' := [(4, .bool false)]) (sub_cons rfl (sub_nil))
              refine sv_nil hf ?_
              refine wp_ret ?_
              try simp only [Exit.inBlock, Exit.then]
              exact bodyPost_ret (res_tmp (d := 4) (v := .bool false) rfl (hf.rel 4 _ rfl)) hf.defers ⟨false, rfl, (fun h => (by cases h)), hX.low⟩
            ·
              refine sv_cmp hf rfl rfl true (congrArg some (by rw [decide_eq_false h9]; rfl)) (by decide) (fun a hf => ?_)
              refine sv_pk hf rfl rfl (by decide) (fun a hf => ?_)
              refine sv_mv hf rfl (by decide) (fun a hf => ?_)
              refine sv_want hf rfl rfl ?_
              refine sv_fld hf rfl Try.underlying35 rfl sz_int (3) rfl (by decide) (fun a hf => ?_)
              refine sv_want hf rfl rfl ?_
              refine sv_lc hf hX rfl 0 rfl rfl Try.underlying3 rfl (by decide) (fun a hf => ?_)
              refine sv_want hf rfl rfl ?_
              rcases Decidable.em (0 ≤ xt) with h10 | h10
              ·
                refine sv_cmp hf rfl rfl true (congrArg some (decide_eq_true h10)) (by decide) (fun a hf => ?_)
                refine sv_pk hf rfl rfl (by decide) (fun a hf => ?_)
                refine sv_mv hf rfl (by decide) (fun a hf => ?_)
                refine sv_want hf rfl rfl ?_
                refine sv_fld hf rfl Try.underlying35 rfl sz_int (4) rfl (by decide) (fun a hf => ?_)
                refine sv_want hf rfl rfl ?_
                refine sv_lc hf hX rfl 0 rfl rfl Try.underlying3 rfl (by decide) (fun a hf => ?_)
                refine sv_want hf rfl rfl ?_
                rcases Decidable.em (0 ≤ xi) with h11 | h11
                ·
                  refine sv_cmp hf rfl rfl true (congrArg some (decide_eq_true h11)) (by decide) (fun a hf => ?_)
                  refine sv_pk hf rfl rfl (by decide) (fun a hf => ?_)
                  refine sv_mv hf rfl (by decide) (fun a hf => ?_)
                  refine sv_want hf rfl rfl ?_
                  refine sv_fld hf rfl Try.underlying35 rfl sz_int (5) rfl (by decide) (fun a hf => ?_)
                  refine sv_want hf rfl rfl ?_
                  refine sv_lc hf hX rfl 0 rfl rfl Try.underlying3 rfl (by decide) (fun a hf => ?_)
                  refine sv_want hf rfl rfl ?_
                  rcases Decidable.em (0 ≤ xl) with h12 | h12
                  ·
                    refine sv_cmp hf rfl rfl true (congrArg some (decide_eq_true h12)) (by decide) (fun a hf => ?_)
                    refine sv_pk hf rfl rfl (by decide) (fun a hf => ?_)
                    refine sv_as hf rfl (by decide) (fun a hf => ?_)
                    replace hf := hf.sub (env' := [(4, .bool true)]) (sub_cons rfl (sub_nil))
                    refine sv_nil hf ?_
                    refine wp_ret ?_
                    try simp only [Exit.inBlock, Exit.then]
                    exact bodyPost_ret (res_tmp (d := 4) (v := .bool true) rfl (hf.rel 4 _ rfl)) hf.defers ⟨true, rfl, (fun _ => ⟨by omega, (by first | rfl | trivial), (by omega), (by omega), (by omega), (by omega), (by omega), (by omega), (by omega)⟩), hX.low⟩
                  ·
                    refine sv_cmp hf rfl rfl false (congrArg some (decide_eq_false h12)) (by decide) (fun a hf => ?_)
                    refine sv_pk hf rfl rfl (by decide) (fun a hf => ?_)
                    refine sv_as hf rfl (by decide) (fun a hf => ?_)
                    replace hf := hf.sub (env' := [(4, .bool false)]) (sub_cons rfl (sub_nil))
                    refine sv_nil hf ?_
                    refine wp_ret ?_
                    try simp only [Exit.inBlock, Exit.then]
                    exact bodyPost_ret (res_tmp (d := 4) (v := .bool false) rfl (hf.rel 4 _ rfl)) hf.defers ⟨false, rfl, (fun h => (by cases h)), hX.low⟩
                ·
                  refine sv_cmp hf rfl rfl false (congrArg some (decide_eq_false h11)) (by decide) (fun a hf => ?_)
                  refine sv_pk hf rfl rfl (by decide) (fun a hf => ?_)
                  refine sv_mv hf rfl (by decide) (fun a hf => ?_)
                  refine sv_skip1 hf rfl rfl (by decide) (by decide) (fun a hf => ?_)
                  refine sv_skip1 hf rfl rfl (by decide) (by decide) (fun a hf => ?_)
                  refine sv_skip1 hf rfl rfl (by decide) (by decide) (fun a hf => ?_)
                  refine sv_pk hf rfl rfl (by decide) (fun a hf => ?_)
                  refine sv_as hf rfl (by decide) (fun a hf => ?_)
                  replace hf := hf.sub (env' := [(4, .bool false)]) (sub_cons rfl (sub_nil))
                  refine sv_nil hf ?_
                  refine wp_ret ?_
                  try simp only [Exit.inBlock, Exit.then]
                  exact bodyPost_ret (res_tmp (d := 4) (v := .bool false) rfl (hf.rel 4 _ rfl)) hf.defers ⟨false, rfl, (fun h => (by cases h)), hX.low⟩
              ·
                refine sv_cmp hf rfl rfl false (congrArg some (decide_eq_false h10)) (by decide) (fun a hf => ?_)
                refine sv_pk hf rfl rfl (by decide) (fun a hf => ?_)
                refine sv_mv hf rfl (by decide) (fun a hf => ?_)
                refine sv_skip1 hf rfl rfl (by decide) (by decide) (fun a hf => ?_)
                refine sv_skip1 hf rfl rfl (by decide) (by decide) (fun a hf => ?_)
                refine sv_skip1 hf rfl rfl (by decide) (by decide) (fun a hf => ?_)
                refine sv_pk hf rfl rfl (by decide) (fun a hf => ?_)
                refine sv_mv hf rfl (by decide) (fun a hf => ?_)
                refine sv_skip1 hf rfl rfl (by decide) (by decide) (fun a hf => ?_)
                refine sv_skip1 hf rfl rfl (by decide) (by decide) (fun a hf => ?_)
                refine sv_skip1 hf rfl rfl (by decide) (by decide) (fun a hf => ?_)
                refine sv_pk hf rfl rfl (by decide) (fun a hf => ?_)
                refine sv_as hf rfl (by decide) (fun a hf => ?_)
                replace hf := hf.sub (env' := [(4, .bool false)]) (sub_cons rfl (sub_nil))
                refine sv_nil hf ?_
                refine wp_ret ?_
                try simp only [Exit.inBlock, Exit.then]
                exact bodyPost_ret (res_tmp (d := 4) (v := .bool false) rfl (hf.rel 4 _ rfl)) hf.defers ⟨false, rfl, (fun h => (by cases h)), hX.low⟩
          ·
            refine sv_cmp hf rfl rfl false (congrArg some (decide_eq_false h8)) (by decide) (fun a hf => ?_)
            refine sv_pk hf rfl rfl (by decide) (fun a hf => ?_)
            refine sv_mv hf rfl (by decide) (fun a hf => ?_)
            refine sv_skip1 hf rfl rfl (by decide) (by decide) (fun a hf => ?_)
            refine sv_skip1 hf rfl rfl (by decide) (by decide) (fun a hf => ?_)
            refine sv_skip1 hf rfl rfl (by decide) (by decide) (fun a hf => ?_)
            refine sv_skip1 hf rfl rfl (by decide) (by decide) (fun a hf => ?_)
            refine sv_skip1 hf rfl rfl (by decide) (by decide) (fun a hf => ?_)
            refine sv_pk hf rfl rfl (by decide) (fun a hf => ?_)
            refine sv_mv hf rfl (by decide) (fun a hf => ?_)
            refine sv_skip1 hf rfl rfl (by decide) (by decide) (fun a hf => ?_)
            refine sv_skip1 hf rfl rfl (by decide) (by decide) (fun a hf => ?_)
            refine sv_skip1 hf rfl rfl (by decide) (by decide) (fun a hf => ?_)
            refine sv_pk hf rfl rfl (by decide) (fun a hf => ?_)
            refine sv_mv hf rfl (by decide) (fun a hf => ?_)
            refine sv_skip1 hf rfl rfl (by decide) (by decide) (fun a hf => ?_)
            refine sv_skip1 hf rfl rfl (by decide) (by decide) (fun a hf => ?_)
            refine sv_skip1 hf rfl rfl (by decide) (by decide) (fun a hf => ?_)
            refine sv_pk hf rfl rfl (by decide) (fun a hf => ?_)
            refine sv_mv hf rfl (by decide) (fun a hf => ?_)
            refine sv_skip1 hf rfl rfl (by decide) (by decide) (fun a hf => ?_)
            refine sv_skip1 hf rfl rfl (by decide) (by decide) (fun a hf => ?_)
            refine sv_skip1 hf rfl rfl (by decide) (by decide) (fun a hf => ?_)
            refine sv_pk hf rfl rfl (by decide) (fun a hf => ?_)
            refine sv_as hf rfl (by decide) (fun a hf => ?_)
            replace hf := hf.sub (env' := [(4, .bool false)]) (sub_cons rfl (sub_nil))
            refine sv_nil hf ?_
            refine wp_ret ?_
            try simp only [Exit.inBlock, Exit.then]
            exact bodyPost_ret (res_tmp (d := 4) (v := .bool false) rfl (hf.rel 4 _ rfl)) hf.defers ⟨false, rfl, (fun h => (by cases h)), hX.low⟩
        ·
          refine sv_cmp hf rfl rfl false (congrArg some (decide_eq_false h7)) (by decide) (fun a hf => ?_)
          refine sv_pk hf rfl rfl (by decide) (fun a hf => ?_)
          refine sv_mv hf rfl (by decide) (fun a hf => ?_)
          refine sv_skip1 hf rfl rfl (by decide) (by decide) (fun a hf => ?_)
          refine sv_skip1 hf rfl rfl (by decide) (by decide) (fun a hf => ?_)
          refine sv_skip1 hf rfl rfl (by decide) (by decide) (fun a hf => ?_)
          refine sv_skip1 hf rfl rfl (by decide) (by decide) (fun a hf => ?_)
          refine sv_skip1 hf rfl rfl (by decide) (by decide) (fun a hf => ?_)
          refine sv_pk hf rfl rfl (by decide) (fun a hf => ?_)
          refine sv_mv hf rfl (by decide) (fun a hf => ?_)
          refine sv_skip1 hf rfl rfl (by decide) (by decide) (fun a hf => ?_)
          refine sv_skip1 hf rfl rfl (by decide) (by decide) (fun a hf => ?_)
          refine sv_skip1 hf rfl rfl (by decide) (by decide) (fun a hf => ?_)
          refine sv_skip1 hf rfl rfl (by decide) (by decide) (fun a hf => ?_)
          refine sv_skip1 hf rfl rfl (by decide) (by decide) (fun a hf => ?_)
          refine sv_pk hf rfl rfl (by decide) (fun a hf => ?_)
          refine sv_mv hf rfl (by decide) (fun a hf => ?_)
          refine sv_skip1 hf rfl rfl (by decide) (by decide) (fun a hf => ?_)
          refine sv_skip1 hf rfl rfl (by decide) (by decide) (fun a hf => ?_)
          refine sv_skip1 hf rfl rfl (by decide) (by decide) (fun a hf => ?_)
          refine sv_pk hf rfl rfl (by decide) (fun a hf => ?_)
          refine sv_mv hf rfl (by decide) (fun a hf => ?_)
          refine sv_skip1 hf rfl rfl (by decide) (by decide) (fun a hf => ?_)
          refine sv_skip1 hf rfl rfl (by decide) (by decide) (fun a hf => ?_)
          refine sv_skip1 hf rfl rfl (by decide) (by decide) (fun a hf => ?_)
          refine sv_pk hf rfl rfl (by decide) (fun a hf => ?_)
          refine sv_mv hf rfl (by decide) (fun a hf => ?_)
          refine sv_skip1 hf rfl rfl (by decide) (by decide) (fun a hf => ?_)
          refine sv_skip1 hf rfl rfl (by decide) (by decide) (fun a hf => ?_)
          refine sv_skip1 hf rfl rfl (by decide) (by decide) (fun a hf => ?_)
          refine sv_pk hf rfl rfl (by decide) (fun a hf => ?_)
          refine sv_as hf rfl (by decide) (fun a hf => ?_)
          replace hf := hf.sub (env' := [(4, .bool false)]) (sub_cons rfl (sub_nil))
          refine sv_nil hf ?_
          refine wp_ret ?_
          try simp only [Exit.inBlock, Exit.then]
          exact bodyPost_ret (res_tmp (d := 4) (v := .bool false) rfl (hf.rel 4 _ rfl)) hf.defers ⟨false, rfl, (fun h => (by cases h)), hX.low⟩
      ·
        refine sv_cmp hf rfl rfl false (congrArg some (decide_eq_false h6)) (by decide) (fun a hf => ?_)
        refine sv_pk hf rfl rfl (by decide) (fun a hf => ?_)
        refine sv_mv hf rfl (by decide) (fun a hf => ?_)
        refine sv_skip1 hf rfl rfl (by decide) (by decide) (fun a hf => ?_)
        refine sv_skip1 hf rfl rfl (by decide) (by decide) (fun a hf => ?_)
        refine sv_skip1 hf rfl rfl (by decide) (by decide) (fun a hf => ?_)
        refine sv_pk hf rfl rfl (by decide) (fun a hf => ?_)
        refine sv_mv hf rfl (by decide) (fun a hf => ?_)
        refine sv_skip1 hf rfl rfl (by decide) (by decide) (fun a hf => ?_)
        refine sv_skip1 hf rfl rfl (by decide) (by decide) (fun a hf => ?_)
        refine sv_skip1 hf rfl rfl (by decide) (by decide) (fun a hf => ?_)
        refine sv_skip1 hf rfl rfl (by decide) (by decide) (fun a hf => ?_)
        refine sv_skip1 hf rfl rfl (by decide) (by decide) (fun a hf => ?_)
        refine sv_pk hf rfl rfl (by decide) (fun a hf => ?_)
        refine sv_mv hf rfl (by decide) (fun a hf => ?_)
        refine sv_skip1 hf rfl rfl (by decide) (by decide) (fun a hf => ?_)
        refine sv_skip1 hf rfl rfl (by decide) (by decide) (fun a hf => ?_)
        refine sv_skip1 hf rfl rfl (by decide) (by decide) (fun a hf => ?_)
        refine sv_skip1 hf rfl rfl (by decide) (by decide) (fun a hf => ?_)
        refine sv_skip1 hf rfl rfl (by decide) (by decide) (fun a hf => ?_)
        refine sv_pk hf rfl rfl (by decide) (fun a hf => ?_)
        refine sv_mv hf rfl (by decide) (fun a hf => ?_)
        refine sv_skip1 hf rfl rfl (by decide) (by decide) (fun a hf => ?_)
        refine sv_skip1 hf rfl rfl (by decide) (by decide) (fun a hf => ?_)
        refine sv_skip1 hf rfl rfl (by decide) (by decide) (fun a hf => ?_)
        refine sv_pk hf rfl rfl (by decide) (fun a hf => ?_)
        refine sv_mv hf rfl (by decide) (fun a hf => ?_)
        refine sv_skip1 hf rfl rfl (by decide) (by decide) (fun a hf => ?_)
        refine sv_skip1 hf rfl rfl (by decide) (by decide) (fun a hf => ?_)
        refine sv_skip1 hf rfl rfl (by decide) (by decide) (fun a hf => ?_)
        refine sv_pk hf rfl rfl (by decide) (fun a hf => ?_)
        refine sv_mv hf rfl (by decide) (fun a hf => ?_)
        refine sv_skip1 hf rfl rfl (by decide) (by decide) (fun a hf => ?_)
        refine sv_skip1 hf rfl rfl (by decide) (by decide) (fun a hf => ?_)
        refine sv_skip1 hf rfl rfl (by decide) (by decide) (fun a hf => ?_)
        refine sv_pk hf rfl rfl (by decide) (fun a hf => ?_)
        refine sv_as hf rfl (by decide) (fun a hf => ?_)
        replace hf := hf.sub (env' := [(4, .bool false)]) (sub_cons rfl (sub_nil))
        refine sv_nil hf ?_
        refine wp_ret ?_
        try simp only [Exit.inBlock, Exit.then]
        exact bodyPost_ret (res_tmp (d := 4) (v := .bool false) rfl (hf.rel 4 _ rfl)) hf.defers ⟨false, rfl, (fun h => (by cases h)), hX.low⟩
end Go.Proofs.Ytfpgklhbghahoaa
/- Election: lists of one message that hold the same. -/
namespace Go.Proofs.Ytfpgklhbghahoaa
open Go.ChangeShapes Go.WideShapes Go.ChangeAt Go.RowKit Go.ChangeMaps Go.Joins Go.Deep
set_option linter.unusedVariables false
set_option linter.unusedSimpArgs false
set_option maxRecDepth 100000
/-- two boxes under way: what has been made, what has been filled -/
structure Two (b8 b9 b10 b11 : Bool) (u v : Value) (ms zs : List Value) (w X : World) : Prop where
  low : Below w.heap.size w X
  fst : b8 = true → ∃ C, u = .pointer (some ⟨C, 0, none⟩) ∧ Box X C (if b10 then ms else zs) ∧ w.heap.size ≤ C
  snd : b9 = true → ∃ D, v = .pointer (some ⟨D, 0, none⟩) ∧ Box X D (if b11 then ms else zs) ∧ w.heap.size ≤ D
  ne : b8 = true → b9 = true → u ≠ v
  i10 : b10 = true → b8 = true
  i11 : b11 = true → b9 = true
theorem Two.keep {b8 b9 b10 b11 : Bool} {u v : Value} {ms zs : List Value} {w X X' : World} (h : Two b8 b9 b10 b11 u v ms zs w X) (hb : Below X.heap.size X X') : Two b8 b9 b10 b11 u v ms zs w X' :=
  ⟨h.low.trans (hb.mono h.low.size), fun h8 => by obtain ⟨C, h1, h2, h3⟩ := h.fst h8; exact ⟨C, h1, h2.keep hb, h3⟩, fun h9 => by obtain ⟨C, h1, h2, h3⟩ := h.snd h9; exact ⟨C, h1, h2.keep hb, h3⟩, h.ne, h.i10, h.i11⟩
theorem Two.a8 {b9 b10 b11 : Bool} {u v : Value} {ms zs : List Value} {w X : World} (h : Two false b9 b10 b11 u v ms zs w X) (T : TypeId) : Two true b9 b10 b11 (.pointer (some ⟨X.heap.size, 0, none⟩)) v ms zs w (X.alloc (.cells zs.toArray T)) := by
  have h2 := h.keep ((Below.refl X.heap.size X).alloc (Nat.le_refl _) (.cells zs.toArray T))
  refine ⟨h2.low, fun _ => ⟨_, rfl, ?_, h.low.size⟩, h2.snd, fun _ h9 e => ?_, fun _ => rfl, h.i11⟩
  · cases b10 with
    | true => exact absurd (h.i10 rfl) (by decide)
    | false => exact Box.new X zs T
  · obtain ⟨D, h3, h4, _⟩ := h.snd h9
    rw [h3] at e
    have : X.heap.size = D := by injection e with e; injection e with e; injection e
    have := h4.lt
    omega
theorem Two.a9 {b8 b10 b11 : Bool} {u v : Value} {ms zs : List Value} {w X : World} (h : Two b8 false b10 b11 u v ms zs w X) (T : TypeId) : Two b8 true b10 b11 u (.pointer (some ⟨X.heap.size, 0, none⟩)) ms zs w (X.alloc (.cells zs.toArray T)) := by
  have h2 := h.keep ((Below.refl X.heap.size X).alloc (Nat.le_refl _) (.cells zs.toArray T))
  refine ⟨h2.low, h2.fst, fun _ => ⟨_, rfl, ?_, h.low.size⟩, fun h8 _ e => ?_, h.i10, fun _ => rfl⟩
  · cases b11 with
    | true => exact absurd (h.i11 rfl) (by decide)
    | false => exact Box.new X zs T
  · obtain ⟨D, h3, h4, _⟩ := h.fst h8
    rw [h3] at e
    have : D = X.heap.size := by injection e with e; injection e with e; injection e
    have := h4.lt
    omega
theorem Two.s10 {b9 b11 : Bool} {u v : Value} {ms zs : List Value} {w X : World} (h : Two true b9 false b11 u v ms zs w X) (hl : ms.length = zs.length) : ∃ C, u = .pointer (some ⟨C, 0, none⟩) ∧ Box X C zs ∧ Two true b9 true b11 u v ms zs w (X.setCells C 0 ms) := by
  obtain ⟨C, h1, h2, h3⟩ := h.fst rfl
  have h2' : Box X C zs := h2
  have ho := Only.setCells X C 0 ms h2'.lt
  refine ⟨C, h1, h2', h.low.trans (ho.below _ h3), fun _ => ⟨C, h1, h2'.store hl, h3⟩, fun h9 => ?_, h.ne, fun _ => rfl, h.i11⟩
  obtain ⟨D, g1, g2, g3⟩ := h.snd h9
  refine ⟨D, g1, g2.other ho (fun e => h.ne rfl h9 (by rw [h1, g1, e])), g3⟩
theorem Two.s11 {b8 b10 : Bool} {u v : Value} {ms zs : List Value} {w X : World} (h : Two b8 true b10 false u v ms zs w X) (hl : ms.length = zs.length) : ∃ C, v = .pointer (some ⟨C, 0, none⟩) ∧ Box X C zs ∧ Two b8 true b10 true u v ms zs w (X.setCells C 0 ms) := by
  obtain ⟨C, h1, h2, h3⟩ := h.snd rfl
  have h2' : Box X C zs := h2
  have ho := Only.setCells X C 0 ms h2'.lt
  refine ⟨C, h1, h2', h.low.trans (ho.below _ h3), fun h8 => ?_, fun _ => ⟨C, h1, h2'.store hl, h3⟩, h.ne, h.i10, fun _ => rfl⟩
  obtain ⟨D, g1, g2, g3⟩ := h.fst h8
  refine ⟨D, g1, g2.other ho (fun e => h.ne h8 rfl (by rw [h1, g1, e])), g3⟩
theorem getD_set_self {ls : Array Bool} {i : Nat} (h : i < ls.size) : (ls.setIfInBounds i true).getD i false = true := by simp [h]
theorem getD_set_other {ls : Array Bool} {i j : Nat} (h : i ≠ j) : (ls.setIfInBounds i true).getD j false = ls.getD j false := getD_set_ne false h
theorem msgs_one (G H : Nat) (qf qt qk qm qi ql qc : Int) (qb : Bool) (w : World) (hG : Box w G [.int .i64 qf, .int .i64 qt, .int .i64 qk, .int .i64 qm, .int .i64 qi, .int .i64 ql, .int .i64 qc, .slice none 0 0, .bool qb]) (hH : Box w H [.int .i64 qf, .int .i64 qt, .int .i64 qk, .int .i64 qm, .int .i64 qi, .int .i64 ql, .int .i64 qc, .slice none 0 0, .bool qb]) :
    Calls Try.prog 21 #[.slice (some ⟨G, 0, none⟩) 1 1, .slice (some ⟨H, 0, none⟩) 1 1] w fun e w' => e = .returned (.bool true) ∧ Below w.heap.size w w' := by
  refine calls_frv (N := 89) (vs := [.slice (some ⟨G, 0, none⟩) 1 1, .slice (some ⟨H, 0, none⟩) 1 1]) [(0, .slice (some ⟨G, 0, none⟩) 1 1), (1, .slice (some ⟨H, 0, none⟩) 1 1)] Try.func21 rfl rfl (of_decide_eq_true rfl) (fun p hp => by simp only [List.mem_cons, List.not_mem_nil, or_false] at hp; rcases hp with rfl | rfl <;> rfl) (fun a hf => ?_)
  have hX := Bx.start w
  refine wp_seq ?_
  refine wp_region_lit ?_
  refine sv_ac hf (by decide) (fun a hf => ?_)
  refine sv_nil hf ?_
  refine wp_seq ?_
  refine wp_seq ?_
  refine wp_region_lit ?_
  refine sv_mv hf rfl (by decide) (fun a hf => ?_)
  refine sv_len hf rfl Try.underlying37 (by decide) (fun a hf => ?_)
  refine sv_mv hf rfl (by decide) (fun a hf => ?_)
  refine sv_len hf rfl Try.underlying37 (by decide) (fun a hf => ?_)
  refine sv_cmp hf rfl rfl false (congrArg some (by rw [decide_eq_true rfl]; rfl)) (by decide) (fun a hf => ?_)
  replace hf := hf.sub (env' := [(12, .bool false), (4, .bool false), (0, .slice (some ⟨G, 0, none⟩) 1 1), (1, .slice (some ⟨H, 0, none⟩) 1 1)]) (sub_cons rfl (sub_cons rfl (sub_cons rfl (sub_cons rfl (sub_nil)))))
  refine sv_nil hf ?_
  refine wp_cond_false (hf.rel _ _ rfl) ?_
  refine wp_skip ?_
  refine wp_seq ?_
  refine wp_seq ?_
  refine wp_region_lit ?_
  refine sv_ac hf (by decide) (fun a hf => ?_)
  replace hf := hf.sub (env' := [(5, .int .i64 0), (4, .bool false), (0, .slice (some ⟨G, 0, none⟩) 1 1), (1, .slice (some ⟨H, 0, none⟩) 1 1)]) (sub_cons rfl (sub_cons rfl (sub_cons rfl (sub_cons rfl (sub_nil)))))
  refine sv_nil hf ?_
  refine wp_block (wp_loop (fun a X => ∃ q : Nat, q ≤ 1 ∧ FrV 89 [(0, .slice (some ⟨G, 0, none⟩) 1 1), (1, .slice (some ⟨H, 0, none⟩) 1 1), (5, .int .i64 q)] a ∧ Bx ⟨w, []⟩ [] X) (fun a _ => 1 - (intOf (a.eval (.tmp 5))).toNat) ⟨0, by decide, hf.sub (sub_cons rfl (sub_cons rfl (sub_cons rfl sub_nil))), hX⟩ ?_)
  rintro a W ⟨q, hq, hf, hX⟩
  have hq5 : a.eval (.tmp 5) = .int .i64 q := hf.rel 5 _ rfl
  rcases (show q = 0 ∨ q = 1 by omega) with rfl | rfl
  ·
    replace hf : FrV 89 [(0, .slice (some ⟨G, 0, none⟩) 1 1), (1, .slice (some ⟨H, 0, none⟩) 1 1), (5, .int .i64 0)] a := hf
    refine wp_seq ?_
    refine wp_seq ?_
    refine wp_region_lit ?_
    refine sv_mv hf rfl (by decide) (fun a hf => ?_)
    refine sv_mv hf rfl (by decide) (fun a hf => ?_)
    refine sv_len hf rfl Try.underlying37 (by decide) (fun a hf => ?_)
    refine sv_cmp hf rfl rfl true (congrArg some (decide_eq_true (by decide))) (by decide) (fun a hf => ?_)
    refine sv_nil hf ?_
    refine wp_cond_true (hf.rel _ _ rfl) (wp_skip ?_)
    refine wp_seq (wp_block ?_)
    refine wp_seq ?_
    replace hf := hf.sub (env' := [(0, .slice (some ⟨G, 0, none⟩) 1 1), (1, .slice (some ⟨H, 0, none⟩) 1 1), (5, .int .i64 0)]) (sub_cons rfl (sub_cons rfl (sub_cons rfl (sub_nil))))
    have hlow := hX.low
    refine wp_region_S (N := 89) (V := fun t => (([(19, .slice (some ⟨G, 0, none⟩) 1 1), (20, .int .i64 0), (21, .pointer (some ⟨G, 0 + 0 * 9, none⟩)), (22, .agg #[.int .i64 qf, .int .i64 qt, .int .i64 qk, .int .i64 qm, .int .i64 qi, .int .i64 ql, .int .i64 qc, .slice none 0 0, .bool qb]), (23, .slice (some ⟨H, 0, none⟩) 1 1), (24, .int .i64 0), (25, .pointer (some ⟨H, 0 + 0 * 9, none⟩)), (26, .agg #[.int .i64 qf, .int .i64 qt, .int .i64 qk, .int .i64 qm, .int .i64 qi, .int .i64 ql, .int .i64 qc, .slice none 0 0, .bool qb])] : VEnv) ++ ([(0, .slice (some ⟨G, 0, none⟩) 1 1), (1, .slice (some ⟨H, 0, none⟩) 1 1), (5, .int .i64 0)] : VEnv)).lookup t) (fun ls a X => Two (ls.getD 8 false) (ls.getD 9 false) (ls.getD 10 false) (ls.getD 11 false) (a.eval (.tmp 6)) (a.eval (.tmp 7)) [.int .i64 qf, .int .i64 qt, .int .i64 qk, .int .i64 qm, .int .i64 qi, .int .i64 ql, .int .i64 qc, .slice none 0 0, .bool qb] [.int .i64 0, .int .i64 0, .int .i64 0, .int .i64 0, .int .i64 0, .int .i64 0, .int .i64 0, .slice none 0 0, .bool false] w X) mixed (by kernel_rfl) ?_ hf.size hf.defers ?_ (dstsB_spec (by kernel_rfl)) ?_ ?_
    · exact ⟨hlow.drew, (fun h => by rw [getD_replicate_false] at h; cases h), (fun h => by rw [getD_replicate_false] at h; cases h), (fun h => by rw [getD_replicate_false] at h; cases h), (fun h => by rw [getD_replicate_false] at h; cases h), (fun h => by rw [getD_replicate_false] at h; cases h)⟩
    · intro t v hv hav
      rcases lookup_append hv with ⟨u, hu⟩ | h
      · exact absurd hav (hasDst_spec ((List.all_eq_true.1 (show (([(19, .slice (some ⟨G, 0, none⟩) 1 1), (20, .int .i64 0), (21, .pointer (some ⟨G, 0 + 0 * 9, none⟩)), (22, .agg #[.int .i64 qf, .int .i64 qt, .int .i64 qk, .int .i64 qm, .int .i64 qi, .int .i64 ql, .int .i64 qc, .slice none 0 0, .bool qb]), (23, .slice (some ⟨H, 0, none⟩) 1 1), (24, .int .i64 0), (25, .pointer (some ⟨H, 0 + 0 * 9, none⟩)), (26, .agg #[.int .i64 qf, .int .i64 qt, .int .i64 qk, .int .i64 qm, .int .i64 qi, .int .i64 ql, .int .i64 qc, .slice none 0 0, .bool qb])] : VEnv).map (·.1)).all (hasDst _) = true by kernel_rfl)) t (List.mem_map.2 ⟨_, hu, rfl⟩)))
      · exact hf.rel t v h
    · intro i o ho ls a X hls hun hpast hN hd hval hS
      refine .inl ⟨?_, fun K hK => ?_⟩
      · match i, ho with
        | 0, ho => obtain rfl := Option.some.inj ho; rfl
        | 1, ho => obtain rfl := Option.some.inj ho; rfl
        | 2, ho => obtain rfl := Option.some.inj ho; rfl
        | 3, ho => obtain rfl := Option.some.inj ho; rfl
        | 4, ho => obtain rfl := Option.some.inj ho; rfl
        | 5, ho => obtain rfl := Option.some.inj ho; rfl
        | 6, ho => obtain rfl := Option.some.inj ho; rfl
        | 7, ho => obtain rfl := Option.some.inj ho; rfl
        | 8, ho => obtain rfl := Option.some.inj ho; rfl
        | 9, ho => obtain rfl := Option.some.inj ho; rfl
        | 10, ho => obtain rfl := Option.some.inj ho; rfl
        | 11, ho => obtain rfl := Option.some.inj ho; rfl
        | j + 12, ho => simp at ho
      · have hv : ∀ t v, (([(19, .slice (some ⟨G, 0, none⟩) 1 1), (20, .int .i64 0), (21, .pointer (some ⟨G, 0 + 0 * 9, none⟩)), (22, .agg #[.int .i64 qf, .int .i64 qt, .int .i64 qk, .int .i64 qm, .int .i64 qi, .int .i64 ql, .int .i64 qc, .slice none 0 0, .bool qb]), (23, .slice (some ⟨H, 0, none⟩) 1 1), (24, .int .i64 0), (25, .pointer (some ⟨H, 0 + 0 * 9, none⟩)), (26, .agg #[.int .i64 qf, .int .i64 qt, .int .i64 qk, .int .i64 qm, .int .i64 qi, .int .i64 ql, .int .i64 qc, .slice none 0 0, .bool qb])] : VEnv) ++ ([(0, .slice (some ⟨G, 0, none⟩) 1 1), (1, .slice (some ⟨H, 0, none⟩) 1 1), (5, .int .i64 0)] : VEnv)).lookup t = some v → availB _ i t = true → a.eval (.tmp t) = v := fun t v h1 h2 => hval t v h1 (availB_spec h2)
        have hil : i < ls.size := by rw [hls]; exact (Array.getElem?_eq_some_iff.1 ho).1
        match i, ho with
        | 0, ho =>
          obtain rfl := Option.some.inj ho
          have hf : FrV 89 [(0, .slice (some ⟨G, 0, none⟩) 1 1)] a := frv_of hN hd (all_cons (hv 0 _ rfl (by kernel_rfl)) (all_nil))
          refine wp_ok (v := .slice (some ⟨G, 0, none⟩) 1 1) (ex_vmv hf rfl rfl) (hK _ _ (fun d u hd hu => ?_) ?_)
          · obtain rfl := Option.some.inj hd; exact Option.some.inj hu
          · rw [getD_set_other (by decide), getD_set_other (by decide), getD_set_other (by decide), getD_set_other (by decide)]
            show Two _ _ _ _ ((a.put (some 19) _).eval (.tmp 6)) ((a.put (some 19) _).eval (.tmp 7)) _ _ _ _
            rw [eval_put_ne (by decide), eval_put_ne (by decide)]; exact hS
        | 1, ho =>
          obtain rfl := Option.some.inj ho
          have hf : FrV 89 [(5, .int .i64 0)] a := frv_of hN hd (all_cons (hv 5 _ rfl (by kernel_rfl)) (all_nil))
          refine wp_ok (v := .int .i64 0) (ex_vmv hf rfl rfl) (hK _ _ (fun d u hd hu => ?_) ?_)
          · obtain rfl := Option.some.inj hd; exact Option.some.inj hu
          · rw [getD_set_other (by decide), getD_set_other (by decide), getD_set_other (by decide), getD_set_other (by decide)]
            show Two _ _ _ _ ((a.put (some 20) _).eval (.tmp 6)) ((a.put (some 20) _).eval (.tmp 7)) _ _ _ _
            rw [eval_put_ne (by decide), eval_put_ne (by decide)]; exact hS
        | 2, ho =>
          obtain rfl := Option.some.inj ho
          have hf : FrV 89 [(19, .slice (some ⟨G, 0, none⟩) 1 1), (20, .int .i64 0)] a := frv_of hN hd (all_cons (hv 19 _ rfl (by kernel_rfl)) (all_cons (hv 20 _ rfl (by kernel_rfl)) (all_nil)))
          refine wp_ok (v := .pointer (some ⟨G, 0 + 0 * 9, none⟩)) (ex_idx (q := 0) hf rfl rfl rfl (by decide) Try.underlying37 einfo_msgs) (hK _ _ (fun d u hd hu => ?_) ?_)
          · obtain rfl := Option.some.inj hd; exact Option.some.inj hu
          · rw [getD_set_other (by decide), getD_set_other (by decide), getD_set_other (by decide), getD_set_other (by decide)]
            show Two _ _ _ _ ((a.put (some 21) _).eval (.tmp 6)) ((a.put (some 21) _).eval (.tmp 7)) _ _ _ _
            rw [eval_put_ne (by decide), eval_put_ne (by decide)]; exact hS
        | 3, ho =>
          obtain rfl := Option.some.inj ho
          have hf : FrV 89 [(21, .pointer (some ⟨G, 0 + 0 * 9, none⟩))] a := frv_of hN hd (all_cons (hv 21 _ rfl (by kernel_rfl)) (all_nil))
          refine wp_ok (v := .agg #[.int .i64 qf, .int .i64 qt, .int .i64 qk, .int .i64 qm, .int .i64 qi, .int .i64 ql, .int .i64 qc, .slice none 0 0, .bool qb]) (ex_load_row _ _ G (0 + 0 * 9) [.int .i64 qf, .int .i64 qt, .int .i64 qk, .int .i64 qm, .int .i64 qi, .int .i64 ql, .int .i64 qc, .slice none 0 0, .bool qb] (.struct _) rfl (hf.ev rfl) (by have := (hG.far hS.low hG.lt).rng; exact this) Try.underlying35 rfl info_msg) (hK _ _ (fun d u hd hu => ?_) ?_)
          · obtain rfl := Option.some.inj hd; exact Option.some.inj hu
          · rw [getD_set_other (by decide), getD_set_other (by decide), getD_set_other (by decide), getD_set_other (by decide)]
            show Two _ _ _ _ ((a.put (some 22) _).eval (.tmp 6)) ((a.put (some 22) _).eval (.tmp 7)) _ _ _ _
            rw [eval_put_ne (by decide), eval_put_ne (by decide)]; exact hS
        | 4, ho =>
          obtain rfl := Option.some.inj ho
          have hf : FrV 89 [(1, .slice (some ⟨H, 0, none⟩) 1 1)] a := frv_of hN hd (all_cons (hv 1 _ rfl (by kernel_rfl)) (all_nil))
          refine wp_ok (v := .slice (some ⟨H, 0, none⟩) 1 1) (ex_vmv hf rfl rfl) (hK _ _ (fun d u hd hu => ?_) ?_)
          · obtain rfl := Option.some.inj hd; exact Option.some.inj hu
          · rw [getD_set_other (by decide), getD_set_other (by decide), getD_set_other (by decide), getD_set_other (by decide)]
            show Two _ _ _ _ ((a.put (some 23) _).eval (.tmp 6)) ((a.put (some 23) _).eval (.tmp 7)) _ _ _ _
            rw [eval_put_ne (by decide), eval_put_ne (by decide)]; exact hS
        | 5, ho =>
          obtain rfl := Option.some.inj ho
          have hf : FrV 89 [(5, .int .i64 0)] a := frv_of hN hd (all_cons (hv 5 _ rfl (by kernel_rfl)) (all_nil))
          refine wp_ok (v := .int .i64 0) (ex_vmv hf rfl rfl) (hK _ _ (fun d u hd hu => ?_) ?_)
          · obtain rfl := Option.some.inj hd; exact Option.some.inj hu
          · rw [getD_set_other (by decide), getD_set_other (by decide), getD_set_other (by decide), getD_set_other (by decide)]
            show Two _ _ _ _ ((a.put (some 24) _).eval (.tmp 6)) ((a.put (some 24) _).eval (.tmp 7)) _ _ _ _
            rw [eval_put_ne (by decide), eval_put_ne (by decide)]; exact hS
        | 6, ho =>
          obtain rfl := Option.some.inj ho
          have hf : FrV 89 [(23, .slice (some ⟨H, 0, none⟩) 1 1), (24, .int .i64 0)] a := frv_of hN hd (all_cons (hv 23 _ rfl (by kernel_rfl)) (all_cons (hv 24 _ rfl (by kernel_rfl)) (all_nil)))
          refine wp_ok (v := .pointer (some ⟨H, 0 + 0 * 9, none⟩)) (ex_idx (q := 0) hf rfl rfl rfl (by decide) Try.underlying37 einfo_msgs) (hK _ _ (fun d u hd hu => ?_) ?_)
          · obtain rfl := Option.some.inj hd; exact Option.some.inj hu
          · rw [getD_set_other (by decide), getD_set_other (by decide), getD_set_other (by decide), getD_set_other (by decide)]
            show Two _ _ _ _ ((a.put (some 25) _).eval (.tmp 6)) ((a.put (some 25) _).eval (.tmp 7)) _ _ _ _
            rw [eval_put_ne (by decide), eval_put_ne (by decide)]; exact hS
        | 7, ho =>
          obtain rfl := Option.some.inj ho
          have hf : FrV 89 [(25, .pointer (some ⟨H, 0 + 0 * 9, none⟩))] a := frv_of hN hd (all_cons (hv 25 _ rfl (by kernel_rfl)) (all_nil))
          refine wp_ok (v := .agg #[.int .i64 qf, .int .i64 qt, .int .i64 qk, .int .i64 qm, .int .i64 qi, .int .i64 ql, .int .i64 qc, .slice none 0 0, .bool qb]) (ex_load_row _ _ H (0 + 0 * 9) [.int .i64 qf, .int .i64 qt, .int .i64 qk, .int .i64 qm, .int .i64 qi, .int .i64 ql, .int .i64 qc, .slice none 0 0, .bool qb] (.struct _) rfl (hf.ev rfl) (by have := (hH.far hS.low hH.lt).rng; exact this) Try.underlying35 rfl info_msg) (hK _ _ (fun d u hd hu => ?_) ?_)
          · obtain rfl := Option.some.inj hd; exact Option.some.inj hu
          · rw [getD_set_other (by decide), getD_set_other (by decide), getD_set_other (by decide), getD_set_other (by decide)]
            show Two _ _ _ _ ((a.put (some 26) _).eval (.tmp 6)) ((a.put (some 26) _).eval (.tmp 7)) _ _ _ _
            rw [eval_put_ne (by decide), eval_put_ne (by decide)]; exact hS
        | 8, ho =>
          obtain rfl := Option.some.inj ho
          obtain ⟨inf, hinf, hz⟩ := Option.bind_eq_some_iff.1 zero_msg
          unfold Oper.wp
          rw [ex_alloc (w := X) (P := Try.prog) (ρ := a.eval) 35 inf [.int .i64 0, .int .i64 0, .int .i64 0, .int .i64 0, .int .i64 0, .int .i64 0, .int .i64 0, .slice none 0 0, .bool false] rfl hinf hz, Oper.upon_value]
          refine hK _ _ (fun d u hd hu => ?_) ?_
          · obtain rfl := Option.some.inj hd; cases hu
          · rw [getD_set_self hil, getD_set_other (by decide), getD_set_other (by decide), getD_set_other (by decide)]
            rw [hun] at hS
            have h2 := hS.a8 35
            show Two _ _ _ _ ((a.put (some 6) _).eval (.tmp 6)) ((a.put (some 6) _).eval (.tmp 7)) _ _ _ _
            rw [eval_put_same (by rw [hN]; decide), eval_put_ne (by decide)]; exact h2
        | 9, ho =>
          obtain rfl := Option.some.inj ho
          obtain ⟨inf, hinf, hz⟩ := Option.bind_eq_some_iff.1 zero_msg
          unfold Oper.wp
          rw [ex_alloc (w := X) (P := Try.prog) (ρ := a.eval) 35 inf [.int .i64 0, .int .i64 0, .int .i64 0, .int .i64 0, .int .i64 0, .int .i64 0, .int .i64 0, .slice none 0 0, .bool false] rfl hinf hz, Oper.upon_value]
          refine hK _ _ (fun d u hd hu => ?_) ?_
          · obtain rfl := Option.some.inj hd; cases hu
          · rw [getD_set_self hil, getD_set_other (by decide), getD_set_other (by decide), getD_set_other (by decide)]
            rw [hun] at hS
            have h2 := hS.a9 35
            show Two _ _ _ _ ((a.put (some 7) _).eval (.tmp 6)) ((a.put (some 7) _).eval (.tmp 7)) _ _ _ _
            rw [eval_put_ne (by decide), eval_put_same (by rw [hN]; decide)]; exact h2
        | 10, ho =>
          obtain rfl := Option.some.inj ho
          rw [hun, hpast 8 (by kernel_rfl)] at hS
          obtain ⟨C, hu6, hbC, h2⟩ := hS.s10 rfl
          unfold Oper.wp
          rw [ex_store_row (w := X) (P := Try.prog) (ρ := a.eval) 35 (.tmp 6) (.tmp 22) C 0 [.int .i64 qf, .int .i64 qt, .int .i64 qk, .int .i64 qm, .int .i64 qi, .int .i64 ql, .int .i64 qc, .slice none 0 0, .bool qb] rfl hu6 (hv 22 _ rfl (by kernel_rfl)) (hbC.there 0 9 (by decide)) info_msg (fun v hv => List.all_eq_true.1 (show List.all [.int .i64 qf, .int .i64 qt, .int .i64 qk, .int .i64 qm, .int .i64 qi, .int .i64 ql, .int .i64 qc, .slice none 0 0, .bool qb] (·.oneCell') = true from rfl) v hv), Oper.upon_skip]
          refine hK _ _ (fun d u hd hu => by cases hd) ?_
          rw [getD_set_self hil, getD_set_other (by decide), getD_set_other (by decide), getD_set_other (by decide), hpast 8 (by kernel_rfl)]
          exact h2
        | 11, ho =>
          obtain rfl := Option.some.inj ho
          rw [hun, hpast 9 (by kernel_rfl)] at hS
          obtain ⟨C, hu6, hbC, h2⟩ := hS.s11 rfl
          unfold Oper.wp
          rw [ex_store_row (w := X) (P := Try.prog) (ρ := a.eval) 35 (.tmp 7) (.tmp 26) C 0 [.int .i64 qf, .int .i64 qt, .int .i64 qk, .int .i64 qm, .int .i64 qi, .int .i64 ql, .int .i64 qc, .slice none 0 0, .bool qb] rfl hu6 (hv 26 _ rfl (by kernel_rfl)) (hbC.there 0 9 (by decide)) info_msg (fun v hv => List.all_eq_true.1 (show List.all [.int .i64 qf, .int .i64 qt, .int .i64 qk, .int .i64 qm, .int .i64 qi, .int .i64 ql, .int .i64 qc, .slice none 0 0, .bool qb] (·.oneCell') = true from rfl) v hv), Oper.upon_skip]
          refine hK _ _ (fun d u hd hu => by cases hd) ?_
          rw [getD_set_self hil, getD_set_other (by decide), getD_set_other (by decide), getD_set_other (by decide), hpast 9 (by kernel_rfl)]
          exact h2
        | j + 12, ho => simp at ho
    · intro ls a W hall hS hN hd hv
      rw [hall 8 (by decide), hall 9 (by decide), hall 10 (by decide), hall 11 (by decide)] at hS
      obtain ⟨C6, h61, h62, h63⟩ := hS.fst rfl
      obtain ⟨C7, h71, h72, h73⟩ := hS.snd rfl
      have hne : C7 ≠ C6 := fun e => hS.ne rfl rfl (by rw [h61, h71, e])
      have hX0 : Bx ⟨w, []⟩ [] W := ⟨fun x h => (by cases h), hS.low, fun x h => (by cases h), fun i j x y h => (by simp at h), fun p h => (by cases h), fun p h => (by cases h)⟩
      have hX : Bx ⟨w, []⟩ [(C6, [.int .i64 qf, .int .i64 qt, .int .i64 qk, .int .i64 qm, .int .i64 qi, .int .i64 ql, .int .i64 qc, .slice none 0 0, .bool qb]), (C7, [.int .i64 qf, .int .i64 qt, .int .i64 qk, .int .i64 qm, .int .i64 qi, .int .i64 ql, .int .i64 qc, .slice none 0 0, .bool qb])] W := (hX0.add h72 h73 (fun x h => by cases h) (fun p h => by cases h)).add h62 h63 (fun x h => by rw [List.mem_singleton.1 h]; exact hne) (fun p h => by cases h)
      have hf : FrV 89 [(7, .pointer (some ⟨C7, 0, none⟩)), (6, .pointer (some ⟨C6, 0, none⟩)), (0, .slice (some ⟨G, 0, none⟩) 1 1), (1, .slice (some ⟨H, 0, none⟩) 1 1), (5, .int .i64 0)] a := frv_of hN hd (all_cons (h71) (all_cons (h61) (all_cons (hv 0 _ rfl) (all_cons (hv 1 _ rfl) (all_cons (hv 5 _ rfl) (all_nil))))))
      refine wp_seq ?_
      refine wp_region_lit ?_
      refine sv_fld hf rfl Try.underlying35 rfl sz_int (0) rfl (by decide) (fun a hf => ?_)
      refine sv_lc hf hX rfl 0 rfl rfl Try.underlying3 rfl (by decide) (fun a hf => ?_)
      refine sv_fld hf rfl Try.underlying35 rfl sz_int (0) rfl (by decide) (fun a hf => ?_)
      refine sv_lc hf hX rfl 1 rfl rfl Try.underlying3 rfl (by decide) (fun a hf => ?_)
      refine sv_cmp hf rfl rfl false (congrArg some (by rw [decide_eq_true rfl]; rfl)) (by decide) (fun a hf => ?_)
      refine sv_mv hf rfl (by decide) (fun a hf => ?_)
      refine sv_want hf rfl rfl ?_
      refine sv_fld hf rfl Try.underlying35 rfl sz_int (1) rfl (by decide) (fun a hf => ?_)
      refine sv_want hf rfl rfl ?_
      refine sv_lc hf hX rfl 0 rfl rfl Try.underlying3 rfl (by decide) (fun a hf => ?_)
      refine sv_want hf rfl rfl ?_
      refine sv_fld hf rfl Try.underlying35 rfl sz_int (1) rfl (by decide) (fun a hf => ?_)
      refine sv_want hf rfl rfl ?_
      refine sv_lc hf hX rfl 1 rfl rfl Try.underlying3 rfl (by decide) (fun a hf => ?_)
      refine sv_want hf rfl rfl ?_
      refine sv_cmp hf rfl rfl false (congrArg some (by rw [decide_eq_true rfl]; rfl)) (by decide) (fun a hf => ?_)
      refine sv_pk hf rfl rfl (by decide) (fun a hf => ?_)
      refine sv_mv hf rfl (by decide) (fun a hf => ?_)
      refine sv_want hf rfl rfl ?_
      refine sv_fld hf rfl Try.underlying35 rfl sz_int (2) rfl (by decide) (fun a hf => ?_)
      refine sv_want hf rfl rfl ?_
      refine sv_lc hf hX rfl 0 rfl rfl Try.underlying3 rfl (by decide) (fun a hf => ?_)
      refine sv_want hf rfl rfl ?_
      refine sv_fld hf rfl Try.underlying35 rfl sz_int (2) rfl (by decide) (fun a hf => ?_)
      refine sv_want hf rfl rfl ?_
      refine sv_lc hf hX rfl 1 rfl rfl Try.underlying3 rfl (by decide) (fun a hf => ?_)
      refine sv_want hf rfl rfl ?_
      refine sv_cmp hf rfl rfl false (congrArg some (by rw [decide_eq_true rfl]; rfl)) (by decide) (fun a hf => ?_)
      refine sv_pk hf rfl rfl (by decide) (fun a hf => ?_)
      refine sv_mv hf rfl (by decide) (fun a hf => ?_)
      refine sv_want hf rfl rfl ?_
      refine sv_fld hf rfl Try.underlying35 rfl sz_int (3) rfl (by decide) (fun a hf => ?_)
      refine sv_want hf rfl rfl ?_
      refine sv_lc hf hX rfl 0 rfl rfl Try.underlying3 rfl (by decide) (fun a hf => ?_)
      refine sv_want hf rfl rfl ?_
      refine sv_fld hf rfl Try.underlying35 rfl sz_int (3) rfl (by decide) (fun a hf => ?_)
      refine sv_want hf rfl rfl ?_
      refine sv_lc hf hX rfl 1 rfl rfl Try.underlying3 rfl (by decide) (fun a hf => ?_)
      refine sv_want hf rfl rfl ?_
      refine sv_cmp hf rfl rfl false (congrArg some (by rw [decide_eq_true rfl]; rfl)) (by decide) (fun a hf => ?_)
      refine sv_pk hf rfl rfl (by decide) (fun a hf => ?_)
      refine sv_mv hf rfl (by decide) (fun a hf => ?_)
      refine sv_want hf rfl rfl ?_
      refine sv_fld hf rfl Try.underlying35 rfl sz_int (4) rfl (by decide) (fun a hf => ?_)
      refine sv_want hf rfl rfl ?_
      refine sv_lc hf hX rfl 0 rfl rfl Try.underlying3 rfl (by decide) (fun a hf => ?_)
      refine sv_want hf rfl rfl ?_
      refine sv_fld hf rfl Try.underlying35 rfl sz_int (4) rfl (by decide) (fun a hf => ?_)
      refine sv_want hf rfl rfl ?_
      refine sv_lc hf hX rfl 1 rfl rfl Try.underlying3 rfl (by decide) (fun a hf => ?_)
      refine sv_want hf rfl rfl ?_
      refine sv_cmp hf rfl rfl false (congrArg some (by rw [decide_eq_true rfl]; rfl)) (by decide) (fun a hf => ?_)
      refine sv_pk hf rfl rfl (by decide) (fun a hf => ?_)
      refine sv_mv hf rfl (by decide) (fun a hf => ?_)
      refine sv_want hf rfl rfl ?_
      refine sv_fld hf rfl Try.underlying35 rfl sz_int (5) rfl (by decide) (fun a hf => ?_)
      refine sv_want hf rfl rfl ?_
      refine sv_lc hf hX rfl 0 rfl rfl Try.underlying3 rfl (by decide) (fun a hf => ?_)
      refine sv_want hf rfl rfl ?_
      refine sv_fld hf rfl Try.underlying35 rfl sz_int (5) rfl (by decide) (fun a hf => ?_)
      refine sv_want hf rfl rfl ?_
      refine sv_lc hf hX rfl 1 rfl rfl Try.underlying3 rfl (by decide) (fun a hf => ?_)
      refine sv_want hf rfl rfl ?_
      refine sv_cmp hf rfl rfl false (congrArg some (by rw [decide_eq_true rfl]; rfl)) (by decide) (fun a hf => ?_)
      refine sv_pk hf rfl rfl (by decide) (fun a hf => ?_)
      refine sv_mv hf rfl (by decide) (fun a hf => ?_)
      refine sv_want hf rfl rfl ?_
      refine sv_fld hf rfl Try.underlying35 rfl sz_int (6) rfl (by decide) (fun a hf => ?_)
      refine sv_want hf rfl rfl ?_
      refine sv_lc hf hX rfl 0 rfl rfl Try.underlying3 rfl (by decide) (fun a hf => ?_)
      refine sv_want hf rfl rfl ?_
      refine sv_fld hf rfl Try.underlying35 rfl sz_int (6) rfl (by decide) (fun a hf => ?_)
      refine sv_want hf rfl rfl ?_
      refine sv_lc hf hX rfl 1 rfl rfl Try.underlying3 rfl (by decide) (fun a hf => ?_)
      refine sv_want hf rfl rfl ?_
      refine sv_cmp hf rfl rfl false (congrArg some (by rw [decide_eq_true rfl]; rfl)) (by decide) (fun a hf => ?_)
      refine sv_pk hf rfl rfl (by decide) (fun a hf => ?_)
      refine sv_mv hf rfl (by decide) (fun a hf => ?_)
      refine sv_want hf rfl rfl ?_
      refine sv_fld hf rfl Try.underlying35 rfl sz_bool (8) rfl (by decide) (fun a hf => ?_)
      refine sv_want hf rfl rfl ?_
      refine sv_lc hf hX rfl 0 rfl rfl Try.underlying4 rfl (by decide) (fun a hf => ?_)
      refine sv_want hf rfl rfl ?_
      refine sv_fld hf rfl Try.underlying35 rfl sz_bool (8) rfl (by decide) (fun a hf => ?_)
      refine sv_want hf rfl rfl ?_
      refine sv_lc hf hX rfl 1 rfl rfl Try.underlying4 rfl (by decide) (fun a hf => ?_)
      refine sv_want hf rfl rfl ?_
      refine sv_run (v := .bool false) hf (by decide) (fun a hf => ex_cmpb (m := qb) hf rfl Try.underlying4 rfl rfl (Or.inr ⟨rfl, rfl⟩)) (fun a hf => ?_)
      refine sv_pk hf rfl rfl (by decide) (fun a hf => ?_)
      refine sv_mv hf rfl (by decide) (fun a hf => ?_)
      refine sv_want hf rfl rfl ?_
      refine sv_fld hf rfl Try.underlying35 rfl sz_ents (7) rfl (by decide) (fun a hf => ?_)
      refine sv_want hf rfl rfl ?_
      refine sv_lc hf hX rfl 0 rfl rfl Try.underlying22 rfl (by decide) (fun a hf => ?_)
      refine sv_want hf rfl rfl ?_
      refine sv_fld hf rfl Try.underlying35 rfl sz_ents (7) rfl (by decide) (fun a hf => ?_)
      refine sv_want hf rfl rfl ?_
      refine sv_lc hf hX rfl 1 rfl rfl Try.underlying22 rfl (by decide) (fun a hf => ?_)
      refine sv_want hf rfl rfl ?_
      refine sv_call hf fnOK_25 rfl (sameLog_nil _) (by decide) ?_
      rintro e W' ⟨rfl, hw⟩
      subst hw
      refine ⟨_, rfl, fun a hf => ?_⟩
      refine sv_want hf rfl rfl ?_
      refine sv_not hf rfl (by decide) (fun a hf => ?_)
      refine sv_pk hf rfl rfl (by decide) (fun a hf => ?_)
      refine sv_nil hf ?_
      refine wp_cond_false (hf.rel _ _ rfl) ?_
      refine wp_skip ?_
      refine wp_region_lit ?_
      refine sv_mv hf rfl (by decide) (fun a hf => ?_)
      refine sv_add 1 hf rfl rfl (by rw [wrap_in (by decide)]; rfl) (by decide) (fun a hf => ?_)
      refine sv_as hf rfl (by decide) (fun a hf => ?_)
      refine sv_nil hf ?_
      have hX2 : Bx ⟨w, []⟩ [] _ := hX.sub.sub
      refine ⟨⟨1, by decide, hf.sub (sub_cons rfl (sub_cons rfl (sub_cons rfl sub_nil))), hX2⟩, ?_⟩
      have h5 : a.eval (.tmp 5) = .int .i64 1 := hf.rel 5 _ rfl
      rw [h5, hq5]; decide
  ·
    replace hf : FrV 89 [(0, .slice (some ⟨G, 0, none⟩) 1 1), (1, .slice (some ⟨H, 0, none⟩) 1 1), (5, .int .i64 1)] a := hf
    refine wp_seq ?_
    refine wp_seq ?_
    refine wp_region_lit ?_
    refine sv_mv hf rfl (by decide) (fun a hf => ?_)
    refine sv_mv hf rfl (by decide) (fun a hf => ?_)
    refine sv_len hf rfl Try.underlying37 (by decide) (fun a hf => ?_)
    refine sv_cmp hf rfl rfl false (congrArg some (decide_eq_false (by decide))) (by decide) (fun a hf => ?_)
    refine sv_nil hf ?_
    refine wp_cond_false (hf.rel _ _ rfl) (wp_exit ?_)
    simp only [Exit.inBlock, Exit.then, ↓reduceIte]
    refine wp_seq ?_
    refine wp_region_lit ?_
    refine sv_ac hf (by decide) (fun a hf => ?_)
    replace hf := hf.sub (env' := [(4, .bool true)]) (sub_cons rfl (sub_nil))
    refine sv_nil hf ?_
    refine wp_ret ?_
    try simp only [Exit.inBlock, Exit.then]
    exact bodyPost_ret (res_tmp (d := 4) (v := .bool true) rfl (hf.rel 4 _ rfl)) hf.defers ⟨rfl, hX.low⟩
end Go.Proofs.Ytfpgklhbghahoaa
