/- Merged texts: Eh9, Eh10, Eh11, Sv3. -/
import Derived.Test.YtfpgklhbghahoaaVo9
/- Election: walks with known temporaries: preparations; small functions. -/
namespace Go.Proofs.Ytfpgklhbghahoaa
open Go.ChangeShapes Go.WideShapes Go.ChangeAt Go.RowKit Go.ChangeMaps Go.Joins Go.Deep
set_option linter.unusedVariables false
set_option linter.unusedSimpArgs false
set_option maxRecDepth 100000
theorem info_int : (Try.prog.info? 3).map (·.size) = some 1 := by kernel_rfl
theorem sz_int : ((Try.prog.info? 3).map (·.size)).getD 0 ≠ 0 := by rw [info_int]; decide
theorem info_bool : (Try.prog.info? 4).map (·.size) = some 1 := by kernel_rfl
theorem sz_bool : ((Try.prog.info? 4).map (·.size)).getD 0 ≠ 0 := by rw [info_bool]; decide
theorem info_str : (Try.prog.info? 9).map (·.size) = some 1 := by kernel_rfl
theorem sz_str : ((Try.prog.info? 9).map (·.size)).getD 0 ≠ 0 := by rw [info_str]; decide
theorem info_ents : (Try.prog.info? 22).map (·.size) = some 1 := by kernel_rfl
theorem sz_ents : ((Try.prog.info? 22).map (·.size)).getD 0 ≠ 0 := by rw [info_ents]; decide
theorem info_ints : (Try.prog.info? 23).map (·.size) = some 1 := by kernel_rfl
theorem sz_ints : ((Try.prog.info? 23).map (·.size)).getD 0 ≠ 0 := by rw [info_ints]; decide
theorem info_mem : (Try.prog.info? 25).map (·.size) = some 12 := by kernel_rfl
theorem sz_mem : ((Try.prog.info? 25).map (·.size)).getD 0 ≠ 0 := by rw [info_mem]; decide
theorem info_msg : (Try.prog.info? 35).map (·.size) = some 9 := by kernel_rfl
theorem sz_msg : ((Try.prog.info? 35).map (·.size)).getD 0 ≠ 0 := by rw [info_msg]; decide
theorem info_msgs : (Try.prog.info? 37).map (·.size) = some 1 := by kernel_rfl
theorem sz_msgs : ((Try.prog.info? 37).map (·.size)).getD 0 ≠ 0 := by rw [info_msgs]; decide
theorem info_ent : (Try.prog.info? 73).map (·.size) = some 82 := by kernel_rfl
theorem sz_ent : ((Try.prog.info? 73).map (·.size)).getD 0 ≠ 0 := by rw [info_ent]; decide
theorem einfo_ents : (Try.prog.info? 73).map (·.size) = some 82 := info_ent
theorem einfo_ints : (Try.prog.info? 3).map (·.size) = some 1 := info_int
theorem einfo_msgs : (Try.prog.info? 35).map (·.size) = some 9 := info_msg
theorem zero_mem : (Try.prog.info? 25).bind (·.zero) = some (.agg (List.toArray [.int .i64 0, .int .i64 0, .int .i64 0, .int .i64 0, .int .i64 0, .int .i64 0, .int .i64 0, .int .i64 0, .slice none 0 0, .int .i64 0, .slice none 0 0, .slice none 0 0])) := by kernel_rfl
theorem zero_msg : (Try.prog.info? 35).bind (·.zero) = some (.agg (List.toArray [.int .i64 0, .int .i64 0, .int .i64 0, .int .i64 0, .int .i64 0, .int .i64 0, .int .i64 0, .slice none 0 0, .bool false])) := by kernel_rfl
theorem fnOK_27 : FnOK Try.prog 27 := ⟨_, Try.func27, rfl, rfl⟩
theorem fnOK_28 : FnOK Try.prog 28 := ⟨_, Try.func28, rfl, rfl⟩
theorem fnOK_36 : FnOK Try.prog 36 := ⟨_, Try.func36, rfl, rfl⟩
theorem fnOK_37 : FnOK Try.prog 37 := ⟨_, Try.func37, rfl, rfl⟩
theorem fnOK_38 : FnOK Try.prog 38 := ⟨_, Try.func38, rfl, rfl⟩
theorem fnOK_39 : FnOK Try.prog 39 := ⟨_, Try.func39, rfl, rfl⟩
theorem fnOK_40 : FnOK Try.prog 40 := ⟨_, Try.func40, rfl, rfl⟩
theorem fnOK_41 : FnOK Try.prog 41 := ⟨_, Try.func41, rfl, rfl⟩
theorem fnOK_19 : FnOK Try.prog 19 := ⟨_, Try.func19, rfl, rfl⟩
theorem fnOK_20 : FnOK Try.prog 20 := ⟨_, Try.func20, rfl, rfl⟩
theorem fnOK_22 : FnOK Try.prog 22 := ⟨_, Try.func22, rfl, rfl⟩
theorem fnOK_23 : FnOK Try.prog 23 := ⟨_, Try.func23, rfl, rfl⟩
theorem fnOK_43 : FnOK Try.prog 43 := ⟨_, Try.func43, rfl, rfl⟩
theorem fnOK_44 : FnOK Try.prog 44 := ⟨_, Try.func44, rfl, rfl⟩
theorem fnOK_15 : FnOK Try.prog 15 := ⟨_, Try.func15, rfl, rfl⟩
theorem fnOK_17 : FnOK Try.prog 17 := ⟨_, Try.func17, rfl, rfl⟩
theorem fnOK_18 : FnOK Try.prog 18 := ⟨_, Try.func18, rfl, rfl⟩
theorem fnOK_14 : FnOK Try.prog 14 := ⟨_, Try.func14, rfl, rfl⟩
theorem fnOK_11 : FnOK Try.prog 11 := ⟨_, Try.func11, rfl, rfl⟩
theorem fnOK_21 : FnOK Try.prog 21 := ⟨_, Try.func21, rfl, rfl⟩
theorem fnOK_5 : FnOK Try.prog 5 := ⟨_, Try.func5, rfl, rfl⟩
theorem fnOK_6 : FnOK Try.prog 6 := ⟨_, Try.func6, rfl, rfl⟩
theorem fnOK_8 : FnOK Try.prog 8 := ⟨_, Try.func8, rfl, rfl⟩
theorem fnOK_24 : FnOK Try.prog 24 := ⟨_, Try.func24, rfl, rfl⟩
theorem fnOK_26 : FnOK Try.prog 26 := ⟨_, Try.func26, rfl, rfl⟩
theorem fnOK_25 : FnOK Try.prog 25 := ⟨_, Try.func25, rfl, rfl⟩
theorem fnOK_16 : FnOK Try.prog 16 := ⟨_, Try.func16, rfl, rfl⟩
theorem fnOK_9 : FnOK Try.prog 9 := ⟨_, Try.func9, rfl, rfl⟩
theorem fnOK_12 : FnOK Try.prog 12 := ⟨_, Try.func12, rfl, rfl⟩
theorem fnOK_13 : FnOK Try.prog 13 := ⟨_, Try.func13, rfl, rfl⟩
theorem fnOK_34 : FnOK Try.prog 34 := ⟨_, Try.func34, rfl, rfl⟩
theorem fnOK_42 : FnOK Try.prog 42 := ⟨_, Try.func42, rfl, rfl⟩
theorem res_cell {fn : Func} {T : TypeId} {c C : Nat} {cs : List Value} {a : Act} {w : World} {fs : Array Field} (hr : fn.results = #[.cell c T]) (ha : a.eval (.tmp c) = .pointer (some ⟨C, 0, none⟩)) (hc : Box w C cs) (hu : Try.prog.underlying T = some (.struct fs)) (hi : (Try.prog.info? T).map (·.size) = some cs.length) : (results fn a.tmps).run Try.prog w = .ok (.agg cs.toArray) w := by
  have hl := run_loadVar_mid (P := Try.prog) w C 0 T cs (.struct fs) hc.rng hu rfl hi
  have h3 : a.tmps[c]?.getD undef = .pointer (some ⟨C, 0, none⟩) := by simpa [Act.eval] using ha
  simp [results, hr, asAddr, h3, hl]
theorem res_cell_tmp {fn : Func} {T : TypeId} {c d C : Nat} {cs : List Value} {v : Value} {a : Act} {w : World} {fs : Array Field} (hr : fn.results = #[.cell c T, .tmp d]) (ha : a.eval (.tmp c) = .pointer (some ⟨C, 0, none⟩)) (hd : a.eval (.tmp d) = v) (hc : Box w C cs) (hu : Try.prog.underlying T = some (.struct fs)) (hi : (Try.prog.info? T).map (·.size) = some cs.length) : (results fn a.tmps).run Try.prog w = .ok (.tuple #[.agg cs.toArray, v]) w := by
  have hl := run_loadVar_mid (P := Try.prog) w C 0 T cs (.struct fs) hc.rng hu rfl hi
  have h3 : a.tmps[c]?.getD undef = .pointer (some ⟨C, 0, none⟩) := by simpa [Act.eval] using ha
  have h4 : a.tmps[d]?.getD undef = v := by simpa [Act.eval] using hd
  simp [results, hr, asAddr, h3, h4, hl]
theorem res_tmp {fn : Func} {d : Nat} {v : Value} {a : Act} {w : World} (hr : fn.results = #[.tmp d]) (hd : a.eval (.tmp d) = v) : (results fn a.tmps).run Try.prog w = .ok v w := by
  rw [results_tmp hr, show a.tmps.getD d undef = v from hd]
theorem rstep_any (id sz tm vt rl ld ti vs : Int) (ga : Option Addr) (gl gc : Nat) (cm : Int) (na : Option Addr) (nl nc : Nat) (ma : Option Addr) (ml mc : Nat) (t : Int) (w : World) (h0 : 0 ≤ id) (h7 : id ≤ 7) :
    Calls Try.prog 39 #[mem id sz tm vt rl ld ti vs (.slice ga gl gc) cm (.slice na nl nc) (.slice ma ml mc), .int .i64 t] w fun e w' =>
      e = .returned (if t ≤ tm then mem id sz tm vt rl ld ti vs (.slice ga gl gc) cm (.slice na nl nc) (.slice ma ml mc) else mem id sz t (-1) 0 (-1) (if rl = 2 then 10 + 3 * id else ti) 0 (.slice ga gl gc) cm nil nil) ∧ Below w.heap.size w w' := by
  refine calls_frv (N := 26) (vs := [.agg #[.int .i64 id, .int .i64 sz, .int .i64 tm, .int .i64 vt, .int .i64 rl, .int .i64 ld, .int .i64 ti, .int .i64 vs, .slice ga gl gc, .int .i64 cm, .slice na nl nc, .slice ma ml mc], .int .i64 t]) [(0, .agg #[.int .i64 id, .int .i64 sz, .int .i64 tm, .int .i64 vt, .int .i64 rl, .int .i64 ld, .int .i64 ti, .int .i64 vs, .slice ga gl gc, .int .i64 cm, .slice na nl nc, .slice ma ml mc]), (1, .int .i64 t)] Try.func39 rfl rfl (of_decide_eq_true rfl) (fun p hp => by simp only [List.mem_cons, List.not_mem_nil, or_false] at hp; rcases hp with rfl | rfl <;> rfl) (fun a hf => ?_)
  have hX := Bx.start w
  refine wp_seq ?_
  refine wp_region_lit ?_
  refine sv_box hf hX rfl (by decide) (fun a C1 W hC hf hX => ?_)
  clear hC
  refine sv_alloc (zs := [.int .i64 0, .int .i64 0, .int .i64 0, .int .i64 0, .int .i64 0, .int .i64 0, .int .i64 0, .int .i64 0, .slice none 0 0, .int .i64 0, .slice none 0 0, .slice none 0 0]) hf hX zero_mem (by decide) (fun a C2 W hC hf hX => ?_)
  clear hC
  replace hf := hf.sub (env' := [(4, .pointer (some ⟨C2, 0, none⟩)), (2, .pointer (some ⟨C1, 0, none⟩)), (1, .int .i64 t)]) (sub_cons rfl (sub_cons rfl (sub_cons rfl (sub_nil))))
  refine sv_nil hf ?_
  refine wp_seq ?_
  refine wp_seq ?_
  refine wp_region_lit ?_
  refine sv_mv hf rfl (by decide) (fun a hf => ?_)
  refine sv_fld hf rfl Try.underlying25 rfl sz_int (2) rfl (by decide) (fun a hf => ?_)
  refine sv_lc hf hX rfl 1 rfl rfl Try.underlying3 rfl (by decide) (fun a hf => ?_)
  rcases Decidable.em (t ≤ tm) with h3 | h3
  ·
    refine sv_cmp hf rfl rfl true (congrArg some (decide_eq_true h3)) (by decide) (fun a hf => ?_)
    replace hf := hf.sub (env' := [(8, .bool true), (4, .pointer (some ⟨C2, 0, none⟩)), (2, .pointer (some ⟨C1, 0, none⟩)), (1, .int .i64 t)]) (sub_cons rfl (sub_cons rfl (sub_cons rfl (sub_cons rfl (sub_nil)))))
    refine sv_nil hf ?_
    refine wp_cond_true (hf.rel _ _ rfl) ?_
    refine wp_seq ?_
    refine wp_region_lit ?_
    refine sv_lr hf hX rfl 1 rfl Try.underlying25 info_mem (by decide) (fun a hf => ?_)
    refine sv_sr hf hX rfl rfl 0 rfl rfl info_mem (fun v hv => List.all_eq_true.1 (show List.all [.int .i64 id, .int .i64 sz, .int .i64 tm, .int .i64 vt, .int .i64 rl, .int .i64 ld, .int .i64 ti, .int .i64 vs, .slice ga gl gc, .int .i64 cm, .slice na nl nc, .slice ma ml mc] (·.oneCell') = true from rfl) v hv) [(C2, [.int .i64 id, .int .i64 sz, .int .i64 tm, .int .i64 vt, .int .i64 rl, .int .i64 ld, .int .i64 ti, .int .i64 vs, .slice ga gl gc, .int .i64 cm, .slice na nl nc, .slice ma ml mc]), (C1, [.int .i64 id, .int .i64 sz, .int .i64 tm, .int .i64 vt, .int .i64 rl, .int .i64 ld, .int .i64 ti, .int .i64 vs, .slice ga gl gc, .int .i64 cm, .slice na nl nc, .slice ma ml mc])] rfl (fun W hX => ?_)
    replace hf := hf.sub (env' := [(4, .pointer (some ⟨C2, 0, none⟩)), (2, .pointer (some ⟨C1, 0, none⟩)), (1, .int .i64 t)]) (sub_cons rfl (sub_cons rfl (sub_cons rfl (sub_nil))))
    refine sv_nil hf ?_
    refine wp_ret ?_
    try simp only [Exit.inBlock, Exit.then]
    exact bodyPost_ret (res_cell (c := 4) (C := C2) (cs := [.int .i64 id, .int .i64 sz, .int .i64 tm, .int .i64 vt, .int .i64 rl, .int .i64 ld, .int .i64 ti, .int .i64 vs, .slice ga gl gc, .int .i64 cm, .slice na nl nc, .slice ma ml mc]) (T := 25) rfl (hf.rel 4 _ rfl) (hX.get (i := 0) rfl) Try.underlying25 info_mem) hf.defers ⟨by first | (rw [if_pos h3]; rfl) | rw [if_pos h3], hX.low⟩
  ·
    refine sv_cmp hf rfl rfl false (congrArg some (decide_eq_false h3)) (by decide) (fun a hf => ?_)
    replace hf := hf.sub (env' := [(8, .bool false), (4, .pointer (some ⟨C2, 0, none⟩)), (2, .pointer (some ⟨C1, 0, none⟩)), (1, .int .i64 t)]) (sub_cons rfl (sub_cons rfl (sub_cons rfl (sub_cons rfl (sub_nil)))))
    refine sv_nil hf ?_
    refine wp_cond_false (hf.rel _ _ rfl) ?_
    refine wp_skip ?_
    refine wp_seq ?_
    refine wp_seq ?_
    refine wp_region_lit ?_
    refine sv_fld hf rfl Try.underlying25 rfl sz_int (4) rfl (by decide) (fun a hf => ?_)
    refine sv_lc hf hX rfl 1 rfl rfl Try.underlying3 rfl (by decide) (fun a hf => ?_)
    rcases Decidable.em (rl = 2) with h4 | h4
    ·
      refine sv_cmp hf rfl rfl true (congrArg some (decide_eq_true h4)) (by decide) (fun a hf => ?_)
      replace hf := hf.sub (env' := [(12, .bool true), (4, .pointer (some ⟨C2, 0, none⟩)), (2, .pointer (some ⟨C1, 0, none⟩)), (1, .int .i64 t)]) (sub_cons rfl (sub_cons rfl (sub_cons rfl (sub_cons rfl (sub_nil)))))
      refine sv_nil hf ?_
      refine wp_cond_true (hf.rel _ _ rfl) ?_
      refine wp_region_lit ?_
      refine sv_fld hf rfl Try.underlying25 rfl sz_int (0) rfl (by decide) (fun a hf => ?_)
      refine sv_lc hf hX rfl 1 rfl rfl Try.underlying3 rfl (by decide) (fun a hf => ?_)
      refine sv_call hf fnOK_28 rfl (timer_any id _ h0 h7) (by decide) ?_
      rintro e W' ⟨rfl, hw⟩
      subst hw
      refine ⟨_, rfl, fun a hf => ?_⟩
      refine sv_fld hf rfl Try.underlying25 rfl sz_int (6) rfl (by decide) (fun a hf => ?_)
      refine sv_sc (cs' := [.int .i64 id, .int .i64 sz, .int .i64 tm, .int .i64 vt, .int .i64 rl, .int .i64 ld, .int .i64 (10 + 3 * id), .int .i64 vs, .slice ga gl gc, .int .i64 cm, .slice na nl nc, .slice ma ml mc]) hf hX rfl rfl 1 rfl (of_decide_eq_true rfl) rfl info_int rfl [(C2, [.int .i64 0, .int .i64 0, .int .i64 0, .int .i64 0, .int .i64 0, .int .i64 0, .int .i64 0, .int .i64 0, .slice none 0 0, .int .i64 0, .slice none 0 0, .slice none 0 0]), (C1, [.int .i64 id, .int .i64 sz, .int .i64 tm, .int .i64 vt, .int .i64 rl, .int .i64 ld, .int .i64 (10 + 3 * id), .int .i64 vs, .slice ga gl gc, .int .i64 cm, .slice na nl nc, .slice ma ml mc])] rfl (fun W hX => ?_)
      replace hf := hf.sub (env' := [(4, .pointer (some ⟨C2, 0, none⟩)), (2, .pointer (some ⟨C1, 0, none⟩)), (1, .int .i64 t)]) (sub_cons rfl (sub_cons rfl (sub_cons rfl (sub_nil))))
      refine sv_nil hf ?_
      refine wp_seq ?_
      refine wp_region_lit ?_
      refine sv_mv hf rfl (by decide) (fun a hf => ?_)
      refine sv_fld hf rfl Try.underlying25 rfl sz_int (2) rfl (by decide) (fun a hf => ?_)
      refine sv_sc (cs' := [.int .i64 id, .int .i64 sz, .int .i64 t, .int .i64 vt, .int .i64 rl, .int .i64 ld, .int .i64 (10 + 3 * id), .int .i64 vs, .slice ga gl gc, .int .i64 cm, .slice na nl nc, .slice ma ml mc]) hf hX rfl rfl 1 rfl (of_decide_eq_true rfl) rfl info_int rfl [(C2, [.int .i64 0, .int .i64 0, .int .i64 0, .int .i64 0, .int .i64 0, .int .i64 0, .int .i64 0, .int .i64 0, .slice none 0 0, .int .i64 0, .slice none 0 0, .slice none 0 0]), (C1, [.int .i64 id, .int .i64 sz, .int .i64 t, .int .i64 vt, .int .i64 rl, .int .i64 ld, .int .i64 (10 + 3 * id), .int .i64 vs, .slice ga gl gc, .int .i64 cm, .slice na nl nc, .slice ma ml mc])] rfl (fun W hX => ?_)
      replace hf := hf.sub (env' := [(4, .pointer (some ⟨C2, 0, none⟩)), (2, .pointer (some ⟨C1, 0, none⟩))]) (sub_cons rfl (sub_cons rfl (sub_nil)))
      refine sv_nil hf ?_
      refine wp_seq ?_
      refine wp_region_lit ?_
      refine sv_fld hf rfl Try.underlying25 rfl sz_int (4) rfl (by decide) (fun a hf => ?_)
      refine sv_sc (cs' := [.int .i64 id, .int .i64 sz, .int .i64 t, .int .i64 vt, .int .i64 0, .int .i64 ld, .int .i64 (10 + 3 * id), .int .i64 vs, .slice ga gl gc, .int .i64 cm, .slice na nl nc, .slice ma ml mc]) hf hX rfl rfl 1 rfl (of_decide_eq_true rfl) rfl info_int rfl [(C2, [.int .i64 0, .int .i64 0, .int .i64 0, .int .i64 0, .int .i64 0, .int .i64 0, .int .i64 0, .int .i64 0, .slice none 0 0, .int .i64 0, .slice none 0 0, .slice none 0 0]), (C1, [.int .i64 id, .int .i64 sz, .int .i64 t, .int .i64 vt, .int .i64 0, .int .i64 ld, .int .i64 (10 + 3 * id), .int .i64 vs, .slice ga gl gc, .int .i64 cm, .slice na nl nc, .slice ma ml mc])] rfl (fun W hX => ?_)
      replace hf := hf.sub (env' := [(4, .pointer (some ⟨C2, 0, none⟩)), (2, .pointer (some ⟨C1, 0, none⟩))]) (sub_cons rfl (sub_cons rfl (sub_nil)))
      refine sv_nil hf ?_
      refine wp_seq ?_
      refine wp_region_lit ?_
      refine sv_fld hf rfl Try.underlying25 rfl sz_int (3) rfl (by decide) (fun a hf => ?_)
      refine sv_sc (cs' := [.int .i64 id, .int .i64 sz, .int .i64 t, .int .i64 (-1), .int .i64 0, .int .i64 ld, .int .i64 (10 + 3 * id), .int .i64 vs, .slice ga gl gc, .int .i64 cm, .slice na nl nc, .slice ma ml mc]) hf hX rfl rfl 1 rfl (of_decide_eq_true rfl) rfl info_int rfl [(C2, [.int .i64 0, .int .i64 0, .int .i64 0, .int .i64 0, .int .i64 0, .int .i64 0, .int .i64 0, .int .i64 0, .slice none 0 0, .int .i64 0, .slice none 0 0, .slice none 0 0]), (C1, [.int .i64 id, .int .i64 sz, .int .i64 t, .int .i64 (-1), .int .i64 0, .int .i64 ld, .int .i64 (10 + 3 * id), .int .i64 vs, .slice ga gl gc, .int .i64 cm, .slice na nl nc, .slice ma ml mc])] rfl (fun W hX => ?_)
      replace hf := hf.sub (env' := [(4, .pointer (some ⟨C2, 0, none⟩)), (2, .pointer (some ⟨C1, 0, none⟩))]) (sub_cons rfl (sub_cons rfl (sub_nil)))
      refine sv_nil hf ?_
      refine wp_seq ?_
      refine wp_region_lit ?_
      refine sv_fld hf rfl Try.underlying25 rfl sz_int (5) rfl (by decide) (fun a hf => ?_)
      refine sv_sc (cs' := [.int .i64 id, .int .i64 sz, .int .i64 t, .int .i64 (-1), .int .i64 0, .int .i64 (-1), .int .i64 (10 + 3 * id), .int .i64 vs, .slice ga gl gc, .int .i64 cm, .slice na nl nc, .slice ma ml mc]) hf hX rfl rfl 1 rfl (of_decide_eq_true rfl) rfl info_int rfl [(C2, [.int .i64 0, .int .i64 0, .int .i64 0, .int .i64 0, .int .i64 0, .int .i64 0, .int .i64 0, .int .i64 0, .slice none 0 0, .int .i64 0, .slice none 0 0, .slice none 0 0]), (C1, [.int .i64 id, .int .i64 sz, .int .i64 t, .int .i64 (-1), .int .i64 0, .int .i64 (-1), .int .i64 (10 + 3 * id), .int .i64 vs, .slice ga gl gc, .int .i64 cm, .slice na nl nc, .slice ma ml mc])] rfl (fun W hX => ?_)
      replace hf := hf.sub (env' := [(4, .pointer (some ⟨C2, 0, none⟩)), (2, .pointer (some ⟨C1, 0, none⟩))]) (sub_cons rfl (sub_cons rfl (sub_nil)))
      refine sv_nil hf ?_
      refine wp_seq ?_
      refine wp_region_lit ?_
      refine sv_fld hf rfl Try.underlying25 rfl sz_int (7) rfl (by decide) (fun a hf => ?_)
      refine sv_sc (cs' := [.int .i64 id, .int .i64 sz, .int .i64 t, .int .i64 (-1), .int .i64 0, .int .i64 (-1), .int .i64 (10 + 3 * id), .int .i64 0, .slice ga gl gc, .int .i64 cm, .slice na nl nc, .slice ma ml mc]) hf hX rfl rfl 1 rfl (of_decide_eq_true rfl) rfl info_int rfl [(C2, [.int .i64 0, .int .i64 0, .int .i64 0, .int .i64 0, .int .i64 0, .int .i64 0, .int .i64 0, .int .i64 0, .slice none 0 0, .int .i64 0, .slice none 0 0, .slice none 0 0]), (C1, [.int .i64 id, .int .i64 sz, .int .i64 t, .int .i64 (-1), .int .i64 0, .int .i64 (-1), .int .i64 (10 + 3 * id), .int .i64 0, .slice ga gl gc, .int .i64 cm, .slice na nl nc, .slice ma ml mc])] rfl (fun W hX => ?_)
      replace hf := hf.sub (env' := [(4, .pointer (some ⟨C2, 0, none⟩)), (2, .pointer (some ⟨C1, 0, none⟩))]) (sub_cons rfl (sub_cons rfl (sub_nil)))
      refine sv_nil hf ?_
      refine wp_seq ?_
      refine wp_region_lit ?_
      refine sv_fld hf rfl Try.underlying25 rfl sz_ints (10) rfl (by decide) (fun a hf => ?_)
      refine sv_sc (cs' := [.int .i64 id, .int .i64 sz, .int .i64 t, .int .i64 (-1), .int .i64 0, .int .i64 (-1), .int .i64 (10 + 3 * id), .int .i64 0, .slice ga gl gc, .int .i64 cm, .slice none 0 0, .slice ma ml mc]) hf hX rfl rfl 1 rfl (of_decide_eq_true rfl) rfl info_ints rfl [(C2, [.int .i64 0, .int .i64 0, .int .i64 0, .int .i64 0, .int .i64 0, .int .i64 0, .int .i64 0, .int .i64 0, .slice none 0 0, .int .i64 0, .slice none 0 0, .slice none 0 0]), (C1, [.int .i64 id, .int .i64 sz, .int .i64 t, .int .i64 (-1), .int .i64 0, .int .i64 (-1), .int .i64 (10 + 3 * id), .int .i64 0, .slice ga gl gc, .int .i64 cm, .slice none 0 0, .slice ma ml mc])] rfl (fun W hX => ?_)
      replace hf := hf.sub (env' := [(4, .pointer (some ⟨C2, 0, none⟩)), (2, .pointer (some ⟨C1, 0, none⟩))]) (sub_cons rfl (sub_cons rfl (sub_nil)))
      refine sv_nil hf ?_
      refine wp_seq ?_
      refine wp_region_lit ?_
      refine sv_fld hf rfl Try.underlying25 rfl sz_ints (11) rfl (by decide) (fun a hf => ?_)
      refine sv_sc (cs' := [.int .i64 id, .int .i64 sz, .int .i64 t, .int .i64 (-1), .int .i64 0, .int .i64 (-1), .int .i64 (10 + 3 * id), .int .i64 0, .slice ga gl gc, .int .i64 cm, .slice none 0 0, .slice none 0 0]) hf hX rfl rfl 1 rfl (of_decide_eq_true rfl) rfl info_ints rfl [(C2, [.int .i64 0, .int .i64 0, .int .i64 0, .int .i64 0, .int .i64 0, .int .i64 0, .int .i64 0, .int .i64 0, .slice none 0 0, .int .i64 0, .slice none 0 0, .slice none 0 0]), (C1, [.int .i64 id, .int .i64 sz, .int .i64 t, .int .i64 (-1), .int .i64 0, .int .i64 (-1), .int .i64 (10 + 3 * id), .int .i64 0, .slice ga gl gc, .int .i64 cm, .slice none 0 0, .slice none 0 0])] rfl (fun W hX => ?_)
      replace hf := hf.sub (env' := [(4, .pointer (some ⟨C2, 0, none⟩)), (2, .pointer (some ⟨C1, 0, none⟩))]) (sub_cons rfl (sub_cons rfl (sub_nil)))
      refine sv_nil hf ?_
      refine wp_seq ?_
      refine wp_region_lit ?_
      refine sv_lr hf hX rfl 1 rfl Try.underlying25 info_mem (by decide) (fun a hf => ?_)
      refine sv_sr hf hX rfl rfl 0 rfl rfl info_mem (fun v hv => List.all_eq_true.1 (show List.all [.int .i64 id, .int .i64 sz, .int .i64 t, .int .i64 (-1), .int .i64 0, .int .i64 (-1), .int .i64 (10 + 3 * id), .int .i64 0, .slice ga gl gc, .int .i64 cm, .slice none 0 0, .slice none 0 0] (·.oneCell') = true from rfl) v hv) [(C2, [.int .i64 id, .int .i64 sz, .int .i64 t, .int .i64 (-1), .int .i64 0, .int .i64 (-1), .int .i64 (10 + 3 * id), .int .i64 0, .slice ga gl gc, .int .i64 cm, .slice none 0 0, .slice none 0 0]), (C1, [.int .i64 id, .int .i64 sz, .int .i64 t, .int .i64 (-1), .int .i64 0, .int .i64 (-1), .int .i64 (10 + 3 * id), .int .i64 0, .slice ga gl gc, .int .i64 cm, .slice none 0 0, .slice none 0 0])] rfl (fun W hX => ?_)
      replace hf := hf.sub (env' := [(4, .pointer (some ⟨C2, 0, none⟩))]) (sub_cons rfl (sub_nil))
      refine sv_nil hf ?_
      refine wp_ret ?_
      try simp only [Exit.inBlock, Exit.then]
      exact bodyPost_ret (res_cell (c := 4) (C := C2) (cs := [.int .i64 id, .int .i64 sz, .int .i64 t, .int .i64 (-1), .int .i64 0, .int .i64 (-1), .int .i64 (10 + 3 * id), .int .i64 0, .slice ga gl gc, .int .i64 cm, .slice none 0 0, .slice none 0 0]) (T := 25) rfl (hf.rel 4 _ rfl) (hX.get (i := 0) rfl) Try.underlying25 info_mem) hf.defers ⟨by first | (rw [if_neg h3, if_pos h4]; rfl) | rw [if_neg h3, if_pos h4], hX.low⟩
    ·
      refine sv_cmp hf rfl rfl false (congrArg some (decide_eq_false h4)) (by decide) (fun a hf => ?_)
      replace hf := hf.sub (env' := [(12, .bool false), (4, .pointer (some ⟨C2, 0, none⟩)), (2, .pointer (some ⟨C1, 0, none⟩)), (1, .int .i64 t)]) (sub_cons rfl (sub_cons rfl (sub_cons rfl (sub_cons rfl (sub_nil)))))
      refine sv_nil hf ?_
      refine wp_cond_false (hf.rel _ _ rfl) ?_
      refine wp_skip ?_
      refine wp_seq ?_
      refine wp_region_lit ?_
      refine sv_mv hf rfl (by decide) (fun a hf => ?_)
      refine sv_fld hf rfl Try.underlying25 rfl sz_int (2) rfl (by decide) (fun a hf => ?_)
      refine sv_sc (cs' := [.int .i64 id, .int .i64 sz, .int .i64 t, .int .i64 vt, .int .i64 rl, .int .i64 ld, .int .i64 ti, .int .i64 vs, .slice ga gl gc, .int .i64 cm, .slice na nl nc, .slice ma ml mc]) hf hX rfl rfl 1 rfl (of_decide_eq_true rfl) rfl info_int rfl [(C2, [.int .i64 0, .int .i64 0, .int .i64 0, .int .i64 0, .int .i64 0, .int .i64 0, .int .i64 0, .int .i64 0, .slice none 0 0, .int .i64 0, .slice none 0 0, .slice none 0 0]), (C1, [.int .i64 id, .int .i64 sz, .int .i64 t, .int .i64 vt, .int .i64 rl, .int .i64 ld, .int .i64 ti, .int .i64 vs, .slice ga gl gc, .int .i64 cm, .slice na nl nc, .slice ma ml mc])] rfl (fun W hX => ?_)
      replace hf := hf.sub (env' := [(4, .pointer (some ⟨C2, 0, none⟩)), (2, .pointer (some ⟨C1, 0, none⟩))]) (sub_cons rfl (sub_cons rfl (sub_nil)))
      refine sv_nil hf ?_
      refine wp_seq ?_
      refine wp_region_lit ?_
      refine sv_fld hf rfl Try.underlying25 rfl sz_int (4) rfl (by decide) (fun a hf => ?_)
      refine sv_sc (cs' := [.int .i64 id, .int .i64 sz, .int .i64 t, .int .i64 vt, .int .i64 0, .int .i64 ld, .int .i64 ti, .int .i64 vs, .slice ga gl gc, .int .i64 cm, .slice na nl nc, .slice ma ml mc]) hf hX rfl rfl 1 rfl (of_decide_eq_true rfl) rfl info_int rfl [(C2, [.int .i64 0, .int .i64 0, .int .i64 0, .int .i64 0, .int .i64 0, .int .i64 0, .int .i64 0, .int .i64 0, .slice none 0 0, .int .i64 0, .slice none 0 0, .slice none 0 0]), (C1, [.int .i64 id, .int .i64 sz, .int .i64 t, .int .i64 vt, .int .i64 0, .int .i64 ld, .int .i64 ti, .int .i64 vs, .slice ga gl gc, .int .i64 cm, .slice na nl nc, .slice ma ml mc])] rfl (fun W hX => ?_)
      replace hf := hf.sub (env' := [(4, .pointer (some ⟨C2, 0, none⟩)), (2, .pointer (some ⟨C1, 0, none⟩))]) (sub_cons rfl (sub_cons rfl (sub_nil)))
      refine sv_nil hf ?_
      refine wp_seq ?_
      refine wp_region_lit ?_
      refine sv_fld hf rfl Try.underlying25 rfl sz_int (3) rfl (by decide) (fun a hf => ?_)
      refine sv_sc (cs' := [.int .i64 id, .int .i64 sz, .int .i64 t, .int .i64 (-1), .int .i64 0, .int .i64 ld, .int .i64 ti, .int .i64 vs, .slice ga gl gc, .int .i64 cm, .slice na nl nc, .slice ma ml mc]) hf hX rfl rfl 1 rfl (of_decide_eq_true rfl) rfl info_int rfl [(C2, [.int .i64 0, .int .i64 0, .int .i64 0, .int .i64 0, .int .i64 0, .int .i64 0, .int .i64 0, .int .i64 0, .slice none 0 0, .int .i64 0, .slice none 0 0, .slice none 0 0]), (C1, [.int .i64 id, .int .i64 sz, .int .i64 t, .int .i64 (-1), .int .i64 0, .int .i64 ld, .int .i64 ti, .int .i64 vs, .slice ga gl gc, .int .i64 cm, .slice na nl nc, .slice ma ml mc])] rfl (fun W hX => ?_)
      replace hf := hf.sub (env' := [(4, .pointer (some ⟨C2, 0, none⟩)), (2, .pointer (some ⟨C1, 0, none⟩))]) (sub_cons rfl (sub_cons rfl (sub_nil)))
      refine sv_nil hf ?_
      refine wp_seq ?_
      refine wp_region_lit ?_
      refine sv_fld hf rfl Try.underlying25 rfl sz_int (5) rfl (by decide) (fun a hf => ?_)
      refine sv_sc (cs' := [.int .i64 id, .int .i64 sz, .int .i64 t, .int .i64 (-1), .int .i64 0, .int .i64 (-1), .int .i64 ti, .int .i64 vs, .slice ga gl gc, .int .i64 cm, .slice na nl nc, .slice ma ml mc]) hf hX rfl rfl 1 rfl (of_decide_eq_true rfl) rfl info_int rfl [(C2, [.int .i64 0, .int .i64 0, .int .i64 0, .int .i64 0, .int .i64 0, .int .i64 0, .int .i64 0, .int .i64 0, .slice none 0 0, .int .i64 0, .slice none 0 0, .slice none 0 0]), (C1, [.int .i64 id, .int .i64 sz, .int .i64 t, .int .i64 (-1), .int .i64 0, .int .i64 (-1), .int .i64 ti, .int .i64 vs, .slice ga gl gc, .int .i64 cm, .slice na nl nc, .slice ma ml mc])] rfl (fun W hX => ?_)
      replace hf := hf.sub (env' := [(4, .pointer (some ⟨C2, 0, none⟩)), (2, .pointer (some ⟨C1, 0, none⟩))]) (sub_cons rfl (sub_cons rfl (sub_nil)))
      refine sv_nil hf ?_
      refine wp_seq ?_
      refine wp_region_lit ?_
      refine sv_fld hf rfl Try.underlying25 rfl sz_int (7) rfl (by decide) (fun a hf => ?_)
      refine sv_sc (cs' := [.int .i64 id, .int .i64 sz, .int .i64 t, .int .i64 (-1), .int .i64 0, .int .i64 (-1), .int .i64 ti, .int .i64 0, .slice ga gl gc, .int .i64 cm, .slice na nl nc, .slice ma ml mc]) hf hX rfl rfl 1 rfl (of_decide_eq_true rfl) rfl info_int rfl [(C2, [.int .i64 0, .int .i64 0, .int .i64 0, .int .i64 0, .int .i64 0, .int .i64 0, .int .i64 0, .int .i64 0, .slice none 0 0, .int .i64 0, .slice none 0 0, .slice none 0 0]), (C1, [.int .i64 id, .int .i64 sz, .int .i64 t, .int .i64 (-1), .int .i64 0, .int .i64 (-1), .int .i64 ti, .int .i64 0, .slice ga gl gc, .int .i64 cm, .slice na nl nc, .slice ma ml mc])] rfl (fun W hX => ?_)
      replace hf := hf.sub (env' := [(4, .pointer (some ⟨C2, 0, none⟩)), (2, .pointer (some ⟨C1, 0, none⟩))]) (sub_cons rfl (sub_cons rfl (sub_nil)))
      refine sv_nil hf ?_
      refine wp_seq ?_
      refine wp_region_lit ?_
      refine sv_fld hf rfl Try.underlying25 rfl sz_ints (10) rfl (by decide) (fun a hf => ?_)
      refine sv_sc (cs' := [.int .i64 id, .int .i64 sz, .int .i64 t, .int .i64 (-1), .int .i64 0, .int .i64 (-1), .int .i64 ti, .int .i64 0, .slice ga gl gc, .int .i64 cm, .slice none 0 0, .slice ma ml mc]) hf hX rfl rfl 1 rfl (of_decide_eq_true rfl) rfl info_ints rfl [(C2, [.int .i64 0, .int .i64 0, .int .i64 0, .int .i64 0, .int .i64 0, .int .i64 0, .int .i64 0, .int .i64 0, .slice none 0 0, .int .i64 0, .slice none 0 0, .slice none 0 0]), (C1, [.int .i64 id, .int .i64 sz, .int .i64 t, .int .i64 (-1), .int .i64 0, .int .i64 (-1), .int .i64 ti, .int .i64 0, .slice ga gl gc, .int .i64 cm, .slice none 0 0, .slice ma ml mc])] rfl (fun W hX => ?_)
      replace hf := hf.sub (env' := [(4, .pointer (some ⟨C2, 0, none⟩)), (2, .pointer (some ⟨C1, 0, none⟩))]) (sub_cons rfl (sub_cons rfl (sub_nil)))
      refine sv_nil hf ?_
      refine wp_seq ?_
      refine wp_region_lit ?_
      refine sv_fld hf rfl Try.underlying25 rfl sz_ints (11) rfl (by decide) (fun a hf => ?_)
      refine sv_sc (cs' := [.int .i64 id, .int .i64 sz, .int .i64 t, .int .i64 (-1), .int .i64 0, .int .i64 (-1), .int .i64 ti, .int .i64 0, .slice ga gl gc, .int .i64 cm, .slice none 0 0, .slice none 0 0]) hf hX rfl rfl 1 rfl (of_decide_eq_true rfl) rfl info_ints rfl [(C2, [.int .i64 0, .int .i64 0, .int .i64 0, .int .i64 0, .int .i64 0, .int .i64 0, .int .i64 0, .int .i64 0, .slice none 0 0, .int .i64 0, .slice none 0 0, .slice none 0 0]), (C1, [.int .i64 id, .int .i64 sz, .int .i64 t, .int .i64 (-1), .int .i64 0, .int .i64 (-1), .int .i64 ti, .int .i64 0, .slice ga gl gc, .int .i64 cm, .slice none 0 0, .slice none 0 0])] rfl (fun W hX => ?_)
      replace hf := hf.sub (env' := [(4, .pointer (some ⟨C2, 0, none⟩)), (2, .pointer (some ⟨C1, 0, none⟩))]) (sub_cons rfl (sub_cons rfl (sub_nil)))
      refine sv_nil hf ?_
      refine wp_seq ?_
      refine wp_region_lit ?_
      refine sv_lr hf hX rfl 1 rfl Try.underlying25 info_mem (by decide) (fun a hf => ?_)
      refine sv_sr hf hX rfl rfl 0 rfl rfl info_mem (fun v hv => List.all_eq_true.1 (show List.all [.int .i64 id, .int .i64 sz, .int .i64 t, .int .i64 (-1), .int .i64 0, .int .i64 (-1), .int .i64 ti, .int .i64 0, .slice ga gl gc, .int .i64 cm, .slice none 0 0, .slice none 0 0] (·.oneCell') = true from rfl) v hv) [(C2, [.int .i64 id, .int .i64 sz, .int .i64 t, .int .i64 (-1), .int .i64 0, .int .i64 (-1), .int .i64 ti, .int .i64 0, .slice ga gl gc, .int .i64 cm, .slice none 0 0, .slice none 0 0]), (C1, [.int .i64 id, .int .i64 sz, .int .i64 t, .int .i64 (-1), .int .i64 0, .int .i64 (-1), .int .i64 ti, .int .i64 0, .slice ga gl gc, .int .i64 cm, .slice none 0 0, .slice none 0 0])] rfl (fun W hX => ?_)
      replace hf := hf.sub (env' := [(4, .pointer (some ⟨C2, 0, none⟩))]) (sub_cons rfl (sub_nil))
      refine sv_nil hf ?_
      refine wp_ret ?_
      try simp only [Exit.inBlock, Exit.then]
      exact bodyPost_ret (res_cell (c := 4) (C := C2) (cs := [.int .i64 id, .int .i64 sz, .int .i64 t, .int .i64 (-1), .int .i64 0, .int .i64 (-1), .int .i64 ti, .int .i64 0, .slice ga gl gc, .int .i64 cm, .slice none 0 0, .slice none 0 0]) (T := 25) rfl (hf.rel 4 _ rfl) (hX.get (i := 0) rfl) Try.underlying25 info_mem) hf.defers ⟨by first | (rw [if_neg h3, if_neg h4]; rfl) | rw [if_neg h3, if_neg h4], hX.low⟩
end Go.Proofs.Ytfpgklhbghahoaa
/- Election: the last term of a log; copies of members by letters; what follow gives. -/
namespace Go.Proofs.Ytfpgklhbghahoaa
open Go.ChangeShapes Go.WideShapes Go.ChangeAt Go.RowKit Go.ChangeMaps Go.Joins Go.Deep
set_option linter.unusedVariables false
set_option linter.unusedSimpArgs false
set_option maxRecDepth 100000
/-- the term of the last entry of a log, or 0 -/
def LastAt (W : World) (lg : Value) (t : Int) : Prop := ∃ ga gl gc, lg = .slice ga gl gc ∧ ((gl = 0 ∧ t = 0) ∨ ∃ B o k, ga = some ⟨B, o, none⟩ ∧ gl = k + 1 ∧ gl ≤ 9223372036854775807 ∧ B < W.heap.size ∧ W.cell? ⟨B, o + k * 82, none⟩ = some (.int .i64 t))
theorem LastAt.below {W W' : World} {lg : Value} {t : Int} (h : LastAt W lg t) (hb : Below W.heap.size W W') : LastAt W' lg t := by
  obtain ⟨ga, gl, gc, e, h⟩ := h
  refine ⟨ga, gl, gc, e, ?_⟩
  rcases h with h | ⟨B, o, k, h1, h2, h3, h4, h5⟩
  · exact .inl h
  · exact .inr ⟨B, o, k, h1, h2, h3, Nat.lt_of_lt_of_le h4 hb.size, (hb.cell (p := ⟨B, o + k * 82, none⟩) h4).trans h5⟩
/-- logs that hold the same end alike -/
theorem lastAt_eq {W : World} {n : Nat} {u v : Value} (h : EqC Try.prog W W TT TT n 22 [u] [v]) : ∃ t ga gl gc ga' gc', u = .slice ga gl gc ∧ v = .slice ga' gl gc' ∧ LastAt W u t ∧ LastAt W v t ∧ gl ≤ 9223372036854775807 ∧ (Lit.int .i64 t).wf = true := by
  have e82 : Try.prog.cellsOf 73 = 82 := by kernel_rfl
  have e3 : Try.prog.cellsOf 3 = 1 := by kernel_rfl
  cases n with
  | zero => exact h.elim
  | succ n =>
    unfold EqC at h
    simp only [Try.underlying22] at h
    obtain ⟨a, l, c, a', c', h1, h2, h3, h4, h5, h6, h7⟩ := h
    obtain rfl := (List.cons.inj h1).1
    obtain rfl := (List.cons.inj h2).1
    have hl : l ≤ 9223372036854775807 := by have := h4.1; unfold maxLen at this; omega
    cases l with
    | zero => exact ⟨0, a, 0, c, a', c', rfl, rfl, ⟨_, _, _, rfl, .inl ⟨rfl, rfl⟩⟩, ⟨_, _, _, rfl, .inl ⟨rfl, rfl⟩⟩, hl, by decide⟩
    | succ k =>
      obtain ⟨B, o, B', o', rfl, rfl, hB, hB', hj⟩ := h7 (Nat.succ_pos k)
      obtain ⟨xs, ys, k1, k2, k3, k4, k5⟩ := hj k (Nat.lt_succ_self k)
      rw [e82] at k1 k2 k3 k4
      cases n with
      | zero => exact k5.elim
      | succ n =>
        have f0 : EqC Try.prog W W TT TT n 3 (part_ xs 0 (Try.prog.cellsOf 3)) (part_ ys 0 (Try.prog.cellsOf 3)) := ((eqC_struct Try.underlying73).1 k5).2.2 0 _ rfl
        rw [e3] at f0
        match xs, k1, ys, k2 with
        | x :: xs, _, y :: ys, _ =>
          have f1 : EqC Try.prog W W TT TT n 3 [x] [y] := f0
          cases n with
          | zero => exact f1.elim
          | succ n =>
            unfold EqC at f1
            simp only [Try.underlying3] at f1
            obtain ⟨t, g1, g2, g3⟩ := f1
            obtain rfl := (List.cons.inj g1).1
            obtain rfl := (List.cons.inj g2).1
            have c1 := k3 0 _ rfl
            have c2 := k4 0 _ rfl
            exact ⟨t, _, _, c, _, c', rfl, rfl, ⟨_, _, _, rfl, .inr ⟨B, o, k, rfl, rfl, hl, hB.2, c1⟩⟩, ⟨_, _, _, rfl, .inr ⟨B', o', k, rfl, rfl, hl, hB'.2, c2⟩⟩, hl, g3⟩
theorem lastTerm_any (lg : Value) (t : Int) (w : World) (h : LastAt w lg t) : Calls Try.prog 38 #[lg] w fun e w' => e = .returned (.int .i64 t) ∧ w = w' := by
  obtain ⟨ga, gl, gc, rfl, ⟨rfl, rfl⟩ | ⟨B, o, k, rfl, rfl, hl, hB, hc⟩⟩ := h
  ·
    refine calls_frv (N := 13) (vs := [.slice ga 0 gc]) [(0, .slice ga 0 gc)] Try.func38 rfl rfl (of_decide_eq_true rfl) (fun p hp => by simp only [List.mem_cons, List.not_mem_nil, or_false] at hp; rcases hp with rfl <;> rfl) (fun a hf => ?_)
    have hX := Bx.start w
    refine wp_seq ?_
    refine wp_region_lit ?_
    refine sv_ac hf (by decide) (fun a hf => ?_)
    refine sv_nil hf ?_
    refine wp_seq ?_
    refine wp_seq ?_
    refine wp_region_lit ?_
    refine sv_mv hf rfl (by decide) (fun a hf => ?_)
    refine sv_len hf rfl Try.underlying22 (by decide) (fun a hf => ?_)
    refine sv_cmp hf rfl rfl true (congrArg some (decide_eq_true rfl)) (by decide) (fun a hf => ?_)
    replace hf := hf.sub (env' := [(5, .bool true), (2, .int .i64 0), (0, .slice ga 0 gc)]) (sub_cons rfl (sub_cons rfl (sub_cons rfl (sub_nil))))
    refine sv_nil hf ?_
    refine wp_cond_true (hf.rel _ _ rfl) ?_
    refine wp_seq ?_
    refine wp_region_lit ?_
    refine sv_ac hf (by decide) (fun a hf => ?_)
    replace hf := hf.sub (env' := [(2, .int .i64 0), (0, .slice ga 0 gc)]) (sub_cons rfl (sub_cons rfl (sub_nil)))
    refine sv_nil hf ?_
    refine wp_ret ?_
    try simp only [Exit.inBlock, Exit.then]
    exact bodyPost_ret (res_tmp (d := 2) (v := .int .i64 0) rfl (hf.rel 2 _ rfl)) hf.defers ⟨rfl, rfl⟩
  ·
    refine calls_frv (N := 13) (vs := [.slice (some ⟨B, o, none⟩) (k + 1) gc]) [(0, .slice (some ⟨B, o, none⟩) (k + 1) gc)] Try.func38 rfl rfl (of_decide_eq_true rfl) (fun p hp => by simp only [List.mem_cons, List.not_mem_nil, or_false] at hp; rcases hp with rfl <;> rfl) (fun a hf => ?_)
    have hX := Bx.start w
    refine wp_seq ?_
    refine wp_region_lit ?_
    refine sv_ac hf (by decide) (fun a hf => ?_)
    refine sv_nil hf ?_
    refine wp_seq ?_
    refine wp_seq ?_
    refine wp_region_lit ?_
    refine sv_mv hf rfl (by decide) (fun a hf => ?_)
    refine sv_len hf rfl Try.underlying22 (by decide) (fun a hf => ?_)
    refine sv_cmp hf rfl rfl false (congrArg some (decide_eq_false (by omega))) (by decide) (fun a hf => ?_)
    replace hf := hf.sub (env' := [(5, .bool false), (2, .int .i64 0), (0, .slice (some ⟨B, o, none⟩) (k + 1) gc)]) (sub_cons rfl (sub_cons rfl (sub_cons rfl (sub_nil))))
    refine sv_nil hf ?_
    refine wp_cond_false (hf.rel _ _ rfl) ?_
    refine wp_skip ?_
    refine wp_seq ?_
    refine wp_region_lit ?_
    refine sv_mv hf rfl (by decide) (fun a hf => ?_)
    refine sv_mv hf rfl (by decide) (fun a hf => ?_)
    refine sv_len hf rfl Try.underlying22 (by decide) (fun a hf => ?_)
    refine sv_sub (k : Int) hf rfl rfl (by rw [wrap_in (by omega)]; omega) (by decide) (fun a hf => ?_)
    refine sv_idx (q := k) hf rfl rfl (by omega) Try.underlying22 einfo_ents (by decide) (fun a hf => ?_)
    refine sv_fld hf rfl Try.underlying73 rfl sz_int (o + k * 82) rfl (by decide) (fun a hf => ?_)
    refine sv_lm hf rfl (show w.cell? ⟨B, o + k * 82, none⟩ = _ from hc) Try.underlying3 rfl (by decide) (fun a hf => ?_)
    refine sv_as hf rfl (by decide) (fun a hf => ?_)
    replace hf := hf.sub (env' := [(2, .int .i64 t)]) (sub_cons rfl (sub_nil))
    refine sv_nil hf ?_
    refine wp_ret ?_
    try simp only [Exit.inBlock, Exit.then]
    exact bodyPost_ret (res_tmp (d := 2) (v := .int .i64 t) rfl (hf.rel 2 _ rfl)) hf.defers ⟨rfl, rfl⟩
theorem last_any (id sz tm vt rl ld ti vs : Int) (lg : Value) (cm : Int) (nx mt : Value) (t : Int) (w : World) (h : LastAt w lg t) : Calls Try.prog 40 #[mem id sz tm vt rl ld ti vs lg cm nx mt] w fun e w' => e = .returned (.int .i64 t) ∧ Below w.heap.size w w' := by
  obtain ⟨ga, gl, gc, rfl, ⟨rfl, rfl⟩ | ⟨B, o, k, rfl, rfl, hl, hB, hc⟩⟩ := h
  ·
    refine calls_frv (N := 16) (vs := [.agg #[.int .i64 id, .int .i64 sz, .int .i64 tm, .int .i64 vt, .int .i64 rl, .int .i64 ld, .int .i64 ti, .int .i64 vs, .slice ga 0 gc, .int .i64 cm, nx, mt]]) [(0, .agg #[.int .i64 id, .int .i64 sz, .int .i64 tm, .int .i64 vt, .int .i64 rl, .int .i64 ld, .int .i64 ti, .int .i64 vs, .slice ga 0 gc, .int .i64 cm, nx, mt])] Try.func40 rfl rfl (of_decide_eq_true rfl) (fun p hp => by simp only [List.mem_cons, List.not_mem_nil, or_false] at hp; rcases hp with rfl <;> rfl) (fun a hf => ?_)
    have hX := Bx.start w
    refine wp_seq ?_
    refine wp_region_lit ?_
    refine sv_box hf hX rfl (by decide) (fun a C1 W hC hf hX => ?_)
    clear hC
    refine sv_ac hf (by decide) (fun a hf => ?_)
    replace hf := hf.sub (env' := [(2, .int .i64 0), (1, .pointer (some ⟨C1, 0, none⟩))]) (sub_cons rfl (sub_cons rfl (sub_nil)))
    refine sv_nil hf ?_
    refine wp_seq ?_
    refine wp_seq ?_
    refine wp_region_lit ?_
    refine sv_fld hf rfl Try.underlying25 rfl sz_ents (8) rfl (by decide) (fun a hf => ?_)
    refine sv_lc hf hX rfl 0 rfl rfl Try.underlying22 rfl (by decide) (fun a hf => ?_)
    refine sv_len hf rfl Try.underlying22 (by decide) (fun a hf => ?_)
    refine sv_cmp hf rfl rfl true (congrArg some (decide_eq_true rfl)) (by decide) (fun a hf => ?_)
    replace hf := hf.sub (env' := [(6, .bool true), (2, .int .i64 0), (1, .pointer (some ⟨C1, 0, none⟩))]) (sub_cons rfl (sub_cons rfl (sub_cons rfl (sub_nil))))
    refine sv_nil hf ?_
    refine wp_cond_true (hf.rel _ _ rfl) ?_
    refine wp_seq ?_
    refine wp_region_lit ?_
    refine sv_ac hf (by decide) (fun a hf => ?_)
    replace hf := hf.sub (env' := [(2, .int .i64 0), (1, .pointer (some ⟨C1, 0, none⟩))]) (sub_cons rfl (sub_cons rfl (sub_nil)))
    refine sv_nil hf ?_
    refine wp_ret ?_
    try simp only [Exit.inBlock, Exit.then]
    exact bodyPost_ret (res_tmp (d := 2) (v := .int .i64 0) rfl (hf.rel 2 _ rfl)) hf.defers ⟨rfl, hX.low⟩
  ·
    refine calls_frv (N := 16) (vs := [.agg #[.int .i64 id, .int .i64 sz, .int .i64 tm, .int .i64 vt, .int .i64 rl, .int .i64 ld, .int .i64 ti, .int .i64 vs, .slice (some ⟨B, o, none⟩) (k + 1) gc, .int .i64 cm, nx, mt]]) [(0, .agg #[.int .i64 id, .int .i64 sz, .int .i64 tm, .int .i64 vt, .int .i64 rl, .int .i64 ld, .int .i64 ti, .int .i64 vs, .slice (some ⟨B, o, none⟩) (k + 1) gc, .int .i64 cm, nx, mt])] Try.func40 rfl rfl (of_decide_eq_true rfl) (fun p hp => by simp only [List.mem_cons, List.not_mem_nil, or_false] at hp; rcases hp with rfl <;> rfl) (fun a hf => ?_)
    have hX := Bx.start w
    refine wp_seq ?_
    refine wp_region_lit ?_
    refine sv_box hf hX rfl (by decide) (fun a C1 W hC hf hX => ?_)
    clear hC
    refine sv_ac hf (by decide) (fun a hf => ?_)
    replace hf := hf.sub (env' := [(2, .int .i64 0), (1, .pointer (some ⟨C1, 0, none⟩))]) (sub_cons rfl (sub_cons rfl (sub_nil)))
    refine sv_nil hf ?_
    refine wp_seq ?_
    refine wp_seq ?_
    refine wp_region_lit ?_
    refine sv_fld hf rfl Try.underlying25 rfl sz_ents (8) rfl (by decide) (fun a hf => ?_)
    refine sv_lc hf hX rfl 0 rfl rfl Try.underlying22 rfl (by decide) (fun a hf => ?_)
    refine sv_len hf rfl Try.underlying22 (by decide) (fun a hf => ?_)
    refine sv_cmp hf rfl rfl false (congrArg some (decide_eq_false (by omega))) (by decide) (fun a hf => ?_)
    replace hf := hf.sub (env' := [(6, .bool false), (2, .int .i64 0), (1, .pointer (some ⟨C1, 0, none⟩))]) (sub_cons rfl (sub_cons rfl (sub_cons rfl (sub_nil))))
    refine sv_nil hf ?_
    refine wp_cond_false (hf.rel _ _ rfl) ?_
    refine wp_skip ?_
    refine wp_seq ?_
    refine wp_region_lit ?_
    refine sv_fld hf rfl Try.underlying25 rfl sz_ents (8) rfl (by decide) (fun a hf => ?_)
    refine sv_lc hf hX rfl 0 rfl rfl Try.underlying22 rfl (by decide) (fun a hf => ?_)
    refine sv_fld hf rfl Try.underlying25 rfl sz_ents (8) rfl (by decide) (fun a hf => ?_)
    refine sv_lc hf hX rfl 0 rfl rfl Try.underlying22 rfl (by decide) (fun a hf => ?_)
    refine sv_len hf rfl Try.underlying22 (by decide) (fun a hf => ?_)
    refine sv_sub (k : Int) hf rfl rfl (by rw [wrap_in (by omega)]; omega) (by decide) (fun a hf => ?_)
    refine sv_idx (q := k) hf rfl rfl (by omega) Try.underlying22 einfo_ents (by decide) (fun a hf => ?_)
    refine sv_fld hf rfl Try.underlying73 rfl sz_int (o + k * 82) rfl (by decide) (fun a hf => ?_)
    refine sv_lm hf rfl ((hX.low.cell (p := ⟨B, o + k * 82, none⟩) hB).trans hc) Try.underlying3 rfl (by decide) (fun a hf => ?_)
    refine sv_as hf rfl (by decide) (fun a hf => ?_)
    replace hf := hf.sub (env' := [(2, .int .i64 t)]) (sub_cons rfl (sub_nil))
    refine sv_nil hf ?_
    refine wp_ret ?_
    try simp only [Exit.inBlock, Exit.then]
    exact bodyPost_ret (res_tmp (d := 2) (v := .int .i64 t) rfl (hf.rel 2 _ rfl)) hf.defers ⟨rfl, hX.low⟩
end Go.Proofs.Ytfpgklhbghahoaa
/- Election: copies of members by letters; members that hold the same. -/
namespace Go.Proofs.Ytfpgklhbghahoaa
open Go.ChangeShapes Go.WideShapes Go.ChangeAt Go.RowKit Go.ChangeMaps Go.Joins Go.Deep
set_option linter.unusedVariables false
set_option linter.unusedSimpArgs false
set_option maxRecDepth 100000
theorem eqC_intv {W W' : World} {F F' : Nat → Prop} {n : Nat} {u v : Value} (h : EqC Try.prog W W' F F' n 3 [u] [v]) : u = v := by
  cases n with
  | zero => exact h.elim
  | succ n =>
    unfold EqC at h
    simp only [Try.underlying3] at h
    obtain ⟨m, g1, g2, _⟩ := h
    rw [(List.cons.inj g1).1, (List.cons.inj g2).1]
theorem eqC_wf {W W' : World} {F F' : Nat → Prop} {n : Nat} {x : Int} {v : Value} (h : EqC Try.prog W W' F F' n 3 [.int .i64 x] [v]) : (Lit.int .i64 x).wf = true := by
  cases n with
  | zero => exact h.elim
  | succ n =>
    unfold EqC at h
    simp only [Try.underlying3] at h
    obtain ⟨m, g1, g2, g3⟩ := h
    have := (List.cons.inj g1).1
    injection this with _ this
    rw [this]; exact g3
theorem int_eqC {W W' : World} {F F' : Nat → Prop} {n : Nat} {x : Int} (h : (Lit.int .i64 x).wf = true) : EqC Try.prog W W' F F' (n + 1) 3 [.int .i64 x] [.int .i64 x] := by
  unfold EqC
  simp only [Try.underlying3]
  exact ⟨x, rfl, rfl, h⟩
theorem eqC_lens {W W' : World} {F F' : Nat → Prop} {n : Nat} {t e : TypeId} {ad : Option Addr} {l c : Nat} {v : Value} (hu : Try.prog.underlying t = some (.slice e)) (h : EqC Try.prog W W' F F' n t [.slice ad l c] [v]) : ∃ ad' c', v = .slice ad' l c' := by
  cases n with
  | zero => exact h.elim
  | succ n =>
    unfold EqC at h
    simp only [hu] at h
    obtain ⟨a, l', c', a2, c2, h1, h2, _⟩ := h
    obtain ⟨_, rfl, _⟩ := Value.slice.inj (List.cons.inj h1).1
    exact ⟨a2, c2, (List.cons.inj h2).1⟩
theorem e3c : Try.prog.cellsOf 3 = 1 := by kernel_rfl
theorem eEc : Try.prog.cellsOf 22 = 1 := by kernel_rfl
theorem eIc : Try.prog.cellsOf 23 = 1 := by kernel_rfl
theorem eMc : Try.prog.cellsOf 25 = 12 := by kernel_rfl
/-- the parts of members that hold the same -/
theorem mem_parts {W W' : World} {F F' : Nat → Prop} {n : Nat} {xs ys : List Value} (h : EqC Try.prog W W' F F' (n + 1) 25 xs ys) : xs.length = 12 ∧ ys.length = 12 ∧ (∀ i, i < 12 → i ≠ 8 → i ≠ 10 → i ≠ 11 → EqC Try.prog W W' F F' n 3 (part_ xs i 1) (part_ ys i 1)) ∧ EqC Try.prog W W' F F' n 22 (part_ xs 8 1) (part_ ys 8 1) ∧ EqC Try.prog W W' F F' n 23 (part_ xs 10 1) (part_ ys 10 1) ∧ EqC Try.prog W W' F F' n 23 (part_ xs 11 1) (part_ ys 11 1) := by
  obtain ⟨h1, h2, h3⟩ := (eqC_struct Try.underlying25).1 h
  rw [eMc] at h1 h2
  have f8 : EqC Try.prog W W' F F' n 22 (part_ xs 8 (Try.prog.cellsOf 22)) (part_ ys 8 (Try.prog.cellsOf 22)) := h3 8 _ rfl
  have f10 : EqC Try.prog W W' F F' n 23 (part_ xs 10 (Try.prog.cellsOf 23)) (part_ ys 10 (Try.prog.cellsOf 23)) := h3 10 _ rfl
  have f11 : EqC Try.prog W W' F F' n 23 (part_ xs 11 (Try.prog.cellsOf 23)) (part_ ys 11 (Try.prog.cellsOf 23)) := h3 11 _ rfl
  rw [eEc] at f8
  rw [eIc] at f10 f11
  refine ⟨h1, h2, fun i hi n8 n10 n11 => ?_, f8, f10, f11⟩
  have key : ∀ j, EqC Try.prog W W' F F' n 3 (part_ xs j (Try.prog.cellsOf 3)) (part_ ys j (Try.prog.cellsOf 3)) → EqC Try.prog W W' F F' n 3 (part_ xs j 1) (part_ ys j 1) := fun j h => by rwa [e3c] at h
  match i, hi with
  | 0, _ => exact key 0 (h3 0 _ rfl)
  | 1, _ => exact key 1 (h3 1 _ rfl)
  | 2, _ => exact key 2 (h3 2 _ rfl)
  | 3, _ => exact key 3 (h3 3 _ rfl)
  | 4, _ => exact key 4 (h3 4 _ rfl)
  | 5, _ => exact key 5 (h3 5 _ rfl)
  | 6, _ => exact key 6 (h3 6 _ rfl)
  | 7, _ => exact key 7 (h3 7 _ rfl)
  | 8, _ => exact absurd rfl n8
  | 9, _ => exact key 9 (h3 9 _ rfl)
  | 10, _ => exact absurd rfl n10
  | 11, _ => exact absurd rfl n11
theorem memEq {W W' : World} {F F' : Nat → Prop} {n : Nat} {id sz tm vt rl ld ti vs cm : Int} {lg nx mt lg' nx' mt' : Value} (hw : ∀ x ∈ [id, sz, tm, vt, rl, ld, ti, vs, cm], (Lit.int .i64 x).wf = true) (h8 : EqC Try.prog W W' F F' (n + 1) 22 [lg] [lg']) (h10 : EqC Try.prog W W' F F' (n + 1) 23 [nx] [nx']) (h11 : EqC Try.prog W W' F F' (n + 1) 23 [mt] [mt']) :
    EqC Try.prog W W' F F' (n + 2) 25 (memL id sz tm vt rl ld ti vs lg cm nx mt) (memL id sz tm vt rl ld ti vs lg' cm nx' mt') := by
  refine (eqC_struct Try.underlying25).2 ⟨by rw [eMc]; rfl, by rw [eMc]; rfl, fun i f hfi => ?_⟩
  match i, hfi with
  | 0, hfi => obtain rfl := Option.some.inj hfi; show EqC Try.prog _ _ _ _ (n + 1) 3 (part_ _ 0 (Try.prog.cellsOf 3)) (part_ _ 0 (Try.prog.cellsOf 3)); rw [e3c]; exact int_eqC (hw _ (by simp))
  | 1, hfi => obtain rfl := Option.some.inj hfi; show EqC Try.prog _ _ _ _ (n + 1) 3 (part_ _ 1 (Try.prog.cellsOf 3)) (part_ _ 1 (Try.prog.cellsOf 3)); rw [e3c]; exact int_eqC (hw _ (by simp))
  | 2, hfi => obtain rfl := Option.some.inj hfi; show EqC Try.prog _ _ _ _ (n + 1) 3 (part_ _ 2 (Try.prog.cellsOf 3)) (part_ _ 2 (Try.prog.cellsOf 3)); rw [e3c]; exact int_eqC (hw _ (by simp))
  | 3, hfi => obtain rfl := Option.some.inj hfi; show EqC Try.prog _ _ _ _ (n + 1) 3 (part_ _ 3 (Try.prog.cellsOf 3)) (part_ _ 3 (Try.prog.cellsOf 3)); rw [e3c]; exact int_eqC (hw _ (by simp))
  | 4, hfi => obtain rfl := Option.some.inj hfi; show EqC Try.prog _ _ _ _ (n + 1) 3 (part_ _ 4 (Try.prog.cellsOf 3)) (part_ _ 4 (Try.prog.cellsOf 3)); rw [e3c]; exact int_eqC (hw _ (by simp))
  | 5, hfi => obtain rfl := Option.some.inj hfi; show EqC Try.prog _ _ _ _ (n + 1) 3 (part_ _ 5 (Try.prog.cellsOf 3)) (part_ _ 5 (Try.prog.cellsOf 3)); rw [e3c]; exact int_eqC (hw _ (by simp))
  | 6, hfi => obtain rfl := Option.some.inj hfi; show EqC Try.prog _ _ _ _ (n + 1) 3 (part_ _ 6 (Try.prog.cellsOf 3)) (part_ _ 6 (Try.prog.cellsOf 3)); rw [e3c]; exact int_eqC (hw _ (by simp))
  | 7, hfi => obtain rfl := Option.some.inj hfi; show EqC Try.prog _ _ _ _ (n + 1) 3 (part_ _ 7 (Try.prog.cellsOf 3)) (part_ _ 7 (Try.prog.cellsOf 3)); rw [e3c]; exact int_eqC (hw _ (by simp))
  | 8, hfi => obtain rfl := Option.some.inj hfi; show EqC Try.prog _ _ _ _ (n + 1) 22 (part_ _ 8 (Try.prog.cellsOf 22)) (part_ _ 8 (Try.prog.cellsOf 22)); rw [eEc]; exact h8
  | 9, hfi => obtain rfl := Option.some.inj hfi; show EqC Try.prog _ _ _ _ (n + 1) 3 (part_ _ 9 (Try.prog.cellsOf 3)) (part_ _ 9 (Try.prog.cellsOf 3)); rw [e3c]; exact int_eqC (hw _ (by simp))
  | 10, hfi => obtain rfl := Option.some.inj hfi; show EqC Try.prog _ _ _ _ (n + 1) 23 (part_ _ 10 (Try.prog.cellsOf 23)) (part_ _ 10 (Try.prog.cellsOf 23)); rw [eIc]; exact h10
  | 11, hfi => obtain rfl := Option.some.inj hfi; show EqC Try.prog _ _ _ _ (n + 1) 23 (part_ _ 11 (Try.prog.cellsOf 23)) (part_ _ 11 (Try.prog.cellsOf 23)); rw [eIc]; exact h11
  | j + 12, hfi => simp at hfi
theorem copyMember_let (n : Nat) (id sz tm vt rl ld ti vs : Int) (ga : Option Addr) (gl gc : Nat) (cm : Int) (na : Option Addr) (nl nc : Nat) (ma : Option Addr) (ml mc : Nat) (W0 W : World) (hb0 : Below W0.heap.size W0 W) (hg : GoodC Try.prog W0 n 25 (memL id sz tm vt rl ld ti vs (.slice ga gl gc) cm (.slice na nl nc) (.slice ma ml mc))) :
    Calls Try.prog 36 #[mem id sz tm vt rl ld ti vs (.slice ga gl gc) cm (.slice na nl nc) (.slice ma ml mc)] W fun e W' => ∃ ga' gc' na' nc' ma' mc', e = .returned (mem id sz tm vt rl ld ti vs (.slice ga' gl gc') cm (.slice na' nl nc') (.slice ma' ml mc')) ∧
      (∃ m, m + 2 ≤ n ∧ EqC Try.prog W' W' (fun k => k < W0.heap.size) (fun k => W.heap.size ≤ k) (m + 1) 22 [.slice ga gl gc] [.slice ga' gl gc'] ∧ EqC Try.prog W' W' (fun k => k < W0.heap.size) (fun k => W.heap.size ≤ k) (m + 1) 23 [.slice na nl nc] [.slice na' nl nc'] ∧ EqC Try.prog W' W' (fun k => k < W0.heap.size) (fun k => W.heap.size ≤ k) (m + 1) 23 [.slice ma ml mc] [.slice ma' ml mc']) ∧ Below W.heap.size W W' := by
  refine (copyMember_ok n W0 W _ hb0 hg).mono ?_
  rintro e W' ⟨ds, rfl, hcp, hb⟩
  cases n with
  | zero => exact hg.elim
  | succ n =>
    obtain ⟨_, h2, hi, f8, f10, f11⟩ := mem_parts hcp
    match ds, h2 with
    | [d0, d1, d2, d3, d4, d5, d6, d7, d8, d9, d10, d11], _ =>
      obtain rfl := eqC_intv (hi 0 (by decide) (by decide) (by decide) (by decide))
      obtain rfl := eqC_intv (hi 1 (by decide) (by decide) (by decide) (by decide))
      obtain rfl := eqC_intv (hi 2 (by decide) (by decide) (by decide) (by decide))
      obtain rfl := eqC_intv (hi 3 (by decide) (by decide) (by decide) (by decide))
      obtain rfl := eqC_intv (hi 4 (by decide) (by decide) (by decide) (by decide))
      obtain rfl := eqC_intv (hi 5 (by decide) (by decide) (by decide) (by decide))
      obtain rfl := eqC_intv (hi 6 (by decide) (by decide) (by decide) (by decide))
      obtain rfl := eqC_intv (hi 7 (by decide) (by decide) (by decide) (by decide))
      obtain rfl := eqC_intv (hi 9 (by decide) (by decide) (by decide) (by decide))
      have g8 : EqC Try.prog W' W' (fun k => k < W0.heap.size) (fun k => W.heap.size ≤ k) n 22 [.slice ga gl gc] [d8] := f8
      have g10 : EqC Try.prog W' W' (fun k => k < W0.heap.size) (fun k => W.heap.size ≤ k) n 23 [.slice na nl nc] [d10] := f10
      have g11 : EqC Try.prog W' W' (fun k => k < W0.heap.size) (fun k => W.heap.size ≤ k) n 23 [.slice ma ml mc] [d11] := f11
      obtain ⟨ga', gc', rfl⟩ := eqC_lens Try.underlying22 g8
      obtain ⟨na', nc', rfl⟩ := eqC_lens Try.underlying23 g10
      obtain ⟨ma', mc', rfl⟩ := eqC_lens Try.underlying23 g11
      cases n with
      | zero => exact g8.elim
      | succ n => exact ⟨ga', gc', na', nc', ma', mc', rfl, ⟨n, by omega, g8, g10, g11⟩, hb⟩
/-- what follow makes of a member -/
def fTm (tm xt : Int) : Int := if xt ≤ tm then tm else xt
def fVt (tm xt vt : Int) : Int := if xt ≤ tm then vt else -1
def fRl (tm xt rl : Int) : Int := if xt ≤ tm then rl else 0
def fLd (tm xt ld : Int) : Int := if xt ≤ tm then ld else -1
def fTi (tm xt rl ti id : Int) : Int := if xt ≤ tm then ti else if rl = 2 then 10 + 3 * id else ti
def fVs (tm xt vs : Int) : Int := if xt ≤ tm then vs else 0
def fA (tm xt : Int) (a : Option Addr) : Option Addr := if xt ≤ tm then a else none
def fN (tm xt : Int) (a : Nat) : Nat := if xt ≤ tm then a else 0
theorem fol_eq (id sz tm vt rl ld ti vs : Int) (ga : Option Addr) (gl gc : Nat) (cm : Int) (na : Option Addr) (nl nc : Nat) (ma : Option Addr) (ml mc : Nat) (t : Int) :
    (if t ≤ tm then mem id sz tm vt rl ld ti vs (.slice ga gl gc) cm (.slice na nl nc) (.slice ma ml mc) else mem id sz t (-1) 0 (-1) (if rl = 2 then 10 + 3 * id else ti) 0 (.slice ga gl gc) cm nil nil) =
    mem id sz (fTm tm t) (fVt tm t vt) (fRl tm t rl) (fLd tm t ld) (fTi tm t rl ti id) (fVs tm t vs) (.slice ga gl gc) cm (.slice (fA tm t na) (fN tm t nl) (fN tm t nc)) (.slice (fA tm t ma) (fN tm t ml) (fN tm t mc)) := by
  by_cases h : t ≤ tm <;> simp [fTm, fVt, fRl, fLd, fTi, fVs, fA, fN, h]
theorem follow_let (id sz tm vt rl ld ti vs : Int) (ga : Option Addr) (gl gc : Nat) (cm : Int) (na : Option Addr) (nl nc : Nat) (ma : Option Addr) (ml mc : Nat) (t : Int) (w : World) (h0 : 0 ≤ id) (h7 : id ≤ 7) : Calls Try.prog 37 #[mem id sz tm vt rl ld ti vs (.slice ga gl gc) cm (.slice na nl nc) (.slice ma ml mc), .int .i64 t] w fun e w' =>
    e = .returned (mem id sz (fTm tm t) (fVt tm t vt) (fRl tm t rl) (fLd tm t ld) (fTi tm t rl ti id) (fVs tm t vs) (.slice ga gl gc) cm (.slice (fA tm t na) (fN tm t nl) (fN tm t nc)) (.slice (fA tm t ma) (fN tm t ml) (fN tm t mc))) ∧ Below w.heap.size w w' := by
  rw [← fol_eq]
  exact follow_any id sz tm vt rl ld ti vs ga gl gc cm na nl nc ma ml mc t w h0 h7
theorem rstep_let (id sz tm vt rl ld ti vs : Int) (ga : Option Addr) (gl gc : Nat) (cm : Int) (na : Option Addr) (nl nc : Nat) (ma : Option Addr) (ml mc : Nat) (t : Int) (w : World) (h0 : 0 ≤ id) (h7 : id ≤ 7) : Calls Try.prog 39 #[mem id sz tm vt rl ld ti vs (.slice ga gl gc) cm (.slice na nl nc) (.slice ma ml mc), .int .i64 t] w fun e w' =>
    e = .returned (mem id sz (fTm tm t) (fVt tm t vt) (fRl tm t rl) (fLd tm t ld) (fTi tm t rl ti id) (fVs tm t vs) (.slice ga gl gc) cm (.slice (fA tm t na) (fN tm t nl) (fN tm t nc)) (.slice (fA tm t ma) (fN tm t ml) (fN tm t mc))) ∧ Below w.heap.size w w' := by
  rw [← fol_eq]
  exact rstep_any id sz tm vt rl ld ti vs ga gl gc cm na nl nc ma ml mc t w h0 h7
theorem LastAt.uniq {W : World} {lg : Value} {t t' : Int} (h : LastAt W lg t) (h' : LastAt W lg t') : t = t' := by
  obtain ⟨ga, gl, gc, e, h⟩ := h
  obtain ⟨ga', gl', gc', e', h'⟩ := h'
  subst e
  obtain ⟨rfl, rfl, rfl⟩ := Value.slice.inj e'
  rcases h with ⟨h1, h2⟩ | ⟨B, o, k, h1, h2, h3, h4, h5⟩
  · rcases h' with ⟨g1, g2⟩ | ⟨B', o', k', g1, g2, g3, g4, g5⟩
    · rw [h2, g2]
    · omega
  · rcases h' with ⟨g1, g2⟩ | ⟨B', o', k', g1, g2, g3, g4, g5⟩
    · omega
    · subst h1
      obtain ⟨rfl, rfl, _⟩ := Addr.mk.inj (Option.some.inj g1)
      obtain rfl : k = k' := by omega
      rw [h5] at g5
      have := Option.some.inj g5
      injection this
theorem last_copy {W : World} {n : Nat} {u v : Value} {t : Int} (h : EqC Try.prog W W TT TT n 22 [u] [v]) (hu : LastAt W u t) : LastAt W v t := by
  obtain ⟨t', _, _, _, _, _, _, _, h1, h2, _⟩ := lastAt_eq h
  rw [hu.uniq h1]
  exact h2
/-- is a log new enough, is a vote granted? -/
def newB (xl xi lt : Int) (n : Nat) : Bool := decide (lt < xl) || (decide (xl = lt) && decide ((n : Int) ≤ xi))
def grantB (xt xf tm vt : Int) (nw : Bool) : Bool := decide (xt = tm) && (decide (vt = -1) || decide (vt = xf)) && nw
end Go.Proofs.Ytfpgklhbghahoaa
/- Regions that draw their order: values known ahead, boxes by what has been done (plain). -/
namespace Go.Proofs.Ytfpgklhbghahoaa
open Go.ChangeShapes Go.WideShapes Go.ChangeAt Go.RowKit Go.ChangeMaps Go.Joins Go.Deep
set_option linter.unusedVariables false
set_option linter.unusedSimpArgs false
set_option maxRecDepth 100000
def availB (ops : Array Oper) (i t : Nat) : Bool := (List.range ops.size).all fun j => match ops[j]? with
  | some o => !(o.dst == some t) || Region.waitsFor .any ops i j
  | none => true
theorem availB_spec {ops : Array Oper} {i t : Nat} (h : availB ops i t = true) : Avail ops (fun j => Region.waitsFor .any ops i j = true) t := fun j o ho hd => by
  have h2 := (List.all_eq_true.1 h) j (List.mem_range.2 (Array.getElem?_eq_some_iff.1 ho).1)
  simp only [ho, hd] at h2
  simpa using h2
def dstsB (ops : Array Oper) (N : Nat) : Bool := ops.all fun o => match o.dst with
  | some d => decide (d < N)
  | none => true
theorem dstsB_spec {ops : Array Oper} {N : Nat} (h : dstsB ops N = true) (i : Nat) (o : Oper) (d : Nat) (ho : ops[i]? = some o) (hd : o.dst = some d) : d < N := by
  have := (Array.all_eq_true_iff_forall_mem.1 h) o (Array.mem_of_getElem? ho)
  simp only [hd] at this
  simpa using this
def hasDst (ops : Array Oper) (t : Nat) : Bool := ops.any fun o => o.dst == some t
theorem hasDst_spec {ops : Array Oper} {t : Nat} (h : hasDst ops t = true) : ¬ Avail ops (fun _ => False) t := fun hav => by
  obtain ⟨o, hmem, hod⟩ := Array.any_eq_true'.1 h
  obtain ⟨j, hj, hjo⟩ := Array.mem_iff_getElem.1 hmem
  exact hav j o (by rw [Array.getElem?_eq_getElem hj, hjo]) (by simpa using hod)
def upd (f : Nat → Bool) (i : Nat) : Nat → Bool := fun j => if j = i then true else f j
theorem lookup_append {xs ys : VEnv} {t : Nat} {v : Value} (h : (xs ++ ys).lookup t = some v) : (∃ u, (t, u) ∈ xs) ∨ ys.lookup t = some v := by
  induction xs with
  | nil => exact .inr h
  | cons p xs ih =>
    obtain ⟨k, u⟩ := p
    by_cases e : t = k
    · subst e; exact .inl ⟨u, List.mem_cons_self⟩
    · have hb : (t == k) = false := by simpa using e
      simp only [List.cons_append, List.lookup, hb] at h
      rcases ih h with ⟨u', hu⟩ | h
      · exact .inl ⟨u', List.mem_cons_of_mem _ hu⟩
      · exact .inr h
theorem frv_of {N : Nat} {a : Act} {env : VEnv} (hN : a.tmps.size = N) (hd : a.defers = []) (h : ∀ p ∈ env, a.eval (.tmp p.1) = p.2) : FrV N env a := by
  refine ⟨hN, hd, fun t v hl => ?_⟩
  have : (t, v) ∈ env := by
    clear h
    induction env with
    | nil => cases hl
    | cons p env ih =>
      obtain ⟨k, u⟩ := p
      by_cases e : t = k
      · subst e
        simp [List.lookup] at hl
        subst hl
        exact List.mem_cons_self
      · have hb : (t == k) = false := by simpa using e
        simp only [List.lookup, hb] at hl
        exact List.mem_cons_of_mem _ (ih hl)
  exact h _ this
theorem all_nil {a : Act} : ∀ p ∈ ([] : VEnv), a.eval (.tmp p.1) = p.2 := fun p h => by cases h
theorem all_cons {a : Act} {t : Nat} {v : Value} {env : VEnv} (h : a.eval (.tmp t) = v) (hs : ∀ p ∈ env, a.eval (.tmp p.1) = p.2) : ∀ p ∈ (t, v) :: env, a.eval (.tmp p.1) = p.2 := fun p hp => by
  rcases List.mem_cons.1 hp with rfl | hp
  · exact h
  · exact hs p hp
theorem ex_as {P : Program} {w : World} {o : Oper} {ρ : Operand → Value} {x : Operand} {v : Value} (ho : o.op = .assign x) (hx : ρ x = v) : (execOp ρ o).run P w = .ok (.value v) w := by
  unfold execOp
  simp only [ho, hx, Sem.run_pure]
theorem ex_mv {P : Program} {w : World} {o : Oper} {ρ : Operand → Value} {x : Operand} {v : Value} (ho : o.op = .move x) (hx : ρ x = v) : (execOp ρ o).run P w = .ok (.value v) w := by
  unfold execOp
  simp only [ho, hx, Sem.run_pure]
theorem Bx.add {b : Base} {W : World} {l : List (Nat × List Value)} (h : Bx b l W) {C : Nat} {cs : List Value} (hb : Box W C cs) (hge : b.w.heap.size ≤ C) (hne : ∀ x ∈ l, x.1 ≠ C) (hbas : ∀ p ∈ b.bs, C < p.1.heap.size → ¬ p.2 C) : Bx b ((C, cs) :: l) W := by
  refine ⟨fun x hx => ?_, h.low, fun x hx => ?_, fun i j x y hi hj he => ?_, h.bas, fun p hp x hx hlt => ?_⟩
  · rcases List.mem_cons.1 hx with rfl | hx
    · exact hb
    · exact h.box x hx
  · rcases List.mem_cons.1 hx with rfl | hx
    · exact hge
    · exact h.ge x hx
  · match i, j, hi, hj with
    | 0, 0, _, _ => rfl
    | 0, j + 1, hi, hj =>
      have h1 : (C, cs) = x := Option.some.inj hi
      rw [← h1] at he
      exact absurd he.symm (hne y (List.mem_of_getElem? (by simpa using hj)))
    | i + 1, 0, hi, hj =>
      have h1 : (C, cs) = y := Option.some.inj hj
      rw [← h1] at he
      exact absurd he (hne x (List.mem_of_getElem? (by simpa using hi)))
    | i + 1, j + 1, hi, hj => rw [h.nd i j x y (by simpa using hi) (by simpa using hj) he]
  · rcases List.mem_cons.1 hx with rfl | hx
    · exact hbas p hp hlt
    · exact h.bge p hp x hx hlt
section
variable {P : Program} {w : World} {o : Oper} {a : Act} {N : Nat} {env : VEnv}
theorem ex_pk {b : Bool} {c p q : Operand} {v : Value} (hf : FrV N env a) (ho : o.op = .pick c p q) (hx : ev env c = some (.bool b)) (hp : ev env (if b then p else q) = some v) : (execOp a.eval o).run P w = .ok (.value v) w := by
  have hv := hf.ev hp
  unfold execOp
  cases b
  · simp only [ho, hf.ev hx, asBool, Sem.run_bind, Sem.run_pure, Result.andThen_ok]
    rw [show a.eval q = v from hv]; rfl
  · simp only [ho, hf.ev hx, asBool, Sem.run_bind, Sem.run_pure, Result.andThen_ok]
    rw [show a.eval p = v from hv]; rfl
theorem ex_cmp {op : BinOp} {xT zT : TypeId} {x z : Operand} {m n : Int} {b : Bool} (hf : FrV N env a) (ho : o.op = .binOp op xT x z zT) (hx : ev env x = some (.int .i64 m)) (hz : ev env z = some (.int .i64 n)) (hb : cmpI op m n = some b) : (execOp a.eval o).run P w = .ok (.value (.bool b)) w := by
  unfold execOp
  simp only [ho, hf.ev hx, hf.ev hz]
  have := cmpI_run (P := P) (xT := xT) (x := x) (z := z) hb w
  simp only [Sem.run_bind] at this ⊢
  rw [this]
  rfl
theorem ex_cmpb {op : BinOp} {xT zT : TypeId} {x z : Operand} {m r : Bool} (hf : FrV N env a) (ho : o.op = .binOp op xT x z zT) (hu : P.underlying xT = some .bool) (hx : ev env x = some (.bool m)) (hz : ev env z = some (.bool m)) (hb : (op = .eql ∧ r = true) ∨ (op = .neq ∧ r = false)) : (execOp a.eval o).run P w = .ok (.value (.bool r)) w := by
  unfold execOp
  rcases hb with ⟨rfl, rfl⟩ | ⟨rfl, rfl⟩
  · simp only [ho, hf.ev hx, hf.ev hz]
    simp [go_sem, hu]
  · simp only [ho, hf.ev hx, hf.ev hz]
    simp [go_sem, hu]
theorem ex_not {b : Bool} {xT : TypeId} {x : Operand} (hf : FrV N env a) (ho : o.op = .unOp .not xT x) (hx : ev env x = some (.bool b)) : (execOp a.eval o).run P w = .ok (.value (.bool (!b))) w := by
  unfold execOp
  simp only [ho, hf.ev hx]
  simp [go_sem]
theorem ex_len {t e : TypeId} {x : Operand} {ad : Option Addr} {n c : Nat} (hf : FrV N env a) (ho : o.op = .call { callee := .builtin .len, args := #[x], argTypes := #[t] }) (hx : ev env x = some (.slice ad n c)) (hu : P.underlying t = some (.slice e)) : (execOp a.eval o).run P w = .ok (.value (.int .i64 n)) w := by
  have hel : P.underlying t = some (.slice (P.elem t)) := by simp [Program.elem, hu]
  unfold execOp
  simp only [ho, resolve, invoke, builtin, Sem.run_bind, Sem.run_pure, Result.andThen_ok, List.map_toArray, List.map_cons, List.map_nil, hf.ev hx, run_len_slice w t _ ad n c hel]
  rfl
theorem ex_idx {t e : TypeId} {B p n c q k : Nat} {x z : Operand} (hf : FrV N env a) (ho : o.op = .indexAddr t x z) (hx : ev env x = some (.slice (some ⟨B, p, none⟩) n c)) (hz : ev env z = some (.int .i64 (q : Int))) (hq : q < n) (hu : P.underlying t = some (.slice e)) (hk : (P.info? e).map (·.size) = some k) : (execOp a.eval o).run P w = .ok (.value (.pointer (some ⟨B, p + q * k, none⟩))) w := by
  have hel : P.underlying t = some (.slice (P.elem t)) := by simp [Program.elem, hu]
  have hee : P.elem t = e := by simp [Program.elem, hu]
  have hsize : (sizeOf (P.elem t)).run P w = .ok k w := by
    rw [hee]
    cases hq : P.info? e with
    | none => simp [hq] at hk
    | some inf =>
      have : inf.size = k := by simpa [hq] using hk
      simp [sizeOf, typeInfo, hq, this]
  unfold execOp
  simp only [ho, hf.ev hx, hf.ev hz, Sem.run_bind, run_indexAt_slice w t ⟨B, p, none⟩ n c .i64 q hel]
  rw [if_pos ⟨by omega, by omega⟩, hsize]
  simp only [Result.andThen_ok, Int.toNat_natCast, Addr.add_mid, Sem.run_pure]
theorem ex_bld {T : TypeId} {xs : List (Nat × Operand)} {vs : List (Nat × Value)} {cs : List Value} (hf : FrV N env a) (ho : o.op = .build T xs.toArray) (hx : evp env xs = some vs) (hb : P.built T vs = some cs.toArray) : (execOp a.eval o).run P w = .ok (.value (.agg cs.toArray)) w := by
  have he : (xs.toArray.map fun (i, x) => (i, a.eval x)) = vs.toArray := by
    rw [List.map_toArray]
    exact congrArg List.toArray (hf.evp hx)
  unfold execOp
  simp only [ho, he, Sem.run_bind, run_build w T _ cs.toArray (by simpa using hb), Result.andThen_ok, Sem.run_pure]
theorem ex_vfld {S : TypeId} {x : Operand} {j b p : Nat} {fs : Array Field} {f : Field} (off : Nat) (hf : FrV N env a) (ho : o.op = .fieldAddr S x j) (hx : ev env x = some (.pointer (some ⟨b, p, none⟩))) (hu : P.underlying S = some (.struct fs)) (hj : fs[j]? = some f) (hs : ((P.info? f.type).map (·.size)).getD 0 ≠ 0) (hoff : p + f.offset = off) : (execOp a.eval o).run P w = .ok (.value (.pointer (some ⟨b, off, none⟩))) w := by
  subst hoff
  exact ex_field S x j b p fs f ho (hf.ev hx) hu hj hs
theorem ex_vlc {t : TypeId} {x : Operand} {b p : Nat} {cs : List Value} {v : Value} {td : TypeDesc} (hf : FrV N env a) (ho : o.op = .load t x) (hx : ev env x = some (.pointer (some ⟨b, p, none⟩))) (hb : Box w b cs) (hc : cs[p]? = some v) (hu : P.underlying t = some td) (hr : td.isRow = false) : (execOp a.eval o).run P w = .ok (.value v) w :=
  ex_load_cell t x b p v td ho (hf.ev hx) (hb.cell p v hc) hu hr
theorem ex_vlm {t : TypeId} {x : Operand} {b p : Nat} {v : Value} {td : TypeDesc} (hf : FrV N env a) (ho : o.op = .load t x) (hx : ev env x = some (.pointer (some ⟨b, p, none⟩))) (hc : w.cell? ⟨b, p, none⟩ = some v) (hu : P.underlying t = some td) (hr : td.isRow = false) : (execOp a.eval o).run P w = .ok (.value v) w :=
  ex_load_cell t x b p v td ho (hf.ev hx) hc hu hr
theorem ex_vlr {t : TypeId} {x : Operand} {b : Nat} {cs : List Value} {fs : Array Field} (hf : FrV N env a) (ho : o.op = .load t x) (hx : ev env x = some (.pointer (some ⟨b, 0, none⟩))) (hb : Box w b cs) (hu : P.underlying t = some (.struct fs)) (hn : (P.info? t).map (·.size) = some cs.length) : (execOp a.eval o).run P w = .ok (.value (.agg cs.toArray)) w :=
  ex_load_row t x b 0 cs (.struct fs) ho (hf.ev hx) hb.rng hu rfl hn
theorem ex_vmv {x : Operand} {v : Value} (hf : FrV N env a) (ho : o.op = .move x) (hx : ev env x = some v) : (execOp a.eval o).run P w = .ok (.value v) w := ex_mv ho (hf.ev hx)
theorem ex_vas {x : Operand} {v : Value} (hf : FrV N env a) (ho : o.op = .assign x) (hx : ev env x = some v) : (execOp a.eval o).run P w = .ok (.value v) w := ex_as ho (hf.ev hx)
theorem ex_vext {x : Operand} {j : Nat} {vs : Array Value} {v : Value} (hf : FrV N env a) (ho : o.op = .extract x j) (hx : ev env x = some (.tuple vs)) (hj : vs[j]? = some v) : (execOp a.eval o).run P w = .ok (.value v) w := by
  unfold execOp
  simp [ho, hf.ev hx, Instr.extract, hj]
end
section
variable {P : Program} {ops : Array Oper} {Q : Exit → Act → World → Prop} {N : Nat} {env : VEnv} {a : Act} {w : World} {S : World → Prop} {R : Act → World → Prop} {i d : Nat} {rest : List (Nat × Nat)} {oi : Oper} {v : Value}
theorem ov0 (hf : FrV N env a) (hi : ops[i]? = some oi) (hd : oi.dst = some d) (hdN : d < N) (hw : Region.wanted oi (yielded ops a.tmps) = true) (hrun : ∀ W, (execOp a.eval oi).run P W = .ok (.value v) W) (h : ∀ a', FrV N ((d, v) :: env) a' → wpOrd P ops Q S R rest a' w) : wpOrd P ops Q S R ((i, 0) :: rest) a w :=
  wpOrd_read0 v hi hw hrun (fun K hK => hK _ _ (by rw [hd]; exact h _ (hf.put hdN v)))
theorem ov1 (hf : FrV N env a) (hi : ops[i]? = some oi) (hd : oi.dst = some d) (hdN : d < N) (hw : Region.wanted oi (yielded ops a.tmps) = true) (hrun : ∀ W, S W → (execOp a.eval oi).run P W = .ok (.value v) W) (h : ∀ a', FrV N ((d, v) :: env) a' → wpOrd P ops Q S R rest a' w) : wpOrd P ops Q S R ((i, 1) :: rest) a w :=
  wpOrd_read1 v hi hw hrun (fun K hK => hK _ _ (by rw [hd]; exact h _ (hf.put hdN v)))
theorem ovs (hf : FrV N env a) (hi : ops[i]? = some oi) (hd : oi.dst = some d) (hdN : d < N) (hw : Region.wanted oi (yielded ops a.tmps) = false) (h : ∀ a', FrV N ((d, undef) :: env) a' → wpOrd P ops Q S R rest a' w) : wpOrd P ops Q S R ((i, 0) :: rest) a w :=
  ⟨oi, undef, hi, .inr ⟨hw, rfl⟩, by rw [hd]; exact h _ (hf.put hdN undef)⟩
theorem ovs1 (hf : FrV N env a) (hi : ops[i]? = some oi) (hd : oi.dst = some d) (hdN : d < N) (hw : Region.wanted oi (yielded ops a.tmps) = false) (h : ∀ a', FrV N ((d, undef) :: env) a' → wpOrd P ops Q S R rest a' w) : wpOrd P ops Q S R ((i, 1) :: rest) a w :=
  ⟨oi, undef, hi, .inr ⟨hw, rfl⟩, by rw [hd]; exact h _ (hf.put hdN undef)⟩
theorem ov2c {g : FuncId} {xs : List Operand} {vs : List Value} {ts : Array TypeId} {R' : Ending → World → Prop} (hf : FrV N env a) (hi : ops[i]? = some oi) (hd : oi.dst = some d) (hdN : d < N) (hw : Region.wanted oi (yielded ops a.tmps) = true) (ho : oi.op = .call { callee := .value (.func g), args := xs.toArray, argTypes := ts }) (hF : FnOK P g) (hx : evs env xs = some vs) (hc : Calls P g vs.toArray w R') (h : ∀ e w', R' e w' → ∃ v, e = .returned v ∧ S w' ∧ ∀ a', FrV N ((d, v) :: env) a' → wpOrd P ops Q S R rest a' w') : wpOrd P ops Q S R ((i, 2) :: rest) a w := by
  refine wpOrd_eff2 hi hw (fun K hK => ?_)
  unfold Oper.wp
  rw [ex_call (w := w) hF rfl ho, Oper.upon_enter, List.map_toArray, hf.evs hx]
  refine hc.mono ?_
  intro e w' hr
  obtain ⟨v, rfl, hs, hk⟩ := h e w' hr
  refine hK _ _ hs ?_
  rw [hd]
  exact hk _ (hf.put hdN v)
theorem ov2s (hf : FrV N env a) (hi : ops[i]? = some oi) (hd : oi.dst = some d) (hdN : d < N) (hw : Region.wanted oi (yielded ops a.tmps) = false) (hS : S w) (h : ∀ a', FrV N ((d, undef) :: env) a' → wpOrd P ops Q S R rest a' w) : wpOrd P ops Q S R ((i, 2) :: rest) a w := by
  show wpOp P ops Q i _ a w
  unfold wpOp
  simp only [hi]
  rw [if_neg (by rw [hw]; decide), hd]
  exact ⟨hS, h _ (hf.put hdN undef)⟩
theorem ov3 {w' : World} (hi : ops[i]? = some oi) (hd : oi.dst = none) (hw : Region.wanted oi (yielded ops a.tmps) = true) (hrun : (execOp a.eval oi).run P w = .ok .skip w') (h : wpOrd P ops Q S R rest a w') : wpOrd P ops Q S R ((i, 3) :: rest) a w := by
  refine wpOrd_eff3 hi hw (fun K hK => ?_)
  unfold Oper.wp
  rw [hrun, Oper.upon_skip, hd]
  exact hK _ _ h
theorem ov3v (hf : FrV N env a) (hi : ops[i]? = some oi) (hd : oi.dst = some d) (hdN : d < N) (hw : Region.wanted oi (yielded ops a.tmps) = true) (hrun : (execOp a.eval oi).run P w = .ok (.value v) w) (h : ∀ a', FrV N ((d, v) :: env) a' → wpOrd P ops Q S R rest a' w) : wpOrd P ops Q S R ((i, 3) :: rest) a w := by
  refine wpOrd_eff3 hi hw (fun K hK => ?_)
  unfold Oper.wp
  rw [hrun, Oper.upon_value, hd]
  exact hK _ _ (h _ (hf.put hdN v))
theorem wanted_known {j : Nat} {b : Bool} (hf : FrV N env a) (hN : dstB ops j N = true) (hg : oi.guard = some (j, b)) (h : gv ops env j = some (.bool b)) : Region.wanted oi (yielded ops a.tmps) = true := by
  rw [wanted_of hf (dstB_spec hN) hg h]; simp
theorem unwanted_known {j : Nat} {b b' : Bool} (hf : FrV N env a) (hN : dstB ops j N = true) (hg : oi.guard = some (j, b)) (h : gv ops env j = some (.bool b')) (hb : b' ≠ b) : Region.wanted oi (yielded ops a.tmps) = false := by
  rw [wanted_of hf (dstB_spec hN) hg h]; simpa using hb
theorem unwanted_undef {j : Nat} {b : Bool} (hf : FrV N env a) (hN : dstB ops j N = true) (hg : oi.guard = some (j, b)) (h : gv ops env j = some undef) : Region.wanted oi (yielded ops a.tmps) = false := by
  unfold gv at h
  split at h
  · rename_i o' ho
    split at h
    · rename_i d' hd'
      have hv := hf.rel d' _ h
      have hdN := dstB_spec hN d' o' ho hd'
      have h1 : a.tmps.getD d' undef = undef := hv
      have h2 : d' < a.tmps.size := by rw [hf.size]; exact hdN
      have h3 : a.tmps[d']? = some undef := by
        rw [Array.getElem?_eq_getElem h2]
        simp [h2] at h1
        rw [h1]
      unfold Region.wanted
      rw [hg]
      simp only
      unfold yielded
      simp only [ho, hd', Option.bind_some, h3]
      rfl
    · cases h
  · cases h
end
section
variable {P : Program} {ops : Array Oper} {Q : Exit → Act → World → Prop} {N : Nat}
theorem wp_region_SV {id : Nat} {a : Act} {w : World} {env : VEnv} (Vd : VEnv) (S : (Nat → Bool) → World → Prop) (hm : P.follows .mixedOrders = true) (hb : backB .any ops = true) (hdst : dstsB ops N = true) (hkeys : (Vd.map (·.1)).all (hasDst ops) = true) (hf : FrV N env a)
    (hS : S (fun _ => false) w.drew)
    (hop : ∀ (i : Nat) (o : Oper), ops[i]? = some o → ∀ (listed : Nat → Bool) (a : Act) (W : World), listed i = false → (∀ j, Region.waitsFor .any ops i j = true → listed j = true) → a.tmps.size = N → a.defers = [] → (∀ t v, (Vd ++ env).lookup t = some v → availB ops i t = true → a.eval (.tmp t) = v) → S listed W →
      Region.wanted o (yielded ops a.tmps) = true ∧ ((∃ d v W', o.dst = some d ∧ (execOp a.eval o).run P W = .ok (.value v) W' ∧ (Vd ++ env).lookup d = some v ∧ S (upd listed i) W') ∨ ∃ W', o.dst = none ∧ (execOp a.eval o).run P W = .ok .skip W' ∧ S (upd listed i) W'))
    (hQ : ∀ (listed : Nat → Bool) a' W, (∀ i, i < ops.size → listed i = true) → S listed W → FrV N (Vd ++ env) a' → Q .normal a' W) : (Code.region id ops true).wp P Q a w := by
  have hset : ∀ (listed : Array Bool) (i : Nat), i < listed.size → (fun j => (listed.setIfInBounds i true).getD j false) = upd (fun j => listed.getD j false) i := fun listed i hi => by
    funext j
    unfold upd
    by_cases e : j = i
    · subst e
      rw [if_pos rfl]
      simp [hi]
    · rw [if_neg e, getD_set_ne false (fun e' => e e'.symm)]
  refine wp_region_S (N := N) (V := fun t => (Vd ++ env).lookup t) (fun listed _ W => S (fun j => listed.getD j false) W) hm hb ?_ hf.size hf.defers (fun t v hv hav => ?_) (fun i o d ho hd => dstsB_spec hdst i o d ho hd) (fun i o ho listed a W hls hun hpast hN hd hval hSw => ?_) (fun listed a' W hall hSw h1 h2 h3 => hQ _ a' W hall hSw ⟨h1, h2, h3⟩)
  · have : (fun j => (Array.replicate ops.size false).getD j false) = fun _ => false := by funext j; exact getD_replicate_false _ _
    rw [this]; exact hS
  · rcases lookup_append hv with ⟨u, hu⟩ | h
    · exact absurd hav (hasDst_spec ((List.all_eq_true.1 hkeys) t (List.mem_map.2 ⟨_, hu, rfl⟩)))
    · exact hf.rel t v h
  · have hi : i < listed.size := by rw [hls]; exact (Array.getElem?_eq_some_iff.1 ho).1
    obtain ⟨hw, h⟩ := hop i o ho (fun j => listed.getD j false) a W hun hpast hN hd (fun t v hv hav => hval t v hv (availB_spec hav)) hSw
    refine .inl ⟨hw, fun K hK => ?_⟩
    rcases h with ⟨d, v, W', hd', hr, hl, hS'⟩ | ⟨W', hd', hr, hS'⟩
    · unfold Oper.wp
      rw [hr, Oper.upon_value]
      refine hK v W' (fun d2 u hd2 hu => ?_) (by rw [hset listed i hi]; exact hS')
      rw [hd'] at hd2
      obtain rfl := Option.some.inj hd2
      rw [hl] at hu
      exact Option.some.inj hu
    · unfold Oper.wp
      rw [hr, Oper.upon_skip]
      refine hK undef W' (fun d2 u hd2 hu => ?_) (by rw [hset listed i hi]; exact hS')
      rw [hd'] at hd2
      cases hd2
end
end Go.Proofs.Ytfpgklhbghahoaa
