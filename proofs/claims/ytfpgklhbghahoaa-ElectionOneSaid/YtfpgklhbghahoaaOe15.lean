/- Merged texts: Eh39. -/
import Derived.Test.YtfpgklhbghahoaaOe14
/- Election: the law One. -/
namespace Go.Proofs.Ytfpgklhbghahoaa
open Go.ChangeShapes Go.WideShapes Go.ChangeAt Go.RowKit Go.ChangeMaps Go.Joins Go.Deep
set_option linter.unusedVariables false
set_option linter.unusedSimpArgs false
set_option maxRecDepth 100000
theorem new_ok {q n : Nat} (h1 : 1 ≤ n) (h7 : n ≤ 7) (h : q < n) (w : World) : Calls Try.prog 9 #[.int .i64 (q : Int), .int .i64 (n : Int)] w fun e w' => e = .returned (.tuple #[mem q n 0 (-1) 0 (-1) (10 + 3 * (q : Int)) 0 nil 0 nil nil, .int .i64 0]) ∧ Below w.heap.size w w' := by
  have := new_any (q : Int) (n : Int) w
  unfold newV at this
  rwa [if_pos ⟨by omega, by omega, by omega, by omega⟩] at this
theorem LogsIn.entry {w : World} {la : Option Addr} {ln : Nat} {lg0 : Nat → Value} {lgs : Nat → LogC} {es0 : Nat → List (List Value)} (h : LogsIn w la ln lg0 lgs es0) {q k : Nat} {ga : Option Addr} {gl gc : Nat} (e : lg0 q = .slice ga gl gc) (hk : k < gl) : ∃ EB EO te, ga = some ⟨EB, EO, none⟩ ∧ EB < w.heap.size ∧ w.cell? ⟨EB, EO + k * 82, none⟩ = some (.int .i64 te) ∧ (Lit.int .i64 te).wf = true := by
  have he := h.ent q
  rw [e] at he
  rcases he with ⟨_, a, c, e2⟩ | ⟨B, oo, cap, e2, hB, h0, hm, hr⟩
  · obtain ⟨_, rfl, _⟩ := Value.slice.inj e2; omega
  · obtain ⟨rfl, rfl, rfl⟩ := Value.slice.inj e2
    obtain ⟨h1, _, _, t, s, r, e3⟩ := hr k hk
    have hw := h.wf q _ (List.getElem_mem hk)
    rw [e3] at h1 hw
    have := h1 0 _ rfl
    exact ⟨B, oo, t, rfl, hB, this, hw⟩
theorem einfo_mems : (Try.prog.info? 25).map (·.size) = some 12 := info_mem
theorem sz_u8 : ((Try.prog.info? 5).map (·.size)).getD 0 ≠ 0 := by rw [show ((Try.prog.info? 5).map (·.size)).getD 0 = 1 by kernel_rfl]; decide
theorem info_mem3 : (Try.prog.info? 25).map (fun i => (i.zero, i.size, i.bytes)) = some (some (.agg #[.int .i64 0, .int .i64 0, .int .i64 0, .int .i64 0, .int .i64 0, .int .i64 0, .int .i64 0, .int .i64 0, .slice none 0 0, .int .i64 0, .slice none 0 0, .slice none 0 0]), 12, 144) := by kernel_rfl
set_option maxHeartbeats 2000000 in
theorem law_one (z : Int) (hz0 : 0 ≤ z) (hz : z < 256) (la : Option Addr) (ln lc : Nat) (ca : Option Addr) (cn cc : Nat) (lg0 : Nat → Value) (lgs : Nat → LogC) (es0 : Nat → List (List Value)) (w : World) (hL : LogsIn w la ln lg0 lgs es0) (hact : ∀ q, q < cn → ∃ (CB CO : Nat) (cb ab : Bool) (u : Int), ca = some ⟨CB, CO, none⟩ ∧ CB < w.heap.size ∧ w.cell? ⟨CB, CO + q * 3 + 0, none⟩ = some (.bool cb) ∧ w.cell? ⟨CB, CO + q * 3 + 1, none⟩ = some (.bool ab) ∧ w.cell? ⟨CB, CO + q * 3 + 2, none⟩ = some (.int .u8 u) ∧ 0 ≤ u ∧ u < 256) :
    Calls Try.prog 7 #[.int .u8 z, .slice la ln lc, .slice ca cn cc] w fun e w' => e = .returned (.bool true) ∧ Below w.heap.size w w' := by
  obtain ⟨n, hn⟩ : ∃ n : Nat, (n : Int) = 1 + z % 7 := ⟨(1 + z % 7).toNat, by omega⟩
  have hn1 : 1 ≤ n := by omega
  have hn7 : n ≤ 7 := by omega
  refine calls_frv (N := 286) (vs := [.int .u8 z, .slice la ln lc, .slice ca cn cc]) [(0, .int .u8 z), (1, .slice la ln lc), (2, .slice ca cn cc)] Try.func7 rfl rfl (of_decide_eq_true rfl) (fun p hp => by simp only [List.mem_cons, List.not_mem_nil, or_false] at hp; rcases hp with rfl | rfl | rfl <;> rfl) (fun a hf => ?_)
  have hX := Bx.start w
  refine wp_seq ?_
  refine wp_region_lit ?_
  refine sv_ac hf (by decide) (fun a hf => ?_)
  refine sv_nil hf ?_
  refine wp_seq ?_
  refine wp_region_lit ?_
  refine sv_mv hf rfl (by decide) (fun a hf => ?_)
  refine sv_run (v := .int .i64 z) hf (by decide) (fun a hf => ex_conv8 hf rfl rfl Try.underlying5 Try.underlying3 hz0 hz) (fun a hf => ?_)
  refine sv_run (v := .int .i64 (z % 7)) hf (by decide) (fun a hf => ex_rem hf rfl rfl rfl hz0 (by omega) (by decide) (by decide) rfl) (fun a hf => ?_)
  refine sv_add (n : Int) hf rfl rfl (by rw [wrap_in (by omega)]; omega) (by decide) (fun a hf => ?_)
  refine sv_as hf rfl (by decide) (fun a hf => ?_)
  replace hf := hf.sub (env' := [(7, .int .i64 (n : Int)), (6, .bool false), (1, .slice la ln lc), (2, .slice ca cn cc)]) (sub_cons rfl (sub_cons rfl (sub_cons rfl (sub_cons rfl (sub_nil)))))
  refine sv_nil hf ?_
  refine wp_seq ?_
  refine wp_seq ?_
  refine wp_region_lit ?_
  refine sv_mv hf rfl (by decide) (fun a hf => ?_)
  refine sv_len hf rfl Try.underlying43 (by decide) (fun a hf => ?_)
  rcases Decidable.em (120 < ((cn : Nat) : Int)) with hq1 | hq1
  ·
    refine sv_cmp hf rfl rfl true (congrArg some (decide_eq_true hq1)) (by decide) (fun a hf => ?_)
    refine sv_mv hf rfl (by decide) (fun a hf => ?_)
    refine sv_skip1 hf rfl rfl (by decide) (by decide) (fun a hf => ?_)
    refine sv_skip1 hf rfl rfl (by decide) (by decide) (fun a hf => ?_)
    refine sv_skip1 hf rfl rfl (by decide) (by decide) (fun a hf => ?_)
    refine sv_pk hf rfl rfl (by decide) (fun a hf => ?_)
    replace hf := hf.sub (env' := [(35, .bool true), (7, .int .i64 (n : Int)), (6, .bool false), (1, .slice la ln lc), (2, .slice ca cn cc)]) (sub_cons rfl (sub_cons rfl (sub_cons rfl (sub_cons rfl (sub_cons rfl (sub_nil))))))
    refine sv_nil hf ?_
    refine wp_cond_true (hf.rel _ _ rfl) ?_
    refine wp_seq ?_
    refine wp_region_lit ?_
    refine sv_call hf fnOK_14 rfl (awake_any _) (by decide) ?_
    rintro e W ⟨rfl, hb⟩
    replace hX := hX.keep hb
    clear hb
    refine ⟨_, rfl, fun a hf => ?_⟩
    refine sv_as hf rfl (by decide) (fun a hf => ?_)
    replace hf := hf.sub (env' := [(6, .bool true), (7, .int .i64 (n : Int)), (1, .slice la ln lc), (2, .slice ca cn cc)]) (sub_cons rfl (sub_cons rfl (sub_cons rfl (sub_cons rfl (sub_nil)))))
    refine sv_nil hf ?_
    refine wp_ret ?_
    try simp only [Exit.inBlock, Exit.then]
    exact bodyPost_ret (res_tmp (d := 6) (v := .bool true) rfl (hf.rel 6 _ rfl)) hf.defers ⟨rfl, hX.low⟩
  ·
    refine sv_cmp hf rfl rfl false (congrArg some (decide_eq_false hq1)) (by decide) (fun a hf => ?_)
    refine sv_mv hf rfl (by decide) (fun a hf => ?_)
    refine sv_want hf rfl rfl ?_
    refine sv_mv hf rfl (by decide) (fun a hf => ?_)
    refine sv_want hf rfl rfl ?_
    refine sv_len hf rfl Try.underlying42 (by decide) (fun a hf => ?_)
    refine sv_want hf rfl rfl ?_
    rcases Decidable.em (7 < ((ln : Nat) : Int)) with hq2 | hq2
    ·
      refine sv_cmp hf rfl rfl true (congrArg some (decide_eq_true hq2)) (by decide) (fun a hf => ?_)
      refine sv_pk hf rfl rfl (by decide) (fun a hf => ?_)
      replace hf := hf.sub (env' := [(35, .bool true), (7, .int .i64 (n : Int)), (6, .bool false), (1, .slice la ln lc), (2, .slice ca cn cc)]) (sub_cons rfl (sub_cons rfl (sub_cons rfl (sub_cons rfl (sub_cons rfl (sub_nil))))))
      refine sv_nil hf ?_
      refine wp_cond_true (hf.rel _ _ rfl) ?_
      refine wp_seq ?_
      refine wp_region_lit ?_
      refine sv_call hf fnOK_14 rfl (awake_any _) (by decide) ?_
      rintro e W ⟨rfl, hb⟩
      replace hX := hX.keep hb
      clear hb
      refine ⟨_, rfl, fun a hf => ?_⟩
      refine sv_as hf rfl (by decide) (fun a hf => ?_)
      replace hf := hf.sub (env' := [(6, .bool true), (7, .int .i64 (n : Int)), (1, .slice la ln lc), (2, .slice ca cn cc)]) (sub_cons rfl (sub_cons rfl (sub_cons rfl (sub_cons rfl (sub_nil)))))
      refine sv_nil hf ?_
      refine wp_ret ?_
      try simp only [Exit.inBlock, Exit.then]
      exact bodyPost_ret (res_tmp (d := 6) (v := .bool true) rfl (hf.rel 6 _ rfl)) hf.defers ⟨rfl, hX.low⟩
    ·
      refine sv_cmp hf rfl rfl false (congrArg some (decide_eq_false hq2)) (by decide) (fun a hf => ?_)
      refine sv_pk hf rfl rfl (by decide) (fun a hf => ?_)
      replace hf := hf.sub (env' := [(35, .bool false), (7, .int .i64 (n : Int)), (6, .bool false), (1, .slice la ln lc), (2, .slice ca cn cc)]) (sub_cons rfl (sub_cons rfl (sub_cons rfl (sub_cons rfl (sub_cons rfl (sub_nil))))))
      refine sv_nil hf ?_
      refine wp_cond_false (hf.rel _ _ rfl) ?_
      refine wp_skip ?_
      refine wp_seq ?_
      refine wp_region_lit ?_
      refine sv_ac hf (by decide) (fun a hf => ?_)
      replace hf := hf.sub (env' := [(8, .slice none 0 0), (7, .int .i64 (n : Int)), (6, .bool false), (1, .slice la ln lc), (2, .slice ca cn cc)]) (sub_cons rfl (sub_cons rfl (sub_cons rfl (sub_cons rfl (sub_cons rfl (sub_nil))))))
      refine sv_nil hf ?_
      refine wp_seq ?_
      refine wp_seq ?_
      refine wp_region_lit ?_
      refine sv_ac hf (by decide) (fun a hf => ?_)
      refine sv_nil hf ?_
      refine wp_block (wp_loop (fun a X => ∃ (q : Nat) (A : Nat → Mb) (css : List (List Value)) (sa : Option Addr) (sl sc : Nat), FrV 286 [(1, .slice la ln lc), (2, .slice ca cn cc), (6, .bool false), (7, .int .i64 (n : Int)), (8, .slice sa sl sc), (9, .int .i64 (q : Int))] a ∧ Bx ⟨w, []⟩ [] X ∧ q ≤ n ∧ SetB w X n q lg0 lgs es0 A css (.slice sa sl sc)) (fun a _ => n - (intOf (a.eval (.tmp 9))).toNat) ⟨0, fun _ => ⟨0, 0, 0, 0, 0, 0⟩, [], _, _, _, hf.sub (sub_cons rfl (sub_cons rfl (sub_cons rfl (sub_cons rfl (sub_cons rfl (sub_cons rfl (sub_nil))))))), hX, Nat.zero_le _, SetB.nil w n lg0 lgs es0 _ hX.low.size⟩ ?_)
      clear hf hX
      rintro a W ⟨q, A, css, sa, sl, sc, hf, hX, hq, hSB⟩
      have hm9 : a.eval (.tmp 9) = .int .i64 (q : Int) := hf.rel 9 _ rfl
      rcases Decidable.em ((q : Int) < (n : Int)) with hgo | hgo
      ·
        refine wp_seq (wp_seq ?_)
        refine wp_region_lit ?_
        refine sv_mv hf rfl (by decide) (fun a hf => ?_)
        refine sv_mv hf rfl (by decide) (fun a hf => ?_)
        refine sv_cmp hf rfl rfl true (congrArg some (decide_eq_true hgo)) (by decide) (fun a hf => ?_)
        refine sv_nil hf ?_
        refine wp_cond_true (hf.rel _ _ rfl) (wp_skip ?_)
        refine wp_seq (wp_block ?_)
        have hqn : q < n := by omega
        refine wp_seq ?_
        refine wp_region_lit ?_
        refine sv_mv hf rfl (by decide) (fun a hf => ?_)
        refine sv_mv hf rfl (by decide) (fun a hf => ?_)
        refine sv_call hf fnOK_9 rfl (new_ok hn1 hn7 (by omega) _) (by decide) ?_
        rintro e W ⟨rfl, hb⟩
        replace hX := hX.keep hb
        replace hSB := hSB.below hb
        clear hb
        refine ⟨_, rfl, fun a hf => ?_⟩
        refine sv_mv hf rfl (by decide) (fun a hf => ?_)
        refine sv_ext hf rfl rfl (by decide) (fun a hf => ?_)
        refine sv_ext hf rfl rfl (by decide) (fun a hf => ?_)
        refine sv_alloc (zs := [.int .i64 0, .int .i64 0, .int .i64 0, .int .i64 0, .int .i64 0, .int .i64 0, .int .i64 0, .int .i64 0, .slice none 0 0, .int .i64 0, .slice none 0 0, .slice none 0 0]) hf hX zero_mem (by decide) (fun a C3 W hC hf hX hA => ?_)
        have hCS := fun k hk => Nat.lt_of_lt_of_eq (World.ownsRow.lt hSB.own k hk).2 hC.symm
        have hCw := Nat.le_trans hSB.ge (Nat.le_of_eq hC.symm)
        replace hSB := hSB.below hA
        clear hC hA
        refine sv_sr hf hX rfl rfl 0 rfl rfl info_mem (fun v hv => List.all_eq_true.1 (show List.all [.int .i64 (q : Int), .int .i64 (n : Int), .int .i64 0, .int .i64 (-1), .int .i64 0, .int .i64 (-1), .int .i64 (10 + 3 * (q : Int)), .int .i64 0, .slice none 0 0, .int .i64 0, .slice none 0 0, .slice none 0 0] (·.oneCell') = true from rfl) v hv) [(C3, [.int .i64 (q : Int), .int .i64 (n : Int), .int .i64 0, .int .i64 (-1), .int .i64 0, .int .i64 (-1), .int .i64 (10 + 3 * (q : Int)), .int .i64 0, .slice none 0 0, .int .i64 0, .slice none 0 0, .slice none 0 0])] rfl (fun W hX hO => ?_)
        replace hSB := hSB.only hO hCw hCS
        clear hO
        refine sv_as hf rfl (by decide) (fun a hf => ?_)
        replace hf := hf.sub (env' := [(11, .int .i64 0), (10, .pointer (some ⟨C3, 0, none⟩)), (47, .int .i64 0), (46, .agg #[.int .i64 (q : Int), .int .i64 (n : Int), .int .i64 0, .int .i64 (-1), .int .i64 0, .int .i64 (-1), .int .i64 (10 + 3 * (q : Int)), .int .i64 0, .slice none 0 0, .int .i64 0, .slice none 0 0, .slice none 0 0]), (42, .tuple #[.agg #[.int .i64 (q : Int), .int .i64 (n : Int), .int .i64 0, .int .i64 (-1), .int .i64 0, .int .i64 (-1), .int .i64 (10 + 3 * (q : Int)), .int .i64 0, .slice none 0 0, .int .i64 0, .slice none 0 0, .slice none 0 0], .int .i64 0]), (45, .tuple #[.agg #[.int .i64 (q : Int), .int .i64 (n : Int), .int .i64 0, .int .i64 (-1), .int .i64 0, .int .i64 (-1), .int .i64 (10 + 3 * (q : Int)), .int .i64 0, .slice none 0 0, .int .i64 0, .slice none 0 0, .slice none 0 0], .int .i64 0]), (44, .int .i64 (n : Int)), (43, .int .i64 (q : Int)), (38, .int .i64 (n : Int)), (37, .int .i64 (q : Int)), (1, .slice la ln lc), (2, .slice ca cn cc), (6, .bool false), (7, .int .i64 (n : Int)), (8, .slice sa sl sc), (9, .int .i64 (q : Int))]) (sub_cons rfl (sub_cons rfl (sub_cons rfl (sub_cons rfl (sub_cons rfl (sub_cons rfl (sub_cons rfl (sub_cons rfl (sub_cons rfl (sub_cons rfl (sub_cons rfl (sub_cons rfl (sub_cons rfl (sub_cons rfl (sub_cons rfl (sub_cons rfl (sub_nil)))))))))))))))))
        refine sv_nil hf ?_
        refine wp_seq ?_
        refine wp_seq ?_
        refine wp_region_lit ?_
        refine sv_mv hf rfl (by decide) (fun a hf => ?_)
        refine sv_cmp hf rfl rfl false (congrArg some (by rw [decide_eq_true rfl]; rfl)) (by decide) (fun a hf => ?_)
        refine sv_nil hf ?_
        refine wp_cond_false (hf.rel _ _ rfl) ?_
        refine wp_skip ?_
        refine wp_seq ?_
        refine wp_seq ?_
        refine wp_region_lit ?_
        refine sv_mv hf rfl (by decide) (fun a hf => ?_)
        refine sv_mv hf rfl (by decide) (fun a hf => ?_)
        refine sv_len hf rfl Try.underlying42 (by decide) (fun a hf => ?_)
        rcases Decidable.em ((q : Int) < ((ln : Nat) : Int)) with hq4 | hq4
        ·
          refine sv_cmp hf rfl rfl true (congrArg some (decide_eq_true hq4)) (by decide) (fun a hf => ?_)
          refine sv_nil hf ?_
          refine wp_cond_true (hf.rel _ _ rfl) ?_
          refine wp_seq ?_
          obtain ⟨LB, LO, hla, hLB, hLc⟩ := hL.inn q (by omega)
          obtain ⟨ga, gc, hlq⟩ := hL.sl q
          have hlm : (lgs q).len ≤ 9223372036854775807 := by rw [← hL.len q]; exact (hL.ent q).le
          refine wp_region_lit ?_
          refine sv_mv hf rfl (by decide) (fun a hf => ?_)
          refine sv_mv hf rfl (by decide) (fun a hf => ?_)
          refine sv_idx (k := 1) (q := q) (B := LB) (o := LO) hf (show _ = some (Value.slice (some ⟨LB, LO, none⟩) ln lc) from by rw [← hla]; rfl) rfl (by omega) Try.underlying42 (by kernel_rfl) (by decide) (fun a hf => ?_)
          refine sv_lm hf rfl ((hX.low.cell (p := ⟨LB, LO + q * 1, none⟩) hLB).trans (by rw [Nat.mul_one, hLc, hlq])) Try.underlying22 rfl (by decide) (fun a hf => ?_)
          refine sv_fld hf rfl Try.underlying25 rfl sz_ents (8) rfl (by decide) (fun a hf => ?_)
          refine sv_sc (cs' := [.int .i64 (q : Int), .int .i64 (n : Int), .int .i64 0, .int .i64 (-1), .int .i64 0, .int .i64 (-1), .int .i64 (10 + 3 * (q : Int)), .int .i64 0, .slice ga ((lgs q).len) gc, .int .i64 0, .slice none 0 0, .slice none 0 0]) hf hX rfl rfl 0 rfl (of_decide_eq_true rfl) rfl info_ents rfl [(C3, [.int .i64 (q : Int), .int .i64 (n : Int), .int .i64 0, .int .i64 (-1), .int .i64 0, .int .i64 (-1), .int .i64 (10 + 3 * (q : Int)), .int .i64 0, .slice ga ((lgs q).len) gc, .int .i64 0, .slice none 0 0, .slice none 0 0])] rfl (fun W hX hO => ?_)
          replace hSB := hSB.only hO hCw hCS
          clear hO
          refine sv_nil hf ?_
          refine wp_seq ?_
          refine wp_region_lit ?_
          refine sv_ac hf (by decide) (fun a hf => ?_)
          refine sv_nil hf ?_
          refine wp_block (wp_loop (fun a X => ∃ (k : Nat) (T : Int), FrV 286 [(1, .slice la ln lc), (2, .slice ca cn cc), (6, .bool false), (7, .int .i64 (n : Int)), (8, .slice sa sl sc), (9, .int .i64 (q : Int)), (10, .pointer (some ⟨C3, 0, none⟩)), (12, .int .i64 (k : Int))] a ∧ Bx ⟨w, []⟩ [(C3, [.int .i64 (q : Int), .int .i64 (n : Int), .int .i64 T, .int .i64 (-1), .int .i64 0, .int .i64 (-1), .int .i64 (10 + 3 * (q : Int)), .int .i64 0, .slice ga ((lgs q).len) gc, .int .i64 0, .slice none 0 0, .slice none 0 0])] X ∧ k ≤ (lgs q).len ∧ 0 ≤ T ∧ (Lit.int .i64 T).wf = true ∧ SetB w X n q lg0 lgs es0 A css (.slice sa sl sc)) (fun a _ => (lgs q).len - (intOf (a.eval (.tmp 12))).toNat) ⟨0, 0, hf.sub (sub_cons rfl (sub_cons rfl (sub_cons rfl (sub_cons rfl (sub_cons rfl (sub_cons rfl (sub_cons rfl (sub_cons rfl (sub_nil))))))))), hX, Nat.zero_le _, Int.le_refl _, by decide, hSB⟩ ?_)
          clear hf hX
          rintro a W ⟨k, T, hf, hX, hk, hT0, hTw, hSB⟩
          have hm12 : a.eval (.tmp 12) = .int .i64 (k : Int) := hf.rel 12 _ rfl
          rcases Decidable.em ((k : Int) < (((lgs q).len : Nat) : Int)) with hgo | hgo
          ·
            refine wp_seq (wp_seq ?_)
            refine wp_region_lit ?_
            refine sv_mv hf rfl (by decide) (fun a hf => ?_)
            refine sv_fld hf rfl Try.underlying25 rfl sz_ents (8) rfl (by decide) (fun a hf => ?_)
            refine sv_lc hf hX rfl 0 rfl rfl Try.underlying22 rfl (by decide) (fun a hf => ?_)
            refine sv_len hf rfl Try.underlying22 (by decide) (fun a hf => ?_)
            refine sv_cmp hf rfl rfl true (congrArg some (decide_eq_true hgo)) (by decide) (fun a hf => ?_)
            refine sv_nil hf ?_
            refine wp_cond_true (hf.rel _ _ rfl) (wp_skip ?_)
            refine wp_seq (wp_block ?_)
            obtain ⟨EB, EO, te, hga, hEB, hEc, hte⟩ := hL.entry hlq (show k < (lgs q).len by omega)
            refine wp_seq ?_
            refine wp_region_ordW 9 8 [(0, 0), (1, 1), (2, 0), (3, 0), (4, 0), (5, 1), (6, 0), (7, 1), (8, 3)] (fun X => Bx ⟨w, []⟩ [(C3, [.int .i64 (q : Int), .int .i64 (n : Int), .int .i64 T, .int .i64 (-1), .int .i64 0, .int .i64 (-1), .int .i64 (10 + 3 * (q : Int)), .int .i64 0, .slice ga ((lgs q).len) gc, .int .i64 0, .slice none 0 0, .slice none 0 0])] X) mixed (by kernel_rfl) hX.drew (fun c a d v w h => by cases d <;> exact h) ?_
            replace hX := hX.drew
            replace hSB := hSB.below (Below.refl _ _).drew
            refine ov0 hf rfl rfl (by decide) rfl (fun X => ex_vfld (8) hf rfl rfl Try.underlying25 rfl sz_ents rfl) (fun a hf => ?_)
            refine ov1 hf rfl rfl (by decide) rfl (fun X hS => ex_vlc (cs := [.int .i64 (q : Int), .int .i64 (n : Int), .int .i64 T, .int .i64 (-1), .int .i64 0, .int .i64 (-1), .int .i64 (10 + 3 * (q : Int)), .int .i64 0, .slice ga ((lgs q).len) gc, .int .i64 0, .slice none 0 0, .slice none 0 0]) hf rfl rfl (hS.get (i := 0) rfl) rfl Try.underlying22 rfl) (fun a hf => ?_)
            refine ov0 hf rfl rfl (by decide) rfl (fun X => ex_vmv hf rfl rfl) (fun a hf => ?_)
            refine ov0 hf rfl rfl (by decide) rfl (fun X => ex_idx (k := 82) (q := k) (B := EB) (p := EO) hf rfl (show _ = some (Value.slice (some ⟨EB, EO, none⟩) ((lgs q).len) gc) from by rw [← hga]; rfl) rfl (by omega) Try.underlying22 (by kernel_rfl)) (fun a hf => ?_)
            refine ov0 hf rfl rfl (by decide) rfl (fun X => ex_vfld (EO + k * 82) hf rfl rfl Try.underlying73 rfl sz_int rfl) (fun a hf => ?_)
            refine ov1 hf rfl rfl (by decide) rfl (fun X hS => ex_vlm hf rfl rfl ((hS.low.cell (p := ⟨EB, EO + k * 82, none⟩) hEB).trans hEc) Try.underlying3 rfl) (fun a hf => ?_)
            refine ov0 hf rfl rfl (by decide) rfl (fun X => ex_vfld (2) hf rfl rfl Try.underlying25 rfl sz_int rfl) (fun a hf => ?_)
            refine ov1 hf rfl rfl (by decide) rfl (fun X hS => ex_vlc (cs := [.int .i64 (q : Int), .int .i64 (n : Int), .int .i64 T, .int .i64 (-1), .int .i64 0, .int .i64 (-1), .int .i64 (10 + 3 * (q : Int)), .int .i64 0, .slice ga ((lgs q).len) gc, .int .i64 0, .slice none 0 0, .slice none 0 0]) hf rfl rfl (hS.get (i := 0) rfl) rfl Try.underlying3 rfl) (fun a hf => ?_)
            rcases Decidable.em (T < te) with hq5 | hq5
            ·
              refine ov3v hf rfl rfl (by decide) rfl (ex_cmp (b := true) hf rfl rfl rfl (congrArg some (decide_eq_true hq5))) (fun a hf => ?_)
              refine wpOrd_nil ?_
              refine wp_cond_true (hf.rel _ _ rfl) ?_
              refine wp_region_lit ?_
              refine sv_fld hf rfl Try.underlying25 rfl sz_ents (8) rfl (by decide) (fun a hf => ?_)
              refine sv_lc hf hX rfl 0 rfl rfl Try.underlying22 rfl (by decide) (fun a hf => ?_)
              refine sv_mv hf rfl (by decide) (fun a hf => ?_)
              refine sv_idx (k := 82) (q := k) (B := EB) (o := EO) hf (show _ = some (Value.slice (some ⟨EB, EO, none⟩) ((lgs q).len) gc) from by rw [← hga]; rfl) rfl (by omega) Try.underlying22 (by kernel_rfl) (by decide) (fun a hf => ?_)
              refine sv_fld hf rfl Try.underlying73 rfl sz_int (EO + k * 82) rfl (by decide) (fun a hf => ?_)
              refine sv_lm hf rfl ((hX.low.cell (p := ⟨EB, EO + k * 82, none⟩) hEB).trans hEc) Try.underlying3 rfl (by decide) (fun a hf => ?_)
              refine sv_fld hf rfl Try.underlying25 rfl sz_int (2) rfl (by decide) (fun a hf => ?_)
              refine sv_sc (cs' := [.int .i64 (q : Int), .int .i64 (n : Int), .int .i64 te, .int .i64 (-1), .int .i64 0, .int .i64 (-1), .int .i64 (10 + 3 * (q : Int)), .int .i64 0, .slice ga ((lgs q).len) gc, .int .i64 0, .slice none 0 0, .slice none 0 0]) hf hX rfl rfl 0 rfl (of_decide_eq_true rfl) rfl info_int rfl [(C3, [.int .i64 (q : Int), .int .i64 (n : Int), .int .i64 te, .int .i64 (-1), .int .i64 0, .int .i64 (-1), .int .i64 (10 + 3 * (q : Int)), .int .i64 0, .slice ga ((lgs q).len) gc, .int .i64 0, .slice none 0 0, .slice none 0 0])] rfl (fun W hX hO => ?_)
              replace hSB := hSB.only hO hCw hCS
              clear hO
              refine sv_nil hf ?_
              refine wp_region_lit ?_
              refine sv_mv hf rfl (by decide) (fun a hf => ?_)
              refine sv_add ((k + 1 : Nat) : Int) hf rfl rfl (by rw [wrap_in (by omega)]; rfl) (by decide) (fun a hf => ?_)
              refine sv_as hf rfl (by decide) (fun a hf => ?_)
              refine sv_nil hf ?_
              refine ⟨⟨k + 1, te, hf.sub (sub_cons rfl (sub_cons rfl (sub_cons rfl (sub_cons rfl (sub_cons rfl (sub_cons rfl (sub_cons rfl (sub_cons rfl (sub_nil))))))))), hX, by omega, by omega, by assumption, hSB⟩, ?_⟩
              have h5 : a.eval (.tmp 12) = .int .i64 ((k + 1 : Nat) : Int) := hf.rel 12 _ rfl
              rw [h5, hm12]; simp only [intOf, Int.toNat_natCast]; omega
            ·
              refine ov3v hf rfl rfl (by decide) rfl (ex_cmp (b := false) hf rfl rfl rfl (congrArg some (decide_eq_false hq5))) (fun a hf => ?_)
              refine wpOrd_nil ?_
              refine wp_cond_false (hf.rel _ _ rfl) ?_
              refine wp_skip ?_
              refine wp_region_lit ?_
              refine sv_mv hf rfl (by decide) (fun a hf => ?_)
              refine sv_add ((k + 1 : Nat) : Int) hf rfl rfl (by rw [wrap_in (by omega)]; rfl) (by decide) (fun a hf => ?_)
              refine sv_as hf rfl (by decide) (fun a hf => ?_)
              refine sv_nil hf ?_
              refine ⟨⟨k + 1, T, hf.sub (sub_cons rfl (sub_cons rfl (sub_cons rfl (sub_cons rfl (sub_cons rfl (sub_cons rfl (sub_cons rfl (sub_cons rfl (sub_nil))))))))), hX, by omega, by omega, by assumption, hSB⟩, ?_⟩
              have h5 : a.eval (.tmp 12) = .int .i64 ((k + 1 : Nat) : Int) := hf.rel 12 _ rfl
              rw [h5, hm12]; simp only [intOf, Int.toNat_natCast]; omega
          ·
            refine wp_seq (wp_seq ?_)
            refine wp_region_lit ?_
            refine sv_mv hf rfl (by decide) (fun a hf => ?_)
            refine sv_fld hf rfl Try.underlying25 rfl sz_ents (8) rfl (by decide) (fun a hf => ?_)
            refine sv_lc hf hX rfl 0 rfl rfl Try.underlying22 rfl (by decide) (fun a hf => ?_)
            refine sv_len hf rfl Try.underlying22 (by decide) (fun a hf => ?_)
            refine sv_cmp hf rfl rfl false (congrArg some (decide_eq_false hgo)) (by decide) (fun a hf => ?_)
            refine sv_nil hf ?_
            refine wp_cond_false (hf.rel _ _ rfl) (wp_exit ?_)
            simp only [Exit.inBlock, Exit.then, ↓reduceIte]
            refine wp_seq ?_
            refine wp_seq ?_
            refine wp_region_lit ?_
            refine sv_fld hf rfl Try.underlying25 rfl sz_ents (8) rfl (by decide) (fun a hf => ?_)
            refine sv_lc hf hX rfl 0 rfl rfl Try.underlying22 rfl (by decide) (fun a hf => ?_)
            refine sv_len hf rfl Try.underlying22 (by decide) (fun a hf => ?_)
            rcases Decidable.em (20 < (((lgs q).len : Nat) : Int)) with hq6 | hq6
            ·
              refine sv_cmp hf rfl rfl true (congrArg some (decide_eq_true hq6)) (by decide) (fun a hf => ?_)
              refine sv_mv hf rfl (by decide) (fun a hf => ?_)
              refine sv_skip1 hf rfl rfl (by decide) (by decide) (fun a hf => ?_)
              refine sv_skip1 hf rfl rfl (by decide) (by decide) (fun a hf => ?_)
              refine sv_skip1 hf rfl rfl (by decide) (by decide) (fun a hf => ?_)
              refine sv_pk hf rfl rfl (by decide) (fun a hf => ?_)
              refine sv_mv hf rfl (by decide) (fun a hf => ?_)
              refine sv_skip1 hf rfl rfl (by decide) (by decide) (fun a hf => ?_)
              refine sv_skip1 hf rfl rfl (by decide) (by decide) (fun a hf => ?_)
              refine sv_skip1 hf rfl rfl (by decide) (by decide) (fun a hf => ?_)
              refine sv_pk hf rfl rfl (by decide) (fun a hf => ?_)
              refine sv_nil hf ?_
              refine wp_cond_true (hf.rel _ _ rfl) ?_
              refine wp_seq ?_
              refine wp_region_lit ?_
              refine sv_call hf fnOK_14 rfl (awake_any _) (by decide) ?_
              rintro e W ⟨rfl, hb⟩
              replace hX := hX.keep hb
              clear hb
              refine ⟨_, rfl, fun a hf => ?_⟩
              refine sv_as hf rfl (by decide) (fun a hf => ?_)
              refine sv_nil hf ?_
              refine wp_ret ?_
              try simp only [Exit.inBlock, Exit.then]
              exact bodyPost_ret (res_tmp (d := 6) (v := .bool true) rfl (hf.rel 6 _ rfl)) hf.defers ⟨rfl, hX.low⟩
            ·
              refine sv_cmp hf rfl rfl false (congrArg some (decide_eq_false hq6)) (by decide) (fun a hf => ?_)
              refine sv_mv hf rfl (by decide) (fun a hf => ?_)
              refine sv_want hf rfl rfl ?_
              refine sv_lr hf hX rfl 0 rfl Try.underlying25 info_mem (by decide) (fun a hf => ?_)
              refine sv_want hf rfl rfl ?_
              obtain ⟨vb, hvb⟩ : ∃ b, b = validB (q : Int) (n : Int) T (-1) 0 (-1) (10 + 3 * (q : Int)) 0 0 (es0 q) [] [] := ⟨_, rfl⟩
              have hcv := rvalid_at (q : Int) (n : Int) T (-1) 0 (-1) (10 + 3 * (q : Int)) 0 (.slice ga (lgs q).len gc) (es0 q) 0 nil nil [] [] W (by have := hL.len q; omega) (by rw [← hlq]; exact (hL.ent q).below hX.low) (.inl ⟨rfl, _, _, rfl⟩) (.inl ⟨rfl, _, _, rfl⟩)
              rw [← hvb] at hcv
              refine sv_call hf fnOK_17 rfl (hcv) (by decide) ?_
              rintro e W ⟨rfl, hb⟩
              replace hX := hX.keep hb
              replace hSB := hSB.below hb
              clear hb hcv
              refine ⟨_, rfl, fun a hf => ?_⟩
              refine sv_want hf rfl rfl ?_
              cases vb
              ·
                refine sv_not hf rfl (by decide) (fun a hf => ?_)
                refine sv_pk hf rfl rfl (by decide) (fun a hf => ?_)
                refine sv_mv hf rfl (by decide) (fun a hf => ?_)
                refine sv_skip1 hf rfl rfl (by decide) (by decide) (fun a hf => ?_)
                refine sv_skip1 hf rfl rfl (by decide) (by decide) (fun a hf => ?_)
                refine sv_skip1 hf rfl rfl (by decide) (by decide) (fun a hf => ?_)
                refine sv_pk hf rfl rfl (by decide) (fun a hf => ?_)
                refine sv_nil hf ?_
                refine wp_cond_true (hf.rel _ _ rfl) ?_
                refine wp_seq ?_
                refine wp_region_lit ?_
                refine sv_call hf fnOK_14 rfl (awake_any _) (by decide) ?_
                rintro e W ⟨rfl, hb⟩
                replace hX := hX.keep hb
                clear hb
                refine ⟨_, rfl, fun a hf => ?_⟩
                refine sv_as hf rfl (by decide) (fun a hf => ?_)
                refine sv_nil hf ?_
                refine wp_ret ?_
                try simp only [Exit.inBlock, Exit.then]
                exact bodyPost_ret (res_tmp (d := 6) (v := .bool true) rfl (hf.rel 6 _ rfl)) hf.defers ⟨rfl, hX.low⟩
              ·
                refine sv_not hf rfl (by decide) (fun a hf => ?_)
                refine sv_pk hf rfl rfl (by decide) (fun a hf => ?_)
                refine sv_mv hf rfl (by decide) (fun a hf => ?_)
                refine sv_want hf rfl rfl ?_
                refine sv_fld hf rfl Try.underlying25 rfl sz_int (2) rfl (by decide) (fun a hf => ?_)
                refine sv_want hf rfl rfl ?_
                refine sv_lc hf hX rfl 0 rfl rfl Try.underlying3 rfl (by decide) (fun a hf => ?_)
                refine sv_want hf rfl rfl ?_
                rcases Decidable.em (1152921504606846976 < T) with hq8 | hq8
                ·
                  refine sv_cmp hf rfl rfl true (congrArg some (decide_eq_true hq8)) (by decide) (fun a hf => ?_)
                  refine sv_pk hf rfl rfl (by decide) (fun a hf => ?_)
                  refine sv_nil hf ?_
                  refine wp_cond_true (hf.rel _ _ rfl) ?_
                  refine wp_seq ?_
                  refine wp_region_lit ?_
                  refine sv_call hf fnOK_14 rfl (awake_any _) (by decide) ?_
                  rintro e W ⟨rfl, hb⟩
                  replace hX := hX.keep hb
                  clear hb
                  refine ⟨_, rfl, fun a hf => ?_⟩
                  refine sv_as hf rfl (by decide) (fun a hf => ?_)
                  refine sv_nil hf ?_
                  refine wp_ret ?_
                  try simp only [Exit.inBlock, Exit.then]
                  exact bodyPost_ret (res_tmp (d := 6) (v := .bool true) rfl (hf.rel 6 _ rfl)) hf.defers ⟨rfl, hX.low⟩
                ·
                  refine sv_cmp hf rfl rfl false (congrArg some (decide_eq_false hq8)) (by decide) (fun a hf => ?_)
                  refine sv_pk hf rfl rfl (by decide) (fun a hf => ?_)
                  refine sv_nil hf ?_
                  refine wp_cond_false (hf.rel _ _ rfl) ?_
                  refine wp_skip ?_
                  refine wp_region_lit ?_
                  refine sv_mv hf rfl (by decide) (fun a hf => ?_)
                  refine sv_lr hf hX rfl 0 rfl Try.underlying25 info_mem (by decide) (fun a hf => ?_)
                  refine sv_bs1 (k := 12) (cs := [.int .i64 (q : Int), .int .i64 (n : Int), .int .i64 T, .int .i64 (-1), .int .i64 0, .int .i64 (-1), .int .i64 (10 + 3 * (q : Int)), .int .i64 0, .slice ga ((lgs q).len) gc, .int .i64 0, .slice none 0 0, .slice none 0 0]) hf hX rfl Try.underlying44 (by kernel_rfl) info_mem rfl (by decide) (by decide) (by decide) (fun a G9 W hC hf hX hA => ?_)
                  replace hSB := hSB.below hA
                  clear hC hA
                  have hMI : MemI w W (fun k => k < w.heap.size) n q (lg0 q) (lgs q) (es0 q) ⟨T, -1, 0, -1, 10 + 3 * (q : Int), 0⟩ [.int .i64 (q : Int), .int .i64 (n : Int), .int .i64 T, .int .i64 (-1), .int .i64 0, .int .i64 (-1), .int .i64 (10 + 3 * (q : Int)), .int .i64 0, .slice ga ((lgs q).len) gc, .int .i64 0, .slice none 0 0, .slice none 0 0] := by
                    obtain ⟨ks, hs⟩ := hL.self q
                    rw [hlq] at hs ⊢
                    refine ⟨ga, gc, none, 0, 0, none, 0, 0, [], [], ks, rfl, EqC.kept (Nat.le_refl _) hX.low.size (fun _ _ _ => rfl) (fun k _ hk => hX.low.block k hk) (fun _ _ _ => trivial) (fun _ h _ => h) _ _ _ _ hs, IntF.nil _ _, IntF.nil _ _, hvb.symm, fun x hx => wf_of ?_⟩
                    simp only [List.mem_cons, List.not_mem_nil, or_false] at hx
                    rcases hx with rfl | rfl | rfl | rfl | rfl | rfl | rfl | rfl | rfl <;> omega
                  refine sv_apps (news := [.int .i64 (q : Int), .int .i64 (n : Int), .int .i64 T, .int .i64 (-1), .int .i64 0, .int .i64 (-1), .int .i64 (10 + 3 * (q : Int)), .int .i64 0, .slice ga ((lgs q).len) gc, .int .i64 0, .slice none 0 0, .slice none 0 0]) (m := 1) hf hX.sub rfl rfl Try.underlying44 info_mem3 rfl (by decide) hSB.own rfl (fun j u hu => by rw [addr_add', Nat.zero_add]; exact (hX.get (i := 0) rfl).cell j u hu) (fun v hv => List.all_eq_true.1 (show List.all [.int .i64 (q : Int), .int .i64 (n : Int), .int .i64 T, .int .i64 (-1), .int .i64 0, .int .i64 (-1), .int .i64 (10 + 3 * (q : Int)), .int .i64 0, .slice ga ((lgs q).len) gc, .int .i64 0, .slice none 0 0, .slice none 0 0] (·.oneCell') = true from rfl) v hv) (by have := hSB.len; omega) (by decide) hSB.ge (Nat.le_refl _) (fun k hk q hq e => ?_) (fun k hk p hp => by cases hp) (by decide) (fun a pa pc W hf hX ho hg hu => ?_)
                  · have := hCS k hk; simp only [List.mem_cons, List.not_mem_nil, or_false] at hq; rcases hq with rfl; simp only at e; omega
                  replace hSB := hSB.push (cs := [.int .i64 (q : Int), .int .i64 (n : Int), .int .i64 T, .int .i64 (-1), .int .i64 0, .int .i64 (-1), .int .i64 (10 + 3 * (q : Int)), .int .i64 0, .slice ga ((lgs q).len) gc, .int .i64 0, .slice none 0 0, .slice none 0 0]) ho hg rfl hMI (by omega) rfl rfl (by simp only; omega) (by simp only; omega)
                  clear ho hg hu hMI
                  refine sv_as hf rfl (by decide) (fun a hf => ?_)
                  refine sv_nil hf ?_
                  refine wp_region_lit ?_
                  refine sv_mv hf rfl (by decide) (fun a hf => ?_)
                  refine sv_add ((q + 1 : Nat) : Int) hf rfl rfl (by rw [wrap_in (by omega)]; rfl) (by decide) (fun a hf => ?_)
                  refine sv_as hf rfl (by decide) (fun a hf => ?_)
                  refine sv_nil hf ?_
                  refine ⟨⟨q + 1, _, _, _, _, _, hf.sub (sub_cons rfl (sub_cons rfl (sub_cons rfl (sub_cons rfl (sub_cons rfl (sub_cons rfl (sub_nil))))))), hX.sub, hqn, hSB⟩, ?_⟩
                  have h5 : a.eval (.tmp 9) = .int .i64 ((q + 1 : Nat) : Int) := hf.rel 9 _ rfl
                  rw [h5, hm9]; simp only [intOf, Int.toNat_natCast]; omega
        ·
          refine sv_cmp hf rfl rfl false (congrArg some (decide_eq_false hq4)) (by decide) (fun a hf => ?_)
          refine sv_nil hf ?_
          refine wp_cond_false (hf.rel _ _ rfl) ?_
          refine wp_skip ?_
          refine wp_seq ?_
          refine wp_seq ?_
          obtain ⟨ga, gc, hlq⟩ := hL.sl q
          have hnil := hL.out q (by omega)
          rw [hlq] at hnil
          obtain ⟨e1, e2, e3⟩ := Value.slice.inj hnil
          have hX1 : Bx ⟨w, []⟩ [(C3, [.int .i64 (q : Int), .int .i64 (n : Int), .int .i64 0, .int .i64 (-1), .int .i64 0, .int .i64 (-1), .int .i64 (10 + 3 * (q : Int)), .int .i64 0, .slice ga ((lgs q).len) gc, .int .i64 0, .slice none 0 0, .slice none 0 0])] W := by rw [e1, e2, e3]; exact hX
          replace hX := hX1
          clear hX1 e1 e2 e3 hnil
          refine wp_region_lit ?_
          refine sv_fld hf rfl Try.underlying25 rfl sz_ents (8) rfl (by decide) (fun a hf => ?_)
          refine sv_lc hf hX rfl 0 rfl rfl Try.underlying22 rfl (by decide) (fun a hf => ?_)
          refine sv_len hf rfl Try.underlying22 (by decide) (fun a hf => ?_)
          rcases Decidable.em (20 < (((lgs q).len : Nat) : Int)) with hq10 | hq10
          ·
            refine sv_cmp hf rfl rfl true (congrArg some (decide_eq_true hq10)) (by decide) (fun a hf => ?_)
            refine sv_mv hf rfl (by decide) (fun a hf => ?_)
            refine sv_skip1 hf rfl rfl (by decide) (by decide) (fun a hf => ?_)
            refine sv_skip1 hf rfl rfl (by decide) (by decide) (fun a hf => ?_)
            refine sv_skip1 hf rfl rfl (by decide) (by decide) (fun a hf => ?_)
            refine sv_pk hf rfl rfl (by decide) (fun a hf => ?_)
            refine sv_mv hf rfl (by decide) (fun a hf => ?_)
            refine sv_skip1 hf rfl rfl (by decide) (by decide) (fun a hf => ?_)
            refine sv_skip1 hf rfl rfl (by decide) (by decide) (fun a hf => ?_)
            refine sv_skip1 hf rfl rfl (by decide) (by decide) (fun a hf => ?_)
            refine sv_pk hf rfl rfl (by decide) (fun a hf => ?_)
            refine sv_nil hf ?_
            refine wp_cond_true (hf.rel _ _ rfl) ?_
            refine wp_seq ?_
            refine wp_region_lit ?_
            refine sv_call hf fnOK_14 rfl (awake_any _) (by decide) ?_
            rintro e W ⟨rfl, hb⟩
            replace hX := hX.keep hb
            clear hb
            refine ⟨_, rfl, fun a hf => ?_⟩
            refine sv_as hf rfl (by decide) (fun a hf => ?_)
            refine sv_nil hf ?_
            refine wp_ret ?_
            try simp only [Exit.inBlock, Exit.then]
            exact bodyPost_ret (res_tmp (d := 6) (v := .bool true) rfl (hf.rel 6 _ rfl)) hf.defers ⟨rfl, hX.low⟩
          ·
            refine sv_cmp hf rfl rfl false (congrArg some (decide_eq_false hq10)) (by decide) (fun a hf => ?_)
            refine sv_mv hf rfl (by decide) (fun a hf => ?_)
            refine sv_want hf rfl rfl ?_
            refine sv_lr hf hX rfl 0 rfl Try.underlying25 info_mem (by decide) (fun a hf => ?_)
            refine sv_want hf rfl rfl ?_
            obtain ⟨vb, hvb⟩ : ∃ b, b = validB (q : Int) (n : Int) 0 (-1) 0 (-1) (10 + 3 * (q : Int)) 0 0 (es0 q) [] [] := ⟨_, rfl⟩
            have hcv := rvalid_at (q : Int) (n : Int) 0 (-1) 0 (-1) (10 + 3 * (q : Int)) 0 (.slice ga (lgs q).len gc) (es0 q) 0 nil nil [] [] W (by have := hL.len q; omega) (by rw [← hlq]; exact (hL.ent q).below hX.low) (.inl ⟨rfl, _, _, rfl⟩) (.inl ⟨rfl, _, _, rfl⟩)
            rw [← hvb] at hcv
            refine sv_call hf fnOK_17 rfl (hcv) (by decide) ?_
            rintro e W ⟨rfl, hb⟩
            replace hX := hX.keep hb
            replace hSB := hSB.below hb
            clear hb hcv
            refine ⟨_, rfl, fun a hf => ?_⟩
            refine sv_want hf rfl rfl ?_
            cases vb
            ·
              refine sv_not hf rfl (by decide) (fun a hf => ?_)
              refine sv_pk hf rfl rfl (by decide) (fun a hf => ?_)
              refine sv_mv hf rfl (by decide) (fun a hf => ?_)
              refine sv_skip1 hf rfl rfl (by decide) (by decide) (fun a hf => ?_)
              refine sv_skip1 hf rfl rfl (by decide) (by decide) (fun a hf => ?_)
              refine sv_skip1 hf rfl rfl (by decide) (by decide) (fun a hf => ?_)
              refine sv_pk hf rfl rfl (by decide) (fun a hf => ?_)
              refine sv_nil hf ?_
              refine wp_cond_true (hf.rel _ _ rfl) ?_
              refine wp_seq ?_
              refine wp_region_lit ?_
              refine sv_call hf fnOK_14 rfl (awake_any _) (by decide) ?_
              rintro e W ⟨rfl, hb⟩
              replace hX := hX.keep hb
              clear hb
              refine ⟨_, rfl, fun a hf => ?_⟩
              refine sv_as hf rfl (by decide) (fun a hf => ?_)
              refine sv_nil hf ?_
              refine wp_ret ?_
              try simp only [Exit.inBlock, Exit.then]
              exact bodyPost_ret (res_tmp (d := 6) (v := .bool true) rfl (hf.rel 6 _ rfl)) hf.defers ⟨rfl, hX.low⟩
            ·
              refine sv_not hf rfl (by decide) (fun a hf => ?_)
              refine sv_pk hf rfl rfl (by decide) (fun a hf => ?_)
              refine sv_mv hf rfl (by decide) (fun a hf => ?_)
              refine sv_want hf rfl rfl ?_
              refine sv_fld hf rfl Try.underlying25 rfl sz_int (2) rfl (by decide) (fun a hf => ?_)
              refine sv_want hf rfl rfl ?_
              refine sv_lc hf hX rfl 0 rfl rfl Try.underlying3 rfl (by decide) (fun a hf => ?_)
              refine sv_want hf rfl rfl ?_
              refine sv_cmp hf rfl rfl false (congrArg some (decide_eq_false (by decide))) (by decide) (fun a hf => ?_)
              refine sv_pk hf rfl rfl (by decide) (fun a hf => ?_)
              refine sv_nil hf ?_
              refine wp_cond_false (hf.rel _ _ rfl) ?_
              refine wp_skip ?_
              refine wp_region_lit ?_
              refine sv_mv hf rfl (by decide) (fun a hf => ?_)
              refine sv_lr hf hX rfl 0 rfl Try.underlying25 info_mem (by decide) (fun a hf => ?_)
              refine sv_bs1 (k := 12) (cs := [.int .i64 (q : Int), .int .i64 (n : Int), .int .i64 0, .int .i64 (-1), .int .i64 0, .int .i64 (-1), .int .i64 (10 + 3 * (q : Int)), .int .i64 0, .slice ga ((lgs q).len) gc, .int .i64 0, .slice none 0 0, .slice none 0 0]) hf hX rfl Try.underlying44 (by kernel_rfl) info_mem rfl (by decide) (by decide) (by decide) (fun a G12 W hC hf hX hA => ?_)
              replace hSB := hSB.below hA
              clear hC hA
              have hMI : MemI w W (fun k => k < w.heap.size) n q (lg0 q) (lgs q) (es0 q) ⟨0, -1, 0, -1, 10 + 3 * (q : Int), 0⟩ [.int .i64 (q : Int), .int .i64 (n : Int), .int .i64 0, .int .i64 (-1), .int .i64 0, .int .i64 (-1), .int .i64 (10 + 3 * (q : Int)), .int .i64 0, .slice ga ((lgs q).len) gc, .int .i64 0, .slice none 0 0, .slice none 0 0] := by
                obtain ⟨ks, hs⟩ := hL.self q
                rw [hlq] at hs ⊢
                refine ⟨ga, gc, none, 0, 0, none, 0, 0, [], [], ks, rfl, EqC.kept (Nat.le_refl _) hX.low.size (fun _ _ _ => rfl) (fun k _ hk => hX.low.block k hk) (fun _ _ _ => trivial) (fun _ h _ => h) _ _ _ _ hs, IntF.nil _ _, IntF.nil _ _, hvb.symm, fun x hx => wf_of ?_⟩
                simp only [List.mem_cons, List.not_mem_nil, or_false] at hx
                rcases hx with rfl | rfl | rfl | rfl | rfl | rfl | rfl | rfl | rfl <;> omega
              refine sv_apps (news := [.int .i64 (q : Int), .int .i64 (n : Int), .int .i64 0, .int .i64 (-1), .int .i64 0, .int .i64 (-1), .int .i64 (10 + 3 * (q : Int)), .int .i64 0, .slice ga ((lgs q).len) gc, .int .i64 0, .slice none 0 0, .slice none 0 0]) (m := 1) hf hX.sub rfl rfl Try.underlying44 info_mem3 rfl (by decide) hSB.own rfl (fun j u hu => by rw [addr_add', Nat.zero_add]; exact (hX.get (i := 0) rfl).cell j u hu) (fun v hv => List.all_eq_true.1 (show List.all [.int .i64 (q : Int), .int .i64 (n : Int), .int .i64 0, .int .i64 (-1), .int .i64 0, .int .i64 (-1), .int .i64 (10 + 3 * (q : Int)), .int .i64 0, .slice ga ((lgs q).len) gc, .int .i64 0, .slice none 0 0, .slice none 0 0] (·.oneCell') = true from rfl) v hv) (by have := hSB.len; omega) (by decide) hSB.ge (Nat.le_refl _) (fun k hk q hq e => ?_) (fun k hk p hp => by cases hp) (by decide) (fun a pa pc W hf hX ho hg hu => ?_)
              · have := hCS k hk; simp only [List.mem_cons, List.not_mem_nil, or_false] at hq; rcases hq with rfl; simp only at e; omega
              replace hSB := hSB.push (cs := [.int .i64 (q : Int), .int .i64 (n : Int), .int .i64 0, .int .i64 (-1), .int .i64 0, .int .i64 (-1), .int .i64 (10 + 3 * (q : Int)), .int .i64 0, .slice ga ((lgs q).len) gc, .int .i64 0, .slice none 0 0, .slice none 0 0]) ho hg rfl hMI (by omega) rfl rfl (by simp only; omega) (by simp only; omega)
              clear ho hg hu hMI
              refine sv_as hf rfl (by decide) (fun a hf => ?_)
              refine sv_nil hf ?_
              refine wp_region_lit ?_
              refine sv_mv hf rfl (by decide) (fun a hf => ?_)
              refine sv_add ((q + 1 : Nat) : Int) hf rfl rfl (by rw [wrap_in (by omega)]; rfl) (by decide) (fun a hf => ?_)
              refine sv_as hf rfl (by decide) (fun a hf => ?_)
              refine sv_nil hf ?_
              refine ⟨⟨q + 1, _, _, _, _, _, hf.sub (sub_cons rfl (sub_cons rfl (sub_cons rfl (sub_cons rfl (sub_cons rfl (sub_cons rfl (sub_nil))))))), hX.sub, hqn, hSB⟩, ?_⟩
              have h5 : a.eval (.tmp 9) = .int .i64 ((q + 1 : Nat) : Int) := hf.rel 9 _ rfl
              rw [h5, hm9]; simp only [intOf, Int.toNat_natCast]; omega
      ·
        refine wp_seq (wp_seq ?_)
        refine wp_region_lit ?_
        refine sv_mv hf rfl (by decide) (fun a hf => ?_)
        refine sv_mv hf rfl (by decide) (fun a hf => ?_)
        refine sv_cmp hf rfl rfl false (congrArg some (decide_eq_false hgo)) (by decide) (fun a hf => ?_)
        refine sv_nil hf ?_
        refine wp_cond_false (hf.rel _ _ rfl) (wp_exit ?_)
        simp only [Exit.inBlock, Exit.then, ↓reduceIte]
        obtain rfl : n = q := by omega
        refine wp_seq ?_
        obtain ⟨S, cap, eS, hSge, hncap, hbS⟩ := Box.of_own hSB.own (by rw [hSB.len]; omega)
        obtain ⟨rfl, rfl, rfl⟩ := Value.slice.inj eS.symm
        replace hX := hX.add hbS hSge (fun q hq => (by cases hq)) (fun p hp => (by cases hp))
        have hmem := hSB.mem
        have hrow := hSB.row
        have hlen := hSB.len
        obtain ⟨WB, hWB⟩ : ∃ X, X = W := ⟨_, rfl⟩
        have hwB : w.heap.size ≤ WB.heap.size := by rw [hWB]; exact hX.low.size
        replace hX := hX.made (Below.refl _ _)
        rw [← hWB] at hmem
        obtain ⟨β, hβ⟩ : ∃ b : Base, b = ⟨w, [(WB, fun k => k < w.heap.size ∨ WB.heap.size ≤ k)]⟩ := ⟨_, rfl⟩
        replace hX : Bx β [(S, css.flatten)] W := by rw [← hWB] at hX; rw [hβ]; rw [hWB] at hX ⊢; exact hX
        have hβw : β.w = w := by rw [hβ]
        clear hSB eS hSge hbS hWB
        refine wp_region_lit ?_
        refine sv_ac hf (by decide) (fun a hf => ?_)
        replace hf := hf.sub (env' := [(13, .slice none 0 0), (2, .slice ca cn cc), (6, .bool false), (7, .int .i64 (n : Int)), (8, .slice (some ⟨S, 0, none⟩) css.length cap)]) (sub_cons rfl (sub_cons rfl (sub_cons rfl (sub_cons rfl (sub_cons rfl (sub_nil))))))
        refine sv_nil hf ?_
        refine wp_seq ?_
        refine wp_region_lit ?_
        refine sv_mk (k := 200) hf hX rfl rfl Try.underlying23 infoI3 (by decide) (by decide) (fun a G13 W hC hf hX hA => ?_)
        clear hC hA
        refine sv_as hf rfl (by decide) (fun a hf => ?_)
        replace hf := hf.sub (env' := [(14, .slice (some ⟨G13, 0, none⟩) 200 200), (13, .slice none 0 0), (2, .slice ca cn cc), (6, .bool false), (7, .int .i64 (n : Int)), (8, .slice (some ⟨S, 0, none⟩) css.length cap)]) (sub_cons rfl (sub_cons rfl (sub_cons rfl (sub_cons rfl (sub_cons rfl (sub_cons rfl (sub_nil)))))))
        refine sv_nil hf ?_
        refine wp_seq ?_
        refine wp_seq ?_
        refine wp_region_lit ?_
        refine sv_ac hf (by decide) (fun a hf => ?_)
        refine sv_nil hf ?_
        have hX0 : Bx β [(G13, (fillR (-1) 0 200)), (S, css.flatten)] W := by rw [← fillR_0 (-1) 200]; exact hX
        replace hX := hX0
        refine wp_block (wp_loop (fun a X => ∃ (q : Nat), FrV 286 [(2, .slice ca cn cc), (6, .bool false), (7, .int .i64 (n : Int)), (8, .slice (some ⟨S, 0, none⟩) css.length cap), (13, .slice none 0 0), (14, .slice (some ⟨G13, 0, none⟩) 200 200), (15, .int .i64 (q : Int))] a ∧ Bx β [(G13, (fillR (-1) q 200)), (S, css.flatten)] X ∧ q ≤ 200) (fun a _ => 200 - (intOf (a.eval (.tmp 15))).toNat) ⟨0, hf.sub (sub_cons rfl (sub_cons rfl (sub_cons rfl (sub_cons rfl (sub_cons rfl (sub_cons rfl (sub_cons rfl (sub_nil)))))))), hX, Nat.zero_le _⟩ ?_)
        clear hf hX
        rintro a W ⟨q, hf, hX, hq⟩
        have hm15 : a.eval (.tmp 15) = .int .i64 (q : Int) := hf.rel 15 _ rfl
        rcases Decidable.em ((q : Int) < 200) with hgo | hgo
        ·
          refine wp_seq (wp_seq ?_)
          refine wp_region_lit ?_
          refine sv_mv hf rfl (by decide) (fun a hf => ?_)
          refine sv_mv hf rfl (by decide) (fun a hf => ?_)
          refine sv_len hf rfl Try.underlying23 (by decide) (fun a hf => ?_)
          refine sv_cmp hf rfl rfl true (congrArg some (decide_eq_true hgo)) (by decide) (fun a hf => ?_)
          refine sv_nil hf ?_
          refine wp_cond_true (hf.rel _ _ rfl) (wp_skip ?_)
          refine wp_seq (wp_block ?_)
          refine wp_region_lit ?_
          refine sv_mv hf rfl (by decide) (fun a hf => ?_)
          refine sv_mv hf rfl (by decide) (fun a hf => ?_)
          refine sv_idx (q := q) hf rfl rfl (by omega) Try.underlying23 einfo_ints (by decide) (fun a hf => ?_)
          refine sv_sc (cs' := (fillR (-1) (q + 1) 200)) hf hX rfl rfl 0 rfl (by rw [fillR_len _ (by omega)]; omega) (fillR_step _ (by omega)) info_int rfl [(G13, (fillR (-1) (q + 1) 200)), (S, css.flatten)] rfl (fun W hX hO => ?_)
          clear hO
          replace hf := hf.sub (env' := [(110, .pointer (some ⟨G13, 0 + q * 1, none⟩)), (109, .int .i64 (q : Int)), (108, .slice (some ⟨G13, 0, none⟩) 200 200), (104, .int .i64 200), (103, .slice (some ⟨G13, 0, none⟩) 200 200), (102, .int .i64 (q : Int)), (2, .slice ca cn cc), (6, .bool false), (7, .int .i64 (n : Int)), (8, .slice (some ⟨S, 0, none⟩) css.length cap), (13, .slice none 0 0), (14, .slice (some ⟨G13, 0, none⟩) 200 200), (15, .int .i64 (q : Int))]) (sub_cons rfl (sub_cons rfl (sub_cons rfl (sub_cons rfl (sub_cons rfl (sub_cons rfl (sub_cons rfl (sub_cons rfl (sub_cons rfl (sub_cons rfl (sub_cons rfl (sub_cons rfl (sub_cons rfl (sub_nil))))))))))))))
          refine sv_nil hf ?_
          refine wp_region_lit ?_
          refine sv_mv hf rfl (by decide) (fun a hf => ?_)
          refine sv_add ((q + 1 : Nat) : Int) hf rfl rfl (by rw [wrap_in (by omega)]; rfl) (by decide) (fun a hf => ?_)
          refine sv_as hf rfl (by decide) (fun a hf => ?_)
          refine sv_nil hf ?_
          refine ⟨⟨q + 1, hf.sub (sub_cons rfl (sub_cons rfl (sub_cons rfl (sub_cons rfl (sub_cons rfl (sub_cons rfl (sub_cons rfl (sub_nil)))))))), hX, by omega⟩, ?_⟩
          have h5 : a.eval (.tmp 15) = .int .i64 ((q + 1 : Nat) : Int) := hf.rel 15 _ rfl
          rw [h5, hm15]; simp only [intOf, Int.toNat_natCast]; omega
        ·
          refine wp_seq (wp_seq ?_)
          refine wp_region_lit ?_
          refine sv_mv hf rfl (by decide) (fun a hf => ?_)
          refine sv_mv hf rfl (by decide) (fun a hf => ?_)
          refine sv_len hf rfl Try.underlying23 (by decide) (fun a hf => ?_)
          refine sv_cmp hf rfl rfl false (congrArg some (decide_eq_false hgo)) (by decide) (fun a hf => ?_)
          refine sv_nil hf ?_
          refine wp_cond_false (hf.rel _ _ rfl) (wp_exit ?_)
          simp only [Exit.inBlock, Exit.then, ↓reduceIte]
          obtain rfl : q = 200 := by omega
          rw [fillR_all] at hX
          refine wp_seq ?_
          refine wp_seq ?_
          have hbas := hX.bas _ (by rw [hβ]; exact List.mem_cons_self)
          have hgS := hX.ge _ (List.mem_of_getElem? (i := 1) rfl)
          have hgG := hX.ge _ (List.mem_of_getElem? (i := 0) rfl)
          rw [hβw] at hgS hgG
          rw [hlen] at hf
          have hfew : ∀ j, j < n → (lgs j).len ≤ 20 := fun j hj => (hmem j hj).2.1
          have hD := StD.start (W := W) (S := S) (G := G13) hmem hrow hlen hwB hbas.1 (fun k h1 h2 => hbas.2 k h2 (Or.inl h1)) hgS hgG (fun e => by have := hX.nd 1 0 _ _ rfl rfl e; omega)
          replace hX := hX.rebase (fun k => k < w.heap.size) (fun q hq => by have := hX.ge q hq; rw [hβw] at this; exact Nat.not_lt.2 this)
          rw [hβw] at hX
          clear hbas hgS hgG hmem hrow hlen
          refine wp_region_lit ?_
          refine sv_ac hf (by decide) (fun a hf => ?_)
          replace hf := hf.sub (env' := [(16, .int .i64 0), (2, .slice ca cn cc), (6, .bool false), (7, .int .i64 (n : Int)), (8, .slice (some ⟨S, 0, none⟩) n cap), (13, .slice none 0 0), (14, .slice (some ⟨G13, 0, none⟩) 200 200)]) (sub_cons rfl (sub_cons rfl (sub_cons rfl (sub_cons rfl (sub_cons rfl (sub_cons rfl (sub_cons rfl (sub_nil))))))))
          refine sv_nil hf ?_
          refine wp_block (wp_loop (fun a X => ∃ (q : Nat) (A : Nat → Mb) (way : List Ms) (lds : List Int) (V : Nat → Int → Nat → Prop) (css : List (List Value)) (F : Nat → Prop) (wa : Option Addr) (wl wc : Nat), FrV 286 [(2, .slice ca cn cc), (6, .bool false), (7, .int .i64 (n : Int)), (8, .slice (some ⟨S, 0, none⟩) n cap), (14, .slice (some ⟨G13, 0, none⟩) 200 200), (13, .slice wa wl wc), (16, .int .i64 (q : Int))] a ∧ Bx ⟨w, [(X, F)]⟩ [(G13, (lds.map (.int .i64 ·))), (S, css.flatten)] X ∧ q ≤ cn ∧ StD w X F n lg0 lgs es0 (1152921504606846976 + q) A way lds V css (.slice wa wl wc) S G13) (fun a _ => cn - (intOf (a.eval (.tmp 16))).toNat) ⟨0, A, [], _, _, css, _, _, _, _, hf.sub (sub_cons rfl (sub_cons rfl (sub_cons rfl (sub_cons rfl (sub_cons rfl (sub_cons rfl (sub_cons rfl (sub_nil)))))))), hX, Nat.zero_le _, hD⟩ ?_)
          clear hf hX
          rintro a W ⟨q, A, way, lds, V, css, F, wa, wl, wc, hf, hX, hq, hD⟩
          have hm16 : a.eval (.tmp 16) = .int .i64 (q : Int) := hf.rel 16 _ rfl
          rcases Decidable.em ((q : Int) < ((cn : Nat) : Int)) with hgo | hgo
          ·
            refine wp_seq (wp_seq ?_)
            refine wp_region_lit ?_
            refine sv_mv hf rfl (by decide) (fun a hf => ?_)
            refine sv_mv hf rfl (by decide) (fun a hf => ?_)
            refine sv_len hf rfl Try.underlying43 (by decide) (fun a hf => ?_)
            refine sv_cmp hf rfl rfl true (congrArg some (decide_eq_true hgo)) (by decide) (fun a hf => ?_)
            refine sv_nil hf ?_
            refine wp_cond_true (hf.rel _ _ rfl) (wp_skip ?_)
            refine wp_seq (wp_block ?_)
            obtain ⟨CB, CO, cb, ab, u, hca, hCB, hc0, hc1, hc2, hu0, hu1⟩ := hact q (by omega)
            refine wp_seq ?_
            refine wp_region_lit ?_
            refine sv_mv hf rfl (by decide) (fun a hf => ?_)
            refine sv_mv hf rfl (by decide) (fun a hf => ?_)
            refine sv_idx (k := 3) (q := q) (B := CB) (o := CO) hf (show _ = some (Value.slice (some ⟨CB, CO, none⟩) cn cc) from by rw [← hca]; rfl) rfl (by omega) Try.underlying43 (by kernel_rfl) (by decide) (fun a hf => ?_)
            refine sv_fld hf rfl Try.underlying75 rfl sz_u8 (CO + q * 3 + 2) rfl (by decide) (fun a hf => ?_)
            refine sv_lm hf rfl ((hX.low.cell (p := ⟨CB, CO + q * 3 + 2, none⟩) hCB).trans hc2) Try.underlying5 rfl (by decide) (fun a hf => ?_)
            refine sv_run (v := .int .i64 u) hf (by decide) (fun a hf => ex_conv8 hf rfl rfl Try.underlying5 Try.underlying3 hu0 hu1) (fun a hf => ?_)
            refine sv_mv hf rfl (by decide) (fun a hf => ?_)
            refine sv_run (v := .int .i64 (u % (n : Int))) hf (by decide) (fun a hf => ex_rem hf rfl rfl rfl hu0 (by omega) (by omega) (by omega) rfl) (fun a hf => ?_)
            refine sv_as hf rfl (by decide) (fun a hf => ?_)
            replace hf := hf.sub (env' := [(17, .int .i64 (u % (n : Int))), (124, .int .i64 (u % (n : Int))), (123, .int .i64 (n : Int)), (122, .int .i64 u), (121, .int .u8 u), (120, .pointer (some ⟨CB, CO + q * 3 + 2, none⟩)), (119, .pointer (some ⟨CB, CO + q * 3, none⟩)), (118, .int .i64 (q : Int)), (117, .slice ca cn cc), (113, .int .i64 ((cn : Nat) : Int)), (112, .slice ca cn cc), (111, .int .i64 (q : Int)), (2, .slice ca cn cc), (6, .bool false), (7, .int .i64 (n : Int)), (8, .slice (some ⟨S, 0, none⟩) n cap), (14, .slice (some ⟨G13, 0, none⟩) 200 200), (13, .slice wa wl wc), (16, .int .i64 (q : Int))]) (sub_cons rfl (sub_cons rfl (sub_cons rfl (sub_cons rfl (sub_cons rfl (sub_cons rfl (sub_cons rfl (sub_cons rfl (sub_cons rfl (sub_cons rfl (sub_cons rfl (sub_cons rfl (sub_cons rfl (sub_cons rfl (sub_cons rfl (sub_cons rfl (sub_cons rfl (sub_cons rfl (sub_cons rfl (sub_nil))))))))))))))))))))
            refine sv_nil hf ?_
            obtain ⟨W0, hW0⟩ : ∃ X, X = W := ⟨_, rfl⟩
            rw [← hW0] at hD
            replace hX : Bx ⟨w, [(W0, F)]⟩ [(G13, (lds.map (.int .i64 ·))), (S, css.flatten)] W := by rw [hW0]; exact hX
            have hW : OwnM w.heap.size W (.slice wa wl wc) way := by rw [← hW0]; exact hD.own
            have hs0 : W0.heap.size ≤ W.heap.size := by rw [hW0]; exact Nat.le_refl _
            have hS0 : S < W0.heap.size := by rw [hW0]; exact (hX.get (i := 1) rfl).lt
            have hG0 : G13 < W0.heap.size := by rw [hW0]; exact (hX.get (i := 0) rfl).lt
            clear hW0
            have hap := hD.apart
            have hrowc := hD.row
            have hcl : css.length = n := hD.len
            obtain ⟨_, _, ewv, hwc, hwg⟩ := hW.none_len
            obtain ⟨rfl, rfl, rfl⟩ := Value.slice.inj ewv
            clear ewv
            obtain ⟨j0, hj0, hj0n⟩ : ∃ j : Nat, u % (n : Int) = j ∧ j < n := ⟨(u % (n : Int)).toNat, by have := Int.emod_nonneg u (show (n : Int) ≠ 0 by omega); omega, by have := Int.emod_nonneg u (show (n : Int) ≠ 0 by omega); have := Int.emod_lt_of_pos u (show (0 : Int) < n by omega); omega⟩
            rw [hj0] at hf
            obtain ⟨cs0, hcs0, hM0⟩ := hD.mem j0 hj0n
            refine wp_seq ?_
            refine wp_region_lit ?_
            refine sv_alloc (zs := [.int .i64 0, .int .i64 0, .int .i64 0, .int .i64 0, .int .i64 0, .int .i64 0, .int .i64 0, .int .i64 0, .slice none 0 0, .int .i64 0, .slice none 0 0, .slice none 0 0]) hf hX zero_mem (by decide) (fun a C14 W hC hf hX hA => ?_)
            have hnC14 := fun k hk => Nat.ne_of_lt (Nat.lt_of_lt_of_eq (hW.lt k hk).2 hC.symm)
            have hgC14 := Nat.le_trans hs0 (Nat.le_of_eq hC.symm)
            replace hW := hW.below hA
            replace hs0 := Nat.le_trans hs0 hA.size
            clear hC hA
            refine sv_nil hf ?_
            refine wp_seq ?_
            refine wp_region_lit ?_
            refine sv_ac hf (by decide) (fun a hf => ?_)
            refine sv_nil hf ?_
            refine wp_seq ?_
            refine wp_meet_region (fun a X => ∃ (j : Nat) (way1 : List Ms) (F1 : Nat → Prop) (cs1 : List Value) (m1 : Mb) (more : List Ms) (V1 : Nat → Int → Nat → Prop) (xa : Option Addr) (xl xc : Nat) (ya : Option Addr) (yl yc : Nat), FrV 286 [(2, .slice ca cn cc), (6, .bool false), (7, .int .i64 (n : Int)), (8, .slice (some ⟨S, 0, none⟩) n cap), (14, .slice (some ⟨G13, 0, none⟩) 200 200), (16, .int .i64 (q : Int)), (13, .slice xa xl xc), (17, .int .i64 (j : Int)), (18, .pointer (some ⟨C14, 0, none⟩)), (19, .slice ya yl yc)] a ∧ Bx ⟨w, [(X, F1)]⟩ [(C14, cs1), (G13, (lds.map (.int .i64 ·))), (S, css.flatten)] X ∧ JnD w X F1 n lg0 lgs es0 (1152921504606846976 + q) A way1 lds V css (.slice xa xl xc) S G13 j C14 cs1 m1 more V1 (.slice ya yl yc)) (fun K hK => ?_) (fun a W hJ => ?_)
            ·
              refine wp_seq ?_
              refine wp_region_lit ?_
              refine sv_mv hf rfl (by decide) (fun a hf => ?_)
              refine sv_mv hf rfl (by decide) (fun a hf => ?_)
              refine sv_idx (k := 3) (q := q) (B := CB) (o := CO) hf (show _ = some (Value.slice (some ⟨CB, CO, none⟩) cn cc) from by rw [← hca]; rfl) rfl (by omega) Try.underlying43 (by kernel_rfl) (by decide) (fun a hf => ?_)
              refine sv_fld hf rfl Try.underlying75 rfl sz_bool (CO + q * 3) rfl (by decide) (fun a hf => ?_)
              refine sv_lm hf rfl ((hX.low.cell (p := ⟨CB, CO + q * 3 + 0, none⟩) hCB).trans hc0) Try.underlying4 rfl (by decide) (fun a hf => ?_)
              refine sv_mv hf rfl (by decide) (fun a hf => ?_)
              cases cb
              ·
                refine sv_want hf rfl rfl ?_
                refine sv_mv hf rfl (by decide) (fun a hf => ?_)
                refine sv_want hf rfl rfl ?_
                refine sv_len hf rfl Try.underlying37 (by decide) (fun a hf => ?_)
                refine sv_want hf rfl rfl ?_
                rcases Decidable.em (((way.length : Nat) : Int) = 0) with hq16 | hq16
                ·
                  refine sv_cmp hf rfl rfl true (congrArg some (decide_eq_true hq16)) (by decide) (fun a hf => ?_)
                  refine sv_pk hf rfl rfl (by decide) (fun a hf => ?_)
                  refine sv_nil hf ?_
                  refine wp_cond_true (hf.rel _ _ rfl) ?_
                  refine wp_region_lit ?_
                  refine sv_mv hf rfl (by decide) (fun a hf => ?_)
                  refine sv_mv hf rfl (by decide) (fun a hf => ?_)
                  refine sv_idx (q := j0) hf rfl rfl (by omega) Try.underlying44 einfo_mems (by decide) (fun a hf => ?_)
                  refine sv_lrr (cs := cs0) hf rfl (by rw [Nat.zero_add]; exact box_row (hX.get (i := 2) rfl) hrowc hcs0) Try.underlying25 (by rw [hM0.cells.1]; exact info_mem) (by decide) (fun a hf => ?_)
                  have hc18 := (hX.get (i := 0) rfl).lt
                  have hS1 := (hX.get (i := 2) rfl).lt
                  have hG1 := (hX.get (i := 1) rfl).lt
                  have hw1 := fun k hk => (hW.lt k hk).2
                  have hs01 := hs0
                  refine sv_call hf fnOK_24 rfl (call_camp hD.inv hn1 hn7 (by omega) hj0n (hM0.kept hs0 (fun k hk hlt => (hX.bas _ List.mem_cons_self).2 k hlt hk) (fun k h _ => h)) (hL.lgI (hfew j0 hj0n))) (by decide) ?_
                  rintro e W ⟨cs1, va, vl, vc, rfl, hco, hb⟩
                  replace hX := hX.keep hb
                  replace hW := hW.below hb
                  have hs12 := hb.size
                  replace hs0 := Nat.le_trans hs0 hb.size
                  clear hb
                  refine ⟨_, rfl, fun a hf => ?_⟩
                  refine sv_mv hf rfl (by decide) (fun a hf => ?_)
                  refine sv_ext hf rfl rfl (by decide) (fun a hf => ?_)
                  refine sv_ext hf rfl rfl (by decide) (fun a hf => ?_)
                  refine sv_sr hf hX rfl rfl 0 rfl (hco.cells.1.trans rfl) (by rw [hco.cells.1]; exact info_mem) hco.cells.2 [(C14, cs1), (G13, (lds.map (.int .i64 ·))), (S, css.flatten)] rfl (fun W hX hO => ?_)
                  replace hW := hW.keep (fun k hk => hO.heap k (hnC14 k hk))
                  replace hs0 := Nat.le_trans hs0 (Nat.le_of_eq hO.size.symm)
                  replace hco := hco.only hO hc18
                  replace hs12 := Nat.le_trans hs12 (Nat.le_of_eq hO.size.symm)
                  clear hO
                  refine sv_as hf rfl (by decide) (fun a hf => ?_)
                  refine sv_nil hf ?_
                  obtain ⟨m1, more, V1, hJ⟩ := JnD.of (C := C14) hD hs01 hs12 (fun k hk hlt => (hX.bas _ List.mem_cons_self).2 k hlt hk) hW (fun k hk => ⟨(hap k hk).1, (hap k hk).2.1, (hap k hk).2.2, hnC14 k hk, hw1 k hk⟩) (fun m hm => hm) hD.wl hS1 hG1 ⟨fun h => by have := hD.flt _ h; omega, by omega, by omega⟩ hc18 hj0n hco
                  exact hK _ _ ⟨j0, way, _, cs1, m1, more, V1, _, _, _, _, _, _, hf.sub (sub_cons rfl (sub_cons rfl (sub_cons rfl (sub_cons rfl (sub_cons rfl (sub_cons rfl (sub_cons rfl (sub_cons rfl (sub_cons rfl (sub_cons rfl (sub_nil))))))))))), hX.rebase _ (by intro y hy; simp only [List.mem_cons, List.not_mem_nil, or_false] at hy; rcases hy with rfl | rfl | rfl; exact hJ.cne.1; exact hJ.std.fS.2.1; exact hJ.std.fS.1), hJ⟩
                ·
                  refine sv_cmp hf rfl rfl false (congrArg some (decide_eq_false hq16)) (by decide) (fun a hf => ?_)
                  refine sv_pk hf rfl rfl (by decide) (fun a hf => ?_)
                  refine sv_nil hf ?_
                  refine wp_cond_false (hf.rel _ _ rfl) ?_
                  refine wp_seq ?_
                  refine wp_region_lit ?_
                  refine sv_mv hf rfl (by decide) (fun a hf => ?_)
                  refine sv_mv hf rfl (by decide) (fun a hf => ?_)
                  refine sv_idx (k := 3) (q := q) (B := CB) (o := CO) hf (show _ = some (Value.slice (some ⟨CB, CO, none⟩) cn cc) from by rw [← hca]; rfl) rfl (by omega) Try.underlying43 (by kernel_rfl) (by decide) (fun a hf => ?_)
                  refine sv_fld hf rfl Try.underlying75 rfl sz_u8 (CO + q * 3 + 2) rfl (by decide) (fun a hf => ?_)
                  refine sv_lm hf rfl ((hX.low.cell (p := ⟨CB, CO + q * 3 + 2, none⟩) hCB).trans hc2) Try.underlying5 rfl (by decide) (fun a hf => ?_)
                  refine sv_run (v := .int .i64 u) hf (by decide) (fun a hf => ex_conv8 hf rfl rfl Try.underlying5 Try.underlying3 hu0 hu1) (fun a hf => ?_)
                  refine sv_mv hf rfl (by decide) (fun a hf => ?_)
                  refine sv_len hf rfl Try.underlying37 (by decide) (fun a hf => ?_)
                  refine sv_run (v := .int .i64 (u % ((way.length : Nat) : Int))) hf (by decide) (fun a hf => ex_rem hf rfl rfl rfl hu0 (by omega) (by omega) (by have := hD.wl; omega) rfl) (fun a hf => ?_)
                  refine sv_as hf rfl (by decide) (fun a hf => ?_)
                  refine sv_nil hf ?_
                  refine wp_seq ?_
                  obtain ⟨k, hk, hkl⟩ : ∃ k : Nat, u % ((way.length : Nat) : Int) = k ∧ k < way.length := ⟨(u % ((way.length : Nat) : Int)).toNat, by have := Int.emod_nonneg u (show ((way.length : Nat) : Int) ≠ 0 by omega); omega, by have := Int.emod_nonneg u (show ((way.length : Nat) : Int) ≠ 0 by omega); have := Int.emod_lt_of_pos u (show (0 : Int) < ((way.length : Nat) : Int) by omega); omega⟩
                  rw [hk] at hf
                  obtain ⟨g, rfl⟩ := hwg (by omega)
                  obtain ⟨mx, hmx⟩ : ∃ m, way[k]? = some m := ⟨_, List.getElem?_eq_getElem hkl⟩
                  have hmok := hD.inv.msg mx (List.mem_of_getElem? hmx)
                  have hkc : k ≤ wc := by omega
                  have hwl306 := hD.wl
                  refine wp_region_lit ?_
                  refine sv_mv hf rfl (by decide) (fun a hf => ?_)
                  refine sv_mv hf rfl (by decide) (fun a hf => ?_)
                  refine sv_idx (q := k) hf rfl rfl (by omega) Try.underlying37 einfo_msgs (by decide) (fun a hf => ?_)
                  refine sv_lrr (cs := [.int .i64 mx.f, .int .i64 mx.t, .int .i64 mx.k, .int .i64 mx.tm, .int .i64 mx.xi, .int .i64 mx.xl, .int .i64 0, .slice none 0 0, .bool mx.ok]) hf rfl (hW.msg hmx) Try.underlying35 info_msg (by decide) (fun a hf => ?_)
                  refine sv_alloc (zs := [.int .i64 0, .int .i64 0, .int .i64 0, .int .i64 0, .int .i64 0, .int .i64 0, .int .i64 0, .slice none 0 0, .bool false]) hf hX zero_msg (by decide) (fun a C17 W hC hf hX hA => ?_)
                  have hnC17 := fun k hk => Nat.ne_of_lt (Nat.lt_of_lt_of_eq (hW.lt k hk).2 hC.symm)
                  have hgC17 := Nat.le_trans hs0 (Nat.le_of_eq hC.symm)
                  replace hW := hW.below hA
                  replace hs0 := Nat.le_trans hs0 hA.size
                  clear hC hA
                  refine sv_sr hf hX rfl rfl 0 rfl rfl info_msg (fun v hv => List.all_eq_true.1 (show List.all [.int .i64 mx.f, .int .i64 mx.t, .int .i64 mx.k, .int .i64 mx.tm, .int .i64 mx.xi, .int .i64 mx.xl, .int .i64 0, .slice none 0 0, .bool mx.ok] (·.oneCell') = true from rfl) v hv) [(C17, [.int .i64 mx.f, .int .i64 mx.t, .int .i64 mx.k, .int .i64 mx.tm, .int .i64 mx.xi, .int .i64 mx.xl, .int .i64 0, .slice none 0 0, .bool mx.ok]), (C14, [.int .i64 0, .int .i64 0, .int .i64 0, .int .i64 0, .int .i64 0, .int .i64 0, .int .i64 0, .int .i64 0, .slice none 0 0, .int .i64 0, .slice none 0 0, .slice none 0 0]), (G13, (lds.map (.int .i64 ·))), (S, css.flatten)] rfl (fun W hX hO => ?_)
                  replace hW := hW.keep (fun k hk => hO.heap k (hnC17 k hk))
                  replace hs0 := Nat.le_trans hs0 (Nat.le_of_eq hO.size.symm)
                  clear hO
                  refine sv_nil hf ?_
                  refine wp_seq ?_
                  refine wp_seq ?_
                  refine wp_region_lit ?_
                  refine sv_mv hf rfl (by decide) (fun a hf => ?_)
                  refine sv_mv hf rfl (by decide) (fun a hf => ?_)
                  refine sv_idx (k := 3) (q := q) (B := CB) (o := CO) hf (show _ = some (Value.slice (some ⟨CB, CO, none⟩) cn cc) from by rw [← hca]; rfl) rfl (by omega) Try.underlying43 (by kernel_rfl) (by decide) (fun a hf => ?_)
                  refine sv_fld hf rfl Try.underlying75 rfl sz_bool (CO + q * 3 + 1) rfl (by decide) (fun a hf => ?_)
                  refine sv_lm hf rfl ((hX.low.cell (p := ⟨CB, CO + q * 3 + 1, none⟩) hCB).trans hc1) Try.underlying4 rfl (by decide) (fun a hf => ?_)
                  cases ab
                  ·
                    refine sv_not hf rfl (by decide) (fun a hf => ?_)
                    refine sv_nil hf ?_
                    refine wp_cond_true (hf.rel _ _ rfl) ?_
                    have h38S := (hX.get (i := 3) rfl).lt
                    have h38G := (hX.get (i := 2) rfl).lt
                    have h38C17 := (hX.get (i := 0) rfl).lt
                    have h38C14 := (hX.get (i := 1) rfl).lt
                    have h38F := fun k hk => Nat.lt_of_lt_of_le (hD.flt k hk) hs0
                    have h380 := hs0
                    have hwb := fun k hk => (hW.lt k hk).2
                    obtain ⟨B38, hB38⟩ : ∃ b, b = W.heap.size := ⟨_, rfl⟩
                    rw [← hB38] at h38C17 h38C14 h38S h38G h38F h380 hwb
                    have hww := Nat.le_trans hX.low.size (Nat.le_of_eq hB38.symm)
                    refine wp_region_ordW 11 0 [(1, 0), (2, 0), (3, 0), (5, 0), (6, 0), (7, 0), (8, 0), (0, 3), (4, 3), (9, 3), (10, 3)] (fun X => Bx ⟨w, [(W0, F)]⟩ [(C17, [.int .i64 mx.f, .int .i64 mx.t, .int .i64 mx.k, .int .i64 mx.tm, .int .i64 mx.xi, .int .i64 mx.xl, .int .i64 0, .slice none 0 0, .bool mx.ok]), (C14, [.int .i64 0, .int .i64 0, .int .i64 0, .int .i64 0, .int .i64 0, .int .i64 0, .int .i64 0, .int .i64 0, .slice none 0 0, .int .i64 0, .slice none 0 0, .slice none 0 0]), (G13, (lds.map (.int .i64 ·))), (S, css.flatten)] X) mixed (by kernel_rfl) hX.drew (fun c a d v w h => by cases d <;> exact h) ?_
                    replace hX := hX.drew
                    replace hW := hW.below (Below.refl _ _).drew
                    replace hs0 : W0.heap.size ≤ (World.drew W).heap.size := hs0
                    refine ov0 (v := .slice (some ⟨g, 0, none⟩) way.length wc) hf rfl rfl (by decide) rfl (fun X => ex_vmv hf rfl rfl) (fun a hf => ?_)
                    refine ov0 (v := .int .i64 (k : Int)) hf rfl rfl (by decide) rfl (fun X => ex_vmv hf rfl rfl) (fun a hf => ?_)
                    refine ov0 (v := .slice (some ⟨g, 0, none⟩) k wc) hf rfl rfl (by decide) rfl (fun X => (by rw [← (hW.head k).1]; exact ex_slh hf rfl rfl rfl Try.underlying37 einfo_msgs hkc)) (fun a hf => ?_)
                    refine ov0 (v := .slice (some ⟨g, 0, none⟩) way.length wc) hf rfl rfl (by decide) rfl (fun X => ex_vmv hf rfl rfl) (fun a hf => ?_)
                    refine ov0 (v := .int .i64 (k : Int)) hf rfl rfl (by decide) rfl (fun X => ex_vmv hf rfl rfl) (fun a hf => ?_)
                    refine ov0 (v := .int .i64 ((k + 1 : Nat) : Int)) hf rfl rfl (by decide) rfl (fun X => (ex_add hf rfl rfl rfl (by rw [wrap_in (by omega)]; rfl))) (fun a hf => ?_)
                    refine ov0 (v := .slice (some (tadr g (k + 1) wc)) (way.length - (k + 1)) (wc - (k + 1))) hf rfl rfl (by decide) rfl (fun X => (by rw [← (hW.tail (k := k + 1) (by omega)).1]; exact ex_sll (k := k + 1) hf rfl rfl rfl Try.underlying37 einfo_msgs (by omega))) (fun a hf => ?_)
                    obtain ⟨ie, hie⟩ : ∃ ie, Try.prog.info? 35 = some ie := Option.isSome_iff_exists.1 (by kernel_rfl)
                    refine ov3w hf rfl rfl (by decide) rfl (ex_bs0 rfl Try.underlying37 hie) (fun a hf => ?_)
                    have hE0 := own_empty (B := w.heap.size) W.drew (Nat.le_trans hww (Nat.le_of_eq hB38))
                    have hbE : Below W.drew.heap.size W.drew (W.drew.alloc (.cells #[] 35)) := (Below.refl _ _).alloc (Nat.le_refl _) _
                    replace hX := hX.keep hbE
                    replace hW := hW.below hbE
                    replace hs0 := Nat.le_trans hs0 hbE.size
                    have hlb : ∀ k', (Value.slice (some ⟨W.drew.heap.size, 0, none⟩) 0 0).ownBlock = some k' → B38 ≤ k' := fun k' hk' => by obtain rfl := Option.some.inj hk'; exact Nat.le_of_eq hB38
                    have hsz : B38 ≤ (W.drew.alloc (.cells #[] 35)).heap.size := Nat.le_trans (Nat.le_of_eq hB38) hbE.size
                    refine ov3_apps (base := w.heap.size) (n := 0) (m := k) (xs := []) (news := mrow (way.take k)) hf hX rfl rfl (by decide) rfl rfl rfl rfl Try.underlying37 info_msg3 rfl (by decide) hE0 (take_len way hkl) (hW.head k).2 (fun u hu => mrow_ones _ u hu) (by have := hD.wl; omega) (by decide) (Nat.le_trans hww hsz) (Nat.le_refl _) (fun k' hk' q hq e => by have := hlb k' hk'; simp only [List.mem_cons, List.not_mem_nil, or_false] at hq; rcases hq with rfl | rfl | rfl | rfl <;> simp only at e <;> omega) (fun k' hk' p hp hlt => by have := hlb k' hk'; rw [List.mem_singleton.1 hp] at hlt; exact absurd hlt (by simp only; omega)) (fun a pa pc W hf hX hE1 hgr hsrc => ?_)
                    replace hW := hW.grown hgr (fun k' hk' e => by have := hlb k' e; have := hwb k' hk'; omega)
                    replace hlb : ∀ k', (Value.slice pa (0 + k) pc).ownBlock = some k' → B38 ≤ k' := fun k' hk' => by rcases hsrc k' hk' with h | h; exact hlb k' h; exact Nat.le_trans hsz h
                    replace hsz : B38 ≤ W.heap.size := Nat.le_trans hsz hgr.size
                    replace hs0 := Nat.le_trans hs0 hgr.size
                    clear hE0
                    have hE0 := hE1
                    clear hE1 hgr hsrc
                    refine ov3_apps (base := w.heap.size) (n := (0 + k)) (m := (way.length - (k + 1))) (xs := ([] ++ mrow (way.take k))) (news := mrow (way.drop (k + 1))) hf hX rfl rfl (by decide) rfl rfl rfl rfl Try.underlying37 info_msg3 rfl (by decide) hE0 (drop_len way (k + 1)) (hW.tail (k := k + 1) (by omega)).2 (fun u hu => mrow_ones _ u hu) (by have := hD.wl; omega) (by decide) (Nat.le_trans hww hsz) (Nat.le_refl _) (fun k' hk' q hq e => by have := hlb k' hk'; simp only [List.mem_cons, List.not_mem_nil, or_false] at hq; rcases hq with rfl | rfl | rfl | rfl <;> simp only at e <;> omega) (fun k' hk' p hp hlt => by have := hlb k' hk'; rw [List.mem_singleton.1 hp] at hlt; exact absurd hlt (by simp only; omega)) (fun a pa pc W hf hX hE1 hgr hsrc => ?_)
                    replace hW := hW.grown hgr (fun k' hk' e => by have := hlb k' e; have := hwb k' hk'; omega)
                    replace hlb : ∀ k', (Value.slice pa ((0 + k) + (way.length - (k + 1))) pc).ownBlock = some k' → B38 ≤ k' := fun k' hk' => by rcases hsrc k' hk' with h | h; exact hlb k' h; exact Nat.le_trans hsz h
                    replace hsz : B38 ≤ W.heap.size := Nat.le_trans hsz hgr.size
                    replace hs0 := Nat.le_trans hs0 hgr.size
                    clear hE0
                    have hE0 := hE1
                    clear hE1 hgr hsrc
                    refine ov3v (v := .slice pa ((0 + k) + (way.length - (k + 1))) pc) hf rfl rfl (by decide) rfl (ex_vas hf rfl rfl) (fun a hf => ?_)
                    refine wpOrd_nil ?_
                    refine wp_seq ?_
                    rw [rem_len way hkl] at hf hE0 hlb
                    obtain ⟨way1, hway1⟩ : ∃ L, L = way.take k ++ way.drop (k + 1) := ⟨_, rfl⟩
                    have hW1 := OwnM.removed hE0
                    rw [← hway1] at hf hW1 hlb
                    have hsub : ∀ m ∈ way1, m ∈ way := fun m hm => rem_sub m (hway1 ▸ hm)
                    have hwl1 : way1.length ≤ 306 := by have := hD.wl; rw [hway1, List.length_append, List.length_take, List.length_drop]; omega
                    clear hW
                    have hW := hW1
                    clear hW1 hE0 hway1
                    have hap1 : ∀ k', (Value.slice pa way1.length pc).ownBlock = some k' → ¬ F k' ∧ k' ≠ S ∧ k' ≠ G13 := fun k' hk' => by have := hlb k' hk'; exact ⟨fun h => by have := h38F k' h; omega, by omega, by omega⟩
                    replace hnC17 : ∀ k', (Value.slice pa way1.length pc).ownBlock = some k' → k' ≠ C17 := fun k' hk' => by have := hlb k' hk'; omega
                    replace hnC14 : ∀ k', (Value.slice pa way1.length pc).ownBlock = some k' → k' ≠ C14 := fun k' hk' => by have := hlb k' hk'; omega
                    refine wp_region_lit ?_
                    refine sv_fld hf rfl Try.underlying35 rfl sz_int (1) rfl (by decide) (fun a hf => ?_)
                    refine sv_lc hf hX rfl 0 rfl rfl Try.underlying3 rfl (by decide) (fun a hf => ?_)
                    refine sv_as hf rfl (by decide) (fun a hf => ?_)
                    refine sv_nil hf ?_
                    refine wp_seq ?_
                    obtain ⟨f1, j1, hmf, hmt, hf1n, hj1n, _⟩ := id hmok
                    rw [hmt] at hf
                    obtain ⟨cs0, hcs0, hM0⟩ := hD.mem j1 hj1n
                    refine wp_region_lit ?_
                    refine sv_fld hf rfl Try.underlying35 rfl sz_int (2) rfl (by decide) (fun a hf => ?_)
                    refine sv_lc hf hX rfl 0 rfl rfl Try.underlying3 rfl (by decide) (fun a hf => ?_)
                    rcases Decidable.em (mx.k = 1) with hq20 | hq20
                    ·
                      refine sv_cmp hf rfl rfl true (congrArg some (decide_eq_true hq20)) (by decide) (fun a hf => ?_)
                      refine sv_nil hf ?_
                      refine wp_cond_true (hf.rel _ _ rfl) ?_
                      refine wp_region_ordW 11 9 [(0, 0), (1, 0), (2, 0), (3, 1), (4, 1), (5, 2), (6, 0), (7, 0), (8, 0), (9, 3), (10, 3)] (fun X => Bx ⟨w, [(W0, F)]⟩ [(C17, [.int .i64 mx.f, .int .i64 mx.t, .int .i64 mx.k, .int .i64 mx.tm, .int .i64 mx.xi, .int .i64 mx.xl, .int .i64 0, .slice none 0 0, .bool mx.ok]), (C14, [.int .i64 0, .int .i64 0, .int .i64 0, .int .i64 0, .int .i64 0, .int .i64 0, .int .i64 0, .int .i64 0, .slice none 0 0, .int .i64 0, .slice none 0 0, .slice none 0 0]), (G13, (lds.map (.int .i64 ·))), (S, css.flatten)] X) mixed (by kernel_rfl) hX.drew (fun c a d v w h => by cases d <;> exact h) ?_
                      replace hX := hX.drew
                      replace hW := hW.below (Below.refl _ _).drew
                      replace hs0 : W0.heap.size ≤ (World.drew W).heap.size := hs0
                      refine ov0 hf rfl rfl (by decide) rfl (fun X => ex_vmv hf rfl rfl) (fun a hf => ?_)
                      refine ov0 hf rfl rfl (by decide) rfl (fun X => ex_vmv hf rfl rfl) (fun a hf => ?_)
                      refine ov0 hf rfl rfl (by decide) rfl (fun X => ex_idx (q := j1) hf rfl rfl rfl (by omega) Try.underlying44 einfo_mems) (fun a hf => ?_)
                      refine ov1 hf rfl rfl (by decide) rfl (fun X hS => ex_load_row _ (.tmp 180) _ _ cs0 _ rfl (hf.rel _ _ rfl) (by rw [Nat.zero_add]; exact box_row (hS.get (i := 3) rfl) hrowc hcs0) Try.underlying25 rfl (by rw [hM0.cells.1]; exact info_mem)) (fun a hf => ?_)
                      refine ov1 hf rfl rfl (by decide) rfl (fun X hS => ex_vlr (cs := [.int .i64 mx.f, .int .i64 mx.t, .int .i64 mx.k, .int .i64 mx.tm, .int .i64 mx.xi, .int .i64 mx.xl, .int .i64 0, .slice none 0 0, .bool mx.ok]) hf rfl rfl (hS.get (i := 0) rfl) Try.underlying35 info_msg) (fun a hf => ?_)
                      have hc18 := (hX.get (i := 1) rfl).lt
                      have hS1 := (hX.get (i := 3) rfl).lt
                      have hG1 := (hX.get (i := 2) rfl).lt
                      have hw1 := fun k hk => (hW.lt k hk).2
                      have hs01 := hs0
                      refine ov2c hf rfl rfl (by decide) rfl rfl fnOK_19 rfl (call_vote (m := mx) (hD.inv.sub hsub) hn1 hn7 (by omega) (hM0.kept hs0 (fun k hk hlt => (hX.bas _ List.mem_cons_self).2 k hlt hk) (fun k h _ => h)) (hL.lgI (hfew j1 hj1n)) hmok hmt hq20) ?_
                      rintro e W ⟨cs1, va, vl, vc, rfl, hco, hb⟩
                      replace hX := hX.keep hb
                      replace hW := hW.below hb
                      have hs12 := hb.size
                      replace hs0 := Nat.le_trans hs0 hb.size
                      clear hb
                      refine ⟨_, rfl, hX, fun a hf => ?_⟩
                      refine ov0 hf rfl rfl (by decide) rfl (fun X => ex_vmv hf rfl rfl) (fun a hf => ?_)
                      refine ov0 hf rfl rfl (by decide) rfl (fun X => ex_vext hf rfl rfl rfl) (fun a hf => ?_)
                      refine ov0 hf rfl rfl (by decide) rfl (fun X => ex_vext hf rfl rfl rfl) (fun a hf => ?_)
                      have hbS := hX.get (i := 1) (C := C14) (cs := [.int .i64 0, .int .i64 0, .int .i64 0, .int .i64 0, .int .i64 0, .int .i64 0, .int .i64 0, .int .i64 0, .slice none 0 0, .int .i64 0, .slice none 0 0, .slice none 0 0]) rfl
                      refine ov3 rfl rfl rfl (ex_store_row 25 _ _ C14 0 cs1 rfl (hf.ev rfl) (hf.ev rfl) (hbS.there 0 cs1.length (by rw [hco.cells.1]; decide)) (by rw [hco.cells.1]; exact info_mem) hco.cells.2) ?_
                      have hO := Only.setCells _ C14 0 cs1 hbS.lt
                      replace hX : Bx ⟨w, [(W0, F)]⟩ [(C17, [.int .i64 mx.f, .int .i64 mx.t, .int .i64 mx.k, .int .i64 mx.tm, .int .i64 mx.xi, .int .i64 mx.xl, .int .i64 0, .slice none 0 0, .bool mx.ok]), (C14, cs1), (G13, (lds.map (.int .i64 ·))), (S, css.flatten)] _ := hX.set (i := 1) rfl (hbS.store (hco.cells.1.trans rfl)) hO
                      replace hW := hW.keep (fun k hk => hO.heap k (hnC14 k hk))
                      replace hs0 := Nat.le_trans hs0 (Nat.le_of_eq hO.size.symm)
                      replace hco := hco.only hO hc18
                      replace hs12 := Nat.le_trans hs12 (Nat.le_of_eq hO.size.symm)
                      clear hO hbS
                      refine ov3v hf rfl rfl (by decide) rfl (ex_vas hf rfl rfl) (fun a hf => ?_)
                      refine wpOrd_nil ?_
                      replace hX := hX.sub
                      obtain ⟨m1, more, V1, hJ⟩ := JnD.of (C := C14) hD hs01 hs12 (fun k hk hlt => (hX.bas _ List.mem_cons_self).2 k hlt hk) hW (fun k hk => ⟨(hap1 k hk).1, (hap1 k hk).2.1, (hap1 k hk).2.2, hnC14 k hk, hw1 k hk⟩) hsub hwl1 hS1 hG1 ⟨fun h => by have := hD.flt _ h; omega, by omega, by omega⟩ hc18 hj1n hco
                      exact hK _ _ ⟨j1, way1, _, cs1, m1, more, V1, _, _, _, _, _, _, hf.sub (sub_cons rfl (sub_cons rfl (sub_cons rfl (sub_cons rfl (sub_cons rfl (sub_cons rfl (sub_cons rfl (sub_cons rfl (sub_cons rfl (sub_cons rfl (sub_nil))))))))))), hX.rebase _ (by intro y hy; simp only [List.mem_cons, List.not_mem_nil, or_false] at hy; rcases hy with rfl | rfl | rfl; exact hJ.cne.1; exact hJ.std.fS.2.1; exact hJ.std.fS.1), hJ⟩
                    ·
                      refine sv_cmp hf rfl rfl false (congrArg some (decide_eq_false hq20)) (by decide) (fun a hf => ?_)
                      refine sv_nil hf ?_
                      refine wp_cond_false (hf.rel _ _ rfl) ?_
                      refine wp_region_ordW 7 6 [(0, 0), (1, 0), (2, 0), (3, 1), (4, 1), (5, 2), (6, 3)] (fun X => Bx ⟨w, [(W0, F)]⟩ [(C17, [.int .i64 mx.f, .int .i64 mx.t, .int .i64 mx.k, .int .i64 mx.tm, .int .i64 mx.xi, .int .i64 mx.xl, .int .i64 0, .slice none 0 0, .bool mx.ok]), (C14, [.int .i64 0, .int .i64 0, .int .i64 0, .int .i64 0, .int .i64 0, .int .i64 0, .int .i64 0, .int .i64 0, .slice none 0 0, .int .i64 0, .slice none 0 0, .slice none 0 0]), (G13, (lds.map (.int .i64 ·))), (S, css.flatten)] X) mixed (by kernel_rfl) hX.drew (fun c a d v w h => by cases d <;> exact h) ?_
                      replace hX := hX.drew
                      replace hW := hW.below (Below.refl _ _).drew
                      replace hs0 : W0.heap.size ≤ (World.drew W).heap.size := hs0
                      refine ov0 hf rfl rfl (by decide) rfl (fun X => ex_vmv hf rfl rfl) (fun a hf => ?_)
                      refine ov0 hf rfl rfl (by decide) rfl (fun X => ex_vmv hf rfl rfl) (fun a hf => ?_)
                      refine ov0 hf rfl rfl (by decide) rfl (fun X => ex_idx (q := j1) hf rfl rfl rfl (by omega) Try.underlying44 einfo_mems) (fun a hf => ?_)
                      refine ov1 hf rfl rfl (by decide) rfl (fun X hS => ex_load_row _ (.tmp 188) _ _ cs0 _ rfl (hf.rel _ _ rfl) (by rw [Nat.zero_add]; exact box_row (hS.get (i := 3) rfl) hrowc hcs0) Try.underlying25 rfl (by rw [hM0.cells.1]; exact info_mem)) (fun a hf => ?_)
                      refine ov1 hf rfl rfl (by decide) rfl (fun X hS => ex_vlr (cs := [.int .i64 mx.f, .int .i64 mx.t, .int .i64 mx.k, .int .i64 mx.tm, .int .i64 mx.xi, .int .i64 mx.xl, .int .i64 0, .slice none 0 0, .bool mx.ok]) hf rfl rfl (hS.get (i := 0) rfl) Try.underlying35 info_msg) (fun a hf => ?_)
                      have hc18 := (hX.get (i := 1) rfl).lt
                      have hS1 := (hX.get (i := 3) rfl).lt
                      have hG1 := (hX.get (i := 2) rfl).lt
                      have hw1 := fun k hk => (hW.lt k hk).2
                      have hs01 := hs0
                      refine ov2c hf rfl rfl (by decide) rfl rfl fnOK_22 rfl (call_voted (m := mx) (hD.inv.sub hsub) hn1 hn7 (by omega) (hM0.kept hs0 (fun k hk hlt => (hX.bas _ List.mem_cons_self).2 k hlt hk) (fun k h _ => h)) (hL.lgI (hfew j1 hj1n)) hmok hmt) ?_
                      rintro e W ⟨cs1, rfl, hco, hb⟩
                      replace hX := hX.keep hb
                      replace hW := hW.below hb
                      have hs12 := hb.size
                      replace hs0 := Nat.le_trans hs0 hb.size
                      clear hb
                      refine ⟨_, rfl, hX, fun a hf => ?_⟩
                      have hbS := hX.get (i := 1) (C := C14) (cs := [.int .i64 0, .int .i64 0, .int .i64 0, .int .i64 0, .int .i64 0, .int .i64 0, .int .i64 0, .int .i64 0, .slice none 0 0, .int .i64 0, .slice none 0 0, .slice none 0 0]) rfl
                      refine ov3 rfl rfl rfl (ex_store_row 25 _ _ C14 0 cs1 rfl (hf.ev rfl) (hf.ev rfl) (hbS.there 0 cs1.length (by rw [hco.cells.1]; decide)) (by rw [hco.cells.1]; exact info_mem) hco.cells.2) ?_
                      have hO := Only.setCells _ C14 0 cs1 hbS.lt
                      replace hX : Bx ⟨w, [(W0, F)]⟩ [(C17, [.int .i64 mx.f, .int .i64 mx.t, .int .i64 mx.k, .int .i64 mx.tm, .int .i64 mx.xi, .int .i64 mx.xl, .int .i64 0, .slice none 0 0, .bool mx.ok]), (C14, cs1), (G13, (lds.map (.int .i64 ·))), (S, css.flatten)] _ := hX.set (i := 1) rfl (hbS.store (hco.cells.1.trans rfl)) hO
                      replace hW := hW.keep (fun k hk => hO.heap k (hnC14 k hk))
                      replace hs0 := Nat.le_trans hs0 (Nat.le_of_eq hO.size.symm)
                      replace hco := hco.only hO hc18
                      replace hs12 := Nat.le_trans hs12 (Nat.le_of_eq hO.size.symm)
                      clear hO hbS
                      refine wpOrd_nil ?_
                      replace hX := hX.sub
                      obtain ⟨m1, more, V1, hJ⟩ := JnD.of (C := C14) hD hs01 hs12 (fun k hk hlt => (hX.bas _ List.mem_cons_self).2 k hlt hk) hW (fun k hk => ⟨(hap1 k hk).1, (hap1 k hk).2.1, (hap1 k hk).2.2, hnC14 k hk, hw1 k hk⟩) hsub hwl1 hS1 hG1 ⟨fun h => by have := hD.flt _ h; omega, by omega, by omega⟩ hc18 hj1n hco
                      exact hK _ _ ⟨j1, way1, _, cs1, m1, more, V1, _, _, _, _, _, _, hf.sub (sub_cons rfl (sub_cons rfl (sub_cons rfl (sub_cons rfl (sub_cons rfl (sub_cons rfl (sub_cons rfl (sub_cons rfl (sub_cons rfl (sub_cons rfl (sub_nil))))))))))), hX.rebase _ (by intro y hy; simp only [List.mem_cons, List.not_mem_nil, or_false] at hy; rcases hy with rfl | rfl | rfl; exact hJ.cne.1; exact hJ.std.fS.2.1; exact hJ.std.fS.1), hJ⟩
                  ·
                    refine sv_not hf rfl (by decide) (fun a hf => ?_)
                    refine sv_nil hf ?_
                    refine wp_cond_false (hf.rel _ _ rfl) ?_
                    refine wp_skip ?_
                    refine wp_seq ?_
                    refine wp_region_lit ?_
                    refine sv_fld hf rfl Try.underlying35 rfl sz_int (1) rfl (by decide) (fun a hf => ?_)
                    refine sv_lc hf hX rfl 0 rfl rfl Try.underlying3 rfl (by decide) (fun a hf => ?_)
                    refine sv_as hf rfl (by decide) (fun a hf => ?_)
                    refine sv_nil hf ?_
                    refine wp_seq ?_
                    obtain ⟨f1, j1, hmf, hmt, hf1n, hj1n, _⟩ := id hmok
                    rw [hmt] at hf
                    obtain ⟨cs0, hcs0, hM0⟩ := hD.mem j1 hj1n
                    refine wp_region_lit ?_
                    refine sv_fld hf rfl Try.underlying35 rfl sz_int (2) rfl (by decide) (fun a hf => ?_)
                    refine sv_lc hf hX rfl 0 rfl rfl Try.underlying3 rfl (by decide) (fun a hf => ?_)
                    rcases Decidable.em (mx.k = 1) with hq21 | hq21
                    ·
                      refine sv_cmp hf rfl rfl true (congrArg some (decide_eq_true hq21)) (by decide) (fun a hf => ?_)
                      refine sv_nil hf ?_
                      refine wp_cond_true (hf.rel _ _ rfl) ?_
                      refine wp_region_ordW 11 9 [(0, 0), (1, 0), (2, 0), (3, 1), (4, 1), (5, 2), (6, 0), (7, 0), (8, 0), (9, 3), (10, 3)] (fun X => Bx ⟨w, [(W0, F)]⟩ [(C17, [.int .i64 mx.f, .int .i64 mx.t, .int .i64 mx.k, .int .i64 mx.tm, .int .i64 mx.xi, .int .i64 mx.xl, .int .i64 0, .slice none 0 0, .bool mx.ok]), (C14, [.int .i64 0, .int .i64 0, .int .i64 0, .int .i64 0, .int .i64 0, .int .i64 0, .int .i64 0, .int .i64 0, .slice none 0 0, .int .i64 0, .slice none 0 0, .slice none 0 0]), (G13, (lds.map (.int .i64 ·))), (S, css.flatten)] X) mixed (by kernel_rfl) hX.drew (fun c a d v w h => by cases d <;> exact h) ?_
                      replace hX := hX.drew
                      replace hW := hW.below (Below.refl _ _).drew
                      replace hs0 : W0.heap.size ≤ (World.drew W).heap.size := hs0
                      refine ov0 hf rfl rfl (by decide) rfl (fun X => ex_vmv hf rfl rfl) (fun a hf => ?_)
                      refine ov0 hf rfl rfl (by decide) rfl (fun X => ex_vmv hf rfl rfl) (fun a hf => ?_)
                      refine ov0 hf rfl rfl (by decide) rfl (fun X => ex_idx (q := j1) hf rfl rfl rfl (by omega) Try.underlying44 einfo_mems) (fun a hf => ?_)
                      refine ov1 hf rfl rfl (by decide) rfl (fun X hS => ex_load_row _ (.tmp 180) _ _ cs0 _ rfl (hf.rel _ _ rfl) (by rw [Nat.zero_add]; exact box_row (hS.get (i := 3) rfl) hrowc hcs0) Try.underlying25 rfl (by rw [hM0.cells.1]; exact info_mem)) (fun a hf => ?_)
                      refine ov1 hf rfl rfl (by decide) rfl (fun X hS => ex_vlr (cs := [.int .i64 mx.f, .int .i64 mx.t, .int .i64 mx.k, .int .i64 mx.tm, .int .i64 mx.xi, .int .i64 mx.xl, .int .i64 0, .slice none 0 0, .bool mx.ok]) hf rfl rfl (hS.get (i := 0) rfl) Try.underlying35 info_msg) (fun a hf => ?_)
                      have hc18 := (hX.get (i := 1) rfl).lt
                      have hS1 := (hX.get (i := 3) rfl).lt
                      have hG1 := (hX.get (i := 2) rfl).lt
                      have hw1 := fun k hk => (hW.lt k hk).2
                      have hs01 := hs0
                      refine ov2c hf rfl rfl (by decide) rfl rfl fnOK_19 rfl (call_vote (m := mx) (hD.inv.sub (fun m hm => hm)) hn1 hn7 (by omega) (hM0.kept hs0 (fun k hk hlt => (hX.bas _ List.mem_cons_self).2 k hlt hk) (fun k h _ => h)) (hL.lgI (hfew j1 hj1n)) hmok hmt hq21) ?_
                      rintro e W ⟨cs1, va, vl, vc, rfl, hco, hb⟩
                      replace hX := hX.keep hb
                      replace hW := hW.below hb
                      have hs12 := hb.size
                      replace hs0 := Nat.le_trans hs0 hb.size
                      clear hb
                      refine ⟨_, rfl, hX, fun a hf => ?_⟩
                      refine ov0 hf rfl rfl (by decide) rfl (fun X => ex_vmv hf rfl rfl) (fun a hf => ?_)
                      refine ov0 hf rfl rfl (by decide) rfl (fun X => ex_vext hf rfl rfl rfl) (fun a hf => ?_)
                      refine ov0 hf rfl rfl (by decide) rfl (fun X => ex_vext hf rfl rfl rfl) (fun a hf => ?_)
                      have hbS := hX.get (i := 1) (C := C14) (cs := [.int .i64 0, .int .i64 0, .int .i64 0, .int .i64 0, .int .i64 0, .int .i64 0, .int .i64 0, .int .i64 0, .slice none 0 0, .int .i64 0, .slice none 0 0, .slice none 0 0]) rfl
                      refine ov3 rfl rfl rfl (ex_store_row 25 _ _ C14 0 cs1 rfl (hf.ev rfl) (hf.ev rfl) (hbS.there 0 cs1.length (by rw [hco.cells.1]; decide)) (by rw [hco.cells.1]; exact info_mem) hco.cells.2) ?_
                      have hO := Only.setCells _ C14 0 cs1 hbS.lt
                      replace hX : Bx ⟨w, [(W0, F)]⟩ [(C17, [.int .i64 mx.f, .int .i64 mx.t, .int .i64 mx.k, .int .i64 mx.tm, .int .i64 mx.xi, .int .i64 mx.xl, .int .i64 0, .slice none 0 0, .bool mx.ok]), (C14, cs1), (G13, (lds.map (.int .i64 ·))), (S, css.flatten)] _ := hX.set (i := 1) rfl (hbS.store (hco.cells.1.trans rfl)) hO
                      replace hW := hW.keep (fun k hk => hO.heap k (hnC14 k hk))
                      replace hs0 := Nat.le_trans hs0 (Nat.le_of_eq hO.size.symm)
                      replace hco := hco.only hO hc18
                      replace hs12 := Nat.le_trans hs12 (Nat.le_of_eq hO.size.symm)
                      clear hO hbS
                      refine ov3v hf rfl rfl (by decide) rfl (ex_vas hf rfl rfl) (fun a hf => ?_)
                      refine wpOrd_nil ?_
                      replace hX := hX.sub
                      obtain ⟨m1, more, V1, hJ⟩ := JnD.of (C := C14) hD hs01 hs12 (fun k hk hlt => (hX.bas _ List.mem_cons_self).2 k hlt hk) hW (fun k hk => ⟨(hap k hk).1, (hap k hk).2.1, (hap k hk).2.2, hnC14 k hk, hw1 k hk⟩) (fun m hm => hm) hD.wl hS1 hG1 ⟨fun h => by have := hD.flt _ h; omega, by omega, by omega⟩ hc18 hj1n hco
                      exact hK _ _ ⟨j1, way, _, cs1, m1, more, V1, _, _, _, _, _, _, hf.sub (sub_cons rfl (sub_cons rfl (sub_cons rfl (sub_cons rfl (sub_cons rfl (sub_cons rfl (sub_cons rfl (sub_cons rfl (sub_cons rfl (sub_cons rfl (sub_nil))))))))))), hX.rebase _ (by intro y hy; simp only [List.mem_cons, List.not_mem_nil, or_false] at hy; rcases hy with rfl | rfl | rfl; exact hJ.cne.1; exact hJ.std.fS.2.1; exact hJ.std.fS.1), hJ⟩
                    ·
                      refine sv_cmp hf rfl rfl false (congrArg some (decide_eq_false hq21)) (by decide) (fun a hf => ?_)
                      refine sv_nil hf ?_
                      refine wp_cond_false (hf.rel _ _ rfl) ?_
                      refine wp_region_ordW 7 6 [(0, 0), (1, 0), (2, 0), (3, 1), (4, 1), (5, 2), (6, 3)] (fun X => Bx ⟨w, [(W0, F)]⟩ [(C17, [.int .i64 mx.f, .int .i64 mx.t, .int .i64 mx.k, .int .i64 mx.tm, .int .i64 mx.xi, .int .i64 mx.xl, .int .i64 0, .slice none 0 0, .bool mx.ok]), (C14, [.int .i64 0, .int .i64 0, .int .i64 0, .int .i64 0, .int .i64 0, .int .i64 0, .int .i64 0, .int .i64 0, .slice none 0 0, .int .i64 0, .slice none 0 0, .slice none 0 0]), (G13, (lds.map (.int .i64 ·))), (S, css.flatten)] X) mixed (by kernel_rfl) hX.drew (fun c a d v w h => by cases d <;> exact h) ?_
                      replace hX := hX.drew
                      replace hW := hW.below (Below.refl _ _).drew
                      replace hs0 : W0.heap.size ≤ (World.drew W).heap.size := hs0
                      refine ov0 hf rfl rfl (by decide) rfl (fun X => ex_vmv hf rfl rfl) (fun a hf => ?_)
                      refine ov0 hf rfl rfl (by decide) rfl (fun X => ex_vmv hf rfl rfl) (fun a hf => ?_)
                      refine ov0 hf rfl rfl (by decide) rfl (fun X => ex_idx (q := j1) hf rfl rfl rfl (by omega) Try.underlying44 einfo_mems) (fun a hf => ?_)
                      refine ov1 hf rfl rfl (by decide) rfl (fun X hS => ex_load_row _ (.tmp 188) _ _ cs0 _ rfl (hf.rel _ _ rfl) (by rw [Nat.zero_add]; exact box_row (hS.get (i := 3) rfl) hrowc hcs0) Try.underlying25 rfl (by rw [hM0.cells.1]; exact info_mem)) (fun a hf => ?_)
                      refine ov1 hf rfl rfl (by decide) rfl (fun X hS => ex_vlr (cs := [.int .i64 mx.f, .int .i64 mx.t, .int .i64 mx.k, .int .i64 mx.tm, .int .i64 mx.xi, .int .i64 mx.xl, .int .i64 0, .slice none 0 0, .bool mx.ok]) hf rfl rfl (hS.get (i := 0) rfl) Try.underlying35 info_msg) (fun a hf => ?_)
                      have hc18 := (hX.get (i := 1) rfl).lt
                      have hS1 := (hX.get (i := 3) rfl).lt
                      have hG1 := (hX.get (i := 2) rfl).lt
                      have hw1 := fun k hk => (hW.lt k hk).2
                      have hs01 := hs0
                      refine ov2c hf rfl rfl (by decide) rfl rfl fnOK_22 rfl (call_voted (m := mx) (hD.inv.sub (fun m hm => hm)) hn1 hn7 (by omega) (hM0.kept hs0 (fun k hk hlt => (hX.bas _ List.mem_cons_self).2 k hlt hk) (fun k h _ => h)) (hL.lgI (hfew j1 hj1n)) hmok hmt) ?_
                      rintro e W ⟨cs1, rfl, hco, hb⟩
                      replace hX := hX.keep hb
                      replace hW := hW.below hb
                      have hs12 := hb.size
                      replace hs0 := Nat.le_trans hs0 hb.size
                      clear hb
                      refine ⟨_, rfl, hX, fun a hf => ?_⟩
                      have hbS := hX.get (i := 1) (C := C14) (cs := [.int .i64 0, .int .i64 0, .int .i64 0, .int .i64 0, .int .i64 0, .int .i64 0, .int .i64 0, .int .i64 0, .slice none 0 0, .int .i64 0, .slice none 0 0, .slice none 0 0]) rfl
                      refine ov3 rfl rfl rfl (ex_store_row 25 _ _ C14 0 cs1 rfl (hf.ev rfl) (hf.ev rfl) (hbS.there 0 cs1.length (by rw [hco.cells.1]; decide)) (by rw [hco.cells.1]; exact info_mem) hco.cells.2) ?_
                      have hO := Only.setCells _ C14 0 cs1 hbS.lt
                      replace hX : Bx ⟨w, [(W0, F)]⟩ [(C17, [.int .i64 mx.f, .int .i64 mx.t, .int .i64 mx.k, .int .i64 mx.tm, .int .i64 mx.xi, .int .i64 mx.xl, .int .i64 0, .slice none 0 0, .bool mx.ok]), (C14, cs1), (G13, (lds.map (.int .i64 ·))), (S, css.flatten)] _ := hX.set (i := 1) rfl (hbS.store (hco.cells.1.trans rfl)) hO
                      replace hW := hW.keep (fun k hk => hO.heap k (hnC14 k hk))
                      replace hs0 := Nat.le_trans hs0 (Nat.le_of_eq hO.size.symm)
                      replace hco := hco.only hO hc18
                      replace hs12 := Nat.le_trans hs12 (Nat.le_of_eq hO.size.symm)
                      clear hO hbS
                      refine wpOrd_nil ?_
                      replace hX := hX.sub
                      obtain ⟨m1, more, V1, hJ⟩ := JnD.of (C := C14) hD hs01 hs12 (fun k hk hlt => (hX.bas _ List.mem_cons_self).2 k hlt hk) hW (fun k hk => ⟨(hap k hk).1, (hap k hk).2.1, (hap k hk).2.2, hnC14 k hk, hw1 k hk⟩) (fun m hm => hm) hD.wl hS1 hG1 ⟨fun h => by have := hD.flt _ h; omega, by omega, by omega⟩ hc18 hj1n hco
                      exact hK _ _ ⟨j1, way, _, cs1, m1, more, V1, _, _, _, _, _, _, hf.sub (sub_cons rfl (sub_cons rfl (sub_cons rfl (sub_cons rfl (sub_cons rfl (sub_cons rfl (sub_cons rfl (sub_cons rfl (sub_cons rfl (sub_cons rfl (sub_nil))))))))))), hX.rebase _ (by intro y hy; simp only [List.mem_cons, List.not_mem_nil, or_false] at hy; rcases hy with rfl | rfl | rfl; exact hJ.cne.1; exact hJ.std.fS.2.1; exact hJ.std.fS.1), hJ⟩
              ·
                refine sv_skip1 hf rfl rfl (by decide) (by decide) (fun a hf => ?_)
                refine sv_skip1 hf rfl rfl (by decide) (by decide) (fun a hf => ?_)
                refine sv_skip1 hf rfl rfl (by decide) (by decide) (fun a hf => ?_)
                refine sv_pk hf rfl rfl (by decide) (fun a hf => ?_)
                refine sv_nil hf ?_
                refine wp_cond_true (hf.rel _ _ rfl) ?_
                refine wp_region_lit ?_
                refine sv_mv hf rfl (by decide) (fun a hf => ?_)
                refine sv_mv hf rfl (by decide) (fun a hf => ?_)
                refine sv_idx (q := j0) hf rfl rfl (by omega) Try.underlying44 einfo_mems (by decide) (fun a hf => ?_)
                refine sv_lrr (cs := cs0) hf rfl (by rw [Nat.zero_add]; exact box_row (hX.get (i := 2) rfl) hrowc hcs0) Try.underlying25 (by rw [hM0.cells.1]; exact info_mem) (by decide) (fun a hf => ?_)
                have hc18 := (hX.get (i := 0) rfl).lt
                have hS1 := (hX.get (i := 2) rfl).lt
                have hG1 := (hX.get (i := 1) rfl).lt
                have hw1 := fun k hk => (hW.lt k hk).2
                have hs01 := hs0
                refine sv_call hf fnOK_24 rfl (call_camp hD.inv hn1 hn7 (by omega) hj0n (hM0.kept hs0 (fun k hk hlt => (hX.bas _ List.mem_cons_self).2 k hlt hk) (fun k h _ => h)) (hL.lgI (hfew j0 hj0n))) (by decide) ?_
                rintro e W ⟨cs1, va, vl, vc, rfl, hco, hb⟩
                replace hX := hX.keep hb
                replace hW := hW.below hb
                have hs12 := hb.size
                replace hs0 := Nat.le_trans hs0 hb.size
                clear hb
                refine ⟨_, rfl, fun a hf => ?_⟩
                refine sv_mv hf rfl (by decide) (fun a hf => ?_)
                refine sv_ext hf rfl rfl (by decide) (fun a hf => ?_)
                refine sv_ext hf rfl rfl (by decide) (fun a hf => ?_)
                refine sv_sr hf hX rfl rfl 0 rfl (hco.cells.1.trans rfl) (by rw [hco.cells.1]; exact info_mem) hco.cells.2 [(C14, cs1), (G13, (lds.map (.int .i64 ·))), (S, css.flatten)] rfl (fun W hX hO => ?_)
                replace hW := hW.keep (fun k hk => hO.heap k (hnC14 k hk))
                replace hs0 := Nat.le_trans hs0 (Nat.le_of_eq hO.size.symm)
                replace hco := hco.only hO hc18
                replace hs12 := Nat.le_trans hs12 (Nat.le_of_eq hO.size.symm)
                clear hO
                refine sv_as hf rfl (by decide) (fun a hf => ?_)
                refine sv_nil hf ?_
                obtain ⟨m1, more, V1, hJ⟩ := JnD.of (C := C14) hD hs01 hs12 (fun k hk hlt => (hX.bas _ List.mem_cons_self).2 k hlt hk) hW (fun k hk => ⟨(hap k hk).1, (hap k hk).2.1, (hap k hk).2.2, hnC14 k hk, hw1 k hk⟩) (fun m hm => hm) hD.wl hS1 hG1 ⟨fun h => by have := hD.flt _ h; omega, by omega, by omega⟩ hc18 hj0n hco
                exact hK _ _ ⟨j0, way, _, cs1, m1, more, V1, _, _, _, _, _, _, hf.sub (sub_cons rfl (sub_cons rfl (sub_cons rfl (sub_cons rfl (sub_cons rfl (sub_cons rfl (sub_cons rfl (sub_cons rfl (sub_cons rfl (sub_cons rfl (sub_nil))))))))))), hX.rebase _ (by intro y hy; simp only [List.mem_cons, List.not_mem_nil, or_false] at hy; rcases hy with rfl | rfl | rfl; exact hJ.cne.1; exact hJ.std.fS.2.1; exact hJ.std.fS.1), hJ⟩
            clear hX hf hW hs0 hap hrowc hcl hwc hwg hcs0 hM0 hS0 hG0 hD
            obtain ⟨j, way1, F1, cs1, m1, more, V1, xa, xl, xc, ya, yl, yc, hf, hX, hJ⟩ := hJ
            obtain ⟨W3, hW3⟩ : ∃ X, X = W := ⟨_, rfl⟩
            rw [← hW3] at hJ
            replace hX : Bx ⟨w, [(W3, F1)]⟩ [(C14, cs1), (G13, (lds.map (.int .i64 ·))), (S, css.flatten)] W := by rw [hW3]; exact hX
            have hW : OwnM w.heap.size W (.slice xa xl xc) way1 := by rw [← hW3]; exact hJ.std.own
            have hs0 : W3.heap.size ≤ W.heap.size := by rw [hW3]; exact Nat.le_refl _
            clear hW3
            have hap := hJ.std.apart
            have hrowc := hJ.std.row
            have hcl : css.length = n := hJ.std.len
            have hjn := hJ.jn
            have hnC14 := hJ.cne.2.2.2
            obtain ⟨_, _, ewv, hwc, hwg⟩ := hW.none_len
            obtain ⟨rfl, rfl, rfl⟩ := Value.slice.inj ewv
            clear ewv
            obtain ⟨cs0, hcs0, hM0⟩ := hJ.std.mem j hjn
            obtain ⟨ga0, gc0, na0, nl0, nc0, ma0, ml0, mc0, xs0, ys0, k0, rfl, h80, _⟩ := id hM0
            obtain ⟨ga1, gc1, na1, nl1, nc1, ma1, ml1, mc1, xs1, ys1, k1, rfl, h81, _⟩ := id hJ.mem1
            have hT0 := (hJ.std.inv.bnd j hjn).1
            have htm := hJ.tm
            obtain ⟨T, hT⟩ : ∃ T : Nat, m1.tm = T := ⟨m1.tm.toNat, by omega⟩
            replace hX : Bx ⟨w, [(W3, F1)]⟩ [(C14, [.int .i64 (j : Int), .int .i64 (n : Int), .int .i64 (T : Int), .int .i64 m1.vt, .int .i64 m1.rl, .int .i64 m1.ld, .int .i64 m1.ti, .int .i64 m1.vs, .slice ga1 ((lgs j).len) gc1, .int .i64 0, .slice na1 nl1 nc1, .slice ma1 ml1 mc1]), (G13, (lds.map (.int .i64 ·))), (S, css.flatten)] W := by rw [← hT]; exact hX
            refine wp_seq ?_
            refine wp_seq ?_
            refine wp_region_ordW 24 23 [(0, 1), (1, 2), (2, 0), (3, 0), (4, 0), (5, 1), (6, 0), (7, 0), (8, 0), (9, 0), (10, 1), (11, 0), (12, 0), (13, 0), (14, 0), (15, 1), (16, 0), (17, 0), (18, 0), (19, 0), (20, 1), (21, 2), (22, 0), (23, 3)] (fun X => Bx ⟨w, [(W3, F1)]⟩ [(C14, [.int .i64 (j : Int), .int .i64 (n : Int), .int .i64 (T : Int), .int .i64 m1.vt, .int .i64 m1.rl, .int .i64 m1.ld, .int .i64 m1.ti, .int .i64 m1.vs, .slice ga1 ((lgs j).len) gc1, .int .i64 0, .slice na1 nl1 nc1, .slice ma1 ml1 mc1]), (G13, (lds.map (.int .i64 ·))), (S, css.flatten)] X) mixed (by kernel_rfl) hX.drew (fun c a d v w h => by cases d <;> exact h) ?_
            replace hX := hX.drew
            replace hW := hW.below (Below.refl _ _).drew
            replace hs0 : W3.heap.size ≤ (World.drew W).heap.size := hs0
            refine ov1 hf rfl rfl (by decide) rfl (fun X hS => ex_vlr (cs := [.int .i64 (j : Int), .int .i64 (n : Int), .int .i64 (T : Int), .int .i64 m1.vt, .int .i64 m1.rl, .int .i64 m1.ld, .int .i64 m1.ti, .int .i64 m1.vs, .slice ga1 ((lgs j).len) gc1, .int .i64 0, .slice na1 nl1 nc1, .slice ma1 ml1 mc1]) hf rfl rfl (hS.get (i := 0) rfl) Try.underlying25 info_mem) (fun a hf => ?_)
            refine ov2c hf rfl rfl (by decide) rfl rfl fnOK_16 rfl (by have := (hJ.mem1.kept (hX.bas _ List.mem_cons_self).1 (fun k hk hlt => (hX.bas _ List.mem_cons_self).2 k hlt hk) (fun k h _ => h)).valid_ok (hL.lgI (hfew j hjn)); rw [hT] at this; exact this) ?_
            rintro e W ⟨rfl, hb⟩
            replace hX := hX.keep hb
            replace hW := hW.below hb
            replace hs0 := Nat.le_trans hs0 hb.size
            clear hb
            refine ⟨_, rfl, hX, fun a hf => ?_⟩
            refine ov0 hf rfl rfl (by decide) rfl (fun X => ex_not (b := true) hf rfl rfl) (fun a hf => ?_)
            refine ov0 hf rfl rfl (by decide) rfl (fun X => ex_vmv hf rfl rfl) (fun a hf => ?_)
            refine ov0 hf rfl rfl (by decide) (wanted_known hf rfl rfl rfl) (fun X => ex_vfld (2) hf rfl rfl Try.underlying25 rfl sz_int rfl) (fun a hf => ?_)
            refine ov1 hf rfl rfl (by decide) (wanted_known hf rfl rfl rfl) (fun X hS => ex_vlc (cs := [.int .i64 (j : Int), .int .i64 (n : Int), .int .i64 (T : Int), .int .i64 m1.vt, .int .i64 m1.rl, .int .i64 m1.ld, .int .i64 m1.ti, .int .i64 m1.vs, .slice ga1 ((lgs j).len) gc1, .int .i64 0, .slice na1 nl1 nc1, .slice ma1 ml1 mc1]) hf rfl rfl (hS.get (i := 0) rfl) rfl Try.underlying3 rfl) (fun a hf => ?_)
            refine ov0 hf rfl rfl (by decide) (wanted_known hf rfl rfl rfl) (fun X => ex_vmv hf rfl rfl) (fun a hf => ?_)
            refine ov0 hf rfl rfl (by decide) (wanted_known hf rfl rfl rfl) (fun X => ex_vmv hf rfl rfl) (fun a hf => ?_)
            refine ov0 hf rfl rfl (by decide) (wanted_known hf rfl rfl rfl) (fun X => ex_idx (q := j) hf rfl rfl rfl (by omega) Try.underlying44 einfo_mems) (fun a hf => ?_)
            refine ov0 hf rfl rfl (by decide) (wanted_known hf rfl rfl rfl) (fun X => ex_vfld (0 + j * 12 + 2) hf rfl rfl Try.underlying25 rfl sz_int rfl) (fun a hf => ?_)
            refine ov1 hf rfl rfl (by decide) (wanted_known hf rfl rfl rfl) (fun X hS => ex_vlm hf rfl rfl (by rw [Nat.zero_add]; exact box_row (hS.get (i := 2) rfl) hrowc hcs0 2 _ rfl) Try.underlying3 rfl) (fun a hf => ?_)
            refine ov0 hf rfl rfl (by decide) (wanted_known hf rfl rfl rfl) (fun X => ex_cmp (b := false) hf rfl rfl rfl (congrArg some (decide_eq_false (by omega)))) (fun a hf => ?_)
            refine ov0 hf rfl rfl (by decide) rfl (fun X => ex_pk (b := false) hf rfl rfl rfl) (fun a hf => ?_)
            refine ov0 hf rfl rfl (by decide) rfl (fun X => ex_vmv hf rfl rfl) (fun a hf => ?_)
            refine ov0 hf rfl rfl (by decide) (wanted_known hf rfl rfl rfl) (fun X => ex_vfld (8) hf rfl rfl Try.underlying25 rfl sz_ents rfl) (fun a hf => ?_)
            refine ov1 hf rfl rfl (by decide) (wanted_known hf rfl rfl rfl) (fun X hS => ex_vlc (cs := [.int .i64 (j : Int), .int .i64 (n : Int), .int .i64 (T : Int), .int .i64 m1.vt, .int .i64 m1.rl, .int .i64 m1.ld, .int .i64 m1.ti, .int .i64 m1.vs, .slice ga1 ((lgs j).len) gc1, .int .i64 0, .slice na1 nl1 nc1, .slice ma1 ml1 mc1]) hf rfl rfl (hS.get (i := 0) rfl) rfl Try.underlying22 rfl) (fun a hf => ?_)
            refine ov0 hf rfl rfl (by decide) (wanted_known hf rfl rfl rfl) (fun X => ex_vmv hf rfl rfl) (fun a hf => ?_)
            refine ov0 hf rfl rfl (by decide) (wanted_known hf rfl rfl rfl) (fun X => ex_vmv hf rfl rfl) (fun a hf => ?_)
            refine ov0 hf rfl rfl (by decide) (wanted_known hf rfl rfl rfl) (fun X => ex_idx (q := j) hf rfl rfl rfl (by omega) Try.underlying44 einfo_mems) (fun a hf => ?_)
            refine ov0 hf rfl rfl (by decide) (wanted_known hf rfl rfl rfl) (fun X => ex_vfld (0 + j * 12 + 8) hf rfl rfl Try.underlying25 rfl sz_ents rfl) (fun a hf => ?_)
            refine ov1 hf rfl rfl (by decide) (wanted_known hf rfl rfl rfl) (fun X hS => ex_vlm hf rfl rfl (by rw [Nat.zero_add]; exact box_row (hS.get (i := 2) rfl) hrowc hcs0 8 _ rfl) Try.underlying22 rfl) (fun a hf => ?_)
            refine ov2c hf rfl rfl (by decide) (wanted_known hf rfl rfl rfl) rfl fnOK_25 rfl (same_log (log_kept h81 (hX.bas _ List.mem_cons_self).1 (fun k hk hlt => (hX.bas _ List.mem_cons_self).2 k hlt hk)) (log_kept h80 (hX.bas _ List.mem_cons_self).1 (fun k hk hlt => (hX.bas _ List.mem_cons_self).2 k hlt hk))) ?_
            rintro e W ⟨rfl, hb⟩
            replace hX := hX.keep hb
            replace hW := hW.below hb
            replace hs0 := Nat.le_trans hs0 hb.size
            clear hb
            refine ⟨_, rfl, hX, fun a hf => ?_⟩
            refine ov0 hf rfl rfl (by decide) (wanted_known hf rfl rfl rfl) (fun X => ex_not (b := true) hf rfl rfl) (fun a hf => ?_)
            refine ov3v hf rfl rfl (by decide) rfl (ex_pk (b := false) hf rfl rfl rfl) (fun a hf => ?_)
            refine wpOrd_nil ?_
            refine wp_cond_false (hf.rel _ _ rfl) ?_
            refine wp_skip ?_
            refine wp_seq ?_
            obtain ⟨ev, hev⟩ : ∃ b, b = (decide (m1.rl = 2) && (!decide ((A j).rl = 2) || !decide ((A j).tm = (T : Int))) && decide ((T : Int) < 200)) := ⟨_, rfl⟩
            refine wp_meet_region (fun a X => ∃ lds2 : List Int, FrV 286 [(2, .slice ca cn cc), (6, .bool false), (7, .int .i64 (n : Int)), (8, .slice (some ⟨S, 0, none⟩) n cap), (14, .slice (some ⟨G13, 0, none⟩) 200 200), (16, .int .i64 (q : Int)), (13, .slice xa way1.length xc), (17, .int .i64 (j : Int)), (18, .pointer (some ⟨C14, 0, none⟩)), (19, .slice ya yl yc)] a ∧ Bx ⟨w, [(W3, F1)]⟩ [(C14, [.int .i64 (j : Int), .int .i64 (n : Int), .int .i64 (T : Int), .int .i64 m1.vt, .int .i64 m1.rl, .int .i64 m1.ld, .int .i64 m1.ti, .int .i64 m1.vs, .slice ga1 ((lgs j).len) gc1, .int .i64 0, .slice na1 nl1 nc1, .slice ma1 ml1 mc1]), (G13, (lds2.map (.int .i64 ·))), (S, css.flatten)] X ∧ lds2.length = 200 ∧ Inv n lgs ((1152921504606846976 : Int) + (q : Int) + 1) (upd1 A j m1) way1 lds2 V1 ∧ OwnM w.heap.size X (.slice xa way1.length xc) way1 ∧ W3.heap.size ≤ X.heap.size) (fun K hK => ?_) (fun a W hM => ?_)
            ·
              refine wp_seq ?_
              refine wp_meet_region (fun a X => FrV 286 [(243, .bool ev), (215, .bool false), (214, .bool false), (213, .bool true), (212, .slice ga0 ((lgs j).len) gc0), (211, .pointer (some ⟨S, 0 + j * 12 + 8, none⟩)), (210, .pointer (some ⟨S, 0 + j * 12, none⟩)), (209, .int .i64 (j : Int)), (208, .slice (some ⟨S, 0, none⟩) n cap), (207, .slice ga1 ((lgs j).len) gc1), (206, .pointer (some ⟨C14, 8, none⟩)), (205, .bool false), (204, .bool false), (203, .bool false), (202, .int .i64 ((A j).tm)), (201, .pointer (some ⟨S, 0 + j * 12 + 2, none⟩)), (200, .pointer (some ⟨S, 0 + j * 12, none⟩)), (199, .int .i64 (j : Int)), (198, .slice (some ⟨S, 0, none⟩) n cap), (197, .int .i64 (T : Int)), (196, .pointer (some ⟨C14, 2, none⟩)), (195, .bool false), (194, .bool false), (193, .bool true), (192, .agg #[.int .i64 (j : Int), .int .i64 (n : Int), .int .i64 (T : Int), .int .i64 m1.vt, .int .i64 m1.rl, .int .i64 m1.ld, .int .i64 m1.ti, .int .i64 m1.vs, .slice ga1 ((lgs j).len) gc1, .int .i64 0, .slice na1 nl1 nc1, .slice ma1 ml1 mc1]), (2, .slice ca cn cc), (6, .bool false), (7, .int .i64 (n : Int)), (8, .slice (some ⟨S, 0, none⟩) n cap), (14, .slice (some ⟨G13, 0, none⟩) 200 200), (16, .int .i64 (q : Int)), (13, .slice xa way1.length xc), (17, .int .i64 (j : Int)), (18, .pointer (some ⟨C14, 0, none⟩)), (19, .slice ya yl yc)] a ∧ Bx ⟨w, [(W3, F1)]⟩ [(C14, [.int .i64 (j : Int), .int .i64 (n : Int), .int .i64 (T : Int), .int .i64 m1.vt, .int .i64 m1.rl, .int .i64 m1.ld, .int .i64 m1.ti, .int .i64 m1.vs, .slice ga1 ((lgs j).len) gc1, .int .i64 0, .slice na1 nl1 nc1, .slice ma1 ml1 mc1]), (G13, (lds.map (.int .i64 ·))), (S, css.flatten)] X ∧ OwnM w.heap.size X (.slice xa way1.length xc) way1 ∧ W3.heap.size ≤ X.heap.size) (fun K hK => ?_) (fun a W hJ => ?_)
              ·
                refine wp_region_ordW 28 27 [(0, 0), (1, 1), (2, 0), (3, 0), (4, 0), (5, 0), (6, 0), (7, 0), (8, 1), (9, 0), (10, 0), (11, 0), (12, 0), (13, 0), (14, 0), (15, 1), (16, 0), (17, 1), (18, 0), (19, 0), (20, 0), (21, 0), (22, 0), (23, 1), (24, 0), (25, 0), (26, 0), (27, 3)] (fun X => Bx ⟨w, [(W3, F1)]⟩ [(C14, [.int .i64 (j : Int), .int .i64 (n : Int), .int .i64 (T : Int), .int .i64 m1.vt, .int .i64 m1.rl, .int .i64 m1.ld, .int .i64 m1.ti, .int .i64 m1.vs, .slice ga1 ((lgs j).len) gc1, .int .i64 0, .slice na1 nl1 nc1, .slice ma1 ml1 mc1]), (G13, (lds.map (.int .i64 ·))), (S, css.flatten)] X) mixed (by kernel_rfl) hX.drew (fun c a d v w h => by cases d <;> exact h) ?_
                replace hX := hX.drew
                replace hW := hW.below (Below.refl _ _).drew
                replace hs0 : W3.heap.size ≤ (World.drew W).heap.size := hs0
                refine ov0 hf rfl rfl (by decide) rfl (fun X => ex_vfld (4) hf rfl rfl Try.underlying25 rfl sz_int rfl) (fun a hf => ?_)
                refine ov1 hf rfl rfl (by decide) rfl (fun X hS => ex_vlc (cs := [.int .i64 (j : Int), .int .i64 (n : Int), .int .i64 (T : Int), .int .i64 m1.vt, .int .i64 m1.rl, .int .i64 m1.ld, .int .i64 m1.ti, .int .i64 m1.vs, .slice ga1 ((lgs j).len) gc1, .int .i64 0, .slice na1 nl1 nc1, .slice ma1 ml1 mc1]) hf rfl rfl (hS.get (i := 0) rfl) rfl Try.underlying3 rfl) (fun a hf => ?_)
                rcases Decidable.em (m1.rl = 2) with hq22 | hq22
                ·
                  refine ov0 hf rfl rfl (by decide) rfl (fun X => ex_cmp (b := true) hf rfl rfl rfl (congrArg some (decide_eq_true hq22))) (fun a hf => ?_)
                  refine ov0 hf rfl rfl (by decide) rfl (fun X => ex_vmv hf rfl rfl) (fun a hf => ?_)
                  refine ov0 hf rfl rfl (by decide) (wanted_known hf rfl rfl rfl) (fun X => ex_vmv hf rfl rfl) (fun a hf => ?_)
                  refine ov0 hf rfl rfl (by decide) (wanted_known hf rfl rfl rfl) (fun X => ex_vmv hf rfl rfl) (fun a hf => ?_)
                  refine ov0 hf rfl rfl (by decide) (wanted_known hf rfl rfl rfl) (fun X => ex_idx (q := j) hf rfl rfl rfl (by omega) Try.underlying44 einfo_mems) (fun a hf => ?_)
                  refine ov0 hf rfl rfl (by decide) (wanted_known hf rfl rfl rfl) (fun X => ex_vfld (0 + j * 12 + 4) hf rfl rfl Try.underlying25 rfl sz_int rfl) (fun a hf => ?_)
                  refine ov1 hf rfl rfl (by decide) (wanted_known hf rfl rfl rfl) (fun X hS => ex_vlm hf rfl rfl (by rw [Nat.zero_add]; exact box_row (hS.get (i := 2) rfl) hrowc hcs0 4 _ rfl) Try.underlying3 rfl) (fun a hf => ?_)
                  rcases Decidable.em ((A j).rl = 2) with hq23 | hq23
                  ·
                    refine ov0 hf rfl rfl (by decide) (wanted_known hf rfl rfl rfl) (fun X => ex_cmp (b := false) hf rfl rfl rfl (congrArg some (by rw [decide_eq_true hq23]; rfl))) (fun a hf => ?_)
                    refine ov0 hf rfl rfl (by decide) (wanted_known hf rfl rfl rfl) (fun X => ex_vmv hf rfl rfl) (fun a hf => ?_)
                    refine ov0 hf rfl rfl (by decide) (wanted_known hf rfl rfl rfl) (fun X => ex_vmv hf rfl rfl) (fun a hf => ?_)
                    refine ov0 hf rfl rfl (by decide) (wanted_known hf rfl rfl rfl) (fun X => ex_vmv hf rfl rfl) (fun a hf => ?_)
                    refine ov0 hf rfl rfl (by decide) (wanted_known hf rfl rfl rfl) (fun X => ex_idx (q := j) hf rfl rfl rfl (by omega) Try.underlying44 einfo_mems) (fun a hf => ?_)
                    refine ov0 hf rfl rfl (by decide) (wanted_known hf rfl rfl rfl) (fun X => ex_vfld (0 + j * 12 + 2) hf rfl rfl Try.underlying25 rfl sz_int rfl) (fun a hf => ?_)
                    refine ov1 hf rfl rfl (by decide) (wanted_known hf rfl rfl rfl) (fun X hS => ex_vlm hf rfl rfl (by rw [Nat.zero_add]; exact box_row (hS.get (i := 2) rfl) hrowc hcs0 2 _ rfl) Try.underlying3 rfl) (fun a hf => ?_)
                    refine ov0 hf rfl rfl (by decide) (wanted_known hf rfl rfl rfl) (fun X => ex_vfld (2) hf rfl rfl Try.underlying25 rfl sz_int rfl) (fun a hf => ?_)
                    refine ov1 hf rfl rfl (by decide) (wanted_known hf rfl rfl rfl) (fun X hS => ex_vlc (cs := [.int .i64 (j : Int), .int .i64 (n : Int), .int .i64 (T : Int), .int .i64 m1.vt, .int .i64 m1.rl, .int .i64 m1.ld, .int .i64 m1.ti, .int .i64 m1.vs, .slice ga1 ((lgs j).len) gc1, .int .i64 0, .slice na1 nl1 nc1, .slice ma1 ml1 mc1]) hf rfl rfl (hS.get (i := 0) rfl) rfl Try.underlying3 rfl) (fun a hf => ?_)
                    rcases Decidable.em ((A j).tm = (T : Int)) with hq24 | hq24
                    ·
                      refine ov0 hf rfl rfl (by decide) (wanted_known hf rfl rfl rfl) (fun X => ex_cmp (b := false) hf rfl rfl rfl (congrArg some (by rw [decide_eq_true hq24]; rfl))) (fun a hf => ?_)
                      refine ov0 hf rfl rfl (by decide) (wanted_known hf rfl rfl rfl) (fun X => ex_pk (b := false) hf rfl rfl rfl) (fun a hf => ?_)
                      refine ov0 hf rfl rfl (by decide) rfl (fun X => ex_pk (b := true) hf rfl rfl rfl) (fun a hf => ?_)
                      refine ov0 hf rfl rfl (by decide) rfl (fun X => ex_vmv hf rfl rfl) (fun a hf => ?_)
                      refine ovs hf rfl rfl (by decide) (unwanted_known hf rfl rfl rfl (by decide)) (fun a hf => ?_)
                      refine ovs1 hf rfl rfl (by decide) (unwanted_known hf rfl rfl rfl (by decide)) (fun a hf => ?_)
                      refine ovs hf rfl rfl (by decide) (unwanted_known hf rfl rfl rfl (by decide)) (fun a hf => ?_)
                      refine ovs hf rfl rfl (by decide) (unwanted_known hf rfl rfl rfl (by decide)) (fun a hf => ?_)
                      refine ovs hf rfl rfl (by decide) (unwanted_known hf rfl rfl rfl (by decide)) (fun a hf => ?_)
                      refine ov3v hf rfl rfl (by decide) rfl (ex_pk (b := false) hf rfl rfl rfl) (fun a hf => ?_)
                      replace hf := hf.sub (env' := [(243, .bool false), (215, .bool false), (214, .bool false), (213, .bool true), (212, .slice ga0 ((lgs j).len) gc0), (211, .pointer (some ⟨S, 0 + j * 12 + 8, none⟩)), (210, .pointer (some ⟨S, 0 + j * 12, none⟩)), (209, .int .i64 (j : Int)), (208, .slice (some ⟨S, 0, none⟩) n cap), (207, .slice ga1 ((lgs j).len) gc1), (206, .pointer (some ⟨C14, 8, none⟩)), (205, .bool false), (204, .bool false), (203, .bool false), (202, .int .i64 ((A j).tm)), (201, .pointer (some ⟨S, 0 + j * 12 + 2, none⟩)), (200, .pointer (some ⟨S, 0 + j * 12, none⟩)), (199, .int .i64 (j : Int)), (198, .slice (some ⟨S, 0, none⟩) n cap), (197, .int .i64 (T : Int)), (196, .pointer (some ⟨C14, 2, none⟩)), (195, .bool false), (194, .bool false), (193, .bool true), (192, .agg #[.int .i64 (j : Int), .int .i64 (n : Int), .int .i64 (T : Int), .int .i64 m1.vt, .int .i64 m1.rl, .int .i64 m1.ld, .int .i64 m1.ti, .int .i64 m1.vs, .slice ga1 ((lgs j).len) gc1, .int .i64 0, .slice na1 nl1 nc1, .slice ma1 ml1 mc1]), (2, .slice ca cn cc), (6, .bool false), (7, .int .i64 (n : Int)), (8, .slice (some ⟨S, 0, none⟩) n cap), (14, .slice (some ⟨G13, 0, none⟩) 200 200), (16, .int .i64 (q : Int)), (13, .slice xa way1.length xc), (17, .int .i64 (j : Int)), (18, .pointer (some ⟨C14, 0, none⟩)), (19, .slice ya yl yc)]) (sub_cons rfl (sub_cons rfl (sub_cons rfl (sub_cons rfl (sub_cons rfl (sub_cons rfl (sub_cons rfl (sub_cons rfl (sub_cons rfl (sub_cons rfl (sub_cons rfl (sub_cons rfl (sub_cons rfl (sub_cons rfl (sub_cons rfl (sub_cons rfl (sub_cons rfl (sub_cons rfl (sub_cons rfl (sub_cons rfl (sub_cons rfl (sub_cons rfl (sub_cons rfl (sub_cons rfl (sub_cons rfl (sub_cons rfl (sub_cons rfl (sub_cons rfl (sub_cons rfl (sub_cons rfl (sub_cons rfl (sub_cons rfl (sub_cons rfl (sub_cons rfl (sub_cons rfl (sub_nil))))))))))))))))))))))))))))))))))))
                      refine wpOrd_nil ?_
                      exact hK _ _ ⟨hf.sub (sub_cons (congrArg some (congrArg Value.bool (show false = ev by rw [hev]; simp only [decide_eq_false hq1, decide_eq_false hq2, decide_eq_true hq22, decide_eq_true hq23, decide_eq_true hq24]; first | done | rfl | simp))) (sub_cons rfl (sub_cons rfl (sub_cons rfl (sub_cons rfl (sub_cons rfl (sub_cons rfl (sub_cons rfl (sub_cons rfl (sub_cons rfl (sub_cons rfl (sub_cons rfl (sub_cons rfl (sub_cons rfl (sub_cons rfl (sub_cons rfl (sub_cons rfl (sub_cons rfl (sub_cons rfl (sub_cons rfl (sub_cons rfl (sub_cons rfl (sub_cons rfl (sub_cons rfl (sub_cons rfl (sub_cons rfl (sub_cons rfl (sub_cons rfl (sub_cons rfl (sub_cons rfl (sub_cons rfl (sub_cons rfl (sub_cons rfl (sub_cons rfl (sub_cons rfl (sub_nil)))))))))))))))))))))))))))))))))))), hX, hW, hs0⟩
                    ·
                      refine ov0 hf rfl rfl (by decide) (wanted_known hf rfl rfl rfl) (fun X => ex_cmp (b := true) hf rfl rfl rfl (congrArg some (by rw [decide_eq_false hq24]; rfl))) (fun a hf => ?_)
                      refine ov0 hf rfl rfl (by decide) (wanted_known hf rfl rfl rfl) (fun X => ex_pk (b := false) hf rfl rfl rfl) (fun a hf => ?_)
                      refine ov0 hf rfl rfl (by decide) rfl (fun X => ex_pk (b := true) hf rfl rfl rfl) (fun a hf => ?_)
                      refine ov0 hf rfl rfl (by decide) rfl (fun X => ex_vmv hf rfl rfl) (fun a hf => ?_)
                      refine ov0 hf rfl rfl (by decide) (wanted_known hf rfl rfl rfl) (fun X => ex_vfld (2) hf rfl rfl Try.underlying25 rfl sz_int rfl) (fun a hf => ?_)
                      refine ov1 hf rfl rfl (by decide) (wanted_known hf rfl rfl rfl) (fun X hS => ex_vlc (cs := [.int .i64 (j : Int), .int .i64 (n : Int), .int .i64 (T : Int), .int .i64 m1.vt, .int .i64 m1.rl, .int .i64 m1.ld, .int .i64 m1.ti, .int .i64 m1.vs, .slice ga1 ((lgs j).len) gc1, .int .i64 0, .slice na1 nl1 nc1, .slice ma1 ml1 mc1]) hf rfl rfl (hS.get (i := 0) rfl) rfl Try.underlying3 rfl) (fun a hf => ?_)
                      refine ov0 hf rfl rfl (by decide) (wanted_known hf rfl rfl rfl) (fun X => ex_vmv hf rfl rfl) (fun a hf => ?_)
                      refine ov0 hf rfl rfl (by decide) (wanted_known hf rfl rfl rfl) (fun X => ex_len hf rfl rfl Try.underlying23) (fun a hf => ?_)
                      rcases Decidable.em ((T : Int) < 200) with hq25 | hq25
                      ·
                        refine ov0 hf rfl rfl (by decide) (wanted_known hf rfl rfl rfl) (fun X => ex_cmp (b := true) hf rfl rfl rfl (congrArg some (decide_eq_true hq25))) (fun a hf => ?_)
                        refine ov3v hf rfl rfl (by decide) rfl (ex_pk (b := true) hf rfl rfl rfl) (fun a hf => ?_)
                        replace hf := hf.sub (env' := [(243, .bool true), (215, .bool false), (214, .bool false), (213, .bool true), (212, .slice ga0 ((lgs j).len) gc0), (211, .pointer (some ⟨S, 0 + j * 12 + 8, none⟩)), (210, .pointer (some ⟨S, 0 + j * 12, none⟩)), (209, .int .i64 (j : Int)), (208, .slice (some ⟨S, 0, none⟩) n cap), (207, .slice ga1 ((lgs j).len) gc1), (206, .pointer (some ⟨C14, 8, none⟩)), (205, .bool false), (204, .bool false), (203, .bool false), (202, .int .i64 ((A j).tm)), (201, .pointer (some ⟨S, 0 + j * 12 + 2, none⟩)), (200, .pointer (some ⟨S, 0 + j * 12, none⟩)), (199, .int .i64 (j : Int)), (198, .slice (some ⟨S, 0, none⟩) n cap), (197, .int .i64 (T : Int)), (196, .pointer (some ⟨C14, 2, none⟩)), (195, .bool false), (194, .bool false), (193, .bool true), (192, .agg #[.int .i64 (j : Int), .int .i64 (n : Int), .int .i64 (T : Int), .int .i64 m1.vt, .int .i64 m1.rl, .int .i64 m1.ld, .int .i64 m1.ti, .int .i64 m1.vs, .slice ga1 ((lgs j).len) gc1, .int .i64 0, .slice na1 nl1 nc1, .slice ma1 ml1 mc1]), (2, .slice ca cn cc), (6, .bool false), (7, .int .i64 (n : Int)), (8, .slice (some ⟨S, 0, none⟩) n cap), (14, .slice (some ⟨G13, 0, none⟩) 200 200), (16, .int .i64 (q : Int)), (13, .slice xa way1.length xc), (17, .int .i64 (j : Int)), (18, .pointer (some ⟨C14, 0, none⟩)), (19, .slice ya yl yc)]) (sub_cons rfl (sub_cons rfl (sub_cons rfl (sub_cons rfl (sub_cons rfl (sub_cons rfl (sub_cons rfl (sub_cons rfl (sub_cons rfl (sub_cons rfl (sub_cons rfl (sub_cons rfl (sub_cons rfl (sub_cons rfl (sub_cons rfl (sub_cons rfl (sub_cons rfl (sub_cons rfl (sub_cons rfl (sub_cons rfl (sub_cons rfl (sub_cons rfl (sub_cons rfl (sub_cons rfl (sub_cons rfl (sub_cons rfl (sub_cons rfl (sub_cons rfl (sub_cons rfl (sub_cons rfl (sub_cons rfl (sub_cons rfl (sub_cons rfl (sub_cons rfl (sub_cons rfl (sub_nil))))))))))))))))))))))))))))))))))))
                        refine wpOrd_nil ?_
                        exact hK _ _ ⟨hf.sub (sub_cons (congrArg some (congrArg Value.bool (show true = ev by rw [hev]; simp only [decide_eq_false hq1, decide_eq_false hq2, decide_eq_true hq22, decide_eq_true hq23, decide_eq_false hq24, decide_eq_true hq25]; first | done | rfl | simp))) (sub_cons rfl (sub_cons rfl (sub_cons rfl (sub_cons rfl (sub_cons rfl (sub_cons rfl (sub_cons rfl (sub_cons rfl (sub_cons rfl (sub_cons rfl (sub_cons rfl (sub_cons rfl (sub_cons rfl (sub_cons rfl (sub_cons rfl (sub_cons rfl (sub_cons rfl (sub_cons rfl (sub_cons rfl (sub_cons rfl (sub_cons rfl (sub_cons rfl (sub_cons rfl (sub_cons rfl (sub_cons rfl (sub_cons rfl (sub_cons rfl (sub_cons rfl (sub_cons rfl (sub_cons rfl (sub_cons rfl (sub_cons rfl (sub_cons rfl (sub_cons rfl (sub_nil)))))))))))))))))))))))))))))))))))), hX, hW, hs0⟩
                      ·
                        refine ov0 hf rfl rfl (by decide) (wanted_known hf rfl rfl rfl) (fun X => ex_cmp (b := false) hf rfl rfl rfl (congrArg some (decide_eq_false hq25))) (fun a hf => ?_)
                        refine ov3v hf rfl rfl (by decide) rfl (ex_pk (b := true) hf rfl rfl rfl) (fun a hf => ?_)
                        replace hf := hf.sub (env' := [(243, .bool false), (215, .bool false), (214, .bool false), (213, .bool true), (212, .slice ga0 ((lgs j).len) gc0), (211, .pointer (some ⟨S, 0 + j * 12 + 8, none⟩)), (210, .pointer (some ⟨S, 0 + j * 12, none⟩)), (209, .int .i64 (j : Int)), (208, .slice (some ⟨S, 0, none⟩) n cap), (207, .slice ga1 ((lgs j).len) gc1), (206, .pointer (some ⟨C14, 8, none⟩)), (205, .bool false), (204, .bool false), (203, .bool false), (202, .int .i64 ((A j).tm)), (201, .pointer (some ⟨S, 0 + j * 12 + 2, none⟩)), (200, .pointer (some ⟨S, 0 + j * 12, none⟩)), (199, .int .i64 (j : Int)), (198, .slice (some ⟨S, 0, none⟩) n cap), (197, .int .i64 (T : Int)), (196, .pointer (some ⟨C14, 2, none⟩)), (195, .bool false), (194, .bool false), (193, .bool true), (192, .agg #[.int .i64 (j : Int), .int .i64 (n : Int), .int .i64 (T : Int), .int .i64 m1.vt, .int .i64 m1.rl, .int .i64 m1.ld, .int .i64 m1.ti, .int .i64 m1.vs, .slice ga1 ((lgs j).len) gc1, .int .i64 0, .slice na1 nl1 nc1, .slice ma1 ml1 mc1]), (2, .slice ca cn cc), (6, .bool false), (7, .int .i64 (n : Int)), (8, .slice (some ⟨S, 0, none⟩) n cap), (14, .slice (some ⟨G13, 0, none⟩) 200 200), (16, .int .i64 (q : Int)), (13, .slice xa way1.length xc), (17, .int .i64 (j : Int)), (18, .pointer (some ⟨C14, 0, none⟩)), (19, .slice ya yl yc)]) (sub_cons rfl (sub_cons rfl (sub_cons rfl (sub_cons rfl (sub_cons rfl (sub_cons rfl (sub_cons rfl (sub_cons rfl (sub_cons rfl (sub_cons rfl (sub_cons rfl (sub_cons rfl (sub_cons rfl (sub_cons rfl (sub_cons rfl (sub_cons rfl (sub_cons rfl (sub_cons rfl (sub_cons rfl (sub_cons rfl (sub_cons rfl (sub_cons rfl (sub_cons rfl (sub_cons rfl (sub_cons rfl (sub_cons rfl (sub_cons rfl (sub_cons rfl (sub_cons rfl (sub_cons rfl (sub_cons rfl (sub_cons rfl (sub_cons rfl (sub_cons rfl (sub_cons rfl (sub_nil))))))))))))))))))))))))))))))))))))
                        refine wpOrd_nil ?_
                        exact hK _ _ ⟨hf.sub (sub_cons (congrArg some (congrArg Value.bool (show false = ev by rw [hev]; simp only [decide_eq_false hq1, decide_eq_false hq2, decide_eq_true hq22, decide_eq_true hq23, decide_eq_false hq24, decide_eq_false hq25]; first | done | rfl | simp))) (sub_cons rfl (sub_cons rfl (sub_cons rfl (sub_cons rfl (sub_cons rfl (sub_cons rfl (sub_cons rfl (sub_cons rfl (sub_cons rfl (sub_cons rfl (sub_cons rfl (sub_cons rfl (sub_cons rfl (sub_cons rfl (sub_cons rfl (sub_cons rfl (sub_cons rfl (sub_cons rfl (sub_cons rfl (sub_cons rfl (sub_cons rfl (sub_cons rfl (sub_cons rfl (sub_cons rfl (sub_cons rfl (sub_cons rfl (sub_cons rfl (sub_cons rfl (sub_cons rfl (sub_cons rfl (sub_cons rfl (sub_cons rfl (sub_cons rfl (sub_cons rfl (sub_nil)))))))))))))))))))))))))))))))))))), hX, hW, hs0⟩
                  ·
                    refine ov0 hf rfl rfl (by decide) (wanted_known hf rfl rfl rfl) (fun X => ex_cmp (b := true) hf rfl rfl rfl (congrArg some (by rw [decide_eq_false hq23]; rfl))) (fun a hf => ?_)
                    refine ov0 hf rfl rfl (by decide) (wanted_known hf rfl rfl rfl) (fun X => ex_vmv hf rfl rfl) (fun a hf => ?_)
                    refine ovs hf rfl rfl (by decide) (unwanted_known hf rfl rfl rfl (by decide)) (fun a hf => ?_)
                    refine ovs hf rfl rfl (by decide) (unwanted_known hf rfl rfl rfl (by decide)) (fun a hf => ?_)
                    refine ovs hf rfl rfl (by decide) (unwanted_known hf rfl rfl rfl (by decide)) (fun a hf => ?_)
                    refine ovs hf rfl rfl (by decide) (unwanted_known hf rfl rfl rfl (by decide)) (fun a hf => ?_)
                    refine ovs1 hf rfl rfl (by decide) (unwanted_known hf rfl rfl rfl (by decide)) (fun a hf => ?_)
                    refine ovs hf rfl rfl (by decide) (unwanted_known hf rfl rfl rfl (by decide)) (fun a hf => ?_)
                    refine ovs1 hf rfl rfl (by decide) (unwanted_known hf rfl rfl rfl (by decide)) (fun a hf => ?_)
                    refine ovs hf rfl rfl (by decide) (unwanted_known hf rfl rfl rfl (by decide)) (fun a hf => ?_)
                    refine ov0 hf rfl rfl (by decide) (wanted_known hf rfl rfl rfl) (fun X => ex_pk (b := true) hf rfl rfl rfl) (fun a hf => ?_)
                    refine ov0 hf rfl rfl (by decide) rfl (fun X => ex_pk (b := true) hf rfl rfl rfl) (fun a hf => ?_)
                    refine ov0 hf rfl rfl (by decide) rfl (fun X => ex_vmv hf rfl rfl) (fun a hf => ?_)
                    refine ov0 hf rfl rfl (by decide) (wanted_known hf rfl rfl rfl) (fun X => ex_vfld (2) hf rfl rfl Try.underlying25 rfl sz_int rfl) (fun a hf => ?_)
                    refine ov1 hf rfl rfl (by decide) (wanted_known hf rfl rfl rfl) (fun X hS => ex_vlc (cs := [.int .i64 (j : Int), .int .i64 (n : Int), .int .i64 (T : Int), .int .i64 m1.vt, .int .i64 m1.rl, .int .i64 m1.ld, .int .i64 m1.ti, .int .i64 m1.vs, .slice ga1 ((lgs j).len) gc1, .int .i64 0, .slice na1 nl1 nc1, .slice ma1 ml1 mc1]) hf rfl rfl (hS.get (i := 0) rfl) rfl Try.underlying3 rfl) (fun a hf => ?_)
                    refine ov0 hf rfl rfl (by decide) (wanted_known hf rfl rfl rfl) (fun X => ex_vmv hf rfl rfl) (fun a hf => ?_)
                    refine ov0 hf rfl rfl (by decide) (wanted_known hf rfl rfl rfl) (fun X => ex_len hf rfl rfl Try.underlying23) (fun a hf => ?_)
                    rcases Decidable.em ((T : Int) < 200) with hq26 | hq26
                    ·
                      refine ov0 hf rfl rfl (by decide) (wanted_known hf rfl rfl rfl) (fun X => ex_cmp (b := true) hf rfl rfl rfl (congrArg some (decide_eq_true hq26))) (fun a hf => ?_)
                      refine ov3v hf rfl rfl (by decide) rfl (ex_pk (b := true) hf rfl rfl rfl) (fun a hf => ?_)
                      replace hf := hf.sub (env' := [(243, .bool true), (215, .bool false), (214, .bool false), (213, .bool true), (212, .slice ga0 ((lgs j).len) gc0), (211, .pointer (some ⟨S, 0 + j * 12 + 8, none⟩)), (210, .pointer (some ⟨S, 0 + j * 12, none⟩)), (209, .int .i64 (j : Int)), (208, .slice (some ⟨S, 0, none⟩) n cap), (207, .slice ga1 ((lgs j).len) gc1), (206, .pointer (some ⟨C14, 8, none⟩)), (205, .bool false), (204, .bool false), (203, .bool false), (202, .int .i64 ((A j).tm)), (201, .pointer (some ⟨S, 0 + j * 12 + 2, none⟩)), (200, .pointer (some ⟨S, 0 + j * 12, none⟩)), (199, .int .i64 (j : Int)), (198, .slice (some ⟨S, 0, none⟩) n cap), (197, .int .i64 (T : Int)), (196, .pointer (some ⟨C14, 2, none⟩)), (195, .bool false), (194, .bool false), (193, .bool true), (192, .agg #[.int .i64 (j : Int), .int .i64 (n : Int), .int .i64 (T : Int), .int .i64 m1.vt, .int .i64 m1.rl, .int .i64 m1.ld, .int .i64 m1.ti, .int .i64 m1.vs, .slice ga1 ((lgs j).len) gc1, .int .i64 0, .slice na1 nl1 nc1, .slice ma1 ml1 mc1]), (2, .slice ca cn cc), (6, .bool false), (7, .int .i64 (n : Int)), (8, .slice (some ⟨S, 0, none⟩) n cap), (14, .slice (some ⟨G13, 0, none⟩) 200 200), (16, .int .i64 (q : Int)), (13, .slice xa way1.length xc), (17, .int .i64 (j : Int)), (18, .pointer (some ⟨C14, 0, none⟩)), (19, .slice ya yl yc)]) (sub_cons rfl (sub_cons rfl (sub_cons rfl (sub_cons rfl (sub_cons rfl (sub_cons rfl (sub_cons rfl (sub_cons rfl (sub_cons rfl (sub_cons rfl (sub_cons rfl (sub_cons rfl (sub_cons rfl (sub_cons rfl (sub_cons rfl (sub_cons rfl (sub_cons rfl (sub_cons rfl (sub_cons rfl (sub_cons rfl (sub_cons rfl (sub_cons rfl (sub_cons rfl (sub_cons rfl (sub_cons rfl (sub_cons rfl (sub_cons rfl (sub_cons rfl (sub_cons rfl (sub_cons rfl (sub_cons rfl (sub_cons rfl (sub_cons rfl (sub_cons rfl (sub_cons rfl (sub_nil))))))))))))))))))))))))))))))))))))
                      refine wpOrd_nil ?_
                      exact hK _ _ ⟨hf.sub (sub_cons (congrArg some (congrArg Value.bool (show true = ev by rw [hev]; simp only [decide_eq_false hq1, decide_eq_false hq2, decide_eq_true hq22, decide_eq_false hq23, decide_eq_true hq26]; first | done | rfl | simp))) (sub_cons rfl (sub_cons rfl (sub_cons rfl (sub_cons rfl (sub_cons rfl (sub_cons rfl (sub_cons rfl (sub_cons rfl (sub_cons rfl (sub_cons rfl (sub_cons rfl (sub_cons rfl (sub_cons rfl (sub_cons rfl (sub_cons rfl (sub_cons rfl (sub_cons rfl (sub_cons rfl (sub_cons rfl (sub_cons rfl (sub_cons rfl (sub_cons rfl (sub_cons rfl (sub_cons rfl (sub_cons rfl (sub_cons rfl (sub_cons rfl (sub_cons rfl (sub_cons rfl (sub_cons rfl (sub_cons rfl (sub_cons rfl (sub_cons rfl (sub_cons rfl (sub_nil)))))))))))))))))))))))))))))))))))), hX, hW, hs0⟩
                    ·
                      refine ov0 hf rfl rfl (by decide) (wanted_known hf rfl rfl rfl) (fun X => ex_cmp (b := false) hf rfl rfl rfl (congrArg some (decide_eq_false hq26))) (fun a hf => ?_)
                      refine ov3v hf rfl rfl (by decide) rfl (ex_pk (b := true) hf rfl rfl rfl) (fun a hf => ?_)
                      replace hf := hf.sub (env' := [(243, .bool false), (215, .bool false), (214, .bool false), (213, .bool true), (212, .slice ga0 ((lgs j).len) gc0), (211, .pointer (some ⟨S, 0 + j * 12 + 8, none⟩)), (210, .pointer (some ⟨S, 0 + j * 12, none⟩)), (209, .int .i64 (j : Int)), (208, .slice (some ⟨S, 0, none⟩) n cap), (207, .slice ga1 ((lgs j).len) gc1), (206, .pointer (some ⟨C14, 8, none⟩)), (205, .bool false), (204, .bool false), (203, .bool false), (202, .int .i64 ((A j).tm)), (201, .pointer (some ⟨S, 0 + j * 12 + 2, none⟩)), (200, .pointer (some ⟨S, 0 + j * 12, none⟩)), (199, .int .i64 (j : Int)), (198, .slice (some ⟨S, 0, none⟩) n cap), (197, .int .i64 (T : Int)), (196, .pointer (some ⟨C14, 2, none⟩)), (195, .bool false), (194, .bool false), (193, .bool true), (192, .agg #[.int .i64 (j : Int), .int .i64 (n : Int), .int .i64 (T : Int), .int .i64 m1.vt, .int .i64 m1.rl, .int .i64 m1.ld, .int .i64 m1.ti, .int .i64 m1.vs, .slice ga1 ((lgs j).len) gc1, .int .i64 0, .slice na1 nl1 nc1, .slice ma1 ml1 mc1]), (2, .slice ca cn cc), (6, .bool false), (7, .int .i64 (n : Int)), (8, .slice (some ⟨S, 0, none⟩) n cap), (14, .slice (some ⟨G13, 0, none⟩) 200 200), (16, .int .i64 (q : Int)), (13, .slice xa way1.length xc), (17, .int .i64 (j : Int)), (18, .pointer (some ⟨C14, 0, none⟩)), (19, .slice ya yl yc)]) (sub_cons rfl (sub_cons rfl (sub_cons rfl (sub_cons rfl (sub_cons rfl (sub_cons rfl (sub_cons rfl (sub_cons rfl (sub_cons rfl (sub_cons rfl (sub_cons rfl (sub_cons rfl (sub_cons rfl (sub_cons rfl (sub_cons rfl (sub_cons rfl (sub_cons rfl (sub_cons rfl (sub_cons rfl (sub_cons rfl (sub_cons rfl (sub_cons rfl (sub_cons rfl (sub_cons rfl (sub_cons rfl (sub_cons rfl (sub_cons rfl (sub_cons rfl (sub_cons rfl (sub_cons rfl (sub_cons rfl (sub_cons rfl (sub_cons rfl (sub_cons rfl (sub_cons rfl (sub_nil))))))))))))))))))))))))))))))))))))
                      refine wpOrd_nil ?_
                      exact hK _ _ ⟨hf.sub (sub_cons (congrArg some (congrArg Value.bool (show false = ev by rw [hev]; simp only [decide_eq_false hq1, decide_eq_false hq2, decide_eq_true hq22, decide_eq_false hq23, decide_eq_false hq26]; first | done | rfl | simp))) (sub_cons rfl (sub_cons rfl (sub_cons rfl (sub_cons rfl (sub_cons rfl (sub_cons rfl (sub_cons rfl (sub_cons rfl (sub_cons rfl (sub_cons rfl (sub_cons rfl (sub_cons rfl (sub_cons rfl (sub_cons rfl (sub_cons rfl (sub_cons rfl (sub_cons rfl (sub_cons rfl (sub_cons rfl (sub_cons rfl (sub_cons rfl (sub_cons rfl (sub_cons rfl (sub_cons rfl (sub_cons rfl (sub_cons rfl (sub_cons rfl (sub_cons rfl (sub_cons rfl (sub_cons rfl (sub_cons rfl (sub_cons rfl (sub_cons rfl (sub_cons rfl (sub_nil)))))))))))))))))))))))))))))))))))), hX, hW, hs0⟩
                ·
                  refine ov0 hf rfl rfl (by decide) rfl (fun X => ex_cmp (b := false) hf rfl rfl rfl (congrArg some (decide_eq_false hq22))) (fun a hf => ?_)
                  refine ov0 hf rfl rfl (by decide) rfl (fun X => ex_vmv hf rfl rfl) (fun a hf => ?_)
                  refine ovs hf rfl rfl (by decide) (unwanted_known hf rfl rfl rfl (by decide)) (fun a hf => ?_)
                  refine ovs hf rfl rfl (by decide) (unwanted_known hf rfl rfl rfl (by decide)) (fun a hf => ?_)
                  refine ovs hf rfl rfl (by decide) (unwanted_known hf rfl rfl rfl (by decide)) (fun a hf => ?_)
                  refine ovs hf rfl rfl (by decide) (unwanted_known hf rfl rfl rfl (by decide)) (fun a hf => ?_)
                  refine ovs1 hf rfl rfl (by decide) (unwanted_known hf rfl rfl rfl (by decide)) (fun a hf => ?_)
                  refine ovs hf rfl rfl (by decide) (unwanted_known hf rfl rfl rfl (by decide)) (fun a hf => ?_)
                  refine ovs hf rfl rfl (by decide) (unwanted_known hf rfl rfl rfl (by decide)) (fun a hf => ?_)
                  refine ovs hf rfl rfl (by decide) (unwanted_undef hf rfl rfl rfl) (fun a hf => ?_)
                  refine ovs hf rfl rfl (by decide) (unwanted_undef hf rfl rfl rfl) (fun a hf => ?_)
                  refine ovs hf rfl rfl (by decide) (unwanted_undef hf rfl rfl rfl) (fun a hf => ?_)
                  refine ovs hf rfl rfl (by decide) (unwanted_undef hf rfl rfl rfl) (fun a hf => ?_)
                  refine ovs1 hf rfl rfl (by decide) (unwanted_undef hf rfl rfl rfl) (fun a hf => ?_)
                  refine ovs hf rfl rfl (by decide) (unwanted_undef hf rfl rfl rfl) (fun a hf => ?_)
                  refine ovs1 hf rfl rfl (by decide) (unwanted_undef hf rfl rfl rfl) (fun a hf => ?_)
                  refine ovs hf rfl rfl (by decide) (unwanted_undef hf rfl rfl rfl) (fun a hf => ?_)
                  refine ovs hf rfl rfl (by decide) (unwanted_known hf rfl rfl rfl (by decide)) (fun a hf => ?_)
                  refine ov0 hf rfl rfl (by decide) rfl (fun X => ex_pk (b := false) hf rfl rfl rfl) (fun a hf => ?_)
                  refine ov0 hf rfl rfl (by decide) rfl (fun X => ex_vmv hf rfl rfl) (fun a hf => ?_)
                  refine ovs hf rfl rfl (by decide) (unwanted_known hf rfl rfl rfl (by decide)) (fun a hf => ?_)
                  refine ovs1 hf rfl rfl (by decide) (unwanted_known hf rfl rfl rfl (by decide)) (fun a hf => ?_)
                  refine ovs hf rfl rfl (by decide) (unwanted_known hf rfl rfl rfl (by decide)) (fun a hf => ?_)
                  refine ovs hf rfl rfl (by decide) (unwanted_known hf rfl rfl rfl (by decide)) (fun a hf => ?_)
                  refine ovs hf rfl rfl (by decide) (unwanted_known hf rfl rfl rfl (by decide)) (fun a hf => ?_)
                  refine ov3v hf rfl rfl (by decide) rfl (ex_pk (b := false) hf rfl rfl rfl) (fun a hf => ?_)
                  replace hf := hf.sub (env' := [(243, .bool false), (215, .bool false), (214, .bool false), (213, .bool true), (212, .slice ga0 ((lgs j).len) gc0), (211, .pointer (some ⟨S, 0 + j * 12 + 8, none⟩)), (210, .pointer (some ⟨S, 0 + j * 12, none⟩)), (209, .int .i64 (j : Int)), (208, .slice (some ⟨S, 0, none⟩) n cap), (207, .slice ga1 ((lgs j).len) gc1), (206, .pointer (some ⟨C14, 8, none⟩)), (205, .bool false), (204, .bool false), (203, .bool false), (202, .int .i64 ((A j).tm)), (201, .pointer (some ⟨S, 0 + j * 12 + 2, none⟩)), (200, .pointer (some ⟨S, 0 + j * 12, none⟩)), (199, .int .i64 (j : Int)), (198, .slice (some ⟨S, 0, none⟩) n cap), (197, .int .i64 (T : Int)), (196, .pointer (some ⟨C14, 2, none⟩)), (195, .bool false), (194, .bool false), (193, .bool true), (192, .agg #[.int .i64 (j : Int), .int .i64 (n : Int), .int .i64 (T : Int), .int .i64 m1.vt, .int .i64 m1.rl, .int .i64 m1.ld, .int .i64 m1.ti, .int .i64 m1.vs, .slice ga1 ((lgs j).len) gc1, .int .i64 0, .slice na1 nl1 nc1, .slice ma1 ml1 mc1]), (2, .slice ca cn cc), (6, .bool false), (7, .int .i64 (n : Int)), (8, .slice (some ⟨S, 0, none⟩) n cap), (14, .slice (some ⟨G13, 0, none⟩) 200 200), (16, .int .i64 (q : Int)), (13, .slice xa way1.length xc), (17, .int .i64 (j : Int)), (18, .pointer (some ⟨C14, 0, none⟩)), (19, .slice ya yl yc)]) (sub_cons rfl (sub_cons rfl (sub_cons rfl (sub_cons rfl (sub_cons rfl (sub_cons rfl (sub_cons rfl (sub_cons rfl (sub_cons rfl (sub_cons rfl (sub_cons rfl (sub_cons rfl (sub_cons rfl (sub_cons rfl (sub_cons rfl (sub_cons rfl (sub_cons rfl (sub_cons rfl (sub_cons rfl (sub_cons rfl (sub_cons rfl (sub_cons rfl (sub_cons rfl (sub_cons rfl (sub_cons rfl (sub_cons rfl (sub_cons rfl (sub_cons rfl (sub_cons rfl (sub_cons rfl (sub_cons rfl (sub_cons rfl (sub_cons rfl (sub_cons rfl (sub_cons rfl (sub_nil))))))))))))))))))))))))))))))))))))
                  refine wpOrd_nil ?_
                  exact hK _ _ ⟨hf.sub (sub_cons (congrArg some (congrArg Value.bool (show false = ev by rw [hev]; simp only [decide_eq_false hq1, decide_eq_false hq2, decide_eq_false hq22]; first | done | rfl | simp))) (sub_cons rfl (sub_cons rfl (sub_cons rfl (sub_cons rfl (sub_cons rfl (sub_cons rfl (sub_cons rfl (sub_cons rfl (sub_cons rfl (sub_cons rfl (sub_cons rfl (sub_cons rfl (sub_cons rfl (sub_cons rfl (sub_cons rfl (sub_cons rfl (sub_cons rfl (sub_cons rfl (sub_cons rfl (sub_cons rfl (sub_cons rfl (sub_cons rfl (sub_cons rfl (sub_cons rfl (sub_cons rfl (sub_cons rfl (sub_cons rfl (sub_cons rfl (sub_cons rfl (sub_cons rfl (sub_cons rfl (sub_cons rfl (sub_cons rfl (sub_cons rfl (sub_nil)))))))))))))))))))))))))))))))))))), hX, hW, hs0⟩
              obtain ⟨hf, hX, hW, hs0⟩ := hJ
              cases ev
              ·
                refine wp_cond_false (hf.rel _ _ rfl) ?_
                refine wp_skip ?_
                exact hK _ _ ⟨lds, hf.sub (sub_cons rfl (sub_cons rfl (sub_cons rfl (sub_cons rfl (sub_cons rfl (sub_cons rfl (sub_cons rfl (sub_cons rfl (sub_cons rfl (sub_cons rfl (sub_nil))))))))))), hX, hJ.std.ll, hJ.inv1, hW, hs0⟩
              ·
                refine wp_cond_true (hf.rel _ _ rfl) ?_
                refine wp_seq ?_
                refine wp_seq ?_
                have hev2 := hev.symm
                simp only [Bool.and_eq_true, Bool.or_eq_true, Bool.not_eq_true', decide_eq_true_eq, decide_eq_false_iff_not] at hev2
                obtain ⟨⟨hr2, hnot⟩, hT200⟩ := hev2
                have hnot2 : ¬ ((A j).rl = 2 ∧ (A j).tm = m1.tm) := by rw [hT]; rintro ⟨h1, h2⟩; rcases hnot with h | h; exact h h1; exact h h2
                have hMaj := hJ.maj hr2 hnot2
                obtain ⟨lx, hxl⟩ : ∃ x, lds[T]? = some x := ⟨_, List.getElem?_eq_getElem (by rw [hJ.std.ll]; omega)⟩
                obtain rfl := hJ.std.inv.free hn1 hn7 hJ.le hJ.inv1.uniq (T := T) (hT ▸ hMaj) (by omega) (by rintro ⟨h1, h2⟩; exact hnot2 ⟨h2, by omega⟩) hxl
                refine wp_region_lit ?_
                refine sv_mv hf rfl (by decide) (fun a hf => ?_)
                refine sv_fld hf rfl Try.underlying25 rfl sz_int (2) rfl (by decide) (fun a hf => ?_)
                refine sv_lc hf hX rfl 0 rfl rfl Try.underlying3 rfl (by decide) (fun a hf => ?_)
                refine sv_idx (q := T) hf rfl rfl (by omega) Try.underlying23 einfo_ints (by decide) (fun a hf => ?_)
                refine sv_lm hf rfl (by rw [Nat.zero_add, Nat.mul_one]; exact (hX.get (i := 1) rfl).cell T _ (by rw [List.getElem?_map, hxl]; rfl)) Try.underlying3 rfl (by decide) (fun a hf => ?_)
                refine sv_cmp hf rfl rfl false (congrArg some (by rw [decide_eq_true rfl]; rfl)) (by decide) (fun a hf => ?_)
                refine sv_nil hf ?_
                refine wp_cond_false (hf.rel _ _ rfl) ?_
                refine wp_skip ?_
                refine wp_seq ?_
                refine wp_region_lit ?_
                refine sv_mv hf rfl (by decide) (fun a hf => ?_)
                refine sv_fld hf rfl Try.underlying25 rfl sz_int (2) rfl (by decide) (fun a hf => ?_)
                refine sv_lc hf hX rfl 0 rfl rfl Try.underlying3 rfl (by decide) (fun a hf => ?_)
                refine sv_mv hf rfl (by decide) (fun a hf => ?_)
                refine sv_idx (q := T) hf rfl rfl (by omega) Try.underlying23 einfo_ints (by decide) (fun a hf => ?_)
                refine sv_sc (cs' := ((lds.set T (j : Int)).map (.int .i64 ·))) hf hX rfl rfl 1 rfl (by rw [List.length_map, hJ.std.ll]; omega) (by rw [Nat.zero_add, Nat.mul_one, List.map_set]) info_int rfl [(C14, [.int .i64 (j : Int), .int .i64 (n : Int), .int .i64 (T : Int), .int .i64 m1.vt, .int .i64 m1.rl, .int .i64 m1.ld, .int .i64 m1.ti, .int .i64 m1.vs, .slice ga1 ((lgs j).len) gc1, .int .i64 0, .slice na1 nl1 nc1, .slice ma1 ml1 mc1]), (G13, ((lds.set T (j : Int)).map (.int .i64 ·))), (S, css.flatten)] rfl (fun W hX hO => ?_)
                replace hW := hW.keep (fun k hk => hO.heap k ((hap k hk).2.2))
                replace hs0 := Nat.le_trans hs0 (Nat.le_of_eq hO.size.symm)
                clear hO
                refine sv_nil hf ?_
                refine wp_seq ?_
                refine wp_region_lit ?_
                refine sv_ac hf (by decide) (fun a hf => ?_)
                refine sv_nil hf ?_
                refine wp_seq ?_
                refine wp_seq ?_
                refine wp_region_lit ?_
                refine sv_ac hf (by decide) (fun a hf => ?_)
                refine sv_nil hf ?_
                refine wp_block (wp_loop (fun a X => ∃ (k : Nat), FrV 286 [(2, .slice ca cn cc), (6, .bool false), (7, .int .i64 (n : Int)), (8, .slice (some ⟨S, 0, none⟩) n cap), (13, .slice xa way1.length xc), (14, .slice (some ⟨G13, 0, none⟩) 200 200), (16, .int .i64 (q : Int)), (17, .int .i64 (j : Int)), (18, .pointer (some ⟨C14, 0, none⟩)), (19, .slice ya yl yc), (22, .int .i64 (oldN lgs j k)), (23, .int .i64 (k : Int))] a ∧ Bx ⟨w, [(W3, F1)]⟩ [(C14, [.int .i64 (j : Int), .int .i64 (n : Int), .int .i64 (T : Int), .int .i64 m1.vt, .int .i64 m1.rl, .int .i64 m1.ld, .int .i64 m1.ti, .int .i64 m1.vs, .slice ga1 ((lgs j).len) gc1, .int .i64 0, .slice na1 nl1 nc1, .slice ma1 ml1 mc1]), (G13, ((lds.set T (j : Int)).map (.int .i64 ·))), (S, css.flatten)] X ∧ k ≤ n ∧ OwnM w.heap.size X (.slice xa way1.length xc) way1 ∧ W3.heap.size ≤ X.heap.size) (fun a _ => n - (intOf (a.eval (.tmp 23))).toNat) ⟨0, hf.sub (sub_cons rfl (sub_cons rfl (sub_cons rfl (sub_cons rfl (sub_cons rfl (sub_cons rfl (sub_cons rfl (sub_cons rfl (sub_cons rfl (sub_cons rfl (sub_cons rfl (sub_cons rfl (sub_nil))))))))))))), hX, Nat.zero_le _, hW, hs0⟩ ?_)
                clear hf hX
                rintro a W ⟨k, hf, hX, hkn0, hW, hs0⟩
                have hm23 : a.eval (.tmp 23) = .int .i64 (k : Int) := hf.rel 23 _ rfl
                rcases Decidable.em ((k : Int) < (n : Int)) with hgo | hgo
                ·
                  refine wp_seq (wp_seq ?_)
                  refine wp_region_lit ?_
                  refine sv_mv hf rfl (by decide) (fun a hf => ?_)
                  refine sv_mv hf rfl (by decide) (fun a hf => ?_)
                  refine sv_cmp hf rfl rfl true (congrArg some (decide_eq_true hgo)) (by decide) (fun a hf => ?_)
                  refine sv_nil hf ?_
                  refine wp_cond_true (hf.rel _ _ rfl) (wp_skip ?_)
                  refine wp_seq (wp_block ?_)
                  have hkn : k < n := by omega
                  have hor := oldN_range lgs j k
                  obtain ⟨csk, hcsk, hMk⟩ := hJ.std.mem k hkn
                  obtain ⟨gak, gck, nak, nlk, nck, mak, mlk, mck, xsk, ysk, kk, rfl, h8k, _⟩ := id hMk
                  refine wp_seq ?_
                  refine wp_region_ordW 8 7 [(0, 0), (1, 1), (2, 0), (3, 0), (4, 0), (5, 0), (6, 1), (7, 3)] (fun X => Bx ⟨w, [(W3, F1)]⟩ [(C14, [.int .i64 (j : Int), .int .i64 (n : Int), .int .i64 (T : Int), .int .i64 m1.vt, .int .i64 m1.rl, .int .i64 m1.ld, .int .i64 m1.ti, .int .i64 m1.vs, .slice ga1 ((lgs j).len) gc1, .int .i64 0, .slice na1 nl1 nc1, .slice ma1 ml1 mc1]), (G13, ((lds.set T (j : Int)).map (.int .i64 ·))), (S, css.flatten)] X) mixed (by kernel_rfl) hX.drew (fun c a d v w h => by cases d <;> exact h) ?_
                  replace hX := hX.drew
                  replace hW := hW.below (Below.refl _ _).drew
                  replace hs0 : W3.heap.size ≤ (World.drew W).heap.size := hs0
                  refine ov0 hf rfl rfl (by decide) rfl (fun X => ex_vfld (8) hf rfl rfl Try.underlying25 rfl sz_ents rfl) (fun a hf => ?_)
                  refine ov1 hf rfl rfl (by decide) rfl (fun X hS => ex_vlc (cs := [.int .i64 (j : Int), .int .i64 (n : Int), .int .i64 (T : Int), .int .i64 m1.vt, .int .i64 m1.rl, .int .i64 m1.ld, .int .i64 m1.ti, .int .i64 m1.vs, .slice ga1 ((lgs j).len) gc1, .int .i64 0, .slice na1 nl1 nc1, .slice ma1 ml1 mc1]) hf rfl rfl (hS.get (i := 0) rfl) rfl Try.underlying22 rfl) (fun a hf => ?_)
                  refine ov0 hf rfl rfl (by decide) rfl (fun X => ex_vmv hf rfl rfl) (fun a hf => ?_)
                  refine ov0 hf rfl rfl (by decide) rfl (fun X => ex_vmv hf rfl rfl) (fun a hf => ?_)
                  refine ov0 hf rfl rfl (by decide) rfl (fun X => ex_idx (q := k) hf rfl rfl rfl (by omega) Try.underlying44 einfo_mems) (fun a hf => ?_)
                  refine ov0 hf rfl rfl (by decide) rfl (fun X => ex_vfld (0 + k * 12 + 8) hf rfl rfl Try.underlying25 rfl sz_ents rfl) (fun a hf => ?_)
                  refine ov1 hf rfl rfl (by decide) rfl (fun X hS => ex_vlm hf rfl rfl (by rw [Nat.zero_add]; exact box_row (hS.get (i := 2) rfl) hrowc hcsk 8 _ rfl) Try.underlying22 rfl) (fun a hf => ?_)
                  obtain ⟨eb, heb⟩ : ∃ b, b = endB (lgs j).lt (lgs j).len (lgs k).lt (lgs k).len := ⟨_, rfl⟩
                  have hce := end_any (.slice ga1 (lgs j).len gc1) (.slice gak (lgs k).len gck) (lgs j).lt (lgs k).lt ga1 _ gc1 gak _ gck _ (lastAt_W (log_kept h81 (hX.bas _ List.mem_cons_self).1 (fun k hk hlt => (hX.bas _ List.mem_cons_self).2 k hlt hk)) (hL.last j)) (lastAt_W (log_kept h8k (hX.bas _ List.mem_cons_self).1 (fun k hk hlt => (hX.bas _ List.mem_cons_self).2 k hlt hk)) (hL.last k))
                  rw [← heb] at hce
                  refine ov3c hf rfl rfl (by decide) rfl rfl fnOK_26 rfl (hce) ?_
                  rintro e W' ⟨rfl, hw⟩
                  subst hw
                  refine ⟨_, rfl, fun a hf => ?_⟩
                  refine wpOrd_nil ?_
                  cases eb
                  ·
                    refine wp_cond_false (hf.rel _ _ rfl) ?_
                    refine wp_skip ?_
                    refine wp_region_lit ?_
                    refine sv_mv hf rfl (by decide) (fun a hf => ?_)
                    refine sv_add ((k + 1 : Nat) : Int) hf rfl rfl (by rw [wrap_in (by omega)]; rfl) (by decide) (fun a hf => ?_)
                    refine sv_as hf rfl (by decide) (fun a hf => ?_)
                    refine sv_nil hf ?_
                    have hstep : oldN lgs j k = oldN lgs j (k + 1) := by show _ = oldN lgs j k + _; rw [if_neg (by rw [← heb]; decide), Int.add_zero]
                    rw [hstep] at hf
                    refine ⟨⟨k + 1, hf.sub (sub_cons rfl (sub_cons rfl (sub_cons rfl (sub_cons rfl (sub_cons rfl (sub_cons rfl (sub_cons rfl (sub_cons rfl (sub_cons rfl (sub_cons rfl (sub_cons rfl (sub_cons rfl (sub_nil))))))))))))), hX, by omega, hW, hs0⟩, ?_⟩
                    have h5 : a.eval (.tmp 23) = .int .i64 ((k + 1 : Nat) : Int) := hf.rel 23 _ rfl
                    rw [h5, hm23]; simp only [intOf, Int.toNat_natCast]; omega
                  ·
                    refine wp_cond_true (hf.rel _ _ rfl) ?_
                    refine wp_region_lit ?_
                    refine sv_mv hf rfl (by decide) (fun a hf => ?_)
                    refine sv_add (oldN lgs j k + 1) hf rfl rfl (wrap_in (by omega)) (by decide) (fun a hf => ?_)
                    refine sv_as hf rfl (by decide) (fun a hf => ?_)
                    refine sv_nil hf ?_
                    refine wp_region_lit ?_
                    refine sv_mv hf rfl (by decide) (fun a hf => ?_)
                    refine sv_add ((k + 1 : Nat) : Int) hf rfl rfl (by rw [wrap_in (by omega)]; rfl) (by decide) (fun a hf => ?_)
                    refine sv_as hf rfl (by decide) (fun a hf => ?_)
                    refine sv_nil hf ?_
                    have hstep : oldN lgs j k + 1 = oldN lgs j (k + 1) := by show _ = oldN lgs j k + _; rw [if_pos heb.symm]
                    rw [hstep] at hf
                    refine ⟨⟨k + 1, hf.sub (sub_cons rfl (sub_cons rfl (sub_cons rfl (sub_cons rfl (sub_cons rfl (sub_cons rfl (sub_cons rfl (sub_cons rfl (sub_cons rfl (sub_cons rfl (sub_cons rfl (sub_cons rfl (sub_nil))))))))))))), hX, by omega, hW, hs0⟩, ?_⟩
                    have h5 : a.eval (.tmp 23) = .int .i64 ((k + 1 : Nat) : Int) := hf.rel 23 _ rfl
                    rw [h5, hm23]; simp only [intOf, Int.toNat_natCast]; omega
                ·
                  refine wp_seq (wp_seq ?_)
                  refine wp_region_lit ?_
                  refine sv_mv hf rfl (by decide) (fun a hf => ?_)
                  refine sv_mv hf rfl (by decide) (fun a hf => ?_)
                  refine sv_cmp hf rfl rfl false (congrArg some (decide_eq_false hgo)) (by decide) (fun a hf => ?_)
                  refine sv_nil hf ?_
                  refine wp_cond_false (hf.rel _ _ rfl) (wp_exit ?_)
                  simp only [Exit.inBlock, Exit.then, ↓reduceIte]
                  have hkn : k = n := by omega
                  rw [hkn] at hf
                  have hold := hJ.inv1.older hn1 hn7 hMaj
                  have hor := oldN_range lgs j n
                  refine wp_seq ?_
                  refine wp_region_lit ?_
                  refine sv_mv hf rfl (by decide) (fun a hf => ?_)
                  refine sv_mv hf rfl (by decide) (fun a hf => ?_)
                  refine sv_run (v := .int .i64 ((n : Int) / 2)) hf (by decide) (fun a hf => ex_quo hf rfl rfl rfl (by omega) (by omega) (by decide) (by decide) rfl) (fun a hf => ?_)
                  refine sv_add ((n : Int) / 2 + 1) hf rfl rfl (wrap_in (by omega)) (by decide) (fun a hf => ?_)
                  refine sv_cmp hf rfl rfl false (congrArg some (decide_eq_false (Int.not_lt.2 hold))) (by decide) (fun a hf => ?_)
                  refine sv_nil hf ?_
                  refine wp_cond_false (hf.rel _ _ rfl) ?_
                  refine wp_skip ?_
                  exact hK _ _ ⟨_, hf.sub (sub_cons rfl (sub_cons rfl (sub_cons rfl (sub_cons rfl (sub_cons rfl (sub_cons rfl (sub_cons rfl (sub_cons rfl (sub_cons rfl (sub_cons rfl (sub_nil))))))))))), hX, by rw [List.length_set]; exact hJ.std.ll, hJ.inv1.leading (T := T) hjn (hT ▸ hMaj) (by rw [upd1_same]; exact hT.symm) (by rw [upd1_same]; exact hr2), hW, hs0⟩
            clear hX hf hW hs0
            obtain ⟨lds2, hf, hX, hll, hI2, hW, hs0⟩ := hM
            refine wp_seq ?_
            refine wp_region_lit ?_
            refine sv_mv hf rfl (by decide) (fun a hf => ?_)
            refine sv_mv hf rfl (by decide) (fun a hf => ?_)
            refine sv_lr hf hX rfl 0 rfl Try.underlying25 info_mem (by decide) (fun a hf => ?_)
            refine sv_idx (q := j) hf rfl rfl (by omega) Try.underlying44 einfo_mems (by decide) (fun a hf => ?_)
            rw [Nat.zero_add] at hf
            refine sv_srr (css := css) (cs := [.int .i64 (j : Int), .int .i64 (n : Int), .int .i64 (T : Int), .int .i64 m1.vt, .int .i64 m1.rl, .int .i64 m1.ld, .int .i64 m1.ti, .int .i64 m1.vs, .slice ga1 ((lgs j).len) gc1, .int .i64 0, .slice na1 nl1 nc1, .slice ma1 ml1 mc1]) (j := j) hf hX rfl rfl 2 rfl hrowc (by omega) rfl info_mem (fun v hv => List.all_eq_true.1 (show List.all [.int .i64 (j : Int), .int .i64 (n : Int), .int .i64 (T : Int), .int .i64 m1.vt, .int .i64 m1.rl, .int .i64 m1.ld, .int .i64 m1.ti, .int .i64 m1.vs, .slice ga1 ((lgs j).len) gc1, .int .i64 0, .slice na1 nl1 nc1, .slice ma1 ml1 mc1] (·.oneCell') = true from rfl) v hv) [(C14, [.int .i64 (j : Int), .int .i64 (n : Int), .int .i64 (T : Int), .int .i64 m1.vt, .int .i64 m1.rl, .int .i64 m1.ld, .int .i64 m1.ti, .int .i64 m1.vs, .slice ga1 ((lgs j).len) gc1, .int .i64 0, .slice na1 nl1 nc1, .slice ma1 ml1 mc1]), (G13, (lds2.map (.int .i64 ·))), (S, (css.set j [.int .i64 (j : Int), .int .i64 (n : Int), .int .i64 (T : Int), .int .i64 m1.vt, .int .i64 m1.rl, .int .i64 m1.ld, .int .i64 m1.ti, .int .i64 m1.vs, .slice ga1 ((lgs j).len) gc1, .int .i64 0, .slice na1 nl1 nc1, .slice ma1 ml1 mc1]).flatten)] rfl (fun W hX hO => ?_)
            replace hW := hW.keep (fun k hk => hO.heap k ((hap k hk).2.1))
            replace hs0 := Nat.le_trans hs0 (Nat.le_of_eq hO.size.symm)
            clear hO
            refine sv_nil hf ?_
            refine wp_seq ?_
            refine wp_region_lit ?_
            refine sv_mv hf rfl (by decide) (fun a hf => ?_)
            refine sv_len hf rfl Try.underlying37 (by decide) (fun a hf => ?_)
            rcases Decidable.em (((way1.length : Nat) : Int) < 300) with hq27 | hq27
            ·
              refine sv_cmp hf rfl rfl true (congrArg some (decide_eq_true hq27)) (by decide) (fun a hf => ?_)
              refine sv_nil hf ?_
              refine wp_cond_true (hf.rel _ _ rfl) ?_
              refine wp_region_lit ?_
              refine sv_mv hf rfl (by decide) (fun a hf => ?_)
              refine sv_mv hf rfl (by decide) (fun a hf => ?_)
              rcases hJ.msgs with ⟨hv0, hm0⟩ | ⟨gm, cm, hv0, hgF, hgl, hgc⟩
              ·
                obtain ⟨rfl, rfl, rfl⟩ := Value.slice.inj hv0
                obtain ⟨ie, hie⟩ : ∃ ie, Try.prog.info? 35 = some ie := Option.isSome_iff_exists.1 (by kernel_rfl)
                refine sv_run (v := .slice xa way1.length xc) hf (by decide) (fun a hf => ex_app_nil rfl (hf.ev rfl) (hf.ev rfl) Try.underlying37 hie hwc) (fun a hf => ?_)
                refine sv_as hf rfl (by decide) (fun a hf => ?_)
                refine sv_nil hf ?_
                refine wp_region_lit ?_
                refine sv_mv hf rfl (by decide) (fun a hf => ?_)
                refine sv_add ((q + 1 : Nat) : Int) hf rfl rfl (by rw [wrap_in (by omega)]; rfl) (by decide) (fun a hf => ?_)
                refine sv_as hf rfl (by decide) (fun a hf => ?_)
                refine sv_nil hf ?_
                replace hX := hX.sub
                have hbE := hX.bas (W3, F1) List.mem_cons_self
                have hE := StD.next (X := W) hJ hbE.1 (fun k h1 h2 => hbE.2 k h2 h1) hI2 (fun m h => .inl h) hW hap hJ.std.wl hll
                have hbd : ((1152921504606846976 : Int) + (q : Int)) + 1 = 1152921504606846976 + ((q + 1 : Nat) : Int) := by omega
                rw [hbd, hT] at hE
                replace hX := hX.rebase F1 (by intro y hy; simp only [List.mem_cons, List.not_mem_nil, or_false] at hy; rcases hy with rfl | rfl; exact hJ.std.fS.2.1; exact hJ.std.fS.1)
                refine ⟨⟨q + 1, _, _, _, _, _, F1, _, _, _, hf.sub (sub_cons rfl (sub_cons rfl (sub_cons rfl (sub_cons rfl (sub_cons rfl (sub_cons rfl (sub_cons rfl (sub_nil)))))))), hX, by omega, hE⟩, ?_⟩
                have h5 : a.eval (.tmp 16) = .int .i64 ((q + 1 : Nat) : Int) := hf.rel 16 _ rfl
                rw [h5, hm16]; simp only [intOf, Int.toNat_natCast]; omega
              ·
                obtain ⟨rfl, rfl, rfl⟩ := Value.slice.inj hv0
                have h59 := hs0
                have h59S := (hX.get (i := 2) rfl).lt
                have h59G := (hX.get (i := 1) rfl).lt
                refine sv_apps (n := way1.length) (m := more.length) (xs := mrow way1) (news := mrow more) hf hX rfl rfl Try.underlying37 info_msg3 rfl (by decide) hW (mrow_len more) (fun j' u hu => by rw [addr_add', Nat.zero_add]; exact (cell_of_block ((hX.bas _ List.mem_cons_self).2 gm hgl hgF)).trans (hgc j' u hu)) (mrow_ones more) (by have := hJ.std.wl; have := hJ.few; omega) (by decide) hX.low.size (Nat.le_refl _) (fun k' hk' y hy e => by have h1 := hap k' hk'; have h2 := hnC14 k' hk'; simp only [List.mem_cons, List.not_mem_nil, or_false] at hy; rcases hy with rfl | rfl | rfl <;> simp only at e <;> omega) (fun k' hk' y hy _ => by rw [List.mem_singleton.1 hy]; exact (hap k' hk').1) (by decide) (fun a pa pc W hf hX ho hgr hsrc => ?_)
                have hW2 := OwnM.push (L := way1) (M := more) ho
                clear hW
                have hW := hW2
                clear hW2 ho
                have hap2 : ∀ k', (Value.slice pa (way1.length + more.length) pc).ownBlock = some k' → ¬ F1 k' ∧ k' ≠ S ∧ k' ≠ G13 := fun k' hk' => by rcases hsrc k' hk' with h | h; exact hap k' h; exact ⟨fun hF => by have := hJ.std.flt k' hF; omega, by omega, by omega⟩
                replace hs0 := Nat.le_trans hs0 hgr.size
                refine sv_as hf rfl (by decide) (fun a hf => ?_)
                refine sv_nil hf ?_
                refine wp_region_lit ?_
                refine sv_mv hf rfl (by decide) (fun a hf => ?_)
                refine sv_add ((q + 1 : Nat) : Int) hf rfl rfl (by rw [wrap_in (by omega)]; rfl) (by decide) (fun a hf => ?_)
                refine sv_as hf rfl (by decide) (fun a hf => ?_)
                refine sv_nil hf ?_
                replace hX := hX.sub
                have hbE := hX.bas (W3, F1) List.mem_cons_self
                have hE := StD.next (X := W) hJ hbE.1 (fun k h1 h2 => hbE.2 k h2 h1) hI2 (fun m h => List.mem_append.1 h) hW hap2 (by rw [List.length_append]; have := hJ.few; omega) hll
                have hbd : ((1152921504606846976 : Int) + (q : Int)) + 1 = 1152921504606846976 + ((q + 1 : Nat) : Int) := by omega
                rw [hbd, hT] at hE
                replace hX := hX.rebase F1 (by intro y hy; simp only [List.mem_cons, List.not_mem_nil, or_false] at hy; rcases hy with rfl | rfl; exact hJ.std.fS.2.1; exact hJ.std.fS.1)
                refine ⟨⟨q + 1, _, _, _, _, _, F1, _, _, _, hf.sub (sub_cons rfl (sub_cons rfl (sub_cons rfl (sub_cons rfl (sub_cons rfl (sub_cons rfl (sub_cons rfl (sub_nil)))))))), hX, by omega, hE⟩, ?_⟩
                have h5 : a.eval (.tmp 16) = .int .i64 ((q + 1 : Nat) : Int) := hf.rel 16 _ rfl
                rw [h5, hm16]; simp only [intOf, Int.toNat_natCast]; omega
            ·
              refine sv_cmp hf rfl rfl false (congrArg some (decide_eq_false hq27)) (by decide) (fun a hf => ?_)
              refine sv_nil hf ?_
              refine wp_cond_false (hf.rel _ _ rfl) ?_
              refine wp_skip ?_
              refine wp_region_lit ?_
              refine sv_mv hf rfl (by decide) (fun a hf => ?_)
              refine sv_add ((q + 1 : Nat) : Int) hf rfl rfl (by rw [wrap_in (by omega)]; rfl) (by decide) (fun a hf => ?_)
              refine sv_as hf rfl (by decide) (fun a hf => ?_)
              refine sv_nil hf ?_
              replace hX := hX.sub
              have hbE := hX.bas (W3, F1) List.mem_cons_self
              have hE := StD.next (X := W) hJ hbE.1 (fun k h1 h2 => hbE.2 k h2 h1) hI2 (fun m h => .inl h) hW hap hJ.std.wl hll
              have hbd : ((1152921504606846976 : Int) + (q : Int)) + 1 = 1152921504606846976 + ((q + 1 : Nat) : Int) := by omega
              rw [hbd, hT] at hE
              replace hX := hX.rebase F1 (by intro y hy; simp only [List.mem_cons, List.not_mem_nil, or_false] at hy; rcases hy with rfl | rfl; exact hJ.std.fS.2.1; exact hJ.std.fS.1)
              refine ⟨⟨q + 1, _, _, _, _, _, F1, _, _, _, hf.sub (sub_cons rfl (sub_cons rfl (sub_cons rfl (sub_cons rfl (sub_cons rfl (sub_cons rfl (sub_cons rfl (sub_nil)))))))), hX, by omega, hE⟩, ?_⟩
              have h5 : a.eval (.tmp 16) = .int .i64 ((q + 1 : Nat) : Int) := hf.rel 16 _ rfl
              rw [h5, hm16]; simp only [intOf, Int.toNat_natCast]; omega
          ·
            refine wp_seq (wp_seq ?_)
            refine wp_region_lit ?_
            refine sv_mv hf rfl (by decide) (fun a hf => ?_)
            refine sv_mv hf rfl (by decide) (fun a hf => ?_)
            refine sv_len hf rfl Try.underlying43 (by decide) (fun a hf => ?_)
            refine sv_cmp hf rfl rfl false (congrArg some (decide_eq_false hgo)) (by decide) (fun a hf => ?_)
            refine sv_nil hf ?_
            refine wp_cond_false (hf.rel _ _ rfl) (wp_exit ?_)
            simp only [Exit.inBlock, Exit.then, ↓reduceIte]
            refine wp_seq ?_
            refine wp_region_lit ?_
            refine sv_call hf fnOK_14 rfl (awake_any _) (by decide) ?_
            rintro e W ⟨rfl, hb⟩
            replace hX := hX.keep hb
            clear hb
            refine ⟨_, rfl, fun a hf => ?_⟩
            refine sv_as hf rfl (by decide) (fun a hf => ?_)
            replace hf := hf.sub (env' := [(6, .bool true)]) (sub_cons rfl (sub_nil))
            refine sv_nil hf ?_
            refine wp_ret ?_
            try simp only [Exit.inBlock, Exit.then]
            exact bodyPost_ret (res_tmp (d := 6) (v := .bool true) rfl (hf.rel 6 _ rfl)) hf.defers ⟨rfl, hX.low⟩
end Go.Proofs.Ytfpgklhbghahoaa
