/- Merged texts: Eh18, Eh19, Sv5, Eh20, Eh21, Eh22, Eh23, Sv6, Sv7. -/
import Derived.Test.YtfpgklhbghahoaaOe10
import Derived.Maps.AppendAt
/- Election: a member that wins; rows of numbers that hold the same. -/
namespace Go.Proofs.Ytfpgklhbghahoaa
open Go.ChangeShapes Go.WideShapes Go.ChangeAt Go.RowKit Go.ChangeMaps Go.Joins Go.Deep
set_option linter.unusedVariables false
set_option linter.unusedSimpArgs false
set_option maxRecDepth 100000
theorem infoI3 : (Try.prog.info? 3).map (fun i => (i.zero, i.size, i.bytes)) = some (some (.int .i64 0), 1, 8) := by kernel_rfl
/-- a row under filling: q of k are done -/
def fillR (n : Int) (q k : Nat) : List Value := List.replicate q (.int .i64 n) ++ List.replicate (k - q) (.int .i64 0)
theorem fillR_len (n : Int) {q k : Nat} (h : q ≤ k) : (fillR n q k).length = k := by unfold fillR; simp; omega
theorem fillR_0 (n : Int) (k : Nat) : List.replicate k (.int .i64 0) = fillR n 0 k := by simp [fillR]
theorem fillR_step (n : Int) {q k : Nat} (h : q < k) : (fillR n q k).set (0 + q * 1) (.int .i64 n) = fillR n (q + 1) k := by
  unfold fillR
  rw [Nat.zero_add, Nat.mul_one, List.set_append_right _ _ (by simp), List.length_replicate, Nat.sub_self]
  obtain ⟨r, hr⟩ : ∃ r, k - q = r + 1 := ⟨k - q - 1, by omega⟩
  rw [hr, List.replicate_succ, List.set_cons_zero, List.replicate_succ', show k - (q + 1) = r by omega]
  simp
/-- the places of a new primary -/
def nextL (n : Int) (k : Nat) : List Int := List.replicate k n
def matchL (n : Int) (k j : Nat) : List Int := (List.replicate k 0).set j n
theorem fillR_all (n : Int) (k : Nat) : fillR n k k = (nextL n k).map (.int .i64 ·) := by simp [fillR, nextL]
theorem matchL_val (n : Int) (k j : Nat) : (List.replicate k (Value.int .i64 0)).set (0 + j * 1) (.int .i64 n) = (matchL n k j).map (.int .i64 ·) := by
  rw [Nat.zero_add, Nat.mul_one, matchL, List.map_set, List.map_replicate]
theorem intRow_box {W : World} {g : Nat} {xs : List Int} (h : Box W g (xs.map (.int .i64 ·))) (hm : xs.length ≤ maxLen) : IntRow W (.slice (some ⟨g, 0, none⟩) xs.length xs.length) xs := by
  refine ⟨g, xs.length, rfl, Nat.le_refl _, hm, h.lt, fun j hj => ?_⟩
  exact h.cell j _ (by rw [List.getElem?_map, List.getElem?_eq_getElem hj]; rfl)
theorem intRow_own {W : World} {base : Nat} {v : Value} {xs : List Int} (h : W.ownsRow base 3 1 v xs.length (xs.map (.int .i64 ·))) (h0 : 0 < xs.length) : IntRow W v xs := by
  rcases h.2 with ⟨_, hn⟩ | ⟨g, cap, cur, rfl, h1, h2, h3, h4, h5, h6⟩
  · omega
  · refine ⟨g, cap, rfl, h3, h4, (Array.getElem?_eq_some_iff.1 h2).1, fun j hj => ?_⟩
    rw [h.cellAt j (by omega), List.getElem?_map, List.getElem?_eq_getElem hj]
    rfl
/-- rows of the same numbers hold the same -/
theorem intRow_eqC {W : World} {u v : Value} {xs : List Int} {n : Nat} (hu : IntRow W u xs) (hv : IntRow W v xs) (hw : ∀ x ∈ xs, (Lit.int .i64 x).wf = true) (hl : xs.length ≤ 1000000) : EqC Try.prog W W TT TT (n + 2) 23 [u] [v] := by
  obtain ⟨g, cap, rfl, h1, h2, h3, h4⟩ := hu
  obtain ⟨g', cap', rfl, k1, k2, k3, k4⟩ := hv
  have e1 : Try.prog.cellsOf 3 = 1 := by kernel_rfl
  have e8 : Try.prog.bytesOf 3 = 8 := by kernel_rfl
  refine eqC_slice Try.underlying23 ⟨_, xs.length, cap, _, cap', rfl, rfl, h1, ⟨h2, by rw [e8]; omega, fun h => by cases h⟩, k1, ⟨k2, by rw [e8]; omega, fun h => by cases h⟩, fun h0 => ⟨g, 0, g', 0, rfl, rfl, ⟨trivial, h3⟩, ⟨trivial, k3⟩, fun j hj => ⟨[.int .i64 xs[j]], [.int .i64 xs[j]], by rw [e1]; rfl, by rw [e1]; rfl, ?_, ?_, int_eqC (hw _ (List.getElem_mem hj))⟩⟩⟩
  · intro i u hi
    have hi0 : i = 0 := by have := (List.getElem?_eq_some_iff.1 hi).1; simpa using this
    subst hi0
    obtain rfl := Option.some.inj hi
    rw [e1, Nat.mul_one, Nat.zero_add, Nat.add_zero]
    exact h4 j hj
  · intro i u hi
    have hi0 : i = 0 := by have := (List.getElem?_eq_some_iff.1 hi).1; simpa using this
    subst hi0
    obtain rfl := Option.some.inj hi
    rw [e1, Nat.mul_one, Nat.zero_add, Nat.add_zero]
    exact k4 j hj
theorem win_any (j k : Nat) (tm vt rl ld ti vs : Int) (ga : Option Addr) (gl gc : Nat) (cm : Int) (na : Option Addr) (nl nc : Nat) (ma : Option Addr) (ml mc : Nat) (w : World) (hj : j < k) (hk : k ≤ 7) : Calls Try.prog 43 #[mem (j : Int) (k : Int) tm vt rl ld ti vs (.slice ga gl gc) cm (.slice na nl nc) (.slice ma ml mc)] w fun e w' => ∃ nv mv, e = .returned (mem (j : Int) (k : Int) tm vt 2 (j : Int) 1 vs (.slice ga gl gc) cm nv mv) ∧ IntRow w' nv (nextL gl k) ∧ IntRow w' mv (matchL gl k j) ∧ (∃ g, nv.ownBlock = some g ∧ w.heap.size ≤ g) ∧ (∃ g, mv.ownBlock = some g ∧ w.heap.size ≤ g) ∧ Below w.heap.size w w' := by
  refine calls_frv (N := 40) (vs := [.agg #[.int .i64 (j : Int), .int .i64 (k : Int), .int .i64 tm, .int .i64 vt, .int .i64 rl, .int .i64 ld, .int .i64 ti, .int .i64 vs, .slice ga gl gc, .int .i64 cm, .slice na nl nc, .slice ma ml mc]]) [(0, .agg #[.int .i64 (j : Int), .int .i64 (k : Int), .int .i64 tm, .int .i64 vt, .int .i64 rl, .int .i64 ld, .int .i64 ti, .int .i64 vs, .slice ga gl gc, .int .i64 cm, .slice na nl nc, .slice ma ml mc])] Try.func43 rfl rfl (of_decide_eq_true rfl) (fun p hp => by simp only [List.mem_cons, List.not_mem_nil, or_false] at hp; rcases hp with rfl <;> rfl) (fun a hf => ?_)
  have hX := Bx.start w
  refine wp_seq ?_
  refine wp_region_lit ?_
  refine sv_box hf hX rfl (by decide) (fun a C1 W hC hf hX hA => ?_)
  clear hC hA
  refine sv_alloc (zs := [.int .i64 0, .int .i64 0, .int .i64 0, .int .i64 0, .int .i64 0, .int .i64 0, .int .i64 0, .int .i64 0, .slice none 0 0, .int .i64 0, .slice none 0 0, .slice none 0 0]) hf hX zero_mem (by decide) (fun a C2 W hC hf hX hA => ?_)
  clear hC hA
  replace hf := hf.sub (env' := [(2, .pointer (some ⟨C2, 0, none⟩)), (1, .pointer (some ⟨C1, 0, none⟩))]) (sub_cons rfl (sub_cons rfl (sub_nil)))
  refine sv_nil hf ?_
  refine wp_seq ?_
  refine wp_region_lit ?_
  refine sv_fld hf rfl Try.underlying25 rfl sz_int (0) rfl (by decide) (fun a hf => ?_)
  refine sv_lc hf hX rfl 1 rfl rfl Try.underlying3 rfl (by decide) (fun a hf => ?_)
  refine sv_fld hf rfl Try.underlying25 rfl sz_int (4) rfl (by decide) (fun a hf => ?_)
  refine sv_sc (cs' := [.int .i64 (j : Int), .int .i64 (k : Int), .int .i64 tm, .int .i64 vt, .int .i64 2, .int .i64 ld, .int .i64 ti, .int .i64 vs, .slice ga gl gc, .int .i64 cm, .slice na nl nc, .slice ma ml mc]) hf hX rfl rfl 1 rfl (of_decide_eq_true rfl) rfl info_int rfl [(C2, [.int .i64 0, .int .i64 0, .int .i64 0, .int .i64 0, .int .i64 0, .int .i64 0, .int .i64 0, .int .i64 0, .slice none 0 0, .int .i64 0, .slice none 0 0, .slice none 0 0]), (C1, [.int .i64 (j : Int), .int .i64 (k : Int), .int .i64 tm, .int .i64 vt, .int .i64 2, .int .i64 ld, .int .i64 ti, .int .i64 vs, .slice ga gl gc, .int .i64 cm, .slice na nl nc, .slice ma ml mc])] rfl (fun W hX hO => ?_)
  clear hO
  refine sv_fld hf rfl Try.underlying25 rfl sz_int (5) rfl (by decide) (fun a hf => ?_)
  refine sv_sc (cs' := [.int .i64 (j : Int), .int .i64 (k : Int), .int .i64 tm, .int .i64 vt, .int .i64 2, .int .i64 (j : Int), .int .i64 ti, .int .i64 vs, .slice ga gl gc, .int .i64 cm, .slice na nl nc, .slice ma ml mc]) hf hX rfl rfl 1 rfl (of_decide_eq_true rfl) rfl info_int rfl [(C2, [.int .i64 0, .int .i64 0, .int .i64 0, .int .i64 0, .int .i64 0, .int .i64 0, .int .i64 0, .int .i64 0, .slice none 0 0, .int .i64 0, .slice none 0 0, .slice none 0 0]), (C1, [.int .i64 (j : Int), .int .i64 (k : Int), .int .i64 tm, .int .i64 vt, .int .i64 2, .int .i64 (j : Int), .int .i64 ti, .int .i64 vs, .slice ga gl gc, .int .i64 cm, .slice na nl nc, .slice ma ml mc])] rfl (fun W hX hO => ?_)
  clear hO
  refine sv_fld hf rfl Try.underlying25 rfl sz_int (6) rfl (by decide) (fun a hf => ?_)
  refine sv_sc (cs' := [.int .i64 (j : Int), .int .i64 (k : Int), .int .i64 tm, .int .i64 vt, .int .i64 2, .int .i64 (j : Int), .int .i64 1, .int .i64 vs, .slice ga gl gc, .int .i64 cm, .slice na nl nc, .slice ma ml mc]) hf hX rfl rfl 1 rfl (of_decide_eq_true rfl) rfl info_int rfl [(C2, [.int .i64 0, .int .i64 0, .int .i64 0, .int .i64 0, .int .i64 0, .int .i64 0, .int .i64 0, .int .i64 0, .slice none 0 0, .int .i64 0, .slice none 0 0, .slice none 0 0]), (C1, [.int .i64 (j : Int), .int .i64 (k : Int), .int .i64 tm, .int .i64 vt, .int .i64 2, .int .i64 (j : Int), .int .i64 1, .int .i64 vs, .slice ga gl gc, .int .i64 cm, .slice na nl nc, .slice ma ml mc])] rfl (fun W hX hO => ?_)
  clear hO
  replace hf := hf.sub (env' := [(2, .pointer (some ⟨C2, 0, none⟩)), (1, .pointer (some ⟨C1, 0, none⟩))]) (sub_cons rfl (sub_cons rfl (sub_nil)))
  refine sv_nil hf ?_
  refine wp_seq ?_
  refine wp_region_lit ?_
  refine sv_fld hf rfl Try.underlying25 rfl sz_int (1) rfl (by decide) (fun a hf => ?_)
  refine sv_lc hf hX rfl 1 rfl rfl Try.underlying3 rfl (by decide) (fun a hf => ?_)
  refine sv_mk (k := k) hf hX rfl rfl Try.underlying23 infoI3 (by omega) (by decide) (fun a G3 W hC hf hX hA => ?_)
  clear hC hA
  refine sv_fld hf rfl Try.underlying25 rfl sz_ints (10) rfl (by decide) (fun a hf => ?_)
  refine sv_sc (cs' := [.int .i64 (j : Int), .int .i64 (k : Int), .int .i64 tm, .int .i64 vt, .int .i64 2, .int .i64 (j : Int), .int .i64 1, .int .i64 vs, .slice ga gl gc, .int .i64 cm, .slice (some ⟨G3, 0, none⟩) k k, .slice ma ml mc]) hf hX rfl rfl 2 rfl (of_decide_eq_true rfl) rfl info_ints rfl [(G3, (List.replicate k (.int .i64 0))), (C2, [.int .i64 0, .int .i64 0, .int .i64 0, .int .i64 0, .int .i64 0, .int .i64 0, .int .i64 0, .int .i64 0, .slice none 0 0, .int .i64 0, .slice none 0 0, .slice none 0 0]), (C1, [.int .i64 (j : Int), .int .i64 (k : Int), .int .i64 tm, .int .i64 vt, .int .i64 2, .int .i64 (j : Int), .int .i64 1, .int .i64 vs, .slice ga gl gc, .int .i64 cm, .slice (some ⟨G3, 0, none⟩) k k, .slice ma ml mc])] rfl (fun W hX hO => ?_)
  clear hO
  replace hf := hf.sub (env' := [(2, .pointer (some ⟨C2, 0, none⟩)), (1, .pointer (some ⟨C1, 0, none⟩))]) (sub_cons rfl (sub_cons rfl (sub_nil)))
  refine sv_nil hf ?_
  refine wp_seq ?_
  refine wp_region_lit ?_
  refine sv_fld hf rfl Try.underlying25 rfl sz_int (1) rfl (by decide) (fun a hf => ?_)
  refine sv_lc hf hX rfl 2 rfl rfl Try.underlying3 rfl (by decide) (fun a hf => ?_)
  refine sv_mk (k := k) hf hX rfl rfl Try.underlying23 infoI3 (by omega) (by decide) (fun a G4 W hC hf hX hA => ?_)
  clear hC hA
  refine sv_fld hf rfl Try.underlying25 rfl sz_ints (11) rfl (by decide) (fun a hf => ?_)
  refine sv_sc (cs' := [.int .i64 (j : Int), .int .i64 (k : Int), .int .i64 tm, .int .i64 vt, .int .i64 2, .int .i64 (j : Int), .int .i64 1, .int .i64 vs, .slice ga gl gc, .int .i64 cm, .slice (some ⟨G3, 0, none⟩) k k, .slice (some ⟨G4, 0, none⟩) k k]) hf hX rfl rfl 3 rfl (of_decide_eq_true rfl) rfl info_ints rfl [(G4, (List.replicate k (.int .i64 0))), (G3, (List.replicate k (.int .i64 0))), (C2, [.int .i64 0, .int .i64 0, .int .i64 0, .int .i64 0, .int .i64 0, .int .i64 0, .int .i64 0, .int .i64 0, .slice none 0 0, .int .i64 0, .slice none 0 0, .slice none 0 0]), (C1, [.int .i64 (j : Int), .int .i64 (k : Int), .int .i64 tm, .int .i64 vt, .int .i64 2, .int .i64 (j : Int), .int .i64 1, .int .i64 vs, .slice ga gl gc, .int .i64 cm, .slice (some ⟨G3, 0, none⟩) k k, .slice (some ⟨G4, 0, none⟩) k k])] rfl (fun W hX hO => ?_)
  clear hO
  replace hf := hf.sub (env' := [(2, .pointer (some ⟨C2, 0, none⟩)), (1, .pointer (some ⟨C1, 0, none⟩))]) (sub_cons rfl (sub_cons rfl (sub_nil)))
  refine sv_nil hf ?_
  refine wp_seq ?_
  refine wp_seq ?_
  refine wp_region_lit ?_
  refine sv_fld hf rfl Try.underlying25 rfl sz_ints (10) rfl (by decide) (fun a hf => ?_)
  refine sv_lc hf hX rfl 3 rfl rfl Try.underlying23 rfl (by decide) (fun a hf => ?_)
  refine sv_len hf rfl Try.underlying23 (by decide) (fun a hf => ?_)
  refine sv_run (v := .int .i64 0) hf (by decide) (fun a hf => by unfold execOp; rfl) (fun a hf => ?_)
  replace hf := hf.sub (env' := [(20, .int .i64 0), (19, .int .i64 ((k : Nat) : Int)), (2, .pointer (some ⟨C2, 0, none⟩)), (1, .pointer (some ⟨C1, 0, none⟩))]) (sub_cons rfl (sub_cons rfl (sub_cons rfl (sub_cons rfl (sub_nil)))))
  refine sv_nil hf ?_
  have hX0 : Bx ⟨w, []⟩ [(G4, (List.replicate k (.int .i64 0))), (G3, (fillR gl 0 k)), (C2, [.int .i64 0, .int .i64 0, .int .i64 0, .int .i64 0, .int .i64 0, .int .i64 0, .int .i64 0, .int .i64 0, .slice none 0 0, .int .i64 0, .slice none 0 0, .slice none 0 0]), (C1, [.int .i64 (j : Int), .int .i64 (k : Int), .int .i64 tm, .int .i64 vt, .int .i64 2, .int .i64 (j : Int), .int .i64 1, .int .i64 vs, .slice ga gl gc, .int .i64 cm, .slice (some ⟨G3, 0, none⟩) k k, .slice (some ⟨G4, 0, none⟩) k k])] W := by rw [← fillR_0 gl k]; exact hX
  refine wp_block (wp_loop (fun a X => ∃ q : Nat, q ≤ k ∧ FrV 40 [(1, .pointer (some ⟨C1, 0, none⟩)), (2, .pointer (some ⟨C2, 0, none⟩)), (19, .int .i64 ((k : Nat) : Int)), (20, .int .i64 (q : Int))] a ∧ Bx ⟨w, []⟩ [(G4, (List.replicate k (.int .i64 0))), (G3, (fillR gl q k)), (C2, [.int .i64 0, .int .i64 0, .int .i64 0, .int .i64 0, .int .i64 0, .int .i64 0, .int .i64 0, .int .i64 0, .slice none 0 0, .int .i64 0, .slice none 0 0, .slice none 0 0]), (C1, [.int .i64 (j : Int), .int .i64 (k : Int), .int .i64 tm, .int .i64 vt, .int .i64 2, .int .i64 (j : Int), .int .i64 1, .int .i64 vs, .slice ga gl gc, .int .i64 cm, .slice (some ⟨G3, 0, none⟩) k k, .slice (some ⟨G4, 0, none⟩) k k])] X) (fun a _ => k - (intOf (a.eval (.tmp 20))).toNat) ⟨0, Nat.zero_le _, hf.sub (sub_cons rfl (sub_cons rfl (sub_cons rfl (sub_cons rfl sub_nil)))), hX0⟩ ?_)
  clear hX hX0
  rintro a W ⟨q, hq, hf, hX⟩
  have hq20 : a.eval (.tmp 20) = .int .i64 (q : Int) := hf.rel 20 _ rfl
  rcases Nat.lt_or_ge q k with hlt | hge
  ·
    refine wp_seq ?_
    refine wp_region_lit ?_
    refine sv_cmp hf rfl rfl true (congrArg some (decide_eq_true (by omega))) (by decide) (fun a hf => ?_)
    refine sv_nil hf ?_
    refine wp_seq (wp_cond_true (hf.rel _ _ rfl) (wp_skip ?_))
    refine wp_seq (wp_block ?_)
    refine wp_seq ?_
    refine wp_region_lit ?_
    refine sv_mv hf rfl (by decide) (fun a hf => ?_)
    refine sv_as hf rfl (by decide) (fun a hf => ?_)
    replace hf := hf.sub (env' := [(3, .int .i64 (q : Int)), (22, .int .i64 (q : Int)), (1, .pointer (some ⟨C1, 0, none⟩)), (2, .pointer (some ⟨C2, 0, none⟩)), (19, .int .i64 ((k : Nat) : Int)), (20, .int .i64 (q : Int))]) (sub_cons rfl (sub_cons rfl (sub_cons rfl (sub_cons rfl (sub_cons rfl (sub_cons rfl (sub_nil)))))))
    refine sv_nil hf ?_
    refine wp_region_lit ?_
    refine sv_fld hf rfl Try.underlying25 rfl sz_ints (10) rfl (by decide) (fun a hf => ?_)
    refine sv_lc hf hX rfl 3 rfl rfl Try.underlying23 rfl (by decide) (fun a hf => ?_)
    refine sv_mv hf rfl (by decide) (fun a hf => ?_)
    refine sv_fld hf rfl Try.underlying25 rfl sz_ents (8) rfl (by decide) (fun a hf => ?_)
    refine sv_lc hf hX rfl 3 rfl rfl Try.underlying22 rfl (by decide) (fun a hf => ?_)
    refine sv_len hf rfl Try.underlying22 (by decide) (fun a hf => ?_)
    refine sv_idx (q := q) hf rfl rfl (by omega) Try.underlying23 einfo_ints (by decide) (fun a hf => ?_)
    refine sv_sc (cs' := (fillR gl (q + 1) k)) hf hX rfl rfl 1 rfl (by rw [fillR_len _ (by omega)]; omega) (fillR_step _ (by omega)) info_int rfl [(G4, (List.replicate k (.int .i64 0))), (G3, (fillR gl (q + 1) k)), (C2, [.int .i64 0, .int .i64 0, .int .i64 0, .int .i64 0, .int .i64 0, .int .i64 0, .int .i64 0, .int .i64 0, .slice none 0 0, .int .i64 0, .slice none 0 0, .slice none 0 0]), (C1, [.int .i64 (j : Int), .int .i64 (k : Int), .int .i64 tm, .int .i64 vt, .int .i64 2, .int .i64 (j : Int), .int .i64 1, .int .i64 vs, .slice ga gl gc, .int .i64 cm, .slice (some ⟨G3, 0, none⟩) k k, .slice (some ⟨G4, 0, none⟩) k k])] rfl (fun W hX hO => ?_)
    clear hO
    refine sv_nil hf ?_
    refine wp_region_lit ?_
    refine sv_add ((q + 1 : Nat) : Int) hf rfl rfl (by rw [wrap_in (by omega)]; rfl) (by decide) (fun a hf => ?_)
    refine sv_mv hf rfl (by decide) (fun a hf => ?_)
    refine sv_nil hf ?_
    refine ⟨⟨q + 1, hlt, hf.sub (sub_cons rfl (sub_cons rfl (sub_cons rfl (sub_cons rfl sub_nil)))), hX⟩, ?_⟩
    have h5 : a.eval (.tmp 20) = .int .i64 ((q + 1 : Nat) : Int) := hf.rel 20 _ rfl
    rw [h5, hq20]; simp only [intOf, Int.toNat_natCast]; omega
  ·
    refine wp_seq ?_
    refine wp_region_lit ?_
    refine sv_cmp hf rfl rfl false (congrArg some (decide_eq_false (by omega))) (by decide) (fun a hf => ?_)
    refine sv_nil hf ?_
    refine wp_seq (wp_cond_false (hf.rel _ _ rfl) (wp_exit ?_))
    simp only [Exit.inBlock, Exit.then, ↓reduceIte]
    obtain rfl : k = q := by omega
    refine wp_seq ?_
    refine wp_region_lit ?_
    refine sv_fld hf rfl Try.underlying25 rfl sz_ints (11) rfl (by decide) (fun a hf => ?_)
    refine sv_lc hf hX rfl 3 rfl rfl Try.underlying23 rfl (by decide) (fun a hf => ?_)
    refine sv_fld hf rfl Try.underlying25 rfl sz_int (0) rfl (by decide) (fun a hf => ?_)
    refine sv_lc hf hX rfl 3 rfl rfl Try.underlying3 rfl (by decide) (fun a hf => ?_)
    refine sv_fld hf rfl Try.underlying25 rfl sz_ents (8) rfl (by decide) (fun a hf => ?_)
    refine sv_lc hf hX rfl 3 rfl rfl Try.underlying22 rfl (by decide) (fun a hf => ?_)
    refine sv_len hf rfl Try.underlying22 (by decide) (fun a hf => ?_)
    refine sv_idx (q := j) hf rfl rfl hj Try.underlying23 einfo_ints (by decide) (fun a hf => ?_)
    refine sv_sc (cs' := ((matchL gl k j).map (.int .i64 ·))) hf hX rfl rfl 0 rfl (by rw [List.length_replicate]; omega) (matchL_val _ _ _) info_int rfl [(G4, ((matchL gl k j).map (.int .i64 ·))), (G3, (fillR gl k k)), (C2, [.int .i64 0, .int .i64 0, .int .i64 0, .int .i64 0, .int .i64 0, .int .i64 0, .int .i64 0, .int .i64 0, .slice none 0 0, .int .i64 0, .slice none 0 0, .slice none 0 0]), (C1, [.int .i64 (j : Int), .int .i64 (k : Int), .int .i64 tm, .int .i64 vt, .int .i64 2, .int .i64 (j : Int), .int .i64 1, .int .i64 vs, .slice ga gl gc, .int .i64 cm, .slice (some ⟨G3, 0, none⟩) k k, .slice (some ⟨G4, 0, none⟩) k k])] rfl (fun W hX hO => ?_)
    clear hO
    replace hf := hf.sub (env' := [(1, .pointer (some ⟨C1, 0, none⟩)), (2, .pointer (some ⟨C2, 0, none⟩))]) (sub_cons rfl (sub_cons rfl (sub_nil)))
    refine sv_nil hf ?_
    refine wp_seq ?_
    refine wp_region_lit ?_
    refine sv_lr hf hX rfl 3 rfl Try.underlying25 info_mem (by decide) (fun a hf => ?_)
    refine sv_sr hf hX rfl rfl 2 rfl rfl info_mem (fun v hv => List.all_eq_true.1 (show List.all [.int .i64 (j : Int), .int .i64 (k : Int), .int .i64 tm, .int .i64 vt, .int .i64 2, .int .i64 (j : Int), .int .i64 1, .int .i64 vs, .slice ga gl gc, .int .i64 cm, .slice (some ⟨G3, 0, none⟩) k k, .slice (some ⟨G4, 0, none⟩) k k] (·.oneCell') = true from rfl) v hv) [(G4, ((matchL gl k j).map (.int .i64 ·))), (G3, (fillR gl k k)), (C2, [.int .i64 (j : Int), .int .i64 (k : Int), .int .i64 tm, .int .i64 vt, .int .i64 2, .int .i64 (j : Int), .int .i64 1, .int .i64 vs, .slice ga gl gc, .int .i64 cm, .slice (some ⟨G3, 0, none⟩) k k, .slice (some ⟨G4, 0, none⟩) k k]), (C1, [.int .i64 (j : Int), .int .i64 (k : Int), .int .i64 tm, .int .i64 vt, .int .i64 2, .int .i64 (j : Int), .int .i64 1, .int .i64 vs, .slice ga gl gc, .int .i64 cm, .slice (some ⟨G3, 0, none⟩) k k, .slice (some ⟨G4, 0, none⟩) k k])] rfl (fun W hX hO => ?_)
    clear hO
    replace hf := hf.sub (env' := [(2, .pointer (some ⟨C2, 0, none⟩))]) (sub_cons rfl (sub_nil))
    refine sv_nil hf ?_
    refine wp_ret ?_
    try simp only [Exit.inBlock, Exit.then]
    have hG := hX.get (i := 1) (C := G3) rfl
    have hH := hX.get (i := 0) (C := G4) rfl
    rw [fillR_all] at hG
    have r1 := intRow_box hG (by simp [nextL]; unfold maxLen; omega)
    have r2 := intRow_box hH (by simp [matchL]; unfold maxLen; omega)
    have e1 : (nextL gl k).length = k := by simp [nextL]
    have e2 : (matchL gl k j).length = k := by simp [matchL]
    rw [e1] at r1; rw [e2] at r2
    exact bodyPost_ret (res_cell (c := 2) (C := C2) (cs := [.int .i64 (j : Int), .int .i64 (k : Int), .int .i64 tm, .int .i64 vt, .int .i64 2, .int .i64 (j : Int), .int .i64 1, .int .i64 vs, .slice ga gl gc, .int .i64 cm, .slice (some ⟨G3, 0, none⟩) k k, .slice (some ⟨G4, 0, none⟩) k k]) (T := 25) rfl (hf.rel 2 _ rfl) (hX.get (i := 2) rfl) Try.underlying25 info_mem) hf.defers ⟨_, _, rfl, r1, r2, ⟨G3, rfl, hX.ge _ (List.mem_of_getElem? (i := 1) rfl)⟩, ⟨G4, rfl, hX.ge _ (List.mem_of_getElem? (i := 0) rfl)⟩, hX.low⟩
end Go.Proofs.Ytfpgklhbghahoaa
/- Election: the document's member that wins. -/
namespace Go.Proofs.Ytfpgklhbghahoaa
open Go.ChangeShapes Go.WideShapes Go.ChangeAt Go.RowKit Go.ChangeMaps Go.Joins Go.Deep
set_option linter.unusedVariables false
set_option linter.unusedSimpArgs false
set_option maxRecDepth 100000
/-- a row of ints of its own -/
def OwnR (B : Nat) (W : World) (v : Value) (xs : List Int) : Prop := W.ownsRow B 3 1 v xs.length (xs.map (.int .i64 ·))
theorem OwnR.nil (B : Nat) (W : World) : OwnR B W (.slice none 0 0) [] := World.ownsRow_nil _ _ _ _
theorem OwnR.lt {B : Nat} {W : World} {v : Value} {xs : List Int} (h : OwnR B W v xs) : ∀ k, v.ownBlock = some k → B ≤ k ∧ k < W.heap.size := World.ownsRow.lt h
theorem OwnR.keep {B : Nat} {W W' : World} {v : Value} {xs : List Int} (h : OwnR B W v xs) (hk : ∀ k, v.ownBlock = some k → W'.heap[k]? = W.heap[k]?) : OwnR B W' v xs := by
  obtain ⟨h1, h2⟩ := h
  refine ⟨h1, ?_⟩
  rcases h2 with h2 | ⟨g, cap, cur, e, h2, h3, h4⟩
  · exact .inl h2
  · subst e
    exact .inr ⟨g, cap, cur, rfl, h2, (hk g rfl).trans h3, h4⟩
theorem OwnR.push {B : Nat} {W : World} {v : Value} {xs : List Int} {x : Int} (h : W.ownsRow B 3 1 v (xs.length + 1) (xs.map (.int .i64 ·) ++ [.int .i64 x])) : OwnR B W v (xs ++ [x]) := by
  unfold OwnR
  rw [List.map_append, List.length_append]
  exact h
theorem OwnR.int {B : Nat} {W : World} {v : Value} {xs : List Int} (h : OwnR B W v xs) (h0 : 0 < xs.length) : IntRow W v xs ∧ ∃ g, v.ownBlock = some g ∧ B ≤ g := by
  have h1 := intRow_own h h0
  obtain ⟨g, cap, rfl, h2⟩ := id h1
  exact ⟨h1, g, rfl, (h.lt g rfl).1⟩
/-- two rows apart -/
structure NM (B : Nat) (W : World) (u v : Value) (xs ys : List Int) : Prop where
  a : OwnR B W u xs
  b : OwnR B W v ys
  ap : ∀ k, u.ownBlock = some k → v.ownBlock ≠ some k
  ge : B ≤ W.heap.size
theorem NM.start (W : World) : NM W.heap.size W (.slice none 0 0) (.slice none 0 0) [] [] := ⟨OwnR.nil _ _, OwnR.nil _ _, fun k h => (by cases h), Nat.le_refl _⟩
theorem NM.below {B : Nat} {W W' : World} {u v : Value} {xs ys : List Int} (h : NM B W u v xs ys) (hb : Below W.heap.size W W') : NM B W' u v xs ys :=
  ⟨h.a.keep (fun k hk => hb.block k (h.a.lt k hk).2), h.b.keep (fun k hk => hb.block k (h.b.lt k hk).2), h.ap, Nat.le_trans h.ge hb.size⟩
theorem NM.only {B : Nat} {W W' : World} {u v : Value} {xs ys : List Int} {c : Nat} (h : NM B W u v xs ys) (ho : Only W W' c) (hc : c < B) : NM B W' u v xs ys :=
  ⟨h.a.keep (fun k hk => ho.heap k (fun e => by have := (h.a.lt k hk).1; omega)), h.b.keep (fun k hk => ho.heap k (fun e => by have := (h.b.lt k hk).1; omega)), h.ap, by rw [ho.size]; exact h.ge⟩
theorem NM.left {B : Nat} {W W' : World} {u v u' : Value} {xs ys : List Int} {x : Int} (h : NM B W u v xs ys) (hg : W.grownBy W' u.ownBlock) (ho : W'.ownsRow B 3 1 u' (xs.length + 1) (xs.map (.int .i64 ·) ++ [.int .i64 x])) (hk : ∀ k, u'.ownBlock = some k → u.ownBlock = some k ∨ W.heap.size ≤ k) : NM B W' u' v (xs ++ [x]) ys :=
  ⟨OwnR.push ho, h.b.keep (fun k hv => hg.block k (h.b.lt k hv).2 (fun e => h.ap k e.symm hv)), fun k hu hv => by
    rcases hk k hu with h1 | h1
    · exact h.ap k h1 hv
    · have := (h.b.lt k hv).2; omega, Nat.le_trans h.ge hg.size⟩
theorem matchL_len (n : Int) (k j : Nat) : (matchL n k j).length = k := by simp [matchL]
theorem nextL_len {n : Int} {k : Nat} : (nextL n k).length = k := by simp [nextL]
end Go.Proofs.Ytfpgklhbghahoaa
/- Bits of small numbers: 1 << n, or, int as uint64 (plain). -/
namespace Go.Proofs.Ytfpgklhbghahoaa
open Go.ChangeShapes Go.WideShapes Go.ChangeAt Go.RowKit Go.ChangeMaps Go.Joins Go.Deep
set_option linter.unusedVariables false
set_option linter.unusedSimpArgs false
set_option maxRecDepth 100000
/-- the bits of two numbers together -/
def orB (x y : Int) : Int := IntKind.i64.wrap (BitVec.ofInt 64 x ||| BitVec.ofInt 64 y).toNat
theorem orB_small : ∀ sz < 8, ∀ vs < 128, ∀ xf < 7, (decide (vs < 2 ^ sz) && decide (xf < sz)) = true → (decide (0 ≤ orB (vs : Nat) ((2 ^ xf : Nat) : Int)) && decide (orB (vs : Nat) ((2 ^ xf : Nat) : Int) < ((2 ^ sz : Nat) : Int))) = true := by decide +kernel
theorem orB_in {vs xf sz : Int} (h0 : 0 ≤ vs) (h1 : 1 ≤ sz) (h7 : sz ≤ 7) (h : vs < 2 ^ sz.toNat) (hx0 : 0 ≤ xf) (hx : xf < sz) : 0 ≤ orB vs (2 ^ xf.toNat) ∧ orB vs (2 ^ xf.toNat) < 2 ^ sz.toNat := by
  obtain ⟨n, rfl⟩ : ∃ n : Nat, vs = n := ⟨vs.toNat, by omega⟩
  have h2 : n < 2 ^ sz.toNat := by exact_mod_cast h
  have h3 : 2 ^ sz.toNat ≤ 2 ^ 7 := Nat.pow_le_pow_right (by decide) (by omega)
  have := orB_small sz.toNat (by omega) n (by omega) xf.toNat (by omega) (by simp only [Bool.and_eq_true, decide_eq_true_eq]; exact ⟨h2, by omega⟩)
  simp only [Bool.and_eq_true, decide_eq_true_eq] at this
  simpa using this
theorem pow7 {sz : Int} (h7 : sz ≤ 7) {v : Int} (h : v < 2 ^ sz.toNat) : v < 128 := by
  have h3 : 2 ^ sz.toNat ≤ 2 ^ 7 := Nat.pow_le_pow_right (by decide) (by omega)
  have h4 : ((2 ^ sz.toNat : Nat) : Int) ≤ 128 := by exact_mod_cast h3
  have h5 : ((2 ^ sz.toNat : Nat) : Int) = 2 ^ sz.toNat := by simp
  omega
section
variable {P : Program} {w : World} {o : Oper} {a : Act} {N : Nat} {env : VEnv}
theorem ex_or {xT zT : TypeId} {x z : Operand} {m n r : Int} (hf : FrV N env a) (ho : o.op = .binOp .or xT x z zT) (hx : ev env x = some (.int .i64 m)) (hz : ev env z = some (.int .i64 n)) (hr : orB m n = r) : (execOp a.eval o).run P w = .ok (.value (.int .i64 r)) w := by
  subst hr
  unfold execOp
  simp only [ho, hf.ev hx, hf.ev hz]
  rfl
theorem ex_shl {xT zT : TypeId} {x z : Operand} {n r : Int} (hf : FrV N env a) (ho : o.op = .binOp .shl xT x z zT) (hx : ev env x = some (.int .i64 1)) (hz : ev env z = some (.int .i64 n)) (h0 : 0 ≤ n) (h7 : n < 7) (hr : 2 ^ n.toNat = r) : (execOp a.eval o).run P w = .ok (.value (.int .i64 r)) w := by
  obtain ⟨k, rfl⟩ : ∃ k : Nat, n = k := ⟨n.toNat, by omega⟩
  subst hr
  have hk : k < 7 := by omega
  clear h0 h7
  have hsh : (Op.shift .shl .i64 1 .i64 (k : Int)) = pure (.int .i64 (2 ^ (k : Int).toNat)) := by
    revert hk
    match k with
    | 0 => intro _; rfl
    | 1 => intro _; rfl
    | 2 => intro _; rfl
    | 3 => intro _; rfl
    | 4 => intro _; rfl
    | 5 => intro _; rfl
    | 6 => intro _; rfl
    | k + 7 => intro h; omega
  unfold execOp
  simp only [ho, hf.ev hx, hf.ev hz]
  have hb : binOp .shl xT (.int .i64 1) (.int .i64 (k : Int)) = Op.shift .shl .i64 1 .i64 (k : Int) := rfl
  rw [hb, hsh]
  rfl
theorem ex_conv {S D : TypeId} {x : Operand} {n : Int} (hf : FrV N env a) (ho : o.op = .convert S D x) (hx : ev env x = some (.int .i64 n)) (hS : P.underlying S = some (.int .i64)) (hD : P.underlying D = some (.int .u64)) (h0 : 0 ≤ n) (h7 : n < 128) : (execOp a.eval o).run P w = .ok (.value (.int .u64 n)) w := by
  unfold execOp
  simp only [ho, hf.ev hx]
  have e1 : (underlying S).run P w = .ok (.int .i64) w := by simp [go_sem, underlying, hS]
  have e2 : (underlying D).run P w = .ok (.int .u64) w := by simp [go_sem, underlying, hD]
  simp only [convert, Sem.run_bind, e1, e2, Result.andThen_ok, Conv.intToInt, Sem.run_pure]
  rw [show IntKind.u64.wrap n = n from by simp [IntKind.wrap, IntKind.bits]; omega]
end
end Go.Proofs.Ytfpgklhbghahoaa
/- Election: Voted, of the program and of the document. -/
namespace Go.Proofs.Ytfpgklhbghahoaa
open Go.ChangeShapes Go.WideShapes Go.ChangeAt Go.RowKit Go.ChangeMaps Go.Joins Go.Deep
set_option linter.unusedVariables false
set_option linter.unusedSimpArgs false
set_option maxRecDepth 100000
theorem Bx.lts {b : Base} {W : World} {l : List (Nat × List Value)} (h : Bx b l W) : ∀ x ∈ l, x.1 < W.heap.size := fun x hx => (h.box x hx).lt
theorem ones_n {v2 sz n2 : Int} (h0 : 0 ≤ v2) (h1 : 1 ≤ sz) (h7 : sz ≤ 7) (h : v2 < 2 ^ sz.toNat) (hn : n2 = cntB v2 sz.toNat) (w : World) : Calls Try.prog 42 #[.int .u64 v2] w fun e w' => e = .returned (.int .i64 n2) ∧ w = w' := by
  have := ones_at v2 w h0 (pow7 h7 h)
  rwa [cntB_all v2 sz h0 h1 h7 h, ← hn] at this
theorem win_int (id sz tm vt rl ld ti vs : Int) (ga : Option Addr) (gl gc : Nat) (cm : Int) (na : Option Addr) (nl nc : Nat) (ma : Option Addr) (ml mc : Nat) (w : World) (h0 : 0 ≤ id) (hid : id < sz) (h7 : sz ≤ 7) : Calls Try.prog 43 #[mem id sz tm vt rl ld ti vs (.slice ga gl gc) cm (.slice na nl nc) (.slice ma ml mc)] w fun e w' => ∃ pa pl pc sa sl sc, e = .returned (mem id sz tm vt 2 id 1 vs (.slice ga gl gc) cm (.slice pa pl pc) (.slice sa sl sc)) ∧ IntRow w' (.slice pa pl pc) (nextL gl sz.toNat) ∧ IntRow w' (.slice sa sl sc) (matchL gl sz.toNat id.toNat) ∧ (∃ g, (Value.slice pa pl pc).ownBlock = some g ∧ w.heap.size ≤ g) ∧ (∃ g, (Value.slice sa sl sc).ownBlock = some g ∧ w.heap.size ≤ g) ∧ Below w.heap.size w w' := by
  obtain ⟨j, rfl⟩ := Int.eq_ofNat_of_zero_le h0
  obtain ⟨k, rfl⟩ := Int.eq_ofNat_of_zero_le (show 0 ≤ sz by omega)
  refine (win_any j k tm vt rl ld ti vs ga gl gc cm na nl nc ma ml mc w (by omega) (by omega)).mono ?_
  rintro e w' ⟨nv, mv, rfl, ⟨g1, c1, rfl, r1⟩, ⟨g2, c2, rfl, r2⟩, h1, h2, hb⟩
  exact ⟨_, _, _, _, _, _, rfl, ⟨g1, c1, rfl, r1⟩, ⟨g2, c2, rfl, r2⟩, h1, h2, hb⟩
/-- which way a vote that came in goes: 0 nothing, 1 a later term, 2 one more vote, 3 a win -/
def VCase (xk xt tm rl : Int) (xok : Bool) (n2 mj : Int) : Nat := if xk = 2 then (if tm < xt then 1 else if rl = 1 ∧ xt = tm ∧ xok = true then (if mj ≤ n2 then 3 else 2) else 0) else 0
/-- what the member is then -/
def VR (W : World) (c : Nat) (id sz tm vt rl ld ti vs v2 cm xt : Int) (ga : Option Addr) (gl gc : Nat) (na : Option Addr) (nl nc : Nat) (ma : Option Addr) (ml mc : Nat) (cs : List Value) : Prop :=
  (c = 0 ∧ cs = memL id sz tm vt rl ld ti vs (.slice ga gl gc) cm (.slice na nl nc) (.slice ma ml mc)) ∨
  (c = 1 ∧ cs = memL id sz (fTm tm xt) (fVt tm xt vt) (fRl tm xt rl) (fLd tm xt ld) (fTi tm xt rl ti id) (fVs tm xt vs) (.slice ga gl gc) cm (.slice (fA tm xt na) (fN tm xt nl) (fN tm xt nc)) (.slice (fA tm xt ma) (fN tm xt ml) (fN tm xt mc))) ∨
  (c = 2 ∧ cs = memL id sz tm vt rl ld ti v2 (.slice ga gl gc) cm (.slice na nl nc) (.slice ma ml mc)) ∨
  (c = 3 ∧ ∃ pa pl pc sa sl sc, cs = memL id sz tm vt 2 id 1 v2 (.slice ga gl gc) cm (.slice pa pl pc) (.slice sa sl sc) ∧ IntRow W (.slice pa pl pc) (nextL gl sz.toNat) ∧ IntRow W (.slice sa sl sc) (matchL gl sz.toNat id.toNat))
theorem VR.below {W W' : World} {c : Nat} {id sz tm vt rl ld ti vs v2 cm xt : Int} {ga : Option Addr} {gl gc : Nat} {na : Option Addr} {nl nc : Nat} {ma : Option Addr} {ml mc : Nat} {cs : List Value} (h : VR W c id sz tm vt rl ld ti vs v2 cm xt ga gl gc na nl nc ma ml mc cs) (hb : Below W.heap.size W W') : VR W' c id sz tm vt rl ld ti vs v2 cm xt ga gl gc na nl nc ma ml mc cs := by
  rcases h with h | h | h | ⟨h, pa, pl, pc, sa, sl, sc, h1, h2, h3⟩
  · exact .inl h
  · exact .inr (.inl h)
  · exact .inr (.inr (.inl h))
  · exact .inr (.inr (.inr ⟨h, pa, pl, pc, sa, sl, sc, h1, h2.below hb, h3.below hb⟩))
theorem wf_nat {n : Nat} (h : n ≤ 1000000) : (Lit.int .i64 (n : Int)).wf = true := wf_of (by omega)
theorem nextL_wf {n k : Nat} (h : n ≤ 1000000) : ∀ x ∈ nextL (n : Int) k, (Lit.int .i64 x).wf = true := by
  intro x hx
  rw [List.eq_of_mem_replicate hx]
  exact wf_nat h
theorem matchL_wf {n k j : Nat} (h : n ≤ 1000000) : ∀ x ∈ matchL (n : Int) k j, (Lit.int .i64 x).wf = true := by
  intro x hx
  rcases List.mem_or_eq_of_mem_set hx with hx | rfl
  · rw [List.eq_of_mem_replicate hx]; decide
  · exact wf_nat h
end Go.Proofs.Ytfpgklhbghahoaa
/- Election: the law Counts. -/
namespace Go.Proofs.Ytfpgklhbghahoaa
open Go.ChangeShapes Go.WideShapes Go.ChangeAt Go.RowKit Go.ChangeMaps Go.Joins Go.Deep
set_option linter.unusedVariables false
set_option linter.unusedSimpArgs false
set_option maxRecDepth 100000
theorem EqC.tt {W : World} {F F' : Nat → Prop} {n : Nat} {t : TypeId} {cs ds : List Value} (h : EqC Try.prog W W F F' n t cs ds) : EqC Try.prog W W TT TT n t cs ds :=
  EqC.kept (Nat.le_refl _) (Nat.le_refl _) (fun _ _ _ => rfl) (fun _ _ _ => rfl) (fun _ _ _ => trivial) (fun _ _ _ => trivial) n t cs ds h
end Go.Proofs.Ytfpgklhbghahoaa
/- Election: logs and places of copies; a member's state stays possible when it votes (plain). -/
namespace Go.Proofs.Ytfpgklhbghahoaa
open Go.ChangeShapes Go.WideShapes Go.ChangeAt Go.RowKit Go.ChangeMaps Go.Joins Go.Deep
set_option linter.unusedVariables false
set_option linter.unusedSimpArgs false
set_option maxRecDepth 100000
theorem list_of {P : Nat → List Value → Prop} : ∀ (k : Nat), (∀ j, j < k → ∃ y, P j y) → ∃ l : List (List Value), l.length = k ∧ ∀ j (hj : j < l.length), P j l[j]
  | 0, _ => ⟨[], rfl, fun j hj => absurd hj (Nat.not_lt_zero j)⟩
  | k + 1, h => by
    obtain ⟨l, hl, hp⟩ := list_of k (fun j hj => h j (by omega))
    obtain ⟨y, hy⟩ := h k (by omega)
    refine ⟨l ++ [y], by simp [hl], fun j hj => ?_⟩
    rcases Nat.lt_or_ge j k with h1 | h1
    · rw [List.getElem_append_left (by omega)]; exact hp j (by omega)
    · obtain rfl : j = k := by simp [hl] at hj; omega
      rw [List.getElem_append_right (by omega)]
      simp only [hl, Nat.sub_self, List.getElem_cons_zero]
      exact hy
theorem logB_congr (tm : Int) : ∀ (es es' : List (List Value)) (t s : Int), es'.map trm = es.map trm → es'.map stp = es.map stp → logB tm t s es' = logB tm t s es
  | [], [], _, _, _, _ => rfl
  | [], _ :: _, _, _, h, _ => by simp at h
  | _ :: _, [], _, _, h, _ => by simp at h
  | e :: r, e' :: r', t, s, h, h' => by
    simp only [List.map_cons, List.cons.injEq] at h h'
    unfold logB
    rw [h.1, h'.1, logB_congr tm r r' _ _ h.2 h'.2]
theorem logB_mono {tm tm' : Int} (hm : tm ≤ tm') : ∀ (es : List (List Value)) (t s : Int), logB tm t s es = true → logB tm' t s es = true
  | [], _, _, _ => rfl
  | e :: r, t, s, h => by
    unfold logB at h ⊢
    split at h
    · cases h
    · rename_i hn
      rw [if_neg (by omega)]
      exact logB_mono hm r _ _ h
/-- the state of a member that voted is possible -/
theorem valid_vote {id sz tm vt rl ld ti vs cm xt xf tm1 vt1 rl1 ld1 ti1 vs1 : Int} {es es' : List (List Value)} {xs ys xs' ys' : List Int} {gr nw : Bool} (hv : validB id sz tm vt rl ld ti vs cm es xs ys = true) (hf0 : 0 ≤ xf) (hf : xf < sz) (hfi : xf ≠ id) (hx0 : 0 ≤ xt)
    (hl : es'.length = es.length) (ht : es'.map trm = es.map trm) (hs : es'.map stp = es.map stp) (hX : xs' = if xt ≤ tm then xs else []) (hY : ys' = if xt ≤ tm then ys else [])
    (htm : tm1 = fTm tm xt) (hgr : gr = grantB xt xf tm1 (fVt tm xt vt) nw) (hvt : vt1 = if gr then xf else fVt tm xt vt) (hrl : rl1 = fRl tm xt rl) (hld : ld1 = fLd tm xt ld) (hti : ti1 = if gr then 10 + 3 * id else fTi tm xt rl ti id) (hvs : vs1 = fVs tm xt vs) :
    validB id sz tm1 vt1 rl1 ld1 ti1 vs1 cm es' xs' ys' = true := by
  have hv0 := hv
  unfold validB restB lgB at hv ⊢
  simp only [Bool.and_eq_true, decide_eq_true_eq] at hv ⊢
  obtain ⟨⟨⟨g1, g2, g3, g4, g5, g6, g7, g8, g9⟩, k1, k2, k3, k4, k5⟩, ⟨l1, l2, l3⟩, r⟩ := hv
  have htm1 : tm ≤ tm1 := by rw [htm]; unfold fTm; split <;> omega
  have hpos : (0 : Int) < 2 ^ sz.toNat := Int.pow_pos (by decide)
  have hvt' : -1 ≤ vt1 ∧ vt1 < sz := by
    rw [hvt]; unfold fVt; split <;> (try split) <;> omega
  have hti' : 0 ≤ ti1 := by
    rw [hti]; unfold fTi; split <;> (try split) <;> (try split) <;> omega
  have hld' : -1 ≤ ld1 ∧ ld1 < sz := by rw [hld]; unfold fLd; split <;> omega
  have hrl' : 0 ≤ rl1 ∧ rl1 ≤ 2 := by rw [hrl]; unfold fRl; split <;> omega
  have hvs' : 0 ≤ vs1 ∧ vs1 < 2 ^ sz.toNat := by rw [hvs]; unfold fVs; split <;> omega
  refine ⟨⟨⟨g1, g2, g3, g4, by omega, hvt'.1, hvt'.2, hld'.1, hld'.2⟩, hrl'.1, hrl'.2, hti', hvs'.1, hvs'.2⟩, ⟨?_, l2, by rw [hl]; exact l3⟩, ?_⟩
  · rw [logB_congr tm1 es es' 0 0 ht hs]; exact logB_mono htm1 es 0 0 l1
  · by_cases hle : xt ≤ tm
    · have e1 : tm1 = tm := by rw [htm]; unfold fTm; rw [if_pos hle]
      have e2 : rl1 = rl := by rw [hrl]; unfold fRl; rw [if_pos hle]
      have e3 : ld1 = ld := by rw [hld]; unfold fLd; rw [if_pos hle]
      have e4 : vs1 = vs := by rw [hvs]; unfold fVs; rw [if_pos hle]
      rw [if_pos hle] at hX hY
      subst hX hY e1 e2 e3 e4
      rw [hl]
      by_cases hr0 : rl1 = 0
      · unfold roleB at r ⊢; rw [if_pos hr0] at r ⊢; exact r
      · have hvi : vt = id := by
          unfold roleB at r
          rw [if_neg hr0] at r
          split at r <;> (unfold firstB at r; simp only [Bool.and_eq_true, decide_eq_true_eq] at r)
          · exact r.1.1.1.1.2
          · exact r.1.1.1.1.1.2
        have hvv : vt1 = vt := by
          have hfv : fVt tm1 xt vt = vt := by unfold fVt; rw [if_pos hle]
          rw [hvt, hfv]
          cases gr with
          | false => rfl
          | true =>
            exfalso
            rw [hfv] at hgr
            unfold grantB at hgr
            have := hgr.symm
            simp only [Bool.and_eq_true, Bool.or_eq_true, decide_eq_true_eq] at this
            omega
        rw [hvv]; exact r
    · have e2 : rl1 = 0 := by rw [hrl]; unfold fRl; rw [if_neg hle]
      rw [if_neg hle] at hX hY
      subst hX hY e2
      rfl
end Go.Proofs.Ytfpgklhbghahoaa
/- Election: a vote by letters; a second vote; the law Grants. -/
namespace Go.Proofs.Ytfpgklhbghahoaa
open Go.ChangeShapes Go.WideShapes Go.ChangeAt Go.RowKit Go.ChangeMaps Go.Joins Go.Deep
set_option linter.unusedVariables false
set_option linter.unusedSimpArgs false
set_option maxRecDepth 100000
/-- what a member is behind a vote -/
structure VLet (id tm vt rl ld ti vs xt xf : Int) (nw : Bool) (tm1 vt1 rl1 ld1 ti1 vs1 : Int) (gr : Bool) : Prop where
  etm : tm1 = fTm tm xt
  egr : gr = grantB xt xf tm1 (fVt tm xt vt) nw
  evt : vt1 = if gr then xf else fVt tm xt vt
  erl : rl1 = fRl tm xt rl
  eld : ld1 = fLd tm xt ld
  eti : ti1 = if gr then 10 + 3 * id else fTi tm xt rl ti id
  evs : vs1 = fVs tm xt vs
section
variable {id tm vt rl ld ti vs xt xf tm1 vt1 rl1 ld1 ti1 vs1 tm2 vt2 rl2 ld2 ti2 vs2 : Int} {nw gr gr2 : Bool}
theorem VLet.le (h : VLet id tm vt rl ld ti vs xt xf nw tm1 vt1 rl1 ld1 ti1 vs1 gr) : tm ≤ tm1 ∧ xt ≤ tm1 := by
  rw [h.etm]; unfold fTm; split <;> omega
theorem grant_parts {tm' vt' : Int} (h : grantB xt xf tm' vt' nw = true) : xt = tm' ∧ (vt' = -1 ∨ vt' = xf) ∧ nw = true := by
  unfold grantB at h
  simp only [Bool.and_eq_true, Bool.or_eq_true, decide_eq_true_eq] at h
  exact ⟨h.1.1, h.1.2, h.2⟩
theorem VLet.again (h : VLet id tm vt rl ld ti vs xt xf nw tm1 vt1 rl1 ld1 ti1 vs1 gr) (h' : VLet id tm1 vt1 rl1 ld1 ti1 vs1 xt xf nw tm2 vt2 rl2 ld2 ti2 vs2 gr2) : gr = gr2 ∧ tm1 = tm2 ∧ vt1 = vt2 ∧ rl1 = rl2 ∧ ld1 = ld2 ∧ ti1 = ti2 ∧ vs1 = vs2 := by
  have hx : xt ≤ tm1 := h.le.2
  have e1 : tm2 = tm1 := by rw [h'.etm]; unfold fTm; rw [if_pos hx]
  have e2 : rl2 = rl1 := by rw [h'.erl]; unfold fRl; rw [if_pos hx]
  have e3 : ld2 = ld1 := by rw [h'.eld]; unfold fLd; rw [if_pos hx]
  have e4 : vs2 = vs1 := by rw [h'.evs]; unfold fVs; rw [if_pos hx]
  have e5 : fVt tm1 xt vt1 = vt1 := by unfold fVt; rw [if_pos hx]
  have e6 : fTi tm1 xt rl1 ti1 id = ti1 := by unfold fTi; rw [if_pos hx]
  have hg2 := h'.egr
  rw [e1, e5] at hg2
  have hv2 := h'.evt
  have ht2 := h'.eti
  rw [e5] at hv2
  rw [e6] at ht2
  have hg : gr2 = gr := by
    rw [hg2]
    have h1 := h.egr
    have hv := h.evt
    cases gr with
    | false =>
      simp only [Bool.false_eq_true, if_false] at hv
      rw [hv, ← h1]
    | true =>
      simp only [if_true] at hv
      obtain ⟨p1, p2, p3⟩ := grant_parts h1.symm
      unfold grantB
      simp [hv, p1, p3]
  refine ⟨hg.symm, e1.symm, Eq.symm ?_, e2.symm, e3.symm, Eq.symm ?_, e4.symm⟩
  · rw [hv2, hg]
    have hv := h.evt
    cases gr with
    | false => rfl
    | true => simp only [if_true] at hv ⊢; exact hv.symm
  · rw [ht2, hg]
    have hv := h.eti
    cases gr with
    | false => rfl
    | true => simp only [if_true] at hv ⊢; exact hv.symm
theorem VLet.granted (h : VLet id tm vt rl ld ti vs xt xf nw tm1 vt1 rl1 ld1 ti1 vs1 true) : vt1 = xf ∧ tm1 = xt ∧ (tm = xt → ¬ vt = (-1) → vt = xf) := by
  have h1 := h.evt
  simp only [if_true] at h1
  obtain ⟨p1, p2, p3⟩ := grant_parts h.egr.symm
  refine ⟨h1, p1.symm, fun e hn => ?_⟩
  have e5 : fVt tm xt vt = vt := by unfold fVt; rw [if_pos (by omega)]
  rw [e5] at p2
  omega
end
theorem vote_let (n : Nat) (id sz tm vt rl ld ti vs : Int) (ga : Option Addr) (gl gc : Nat) (cm : Int) (na : Option Addr) (nl nc : Nat) (ma : Option Addr) (ml mc : Nat) (xf xto xk xt xi xl xc : Int) (ea : Option Addr) (el ec : Nat) (xok : Bool) (lt : Int) (W0 w : World) (hb0 : Below W0.heap.size W0 w) (hg : GoodC Try.prog W0 n 25 (memL id sz tm vt rl ld ti vs (.slice ga gl gc) cm (.slice na nl nc) (.slice ma ml mc))) (hlt : LastAt w (.slice ga gl gc) lt) (h0 : 0 ≤ id) (h7 : id ≤ 7) (hxk : xk = 1) :
    Calls Try.prog 19 #[mem id sz tm vt rl ld ti vs (.slice ga gl gc) cm (.slice na nl nc) (.slice ma ml mc), .agg #[.int .i64 xf, .int .i64 xto, .int .i64 xk, .int .i64 xt, .int .i64 xi, .int .i64 xl, .int .i64 xc, .slice ea el ec, .bool xok]] w fun e w' => ∃ tm1 vt1 rl1 ld1 ti1 vs1 gr ga1 gc1 na1 nl1 nc1 ma1 ml1 mc1 G, e = .returned (.tuple #[mem id sz tm1 vt1 rl1 ld1 ti1 vs1 (.slice ga1 gl gc1) cm (.slice na1 nl1 nc1) (.slice ma1 ml1 mc1), .slice (some ⟨G, 0, none⟩) 1 1]) ∧ VLet id tm vt rl ld ti vs xt xf (newB xl xi lt gl) tm1 vt1 rl1 ld1 ti1 vs1 gr ∧
      (∃ m, EqC Try.prog w' w' (fun k => k < W0.heap.size) (fun k => w.heap.size ≤ k) (m + 1) 22 [.slice ga gl gc] [.slice ga1 gl gc1] ∧ EqC Try.prog w' w' (fun k => k < W0.heap.size) (fun k => w.heap.size ≤ k) (m + 1) 23 [.slice (fA tm xt na) (fN tm xt nl) (fN tm xt nc)] [.slice na1 nl1 nc1] ∧ EqC Try.prog w' w' (fun k => k < W0.heap.size) (fun k => w.heap.size ≤ k) (m + 1) 23 [.slice (fA tm xt ma) (fN tm xt ml) (fN tm xt mc)] [.slice ma1 ml1 mc1]) ∧ Box w' G [.int .i64 id, .int .i64 xf, .int .i64 2, .int .i64 tm1, .int .i64 0, .int .i64 0, .int .i64 0, .slice none 0 0, .bool gr] ∧ w.heap.size ≤ G ∧ Below w.heap.size w w' := by
  refine (vote_any n id sz tm vt rl ld ti vs ga gl gc cm na nl nc ma ml mc xf xto xk xt xi xl xc ea el ec xok lt W0 w hb0 hg hlt h0 h7 hxk _ rfl).mono ?_
  rintro e w' ⟨ga2, gc2, na2, nc2, ma2, mc2, G, rfl, ⟨m, h8, h10, h11⟩, hG, hge, hb⟩
  exact ⟨_, _, _, _, _, _, _, _, _, _, _, _, _, _, _, _, rfl, ⟨rfl, rfl, rfl, rfl, rfl, rfl, rfl⟩, ⟨m, h8, fol_ints tm xt h10, fol_ints tm xt h11⟩, hG, hge, hb⟩
theorem valid_true (id sz tm vt rl ld ti vs : Int) (lg : Value) (es : List (List Value)) (cm : Int) (nx mt : Value) (xs ys : List Int) (w : World) (hl : es.length ≤ 100) (he : EntArg w lg es) (hX : IntsIn w nx xs) (hY : IntsIn w mt ys) (hv : validB id sz tm vt rl ld ti vs cm es xs ys = true) :
    Calls Try.prog 16 #[mem id sz tm vt rl ld ti vs lg cm nx mt] w fun e w' => e = .returned (.bool true) ∧ Below w.heap.size w w' := by
  have := valid_at id sz tm vt rl ld ti vs lg es cm nx mt xs ys w hl he hX hY
  rwa [hv] at this
theorem fol_in {W : World} (tm xt : Int) {na : Option Addr} {nl nc : Nat} {xs : List Int} (h : IntsIn W (.slice na nl nc) xs) : IntsIn W (.slice (fA tm xt na) (fN tm xt nl) (fN tm xt nc)) (if xt ≤ tm then xs else []) := by
  by_cases ht : xt ≤ tm
  · simp only [fA, fN, if_pos ht]; exact h
  · simp only [fA, fN, if_neg ht]; exact .inl ⟨rfl, _, _, rfl⟩
theorem vlet_wfs {id sz tm vt rl ld ti vs cm xt xf tm1 vt1 rl1 ld1 ti1 vs1 : Int} {nw gr : Bool} (h : VLet id tm vt rl ld ti vs xt xf nw tm1 vt1 rl1 ld1 ti1 vs1 gr) (hw : ∀ x ∈ [id, sz, tm, vt, rl, ld, ti, vs, cm], (Lit.int .i64 x).wf = true) (h0 : 0 ≤ id) (h7 : id ≤ 7) (hx : (Lit.int .i64 xt).wf = true) (hf : (Lit.int .i64 xf).wf = true) : ∀ x ∈ [id, sz, tm1, vt1, rl1, ld1, ti1, vs1, cm], (Lit.int .i64 x).wf = true := by
  rw [h.etm, h.evt, h.erl, h.eld, h.eti, h.evs]
  exact fol_wfs gr hw h0 h7 hx hf
end Go.Proofs.Ytfpgklhbghahoaa
/- Effects of drawn regions: values that make memory, calls, appends of any source (plain). -/
namespace Go.Proofs.Ytfpgklhbghahoaa
open Go.ChangeShapes Go.WideShapes Go.ChangeAt Go.RowKit Go.ChangeMaps Go.Joins Go.Deep
set_option linter.unusedVariables false
set_option linter.unusedSimpArgs false
set_option maxRecDepth 100000
section
variable {P : Program} {ops : Array Oper} {Q : Exit → Act → World → Prop} {N : Nat} {env : VEnv} {a : Act} {w : World} {S : World → Prop} {R : Act → World → Prop} {i d : Nat} {rest : List (Nat × Nat)} {oi : Oper} {v : Value}
theorem ov3w {w' : World} (hf : FrV N env a) (hi : ops[i]? = some oi) (hd : oi.dst = some d) (hdN : d < N) (hw : Region.wanted oi (yielded ops a.tmps) = true) (hrun : (execOp a.eval oi).run P w = .ok (.value v) w') (h : ∀ a', FrV N ((d, v) :: env) a' → wpOrd P ops Q S R rest a' w') : wpOrd P ops Q S R ((i, 3) :: rest) a w := by
  refine wpOrd_eff3 hi hw (fun K hK => ?_)
  unfold Oper.wp
  rw [hrun, Oper.upon_value, hd]
  exact hK _ _ (h _ (hf.put hdN v))
theorem ov3c {g : FuncId} {xs : List Operand} {vs : List Value} {ts : Array TypeId} {R' : Ending → World → Prop} (hf : FrV N env a) (hi : ops[i]? = some oi) (hd : oi.dst = some d) (hdN : d < N) (hw : Region.wanted oi (yielded ops a.tmps) = true) (ho : oi.op = .call { callee := .value (.func g), args := xs.toArray, argTypes := ts }) (hF : FnOK P g) (hx : evs env xs = some vs) (hc : Calls P g vs.toArray w R') (h : ∀ e w', R' e w' → ∃ v, e = .returned v ∧ ∀ a', FrV N ((d, v) :: env) a' → wpOrd P ops Q S R rest a' w') : wpOrd P ops Q S R ((i, 3) :: rest) a w := by
  refine wpOrd_eff3 hi hw (fun K hK => ?_)
  unfold Oper.wp
  rw [ex_call (w := w) hF rfl ho, Oper.upon_enter, List.map_toArray, hf.evs hx]
  refine hc.mono ?_
  intro e w' hr
  obtain ⟨v, rfl, hk⟩ := h e w' hr
  refine hK _ _ ?_
  rw [hd]
  exact hk _ (hf.put hdN v)
end
section
variable {P : Program} {w : World}
/-- append of what lies somewhere behind a row of one's own -/
theorem ex_apps {o : Oper} {ρ : Operand → Value} {x z : Operand} {t e : TypeId} {z0 : Value} {size bytes base n m c : Nat} {v : Value} {xs news : List Value} {ad : Addr} (ho : o.op = .call { callee := .builtin .append, args := #[x, z], argTypes := #[t, t] }) (hx : ρ x = v) (hz : ρ z = .slice (some ad) m c) (hu : P.underlying t = some (.slice e)) (hi : (P.info? e).map (fun i => (i.zero, i.size, i.bytes)) = some (some z0, size, bytes)) (hzs : z0.cells.size = size) (hsz : 0 < size)
    (hown : w.ownsRow base e size v n xs) (hl : news.length = m * size) (hnews : ∀ j u, news[j]? = some u → w.cell? (ad.add j) = some u) (h1 : ∀ u ∈ news, u.oneCell' = true) (h63 : n + m ≤ maxLen) (hbytes : (n + m) * bytes ≤ 140737488355328) (hbase : base ≤ w.heap.size) :
    ∃ v' w', (execOp ρ o).run P w = .ok (.value v') w' ∧ w'.ownsRow base e size v' (n + m) (xs ++ news) ∧ w.grownBy w' v.ownBlock ∧ (∀ k, v'.ownBlock = some k → v.ownBlock = some k ∨ w.heap.size ≤ k) ∧ (∃ ad c, v' = .slice ad (n + m) c) := by
  obtain ⟨i0, hi', hz0, hz1, hz2⟩ := info_parts hi
  obtain ⟨v', w', hr, h2, h3, h4, h5⟩ := run_append_own_at (P := P) w base t o.type e i0 z0 size bytes hu hi' hz0 hz1 hz2 hzs hsz v n xs hown ad m c news hl hnews h1 h63 hbytes hbase
  refine ⟨v', w', ?_, h2, h3, fun k hk => ?_, ?_⟩
  · unfold execOp
    simp only [ho, resolve, invoke, builtin, Sem.run_bind, Sem.run_pure, Result.andThen_ok, List.map_toArray, List.map_cons, List.map_nil, hx, hz, hr]
  · rcases h5 with h5 | h5
    · exact .inl (h5 ▸ hk)
    · rw [h5] at hk
      exact .inr (Nat.le_of_eq (Option.some.inj hk))
  · rcases h2.2 with ⟨h6, h7⟩ | ⟨g, cap, cur, rfl, _⟩
    · exact ⟨none, 0, by rw [h6, h7]⟩
    · exact ⟨_, _, rfl⟩
/-- append of nil changes nothing -/
theorem ex_app_nil {o : Oper} {ρ : Operand → Value} {x z : Operand} {t e : TypeId} {ad : Option Addr} {n c : Nat} {i0 : TypeInfo} (ho : o.op = .call { callee := .builtin .append, args := #[x, z], argTypes := #[t, t] }) (hx : ρ x = .slice ad n c) (hz : ρ z = .slice none 0 0) (hu : P.underlying t = some (.slice e)) (hi : P.info? e = some i0) (hc : n ≤ c) :
    (execOp ρ o).run P w = .ok (.value (.slice ad n c)) w := by
  have hr : (Builtin.append_ #[t, t] o.type #[.slice ad n c, .slice none 0 0]).run P w = .ok (.slice ad n c) w := by
    cases ad with
    | none => simp [Builtin.append_, run_underlying hu, sizeOf, typeInfo, hi, Builtin.lenOf, Builtin.firstCells, hc]
    | some a => simp [Builtin.append_, run_underlying hu, sizeOf, typeInfo, hi, Builtin.lenOf, Builtin.firstCells, hc, storeCells]
  unfold execOp
  simp only [ho, resolve, invoke, builtin, Sem.run_bind, Sem.run_pure, Result.andThen_ok, List.map_toArray, List.map_cons, List.map_nil, hx, hz, hr]
end
end Go.Proofs.Ytfpgklhbghahoaa
/- Memory made at an effect of a drawn region, with what is known behind it; appends of any source beside boxes (plain). -/
namespace Go.Proofs.Ytfpgklhbghahoaa
open Go.ChangeShapes Go.WideShapes Go.ChangeAt Go.RowKit Go.ChangeMaps Go.Joins Go.Deep
set_option linter.unusedVariables false
set_option linter.unusedSimpArgs false
set_option maxRecDepth 100000
section
variable {P : Program} {ops : Array Oper} {Q : Exit → Act → World → Prop} {N : Nat} {env : VEnv} {a : Act} {w : World} {S : World → Prop} {R : Act → World → Prop} {i d : Nat} {rest : List (Nat × Nat)} {oi : Oper} {v : Value} {b : Base} {l : List (Nat × List Value)}
theorem ov3_bs1 {t e : TypeId} {x : Operand} {cs : List Value} {k : Nat} (hf : FrV N env a) (hB : Bx b l w) (hi : ops[i]? = some oi) (hd : oi.dst = some d) (hdN : d < N) (hw : Region.wanted oi (yielded ops a.tmps) = true) (ho : oi.op = .buildSlice t 1 #[(0, x)]) (hx : ev env x = some (.agg cs.toArray)) (hu : P.underlying t = some (.slice e)) (hz : zeroB P e k = true) (hin : (P.info? e).map (·.size) = some k) (hc : cs.length = k) (hk : 0 < k) (hk2 : k ≤ 1000)
    (h : ∀ a' C w', C = w.heap.size → FrV N ((d, .slice (some ⟨C, 0, none⟩) 1 1) :: env) a' → Bx b ((C, cs) :: l) w' → Below w.heap.size w w' → wpOrd P ops Q S R rest a' w') : wpOrd P ops Q S R ((i, 3) :: rest) a w :=
  ov3w hf hi hd hdN hw (ex_bs1 ho (hf.ev hx) hu hz hin hc hk hk2) (fun a' hf' => h a' _ _ rfl hf' (hB.new cs e) ((Below.refl _ _).alloc (Nat.le_refl _) _))
theorem apps_bx {W W' : World} {base n m c : Nat} {v : Value} {e : TypeId} {size : Nat} {xs : List Value} (hB : Bx b l W) (hown : W.ownsRow base e size v n xs) (hg : W.grownBy W' v.ownBlock) (hge : b.w.heap.size ≤ base) (hne : ∀ k, v.ownBlock = some k → ∀ q ∈ l, q.1 ≠ k) (hbs : ∀ k, v.ownBlock = some k → ∀ p ∈ b.bs, k < p.1.heap.size → ¬ p.2 k) : Bx b l W' :=
  hB.grown hg (fun k hk => ⟨Nat.le_trans hge (hown.lt k hk).1, fun q hq => hne k hk q hq, hbs k hk⟩)
theorem ov3_apps {x z : Operand} {t e : TypeId} {z0 : Value} {size bytes base n m c : Nat} {xs news : List Value} {ad : Addr} (hf : FrV N env a) (hB : Bx b l w) (hi : ops[i]? = some oi) (hd : oi.dst = some d) (hdN : d < N) (hw : Region.wanted oi (yielded ops a.tmps) = true) (ho : oi.op = .call { callee := .builtin .append, args := #[x, z], argTypes := #[t, t] }) (hx : ev env x = some v) (hz : ev env z = some (.slice (some ad) m c)) (hu : P.underlying t = some (.slice e)) (hin : (P.info? e).map (fun i => (i.zero, i.size, i.bytes)) = some (some z0, size, bytes)) (hzs : z0.cells.size = size) (hsz : 0 < size)
    (hown : w.ownsRow base e size v n xs) (hl : news.length = m * size) (hnews : ∀ j u, news[j]? = some u → w.cell? (ad.add j) = some u) (h1 : ∀ u ∈ news, u.oneCell' = true) (h63 : n + m ≤ 1000000) (hby : bytes ≤ 1000) (hbase : base ≤ w.heap.size) (hge : b.w.heap.size ≤ base) (hne : ∀ k, v.ownBlock = some k → ∀ q ∈ l, q.1 ≠ k) (hbs : ∀ k, v.ownBlock = some k → ∀ p ∈ b.bs, k < p.1.heap.size → ¬ p.2 k)
    (h : ∀ a' ad' c' w', FrV N ((d, .slice ad' (n + m) c') :: env) a' → Bx b l w' → w'.ownsRow base e size (.slice ad' (n + m) c') (n + m) (xs ++ news) → w.grownBy w' v.ownBlock → (∀ k, (Value.slice ad' (n + m) c').ownBlock = some k → v.ownBlock = some k ∨ w.heap.size ≤ k) → wpOrd P ops Q S R rest a' w') : wpOrd P ops Q S R ((i, 3) :: rest) a w := by
  have hbt : (n + m) * bytes ≤ 140737488355328 := Nat.le_trans (Nat.mul_le_mul h63 hby) (by decide)
  obtain ⟨v', w', hr, h2, h3, h4, ad', c', rfl⟩ := ex_apps (o := oi) ho (hf.ev hx) (hf.ev hz) hu hin hzs hsz hown hl hnews h1 (by unfold maxLen; omega) hbt hbase
  exact ov3w hf hi hd hdN hw hr (fun a' hf' => h a' ad' c' w' hf' (apps_bx (m := m) (c := c) hB hown h3 hge hne hbs) h2 h3 h4)
end
section
variable {P : Program} {N : Nat} {env : VEnv} {a : Act} {ops : Array Oper} {rest : List Oper} {Q : Exit → Act → World → Prop} {w : World} {b : Base} {l : List (Nat × List Value)} {d y x z : Nat} {ps : String} {af : Array Edge} {t : TypeId}
theorem sv_apps {e : TypeId} {z0 v : Value} {size bytes base n m c : Nat} {xs news : List Value} {ad : Addr} {p q : Operand} (hf : FrV N env a) (hB : Bx b l w) (hx : ev env p = some v) (hz : ev env q = some (.slice (some ad) m c)) (hu : P.underlying t = some (.slice e)) (hin : (P.info? e).map (fun i => (i.zero, i.size, i.bytes)) = some (some z0, size, bytes)) (hzs : z0.cells.size = size) (hsz : 0 < size)
    (hown : w.ownsRow base e size v n xs) (hl : news.length = m * size) (hnews : ∀ j u, news[j]? = some u → w.cell? (ad.add j) = some u) (h1 : ∀ u ∈ news, u.oneCell' = true) (h63 : n + m ≤ 1000000) (hby : bytes ≤ 1000) (hbase : base ≤ w.heap.size) (hge : b.w.heap.size ≤ base) (hne : ∀ k, v.ownBlock = some k → ∀ q ∈ l, q.1 ≠ k) (hbs : ∀ k, v.ownBlock = some k → ∀ p ∈ b.bs, k < p.1.heap.size → ¬ p.2 k) (hd : d < N)
    (h : ∀ a' ad' c' w', FrV N ((d, .slice ad' (n + m) c') :: env) a' → Bx b l w' → w'.ownsRow base e size (.slice ad' (n + m) c') (n + m) (xs ++ news) → w.grownBy w' v.ownBlock → (∀ k, (Value.slice ad' (n + m) c').ownBlock = some k → v.ownBlock = some k ∨ w.heap.size ≤ k) → wpList P ops Q rest a' w') : wpList P ops Q ({ dst := some d, op := .call { callee := .builtin .append, args := #[p, q], argTypes := #[t, t] }, type := y, pos := ps, after := af, guard := none } :: rest) a w := by
  have hbt : (n + m) * bytes ≤ 140737488355328 := Nat.le_trans (Nat.mul_le_mul h63 hby) (by decide)
  obtain ⟨v', w', hr, h2, h3, h4, ad', c', rfl⟩ := ex_apps (o := { dst := some d, op := .call { callee := .builtin .append, args := #[p, q], argTypes := #[t, t] }, type := y, pos := ps, after := af, guard := none }) rfl (hf.ev hx) (hf.ev hz) hu hin hzs hsz hown hl hnews h1 (by unfold maxLen; omega) hbt hbase
  exact wpList_ok rfl hr (h _ ad' c' w' (hf.put hd _) (apps_bx (m := m) (c := c) hB hown h3 hge hne hbs) h2 h3 h4)
end
end Go.Proofs.Ytfpgklhbghahoaa
