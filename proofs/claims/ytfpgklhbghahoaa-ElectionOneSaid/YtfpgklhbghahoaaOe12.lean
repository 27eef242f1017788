/- Merged texts: Eh24, Eh25, Eh26. -/
import Derived.Test.YtfpgklhbghahoaaOe11
/- Election: messages; Campaign. -/
namespace Go.Proofs.Ytfpgklhbghahoaa
open Go.ChangeShapes Go.WideShapes Go.ChangeAt Go.RowKit Go.ChangeMaps Go.Joins Go.Deep
set_option linter.unusedVariables false
set_option linter.unusedSimpArgs false
set_option maxRecDepth 100000
/-- a message of an election -/
structure Ms where
  f : Int
  t : Int
  k : Int
  tm : Int
  xi : Int
  xl : Int
  ok : Bool
def msC (m : Ms) : List Value := [.int .i64 m.f, .int .i64 m.t, .int .i64 m.k, .int .i64 m.tm, .int .i64 m.xi, .int .i64 m.xl, .int .i64 0, .slice none 0 0, .bool m.ok]
def mrow (L : List Ms) : List Value := L.flatMap msC
theorem mrow_len (L : List Ms) : (mrow L).length = L.length * 9 := by
  induction L with
  | nil => rfl
  | cons m L ih => unfold mrow at ih ⊢; rw [List.flatMap_cons, List.length_append, ih, List.length_cons]; show 9 + _ = _; omega
theorem mrow_ones (L : List Ms) : ∀ u ∈ mrow L, u.oneCell' = true := by
  intro u hu
  obtain ⟨m, _, hm⟩ := List.mem_flatMap.1 hu
  exact List.all_eq_true.1 (show List.all (msC m) (·.oneCell') = true from rfl) u hm
theorem mrow_app (L M : List Ms) : mrow (L ++ M) = mrow L ++ mrow M := by unfold mrow; exact List.flatMap_append
/-- a row of messages of its own -/
def OwnM (B : Nat) (W : World) (v : Value) (L : List Ms) : Prop := W.ownsRow B 35 9 v L.length (mrow L)
theorem OwnM.nil (B : Nat) (W : World) : OwnM B W (.slice none 0 0) [] := World.ownsRow_nil _ _ _ _
theorem OwnM.lt {B : Nat} {W : World} {v : Value} {L : List Ms} (h : OwnM B W v L) : ∀ k, v.ownBlock = some k → B ≤ k ∧ k < W.heap.size := World.ownsRow.lt h
theorem OwnM.keep {B : Nat} {W W' : World} {v : Value} {L : List Ms} (h : OwnM B W v L) (hk : ∀ k, v.ownBlock = some k → W'.heap[k]? = W.heap[k]?) : OwnM B W' v L := by
  obtain ⟨h1, h2⟩ := h
  refine ⟨h1, ?_⟩
  rcases h2 with h2 | ⟨g, cap, cur, e, h2, h3, h4⟩
  · exact .inl h2
  · subst e
    exact .inr ⟨g, cap, cur, rfl, h2, (hk g rfl).trans h3, h4⟩
theorem OwnM.below {B : Nat} {W W' : World} {v : Value} {L : List Ms} (h : OwnM B W v L) (hb : Below W.heap.size W W') : OwnM B W' v L := h.keep (fun k hk => hb.block k (h.lt k hk).2)
theorem OwnM.only {B : Nat} {W W' : World} {v : Value} {L : List Ms} {c : Nat} (h : OwnM B W v L) (ho : Only W W' c) (hc : c < B) : OwnM B W' v L := h.keep (fun k hk => ho.heap k (fun e => by have := (h.lt k hk).1; omega))
theorem OwnM.mono {B B' : Nat} {W : World} {v : Value} {L : List Ms} (h : OwnM B W v L) (hb : B' ≤ B) : OwnM B' W v L := by
  obtain ⟨h1, h2⟩ := h
  refine ⟨h1, ?_⟩
  rcases h2 with h2 | ⟨g, cap, cur, e, h2, h3⟩
  · exact .inl h2
  · exact .inr ⟨g, cap, cur, e, Nat.le_trans hb h2, h3⟩
theorem OwnM.push {B : Nat} {W : World} {v : Value} {L M : List Ms} (h : W.ownsRow B 35 9 v (L.length + M.length) (mrow L ++ mrow M)) : OwnM B W v (L ++ M) := by
  unfold OwnM
  rw [mrow_app, List.length_append]
  exact h
theorem info_msg3 : (Try.prog.info? 35).map (fun i => (i.zero, i.size, i.bytes)) = some (some (.agg #[.int .i64 0, .int .i64 0, .int .i64 0, .int .i64 0, .int .i64 0, .int .i64 0, .int .i64 0, .slice none 0 0, .bool false]), 9, 88) := by kernel_rfl
/-- the requests of a candidate to the first q members -/
def reqs (id T xi xl : Int) : Nat → List Ms
  | 0 => []
  | q + 1 => reqs id T xi xl q ++ (if (q : Int) = id then [] else [⟨id, q, 1, T, xi, xl, false⟩])
theorem reqs_len (id T xi xl : Int) : ∀ q, (reqs id T xi xl q).length ≤ q
  | 0 => Nat.le_refl _
  | q + 1 => by
    have := reqs_len id T xi xl q
    unfold reqs
    rw [List.length_append]
    split <;> simp <;> omega
theorem reqs_eq {id T xi xl : Int} {q : Nat} (h : (q : Int) = id) : reqs id T xi xl q = reqs id T xi xl (q + 1) := by
  conv => rhs; unfold reqs
  rw [if_pos h, List.append_nil]
theorem reqs_ne {id T xi xl : Int} {q : Nat} (h : ¬ (q : Int) = id) : reqs id T xi xl q ++ [⟨id, q, 1, T, xi, xl, false⟩] = reqs id T xi xl (q + 1) := by
  conv => rhs; unfold reqs
  rw [if_neg h]
/-- what Campaign leaves -/
def CampR (w w' : World) (id sz tm : Int) (gl : Nat) (lt rl1 ld1 ti1 : Int) (pa : Option Addr) (pl pc : Nat) (sa : Option Addr) (sl sc : Nat) (xa : Option Addr) (xl xc : Nat) : Prop :=
  (sz = 1 ∧ rl1 = 2 ∧ ld1 = id ∧ ti1 = 1 ∧ IntRow w' (.slice pa pl pc) (nextL gl sz.toNat) ∧ IntRow w' (.slice sa sl sc) (matchL gl sz.toNat id.toNat) ∧ (∃ g, (Value.slice pa pl pc).ownBlock = some g ∧ w.heap.size ≤ g) ∧ (∃ g, (Value.slice sa sl sc).ownBlock = some g ∧ w.heap.size ≤ g) ∧ xa = none ∧ xl = 0 ∧ xc = 0) ∨
  (¬ sz = 1 ∧ rl1 = 1 ∧ ld1 = -1 ∧ ti1 = 10 + 3 * id ∧ pa = none ∧ pl = 0 ∧ pc = 0 ∧ sa = none ∧ sl = 0 ∧ sc = 0 ∧ OwnM w.heap.size w' (.slice xa xl xc) (reqs id (tm + 1) gl lt sz.toNat))
theorem campaign_any (n : Nat) (id sz tm vt rl ld ti vs : Int) (ga : Option Addr) (gl gc : Nat) (cm : Int) (na : Option Addr) (nl nc : Nat) (ma : Option Addr) (ml mc : Nat) (lt : Int) (W0 w : World) (hb0 : Below W0.heap.size W0 w) (hg : GoodC Try.prog W0 n 25 (memL id sz tm vt rl ld ti vs (.slice ga gl gc) cm (.slice na nl nc) (.slice ma ml mc))) (hlt : LastAt w (.slice ga gl gc) lt) (h0 : 0 ≤ id) (hid : id < sz) (h1 : 1 ≤ sz) (h7 : sz ≤ 7) (ht0 : 0 ≤ tm) (ht1 : tm ≤ 4611686018427387904) :
    Calls Try.prog 24 #[mem id sz tm vt rl ld ti vs (.slice ga gl gc) cm (.slice na nl nc) (.slice ma ml mc)] w fun e w' => ∃ rl1 ld1 ti1 ga2 gc2 pa pl pc sa sl sc xa xl xc, e = .returned (.tuple #[mem id sz (tm + 1) id rl1 ld1 ti1 (2 ^ id.toNat) (.slice ga2 gl gc2) cm (.slice pa pl pc) (.slice sa sl sc), .slice xa xl xc]) ∧ CampR w w' id sz tm gl lt rl1 ld1 ti1 pa pl pc sa sl sc xa xl xc ∧ (∃ m, EqC Try.prog w' w' (fun k => k < W0.heap.size) (fun k => w.heap.size ≤ k) (m + 1) 22 [.slice ga gl gc] [.slice ga2 gl gc2]) ∧ Below w.heap.size w w' := by
  refine calls_frv (N := 63) (vs := [.agg #[.int .i64 id, .int .i64 sz, .int .i64 tm, .int .i64 vt, .int .i64 rl, .int .i64 ld, .int .i64 ti, .int .i64 vs, .slice ga gl gc, .int .i64 cm, .slice na nl nc, .slice ma ml mc]]) [(0, .agg #[.int .i64 id, .int .i64 sz, .int .i64 tm, .int .i64 vt, .int .i64 rl, .int .i64 ld, .int .i64 ti, .int .i64 vs, .slice ga gl gc, .int .i64 cm, .slice na nl nc, .slice ma ml mc])] Try.func24 rfl rfl (of_decide_eq_true rfl) (fun p hp => by simp only [List.mem_cons, List.not_mem_nil, or_false] at hp; rcases hp with rfl <;> rfl) (fun a hf => ?_)
  have hX := Bx.start w
  refine wp_seq ?_
  refine wp_region_lit ?_
  refine sv_box hf hX rfl (by decide) (fun a C1 W hC hf hX hA => ?_)
  clear hC hA
  refine sv_alloc (zs := [.int .i64 0, .int .i64 0, .int .i64 0, .int .i64 0, .int .i64 0, .int .i64 0, .int .i64 0, .int .i64 0, .slice none 0 0, .int .i64 0, .slice none 0 0, .slice none 0 0]) hf hX zero_mem (by decide) (fun a C2 W hC hf hX hA => ?_)
  clear hC hA
  refine sv_ac hf (by decide) (fun a hf => ?_)
  replace hf := hf.sub (env' := [(3, .slice none 0 0), (2, .pointer (some ⟨C2, 0, none⟩)), (1, .pointer (some ⟨C1, 0, none⟩))]) (sub_cons rfl (sub_cons rfl (sub_cons rfl (sub_nil))))
  refine sv_nil hf ?_
  refine wp_seq ?_
  refine wp_region_lit ?_
  refine sv_lr hf hX rfl 1 rfl Try.underlying25 info_mem (by decide) (fun a hf => ?_)
  have hsA : w.heap.size ≤ W.heap.size := hX.low.size
  obtain ⟨WA, hWA⟩ : ∃ X, X = W := ⟨_, rfl⟩
  rw [← hWA] at hsA
  refine sv_call hf fnOK_36 rfl (copyMember_let n _ _ _ _ _ _ _ _ _ _ _ _ _ _ _ _ _ _ W0 W (hb0.trans (hX.low.mono hb0.size)) hg) (by decide) ?_
  rintro e W2 ⟨ga2, gc2, na2, nc2, ma2, mc2, rfl, hE, hb⟩
  replace hX := hX.made hb
  clear hb
  rw [← hWA] at hE hX
  have HE := Lib.hid hE
  clear hE
  refine ⟨_, rfl, fun a hf => ?_⟩
  obtain ⟨WC, hWC⟩ : ∃ X, X = W2 := ⟨_, rfl⟩
  rw [← hWC] at HE hX
  obtain ⟨β, hβ⟩ : ∃ b : Base, b = ⟨w, [(WC, fun k => k < w.heap.size ∨ WA.heap.size ≤ k)]⟩ := ⟨_, rfl⟩
  replace hX : Bx β [(C2, [.int .i64 0, .int .i64 0, .int .i64 0, .int .i64 0, .int .i64 0, .int .i64 0, .int .i64 0, .int .i64 0, .slice none 0 0, .int .i64 0, .slice none 0 0, .slice none 0 0]), (C1, [.int .i64 id, .int .i64 sz, .int .i64 tm, .int .i64 vt, .int .i64 rl, .int .i64 ld, .int .i64 ti, .int .i64 vs, .slice ga gl gc, .int .i64 cm, .slice na nl nc, .slice ma ml mc])] W2 := by rw [hWC] at hX; rw [hβ, hWC]; exact hX
  have hmem : (WC, fun k => k < w.heap.size ∨ WA.heap.size ≤ k) ∈ β.bs := by rw [hβ]; exact List.mem_cons_self
  refine sv_sr hf hX rfl rfl 1 rfl rfl info_mem (fun v hv => List.all_eq_true.1 (show List.all [.int .i64 id, .int .i64 sz, .int .i64 tm, .int .i64 vt, .int .i64 rl, .int .i64 ld, .int .i64 ti, .int .i64 vs, .slice ga2 gl gc2, .int .i64 cm, .slice na2 nl nc2, .slice ma2 ml mc2] (·.oneCell') = true from rfl) v hv) [(C2, [.int .i64 0, .int .i64 0, .int .i64 0, .int .i64 0, .int .i64 0, .int .i64 0, .int .i64 0, .int .i64 0, .slice none 0 0, .int .i64 0, .slice none 0 0, .slice none 0 0]), (C1, [.int .i64 id, .int .i64 sz, .int .i64 tm, .int .i64 vt, .int .i64 rl, .int .i64 ld, .int .i64 ti, .int .i64 vs, .slice ga2 gl gc2, .int .i64 cm, .slice na2 nl nc2, .slice ma2 ml mc2])] rfl (fun W hX hO => ?_)
  clear hO
  replace hf := hf.sub (env' := [(3, .slice none 0 0), (2, .pointer (some ⟨C2, 0, none⟩)), (1, .pointer (some ⟨C1, 0, none⟩))]) (sub_cons rfl (sub_cons rfl (sub_cons rfl (sub_nil))))
  refine sv_nil hf ?_
  refine wp_seq ?_
  refine wp_seq ?_
  refine wp_region_lit ?_
  refine sv_lr hf hX rfl 1 rfl Try.underlying25 info_mem (by decide) (fun a hf => ?_)
  refine sv_call hf fnOK_41 rfl (known_yes _ _ _ _ _ _ _ _ _ _ _ _ _ h1 h7 h0 hid) (by decide) ?_
  rintro e W ⟨rfl, hb⟩
  replace hX := hX.keep hb
  clear hb
  refine ⟨_, rfl, fun a hf => ?_⟩
  refine sv_not hf rfl (by decide) (fun a hf => ?_)
  replace hf := hf.sub (env' := [(10, .bool false), (3, .slice none 0 0), (2, .pointer (some ⟨C2, 0, none⟩)), (1, .pointer (some ⟨C1, 0, none⟩))]) (sub_cons rfl (sub_cons rfl (sub_cons rfl (sub_cons rfl (sub_nil)))))
  refine sv_nil hf ?_
  refine wp_cond_false (hf.rel _ _ rfl) ?_
  refine wp_skip ?_
  refine wp_seq ?_
  refine wp_region_lit ?_
  refine sv_fld hf rfl Try.underlying25 rfl sz_int (2) rfl (by decide) (fun a hf => ?_)
  refine sv_lc hf hX rfl 1 rfl rfl Try.underlying3 rfl (by decide) (fun a hf => ?_)
  refine sv_add (tm + 1) hf rfl rfl (by rw [wrap_in (by omega)]) (by decide) (fun a hf => ?_)
  refine sv_fld hf rfl Try.underlying25 rfl sz_int (2) rfl (by decide) (fun a hf => ?_)
  refine sv_sc (cs' := [.int .i64 id, .int .i64 sz, .int .i64 (tm + 1), .int .i64 vt, .int .i64 rl, .int .i64 ld, .int .i64 ti, .int .i64 vs, .slice ga2 gl gc2, .int .i64 cm, .slice na2 nl nc2, .slice ma2 ml mc2]) hf hX rfl rfl 1 rfl (of_decide_eq_true rfl) rfl info_int rfl [(C2, [.int .i64 0, .int .i64 0, .int .i64 0, .int .i64 0, .int .i64 0, .int .i64 0, .int .i64 0, .int .i64 0, .slice none 0 0, .int .i64 0, .slice none 0 0, .slice none 0 0]), (C1, [.int .i64 id, .int .i64 sz, .int .i64 (tm + 1), .int .i64 vt, .int .i64 rl, .int .i64 ld, .int .i64 ti, .int .i64 vs, .slice ga2 gl gc2, .int .i64 cm, .slice na2 nl nc2, .slice ma2 ml mc2])] rfl (fun W hX hO => ?_)
  clear hO
  replace hf := hf.sub (env' := [(3, .slice none 0 0), (2, .pointer (some ⟨C2, 0, none⟩)), (1, .pointer (some ⟨C1, 0, none⟩))]) (sub_cons rfl (sub_cons rfl (sub_cons rfl (sub_nil))))
  refine sv_nil hf ?_
  refine wp_seq ?_
  refine wp_region_ordW 13 6 [(0, 0), (1, 1), (2, 0), (3, 1), (4, 0), (5, 0), (6, 3), (7, 0), (8, 3), (9, 0), (10, 3), (11, 0), (12, 3)] (fun X => Bx β [(C2, [.int .i64 0, .int .i64 0, .int .i64 0, .int .i64 0, .int .i64 0, .int .i64 0, .int .i64 0, .int .i64 0, .slice none 0 0, .int .i64 0, .slice none 0 0, .slice none 0 0]), (C1, [.int .i64 id, .int .i64 sz, .int .i64 (tm + 1), .int .i64 vt, .int .i64 rl, .int .i64 ld, .int .i64 ti, .int .i64 vs, .slice ga2 gl gc2, .int .i64 cm, .slice na2 nl nc2, .slice ma2 ml mc2])] X) mixed (by kernel_rfl) hX.drew (fun c a d v w h => by cases d <;> exact h) ?_
  replace hX := hX.drew
  refine ov0 hf rfl rfl (by decide) rfl (fun X => ex_vfld (0) hf rfl rfl Try.underlying25 rfl sz_int rfl) (fun a hf => ?_)
  refine ov1 hf rfl rfl (by decide) rfl (fun X hS => ex_vlc (cs := [.int .i64 id, .int .i64 sz, .int .i64 (tm + 1), .int .i64 vt, .int .i64 rl, .int .i64 ld, .int .i64 ti, .int .i64 vs, .slice ga2 gl gc2, .int .i64 cm, .slice na2 nl nc2, .slice ma2 ml mc2]) hf rfl rfl (hS.get (i := 1) rfl) rfl Try.underlying3 rfl) (fun a hf => ?_)
  refine ov0 hf rfl rfl (by decide) rfl (fun X => ex_vfld (0) hf rfl rfl Try.underlying25 rfl sz_int rfl) (fun a hf => ?_)
  refine ov1 hf rfl rfl (by decide) rfl (fun X hS => ex_vlc (cs := [.int .i64 id, .int .i64 sz, .int .i64 (tm + 1), .int .i64 vt, .int .i64 rl, .int .i64 ld, .int .i64 ti, .int .i64 vs, .slice ga2 gl gc2, .int .i64 cm, .slice na2 nl nc2, .slice ma2 ml mc2]) hf rfl rfl (hS.get (i := 1) rfl) rfl Try.underlying3 rfl) (fun a hf => ?_)
  refine ov0 hf rfl rfl (by decide) rfl (fun X => ex_shl hf rfl rfl rfl h0 (by omega) rfl) (fun a hf => ?_)
  refine ov0 hf rfl rfl (by decide) rfl (fun X => ex_vfld (4) hf rfl rfl Try.underlying25 rfl sz_int rfl) (fun a hf => ?_)
  have hbS := hX.get (i := 1) (C := C1) (cs := [.int .i64 id, .int .i64 sz, .int .i64 (tm + 1), .int .i64 vt, .int .i64 rl, .int .i64 ld, .int .i64 ti, .int .i64 vs, .slice ga2 gl gc2, .int .i64 cm, .slice na2 nl nc2, .slice ma2 ml mc2]) rfl
  refine ov3 rfl rfl rfl (ex_store_cell _ _ _ C1 4 (.int .i64 1) rfl (hf.ev rfl) (hf.ev rfl) (hbS.there 4 1 (of_decide_eq_true rfl)) info_int rfl) ?_
  replace hX : Bx β [(C2, [.int .i64 0, .int .i64 0, .int .i64 0, .int .i64 0, .int .i64 0, .int .i64 0, .int .i64 0, .int .i64 0, .slice none 0 0, .int .i64 0, .slice none 0 0, .slice none 0 0]), (C1, [.int .i64 id, .int .i64 sz, .int .i64 (tm + 1), .int .i64 vt, .int .i64 1, .int .i64 ld, .int .i64 ti, .int .i64 vs, .slice ga2 gl gc2, .int .i64 cm, .slice na2 nl nc2, .slice ma2 ml mc2])] (World.setCells _ C1 4 [.int .i64 1]) := hX.set (i := 1) rfl (hbS.setCell 4 _ (of_decide_eq_true rfl)) (Only.setCell _ C1 4 _)
  clear hbS
  refine ov0 hf rfl rfl (by decide) rfl (fun X => ex_vfld (3) hf rfl rfl Try.underlying25 rfl sz_int rfl) (fun a hf => ?_)
  have hbS := hX.get (i := 1) (C := C1) (cs := [.int .i64 id, .int .i64 sz, .int .i64 (tm + 1), .int .i64 vt, .int .i64 1, .int .i64 ld, .int .i64 ti, .int .i64 vs, .slice ga2 gl gc2, .int .i64 cm, .slice na2 nl nc2, .slice ma2 ml mc2]) rfl
  refine ov3 rfl rfl rfl (ex_store_cell _ _ _ C1 3 (.int .i64 id) rfl (hf.ev rfl) (hf.ev rfl) (hbS.there 3 1 (of_decide_eq_true rfl)) info_int rfl) ?_
  replace hX : Bx β [(C2, [.int .i64 0, .int .i64 0, .int .i64 0, .int .i64 0, .int .i64 0, .int .i64 0, .int .i64 0, .int .i64 0, .slice none 0 0, .int .i64 0, .slice none 0 0, .slice none 0 0]), (C1, [.int .i64 id, .int .i64 sz, .int .i64 (tm + 1), .int .i64 id, .int .i64 1, .int .i64 ld, .int .i64 ti, .int .i64 vs, .slice ga2 gl gc2, .int .i64 cm, .slice na2 nl nc2, .slice ma2 ml mc2])] (World.setCells _ C1 3 [.int .i64 id]) := hX.set (i := 1) rfl (hbS.setCell 3 _ (of_decide_eq_true rfl)) (Only.setCell _ C1 3 _)
  clear hbS
  refine ov0 hf rfl rfl (by decide) rfl (fun X => ex_vfld (7) hf rfl rfl Try.underlying25 rfl sz_int rfl) (fun a hf => ?_)
  have hbS := hX.get (i := 1) (C := C1) (cs := [.int .i64 id, .int .i64 sz, .int .i64 (tm + 1), .int .i64 id, .int .i64 1, .int .i64 ld, .int .i64 ti, .int .i64 vs, .slice ga2 gl gc2, .int .i64 cm, .slice na2 nl nc2, .slice ma2 ml mc2]) rfl
  refine ov3 rfl rfl rfl (ex_store_cell _ _ _ C1 7 (.int .i64 (2 ^ id.toNat)) rfl (hf.ev rfl) (hf.ev rfl) (hbS.there 7 1 (of_decide_eq_true rfl)) info_int rfl) ?_
  replace hX : Bx β [(C2, [.int .i64 0, .int .i64 0, .int .i64 0, .int .i64 0, .int .i64 0, .int .i64 0, .int .i64 0, .int .i64 0, .slice none 0 0, .int .i64 0, .slice none 0 0, .slice none 0 0]), (C1, [.int .i64 id, .int .i64 sz, .int .i64 (tm + 1), .int .i64 id, .int .i64 1, .int .i64 ld, .int .i64 ti, .int .i64 (2 ^ id.toNat), .slice ga2 gl gc2, .int .i64 cm, .slice na2 nl nc2, .slice ma2 ml mc2])] (World.setCells _ C1 7 [.int .i64 (2 ^ id.toNat)]) := hX.set (i := 1) rfl (hbS.setCell 7 _ (of_decide_eq_true rfl)) (Only.setCell _ C1 7 _)
  clear hbS
  refine ov0 hf rfl rfl (by decide) rfl (fun X => ex_vfld (5) hf rfl rfl Try.underlying25 rfl sz_int rfl) (fun a hf => ?_)
  have hbS := hX.get (i := 1) (C := C1) (cs := [.int .i64 id, .int .i64 sz, .int .i64 (tm + 1), .int .i64 id, .int .i64 1, .int .i64 ld, .int .i64 ti, .int .i64 (2 ^ id.toNat), .slice ga2 gl gc2, .int .i64 cm, .slice na2 nl nc2, .slice ma2 ml mc2]) rfl
  refine ov3 rfl rfl rfl (ex_store_cell _ _ _ C1 5 (.int .i64 (-1)) rfl (hf.ev rfl) (hf.ev rfl) (hbS.there 5 1 (of_decide_eq_true rfl)) info_int rfl) ?_
  replace hX : Bx β [(C2, [.int .i64 0, .int .i64 0, .int .i64 0, .int .i64 0, .int .i64 0, .int .i64 0, .int .i64 0, .int .i64 0, .slice none 0 0, .int .i64 0, .slice none 0 0, .slice none 0 0]), (C1, [.int .i64 id, .int .i64 sz, .int .i64 (tm + 1), .int .i64 id, .int .i64 1, .int .i64 (-1), .int .i64 ti, .int .i64 (2 ^ id.toNat), .slice ga2 gl gc2, .int .i64 cm, .slice na2 nl nc2, .slice ma2 ml mc2])] (World.setCells _ C1 5 [.int .i64 (-1)]) := hX.set (i := 1) rfl (hbS.setCell 5 _ (of_decide_eq_true rfl)) (Only.setCell _ C1 5 _)
  clear hbS
  replace hf := hf.sub (env' := [(3, .slice none 0 0), (2, .pointer (some ⟨C2, 0, none⟩)), (1, .pointer (some ⟨C1, 0, none⟩))]) (sub_cons rfl (sub_cons rfl (sub_cons rfl (sub_nil))))
  refine wpOrd_nil ?_
  refine wp_seq ?_
  refine wp_region_lit ?_
  refine sv_fld hf rfl Try.underlying25 rfl sz_int (0) rfl (by decide) (fun a hf => ?_)
  refine sv_lc hf hX rfl 1 rfl rfl Try.underlying3 rfl (by decide) (fun a hf => ?_)
  refine sv_call hf fnOK_27 rfl (usual_any _ _ h0 (by omega)) (by decide) ?_
  rintro e W' ⟨rfl, hw⟩
  subst hw
  refine ⟨_, rfl, fun a hf => ?_⟩
  refine sv_fld hf rfl Try.underlying25 rfl sz_int (6) rfl (by decide) (fun a hf => ?_)
  refine sv_sc (cs' := [.int .i64 id, .int .i64 sz, .int .i64 (tm + 1), .int .i64 id, .int .i64 1, .int .i64 (-1), .int .i64 (10 + 3 * id), .int .i64 (2 ^ id.toNat), .slice ga2 gl gc2, .int .i64 cm, .slice na2 nl nc2, .slice ma2 ml mc2]) hf hX rfl rfl 1 rfl (of_decide_eq_true rfl) rfl info_int rfl [(C2, [.int .i64 0, .int .i64 0, .int .i64 0, .int .i64 0, .int .i64 0, .int .i64 0, .int .i64 0, .int .i64 0, .slice none 0 0, .int .i64 0, .slice none 0 0, .slice none 0 0]), (C1, [.int .i64 id, .int .i64 sz, .int .i64 (tm + 1), .int .i64 id, .int .i64 1, .int .i64 (-1), .int .i64 (10 + 3 * id), .int .i64 (2 ^ id.toNat), .slice ga2 gl gc2, .int .i64 cm, .slice na2 nl nc2, .slice ma2 ml mc2])] rfl (fun W hX hO => ?_)
  clear hO
  replace hf := hf.sub (env' := [(3, .slice none 0 0), (2, .pointer (some ⟨C2, 0, none⟩)), (1, .pointer (some ⟨C1, 0, none⟩))]) (sub_cons rfl (sub_cons rfl (sub_cons rfl (sub_nil))))
  refine sv_nil hf ?_
  refine wp_seq ?_
  refine wp_region_lit ?_
  refine sv_fld hf rfl Try.underlying25 rfl sz_ints (10) rfl (by decide) (fun a hf => ?_)
  refine sv_sc (cs' := [.int .i64 id, .int .i64 sz, .int .i64 (tm + 1), .int .i64 id, .int .i64 1, .int .i64 (-1), .int .i64 (10 + 3 * id), .int .i64 (2 ^ id.toNat), .slice ga2 gl gc2, .int .i64 cm, .slice none 0 0, .slice ma2 ml mc2]) hf hX rfl rfl 1 rfl (of_decide_eq_true rfl) rfl info_ints rfl [(C2, [.int .i64 0, .int .i64 0, .int .i64 0, .int .i64 0, .int .i64 0, .int .i64 0, .int .i64 0, .int .i64 0, .slice none 0 0, .int .i64 0, .slice none 0 0, .slice none 0 0]), (C1, [.int .i64 id, .int .i64 sz, .int .i64 (tm + 1), .int .i64 id, .int .i64 1, .int .i64 (-1), .int .i64 (10 + 3 * id), .int .i64 (2 ^ id.toNat), .slice ga2 gl gc2, .int .i64 cm, .slice none 0 0, .slice ma2 ml mc2])] rfl (fun W hX hO => ?_)
  clear hO
  refine sv_fld hf rfl Try.underlying25 rfl sz_ints (11) rfl (by decide) (fun a hf => ?_)
  refine sv_sc (cs' := [.int .i64 id, .int .i64 sz, .int .i64 (tm + 1), .int .i64 id, .int .i64 1, .int .i64 (-1), .int .i64 (10 + 3 * id), .int .i64 (2 ^ id.toNat), .slice ga2 gl gc2, .int .i64 cm, .slice none 0 0, .slice none 0 0]) hf hX rfl rfl 1 rfl (of_decide_eq_true rfl) rfl info_ints rfl [(C2, [.int .i64 0, .int .i64 0, .int .i64 0, .int .i64 0, .int .i64 0, .int .i64 0, .int .i64 0, .int .i64 0, .slice none 0 0, .int .i64 0, .slice none 0 0, .slice none 0 0]), (C1, [.int .i64 id, .int .i64 sz, .int .i64 (tm + 1), .int .i64 id, .int .i64 1, .int .i64 (-1), .int .i64 (10 + 3 * id), .int .i64 (2 ^ id.toNat), .slice ga2 gl gc2, .int .i64 cm, .slice none 0 0, .slice none 0 0])] rfl (fun W hX hO => ?_)
  clear hO
  replace hf := hf.sub (env' := [(3, .slice none 0 0), (2, .pointer (some ⟨C2, 0, none⟩)), (1, .pointer (some ⟨C1, 0, none⟩))]) (sub_cons rfl (sub_cons rfl (sub_cons rfl (sub_nil))))
  refine sv_nil hf ?_
  refine wp_seq ?_
  refine wp_seq ?_
  refine wp_region_lit ?_
  refine sv_fld hf rfl Try.underlying25 rfl sz_int (1) rfl (by decide) (fun a hf => ?_)
  refine sv_lc hf hX rfl 1 rfl rfl Try.underlying3 rfl (by decide) (fun a hf => ?_)
  rcases Decidable.em (sz = 1) with hq3 | hq3
  ·
    refine sv_cmp hf rfl rfl true (congrArg some (decide_eq_true hq3)) (by decide) (fun a hf => ?_)
    replace hf := hf.sub (env' := [(33, .bool true), (3, .slice none 0 0), (2, .pointer (some ⟨C2, 0, none⟩)), (1, .pointer (some ⟨C1, 0, none⟩))]) (sub_cons rfl (sub_cons rfl (sub_cons rfl (sub_cons rfl (sub_nil)))))
    refine sv_nil hf ?_
    refine wp_cond_true (hf.rel _ _ rfl) ?_
    refine wp_seq ?_
    refine wp_region_lit ?_
    refine sv_lr hf hX rfl 1 rfl Try.underlying25 info_mem (by decide) (fun a hf => ?_)
    have hlwB := hX.lts
    have hsW : w.heap.size ≤ W.heap.size := by have := hX.low.size; rw [hβ] at this; exact this
    refine sv_call hf fnOK_43 rfl (win_int _ _ _ _ _ _ _ _ _ _ _ _ _ _ _ _ _ _ _ h0 hid h7) (by decide) ?_
    rintro e W ⟨pa, pl, pc, sa, sl, sc, rfl, r1, r2, ⟨g1, hg1, hgl1⟩, ⟨g2, hg2, hgl2⟩, hb⟩
    replace hX := hX.keep hb
    clear hb
    refine ⟨_, rfl, fun a hf => ?_⟩
    refine sv_sr hf hX rfl rfl 0 rfl rfl info_mem (fun v hv => List.all_eq_true.1 (show List.all [.int .i64 id, .int .i64 sz, .int .i64 (tm + 1), .int .i64 id, .int .i64 2, .int .i64 id, .int .i64 1, .int .i64 (2 ^ id.toNat), .slice ga2 gl gc2, .int .i64 cm, .slice pa pl pc, .slice sa sl sc] (·.oneCell') = true from rfl) v hv) [(C2, [.int .i64 id, .int .i64 sz, .int .i64 (tm + 1), .int .i64 id, .int .i64 2, .int .i64 id, .int .i64 1, .int .i64 (2 ^ id.toNat), .slice ga2 gl gc2, .int .i64 cm, .slice pa pl pc, .slice sa sl sc]), (C1, [.int .i64 id, .int .i64 sz, .int .i64 (tm + 1), .int .i64 id, .int .i64 1, .int .i64 (-1), .int .i64 (10 + 3 * id), .int .i64 (2 ^ id.toNat), .slice ga2 gl gc2, .int .i64 cm, .slice none 0 0, .slice none 0 0])] rfl (fun W hX hO => ?_)
    have hcC := hlwB _ (List.mem_of_getElem? (i := 0) rfl)
    replace r1 := r1.keep hg1 (hO.heap _ (by simp only at hcC; omega)) (Nat.le_of_eq hO.size.symm)
    replace r2 := r2.keep hg2 (hO.heap _ (by simp only at hcC; omega)) (Nat.le_of_eq hO.size.symm)
    clear hO
    refine sv_ac hf (by decide) (fun a hf => ?_)
    replace hf := hf.sub (env' := [(3, .slice none 0 0), (2, .pointer (some ⟨C2, 0, none⟩)), (1, .pointer (some ⟨C1, 0, none⟩))]) (sub_cons rfl (sub_cons rfl (sub_cons rfl (sub_nil))))
    refine sv_nil hf ?_
    refine wp_ret ?_
    try simp only [Exit.inBlock, Exit.then]
    refine bodyPost_ret (res_cell_tmp (c := 2) (d := 3) (C := C2) (cs := [.int .i64 id, .int .i64 sz, .int .i64 (tm + 1), .int .i64 id, .int .i64 2, .int .i64 id, .int .i64 1, .int .i64 (2 ^ id.toNat), .slice ga2 gl gc2, .int .i64 cm, .slice pa pl pc, .slice sa sl sc]) (T := 25) rfl (hf.rel 2 _ rfl) (hf.rel 3 _ rfl) (hX.get (i := 0) rfl) Try.underlying25 info_mem) hf.defers ⟨_, _, _, ga2, gc2, _, _, _, _, _, _, _, _, _, rfl, .inl ⟨by assumption, rfl, rfl, rfl, r1, r2, ⟨g1, hg1, by omega⟩, ⟨g2, hg2, by omega⟩, rfl, rfl, rfl⟩, ?_, by have := hX.low; rw [hβ] at this; exact this⟩
    obtain ⟨m, _, h8, h10, h11⟩ := HE.out
    exact ⟨m, hX.later2 hmem (fun k h => Or.inl (Nat.lt_of_lt_of_le h hb0.size)) (fun k h => Or.inr h) (fun k h => h) (fun k h => Nat.le_trans hsA h) h8⟩
  ·
    refine sv_cmp hf rfl rfl false (congrArg some (decide_eq_false hq3)) (by decide) (fun a hf => ?_)
    replace hf := hf.sub (env' := [(33, .bool false), (3, .slice none 0 0), (2, .pointer (some ⟨C2, 0, none⟩)), (1, .pointer (some ⟨C1, 0, none⟩))]) (sub_cons rfl (sub_cons rfl (sub_cons rfl (sub_cons rfl (sub_nil)))))
    refine sv_nil hf ?_
    refine wp_cond_false (hf.rel _ _ rfl) ?_
    refine wp_skip ?_
    refine wp_seq ?_
    refine wp_region_lit ?_
    refine sv_ac hf (by decide) (fun a hf => ?_)
    replace hf := hf.sub (env' := [(4, .slice none 0 0), (3, .slice none 0 0), (2, .pointer (some ⟨C2, 0, none⟩)), (1, .pointer (some ⟨C1, 0, none⟩))]) (sub_cons rfl (sub_cons rfl (sub_cons rfl (sub_cons rfl (sub_nil)))))
    refine sv_nil hf ?_
    refine wp_seq ?_
    refine wp_seq ?_
    refine wp_region_lit ?_
    refine sv_fld hf rfl Try.underlying25 rfl sz_int (1) rfl (by decide) (fun a hf => ?_)
    refine sv_lc hf hX rfl 1 rfl rfl Try.underlying3 rfl (by decide) (fun a hf => ?_)
    refine sv_run (v := .int .i64 0) hf (by decide) (fun a hf => by unfold execOp; rfl) (fun a hf => ?_)
    replace hf := hf.sub (env' := [(38, .int .i64 0), (37, .int .i64 sz), (4, .slice none 0 0), (3, .slice none 0 0), (2, .pointer (some ⟨C2, 0, none⟩)), (1, .pointer (some ⟨C1, 0, none⟩))]) (sub_cons rfl (sub_cons rfl (sub_cons rfl (sub_cons rfl (sub_cons rfl (sub_cons rfl (sub_nil)))))))
    refine sv_nil hf ?_
    obtain ⟨B, hB⟩ : ∃ n, n = W.heap.size := ⟨_, rfl⟩
    have hc1 : C1 < B := by have := (hX.get (i := 1) rfl).lt; omega
    have hc2 : C2 < B := by have := (hX.get (i := 0) rfl).lt; omega
    have hn : OwnM B W (.slice none 0 0) (reqs id (tm + 1) gl lt 0) := OwnM.nil _ _
    have hwB : w.heap.size ≤ B := by have := hX.low.size; rw [hβ] at this; rw [hB]; exact this
    have hCB : WC.heap.size ≤ B := by rw [hB]; exact (hX.bas _ hmem).1
    have hBW : B ≤ W.heap.size := by rw [hB]; exact Nat.le_refl _
    refine wp_block (wp_loop (fun a X => ∃ (q : Nat) (xa : Option Addr) (xl xc : Nat), (q : Int) ≤ sz ∧ FrV 63 [(1, .pointer (some ⟨C1, 0, none⟩)), (2, .pointer (some ⟨C2, 0, none⟩)), (37, .int .i64 sz), (38, .int .i64 (q : Int)), (4, .slice xa xl xc)] a ∧ Bx β [(C2, [.int .i64 0, .int .i64 0, .int .i64 0, .int .i64 0, .int .i64 0, .int .i64 0, .int .i64 0, .int .i64 0, .slice none 0 0, .int .i64 0, .slice none 0 0, .slice none 0 0]), (C1, [.int .i64 id, .int .i64 sz, .int .i64 (tm + 1), .int .i64 id, .int .i64 1, .int .i64 (-1), .int .i64 (10 + 3 * id), .int .i64 (2 ^ id.toNat), .slice ga2 gl gc2, .int .i64 cm, .slice none 0 0, .slice none 0 0])] X ∧ OwnM B X (.slice xa xl xc) (reqs id (tm + 1) gl lt q) ∧ B ≤ X.heap.size) (fun a _ => sz.toNat - (intOf (a.eval (.tmp 38))).toNat) ⟨0, _, _, _, by omega, hf.sub (sub_cons rfl (sub_cons rfl (sub_cons rfl (sub_cons rfl (sub_cons rfl (sub_nil)))))), hX, hn, hBW⟩ ?_)
    clear hX hn hB hBW
    rintro a W ⟨q, xa, xl, xc, hq, hf, hX, hn, hBW⟩
    have hq20 : a.eval (.tmp 38) = .int .i64 (q : Int) := hf.rel 38 _ rfl
    rcases Decidable.em ((q : Int) < sz) with hqs | hge
    ·
      refine wp_seq ?_
      refine wp_region_lit ?_
      refine sv_cmp hf rfl rfl true (congrArg some (decide_eq_true hqs)) (by decide) (fun a hf => ?_)
      refine sv_nil hf ?_
      refine wp_seq (wp_cond_true (hf.rel _ _ rfl) (wp_skip ?_))
      refine wp_seq (wp_block ?_)
      refine wp_seq ?_
      refine wp_region_lit ?_
      refine sv_mv hf rfl (by decide) (fun a hf => ?_)
      refine sv_as hf rfl (by decide) (fun a hf => ?_)
      replace hf := hf.sub (env' := [(5, .int .i64 (q : Int)), (40, .int .i64 (q : Int)), (1, .pointer (some ⟨C1, 0, none⟩)), (2, .pointer (some ⟨C2, 0, none⟩)), (37, .int .i64 sz), (38, .int .i64 (q : Int)), (4, .slice xa xl xc)]) (sub_cons rfl (sub_cons rfl (sub_cons rfl (sub_cons rfl (sub_cons rfl (sub_cons rfl (sub_cons rfl (sub_nil))))))))
      refine sv_nil hf ?_
      refine wp_seq ?_
      refine wp_region_lit ?_
      refine sv_mv hf rfl (by decide) (fun a hf => ?_)
      refine sv_fld hf rfl Try.underlying25 rfl sz_int (0) rfl (by decide) (fun a hf => ?_)
      refine sv_lc hf hX rfl 1 rfl rfl Try.underlying3 rfl (by decide) (fun a hf => ?_)
      rcases Decidable.em ((q : Int) = id) with hq4 | hq4
      ·
        refine sv_cmp hf rfl rfl false (congrArg some (by rw [decide_eq_true hq4]; rfl)) (by decide) (fun a hf => ?_)
        refine sv_nil hf ?_
        refine wp_cond_false (hf.rel _ _ rfl) ?_
        refine wp_skip ?_
        refine wp_region_lit ?_
        refine sv_add (((q + 1 : Nat) : Int)) hf rfl rfl (by rw [wrap_in (by omega)]; rfl) (by decide) (fun a hf => ?_)
        refine sv_mv hf rfl (by decide) (fun a hf => ?_)
        refine sv_nil hf ?_
        rw [reqs_eq hq4] at hn
        refine ⟨⟨q + 1, _, _, _, by omega, hf.sub (sub_cons rfl (sub_cons rfl (sub_cons rfl (sub_cons rfl (sub_cons rfl (sub_nil)))))), hX, hn, hBW⟩, ?_⟩
        have h5 : a.eval (.tmp 38) = .int .i64 ((q + 1 : Nat) : Int) := hf.rel 38 _ rfl
        rw [h5, hq20]; simp only [intOf, Int.toNat_natCast]; omega
      ·
        refine sv_cmp hf rfl rfl true (congrArg some (by rw [decide_eq_false hq4]; rfl)) (by decide) (fun a hf => ?_)
        refine sv_nil hf ?_
        refine wp_cond_true (hf.rel _ _ rfl) ?_
        refine wp_region_ordW 16 13 [(0, 0), (1, 0), (2, 1), (3, 0), (4, 0), (5, 1), (6, 0), (7, 1), (8, 0), (9, 0), (10, 1), (11, 2), (12, 0), (13, 3), (14, 3), (15, 3)] (fun X => Bx β [(C2, [.int .i64 0, .int .i64 0, .int .i64 0, .int .i64 0, .int .i64 0, .int .i64 0, .int .i64 0, .int .i64 0, .slice none 0 0, .int .i64 0, .slice none 0 0, .slice none 0 0]), (C1, [.int .i64 id, .int .i64 sz, .int .i64 (tm + 1), .int .i64 id, .int .i64 1, .int .i64 (-1), .int .i64 (10 + 3 * id), .int .i64 (2 ^ id.toNat), .slice ga2 gl gc2, .int .i64 cm, .slice none 0 0, .slice none 0 0])] X) mixed (by kernel_rfl) hX.drew (fun c a d v w h => by cases d <;> exact h) ?_
        replace hX := hX.drew
        replace hn : OwnM B W.drew _ _ := OwnM.below hn (Below.refl _ _).drew
        replace hBW : B ≤ W.drew.heap.size := hBW
        refine ov0 hf rfl rfl (by decide) rfl (fun X => ex_vmv hf rfl rfl) (fun a hf => ?_)
        refine ov0 hf rfl rfl (by decide) rfl (fun X => ex_vfld (0) hf rfl rfl Try.underlying25 rfl sz_int rfl) (fun a hf => ?_)
        refine ov1 hf rfl rfl (by decide) rfl (fun X hS => ex_vlc (cs := [.int .i64 id, .int .i64 sz, .int .i64 (tm + 1), .int .i64 id, .int .i64 1, .int .i64 (-1), .int .i64 (10 + 3 * id), .int .i64 (2 ^ id.toNat), .slice ga2 gl gc2, .int .i64 cm, .slice none 0 0, .slice none 0 0]) hf rfl rfl (hS.get (i := 1) rfl) rfl Try.underlying3 rfl) (fun a hf => ?_)
        refine ov0 hf rfl rfl (by decide) rfl (fun X => ex_vmv hf rfl rfl) (fun a hf => ?_)
        refine ov0 hf rfl rfl (by decide) rfl (fun X => ex_vfld (2) hf rfl rfl Try.underlying25 rfl sz_int rfl) (fun a hf => ?_)
        refine ov1 hf rfl rfl (by decide) rfl (fun X hS => ex_vlc (cs := [.int .i64 id, .int .i64 sz, .int .i64 (tm + 1), .int .i64 id, .int .i64 1, .int .i64 (-1), .int .i64 (10 + 3 * id), .int .i64 (2 ^ id.toNat), .slice ga2 gl gc2, .int .i64 cm, .slice none 0 0, .slice none 0 0]) hf rfl rfl (hS.get (i := 1) rfl) rfl Try.underlying3 rfl) (fun a hf => ?_)
        refine ov0 hf rfl rfl (by decide) rfl (fun X => ex_vfld (8) hf rfl rfl Try.underlying25 rfl sz_ents rfl) (fun a hf => ?_)
        refine ov1 hf rfl rfl (by decide) rfl (fun X hS => ex_vlc (cs := [.int .i64 id, .int .i64 sz, .int .i64 (tm + 1), .int .i64 id, .int .i64 1, .int .i64 (-1), .int .i64 (10 + 3 * id), .int .i64 (2 ^ id.toNat), .slice ga2 gl gc2, .int .i64 cm, .slice none 0 0, .slice none 0 0]) hf rfl rfl (hS.get (i := 1) rfl) rfl Try.underlying22 rfl) (fun a hf => ?_)
        refine ov0 hf rfl rfl (by decide) rfl (fun X => ex_len hf rfl rfl Try.underlying22) (fun a hf => ?_)
        refine ov0 hf rfl rfl (by decide) rfl (fun X => ex_vfld (8) hf rfl rfl Try.underlying25 rfl sz_ents rfl) (fun a hf => ?_)
        refine ov1 hf rfl rfl (by decide) rfl (fun X hS => ex_vlc (cs := [.int .i64 id, .int .i64 sz, .int .i64 (tm + 1), .int .i64 id, .int .i64 1, .int .i64 (-1), .int .i64 (10 + 3 * id), .int .i64 (2 ^ id.toNat), .slice ga2 gl gc2, .int .i64 cm, .slice none 0 0, .slice none 0 0]) hf rfl rfl (hS.get (i := 1) rfl) rfl Try.underlying22 rfl) (fun a hf => ?_)
        refine ov2c hf rfl rfl (by decide) rfl rfl fnOK_38 rfl (lastTerm_any _ lt _ (by obtain ⟨m, _, h8, _, _⟩ := HE.out; exact last_copy (hX.later hmem (fun k h => Or.inl (Nat.lt_of_lt_of_le h hb0.size)) (fun k h => Or.inr h) h8) (hlt.below (by have := hX.low; rw [hβ] at this; exact this)))) ?_
        rintro e W' ⟨rfl, hw⟩
        subst hw
        refine ⟨_, rfl, hX, fun a hf => ?_⟩
        refine ov0 hf rfl rfl (by decide) rfl (fun X => ex_bld (cs := [.int .i64 id, .int .i64 (q : Int), .int .i64 1, .int .i64 (tm + 1), .int .i64 ((gl : Nat) : Int), .int .i64 lt, .int .i64 0, .slice none 0 0, .bool false]) hf rfl rfl (by kernel_rfl)) (fun a hf => ?_)
        refine ov3_bs1 (k := 9) (cs := [.int .i64 id, .int .i64 (q : Int), .int .i64 1, .int .i64 (tm + 1), .int .i64 ((gl : Nat) : Int), .int .i64 lt, .int .i64 0, .slice none 0 0, .bool false]) hf hX rfl rfl (by decide) rfl rfl rfl Try.underlying37 (by kernel_rfl) info_msg rfl (by decide) (by decide) (fun a G5 W hC hf hX hA => ?_)
        replace hn := OwnM.below hn hA
        replace hBW := Nat.le_trans hBW hA.size
        clear hC hA
        have hlts := hX.lts
        refine ov3_apps (news := mrow [⟨id, (q : Int), 1, tm + 1, (gl : Int), lt, false⟩]) hf hX.sub rfl rfl (by decide) rfl rfl rfl rfl Try.underlying37 info_msg3 rfl (by decide) hn (by rw [mrow_len]; rfl) (fun j u hu => by rw [addr_add', Nat.zero_add]; exact (hX.get (i := 0) rfl).cell j u hu) (mrow_ones _) (by have := reqs_len id (tm + 1) gl lt q; omega) (by decide) hBW (by rw [hβ]; exact hwB) (fun k hk q hq e => ?_) (fun k hk p hp hlt => ?_) (fun a xa xl W hf hX ho hg hu => ?_)
        · have := (OwnM.lt hn k hk).1; simp only [List.mem_cons, List.not_mem_nil, or_false] at hq; rcases hq with rfl | rfl <;> omega
        · rw [hβ] at hp; rw [List.mem_singleton.1 hp] at hlt; have := (OwnM.lt hn k hk).1; exact absurd hlt (Nat.not_lt.2 (Nat.le_trans hCB this))
        replace hn := OwnM.push (M := [_]) ho
        rw [reqs_ne hq4] at hn
        replace hBW := Nat.le_trans hBW hg.size
        clear ho hg hu hlts
        refine ov3v hf rfl rfl (by decide) rfl (ex_vas hf rfl rfl) (fun a hf => ?_)
        refine wpOrd_nil ?_
        refine wp_region_lit ?_
        refine sv_add (((q + 1 : Nat) : Int)) hf rfl rfl (by rw [wrap_in (by omega)]; rfl) (by decide) (fun a hf => ?_)
        refine sv_mv hf rfl (by decide) (fun a hf => ?_)
        refine sv_nil hf ?_
        refine ⟨⟨q + 1, _, _, _, by omega, hf.sub (sub_cons rfl (sub_cons rfl (sub_cons rfl (sub_cons rfl (sub_cons rfl (sub_nil)))))), hX, hn, hBW⟩, ?_⟩
        have h5 : a.eval (.tmp 38) = .int .i64 ((q + 1 : Nat) : Int) := hf.rel 38 _ rfl
        rw [h5, hq20]; simp only [intOf, Int.toNat_natCast]; omega
    ·
      refine wp_seq ?_
      refine wp_region_lit ?_
      refine sv_cmp hf rfl rfl false (congrArg some (decide_eq_false hge)) (by decide) (fun a hf => ?_)
      refine sv_nil hf ?_
      refine wp_seq (wp_cond_false (hf.rel _ _ rfl) (wp_exit ?_))
      simp only [Exit.inBlock, Exit.then, ↓reduceIte]
      obtain rfl : q = sz.toNat := by omega
      refine wp_seq ?_
      refine wp_region_lit ?_
      refine sv_lr hf hX rfl 1 rfl Try.underlying25 info_mem (by decide) (fun a hf => ?_)
      refine sv_mv hf rfl (by decide) (fun a hf => ?_)
      refine sv_sr hf hX rfl rfl 0 rfl rfl info_mem (fun v hv => List.all_eq_true.1 (show List.all [.int .i64 id, .int .i64 sz, .int .i64 (tm + 1), .int .i64 id, .int .i64 1, .int .i64 (-1), .int .i64 (10 + 3 * id), .int .i64 (2 ^ id.toNat), .slice ga2 gl gc2, .int .i64 cm, .slice none 0 0, .slice none 0 0] (·.oneCell') = true from rfl) v hv) [(C2, [.int .i64 id, .int .i64 sz, .int .i64 (tm + 1), .int .i64 id, .int .i64 1, .int .i64 (-1), .int .i64 (10 + 3 * id), .int .i64 (2 ^ id.toNat), .slice ga2 gl gc2, .int .i64 cm, .slice none 0 0, .slice none 0 0]), (C1, [.int .i64 id, .int .i64 sz, .int .i64 (tm + 1), .int .i64 id, .int .i64 1, .int .i64 (-1), .int .i64 (10 + 3 * id), .int .i64 (2 ^ id.toNat), .slice ga2 gl gc2, .int .i64 cm, .slice none 0 0, .slice none 0 0])] rfl (fun W hX hO => ?_)
      replace hn := OwnM.only hn hO (by omega)
      replace hBW := Nat.le_trans hBW (Nat.le_of_eq hO.size.symm)
      clear hO
      refine sv_as hf rfl (by decide) (fun a hf => ?_)
      replace hf := hf.sub (env' := [(3, .slice xa xl xc), (2, .pointer (some ⟨C2, 0, none⟩))]) (sub_cons rfl (sub_cons rfl (sub_nil)))
      refine sv_nil hf ?_
      refine wp_ret ?_
      try simp only [Exit.inBlock, Exit.then]
      refine bodyPost_ret (res_cell_tmp (c := 2) (d := 3) (C := C2) (cs := [.int .i64 id, .int .i64 sz, .int .i64 (tm + 1), .int .i64 id, .int .i64 1, .int .i64 (-1), .int .i64 (10 + 3 * id), .int .i64 (2 ^ id.toNat), .slice ga2 gl gc2, .int .i64 cm, .slice none 0 0, .slice none 0 0]) (T := 25) rfl (hf.rel 2 _ rfl) (hf.rel 3 _ rfl) (hX.get (i := 0) rfl) Try.underlying25 info_mem) hf.defers ⟨_, _, _, ga2, gc2, _, _, _, _, _, _, _, _, _, rfl, .inr ⟨by omega, rfl, rfl, rfl, rfl, rfl, rfl, rfl, rfl, rfl, OwnM.mono hn hwB⟩, ?_, by have := hX.low; rw [hβ] at this; exact this⟩
      obtain ⟨m, _, h8, h10, h11⟩ := HE.out
      exact ⟨m, hX.later2 hmem (fun k h => Or.inl (Nat.lt_of_lt_of_le h hb0.size)) (fun k h => Or.inr h) (fun k h => h) (fun k h => Nat.le_trans hsA h) h8⟩
end Go.Proofs.Ytfpgklhbghahoaa
/- Election: the ends of two logs. -/
namespace Go.Proofs.Ytfpgklhbghahoaa
open Go.ChangeShapes Go.WideShapes Go.ChangeAt Go.RowKit Go.ChangeMaps Go.Joins Go.Deep
set_option linter.unusedVariables false
set_option linter.unusedSimpArgs false
set_option maxRecDepth 100000
theorem zz_le : ((0 : Nat) : Int) ≤ ((0 : Nat) : Int) := Int.le_refl _
/-- is the end (x, n) of a log at least as new as (y, m)? -/
def endB (x : Int) (n : Nat) (y : Int) (m : Nat) : Bool := decide (y < x) || (decide (x = y) && decide ((m : Int) ≤ (n : Int)))
theorem end_any (u v : Value) (x y : Int) (ga : Option Addr) (gl gc : Nat) (ha : Option Addr) (hl hc : Nat) (w : World) (hu : LastAt w (.slice ga gl gc) x) (hv : LastAt w (.slice ha hl hc) y) : Calls Try.prog 26 #[.slice ga gl gc, .slice ha hl hc] w fun e w' => e = .returned (.bool (endB x gl y hl)) ∧ w = w' := by
  obtain ⟨_, _, _, e1, hu⟩ := hu
  obtain ⟨rfl, rfl, rfl⟩ := Value.slice.inj e1
  obtain ⟨_, _, _, e2, hv⟩ := hv
  obtain ⟨rfl, rfl, rfl⟩ := Value.slice.inj e2
  obtain ⟨eb, heb⟩ : ∃ b, b = endB x gl y hl := ⟨_, rfl⟩
  rw [← heb]
  rcases hu with ⟨rfl, rfl⟩ | ⟨B, o, k, rfl, rfl, hm, hB, hcB⟩ <;> rcases hv with ⟨rfl, rfl⟩ | ⟨C, p, j, rfl, rfl, hm', hC, hcC⟩
  ·
    refine calls_frv (N := 42) (vs := [.slice ga 0 gc, .slice ha 0 hc]) [(0, .slice ga 0 gc), (1, .slice ha 0 hc)] Try.func26 rfl rfl (of_decide_eq_true rfl) (fun p hp => by simp only [List.mem_cons, List.not_mem_nil, or_false] at hp; rcases hp with rfl | rfl <;> rfl) (fun a hf => ?_)
    have hX := Bx.start w
    refine wp_seq ?_
    refine wp_region_lit ?_
    refine sv_ac hf (by decide) (fun a hf => ?_)
    refine sv_nil hf ?_
    refine wp_seq ?_
    refine wp_region_lit ?_
    refine sv_ac hf (by decide) (fun a hf => ?_)
    refine sv_ac hf (by decide) (fun a hf => ?_)
    refine sv_nil hf ?_
    refine wp_seq ?_
    refine wp_seq ?_
    refine wp_region_lit ?_
    refine sv_mv hf rfl (by decide) (fun a hf => ?_)
    refine sv_len hf rfl Try.underlying22 (by decide) (fun a hf => ?_)
    refine sv_cmp hf rfl rfl false (congrArg some (decide_eq_false (by omega))) (by decide) (fun a hf => ?_)
    replace hf := hf.sub (env' := [(9, .bool false), (6, .int .i64 0), (5, .int .i64 0), (4, .bool false), (0, .slice ga 0 gc), (1, .slice ha 0 hc)]) (sub_cons rfl (sub_cons rfl (sub_cons rfl (sub_cons rfl (sub_cons rfl (sub_cons rfl (sub_nil)))))))
    refine sv_nil hf ?_
    refine wp_cond_false (hf.rel _ _ rfl) ?_
    refine wp_skip ?_
    refine wp_seq ?_
    refine wp_seq ?_
    refine wp_region_lit ?_
    refine sv_mv hf rfl (by decide) (fun a hf => ?_)
    refine sv_len hf rfl Try.underlying22 (by decide) (fun a hf => ?_)
    refine sv_cmp hf rfl rfl false (congrArg some (decide_eq_false (by omega))) (by decide) (fun a hf => ?_)
    replace hf := hf.sub (env' := [(19, .bool false), (6, .int .i64 0), (5, .int .i64 0), (4, .bool false), (0, .slice ga 0 gc), (1, .slice ha 0 hc)]) (sub_cons rfl (sub_cons rfl (sub_cons rfl (sub_cons rfl (sub_cons rfl (sub_cons rfl (sub_nil)))))))
    refine sv_nil hf ?_
    refine wp_cond_false (hf.rel _ _ rfl) ?_
    refine wp_skip ?_
    refine wp_seq ?_
    refine wp_region_lit ?_
    refine sv_mv hf rfl (by decide) (fun a hf => ?_)
    refine sv_mv hf rfl (by decide) (fun a hf => ?_)
    refine sv_cmp hf rfl rfl false (congrArg some (decide_eq_false (by omega))) (by decide) (fun a hf => ?_)
    refine sv_mv hf rfl (by decide) (fun a hf => ?_)
    refine sv_want hf rfl rfl ?_
    refine sv_mv hf rfl (by decide) (fun a hf => ?_)
    refine sv_want hf rfl rfl ?_
    refine sv_mv hf rfl (by decide) (fun a hf => ?_)
    refine sv_want hf rfl rfl ?_
    refine sv_cmp hf rfl rfl true (congrArg some (decide_eq_true rfl)) (by decide) (fun a hf => ?_)
    refine sv_want hf rfl rfl ?_
    refine sv_mv hf rfl (by decide) (fun a hf => ?_)
    refine sv_want hf rfl rfl ?_
    refine sv_mv hf rfl (by decide) (fun a hf => ?_)
    refine sv_want hf rfl rfl ?_
    refine sv_len hf rfl Try.underlying22 (by decide) (fun a hf => ?_)
    refine sv_want hf rfl rfl ?_
    refine sv_mv hf rfl (by decide) (fun a hf => ?_)
    refine sv_want hf rfl rfl ?_
    refine sv_len hf rfl Try.underlying22 (by decide) (fun a hf => ?_)
    refine sv_want hf rfl rfl ?_
    refine sv_cmp hf rfl rfl true (congrArg some (decide_eq_true zz_le)) (by decide) (fun a hf => ?_)
    refine sv_want hf rfl rfl ?_
    refine sv_pk hf rfl rfl (by decide) (fun a hf => ?_)
    refine sv_pk hf rfl rfl (by decide) (fun a hf => ?_)
    refine sv_as hf rfl (by decide) (fun a hf => ?_)
    replace hf := hf.sub (env' := [(4, .bool true)]) (sub_cons rfl (sub_nil))
    refine sv_nil hf ?_
    refine wp_ret ?_
    try simp only [Exit.inBlock, Exit.then]
    have hr : eb = true := by rw [heb]; unfold endB; first | (simp []; done) | (simp []; omega)
    rw [hr]
    exact bodyPost_ret (res_tmp (d := 4) (v := .bool true) rfl (hf.rel 4 _ rfl)) hf.defers ⟨rfl, rfl⟩
  ·
    refine calls_frv (N := 42) (vs := [.slice ga 0 gc, .slice (some ⟨C, p, none⟩) (j + 1) hc]) [(0, .slice ga 0 gc), (1, .slice (some ⟨C, p, none⟩) (j + 1) hc)] Try.func26 rfl rfl (of_decide_eq_true rfl) (fun p hp => by simp only [List.mem_cons, List.not_mem_nil, or_false] at hp; rcases hp with rfl | rfl <;> rfl) (fun a hf => ?_)
    have hX := Bx.start w
    refine wp_seq ?_
    refine wp_region_lit ?_
    refine sv_ac hf (by decide) (fun a hf => ?_)
    refine sv_nil hf ?_
    refine wp_seq ?_
    refine wp_region_lit ?_
    refine sv_ac hf (by decide) (fun a hf => ?_)
    refine sv_ac hf (by decide) (fun a hf => ?_)
    refine sv_nil hf ?_
    refine wp_seq ?_
    refine wp_seq ?_
    refine wp_region_lit ?_
    refine sv_mv hf rfl (by decide) (fun a hf => ?_)
    refine sv_len hf rfl Try.underlying22 (by decide) (fun a hf => ?_)
    refine sv_cmp hf rfl rfl false (congrArg some (decide_eq_false (by omega))) (by decide) (fun a hf => ?_)
    replace hf := hf.sub (env' := [(9, .bool false), (6, .int .i64 0), (5, .int .i64 0), (4, .bool false), (0, .slice ga 0 gc), (1, .slice (some ⟨C, p, none⟩) (j + 1) hc)]) (sub_cons rfl (sub_cons rfl (sub_cons rfl (sub_cons rfl (sub_cons rfl (sub_cons rfl (sub_nil)))))))
    refine sv_nil hf ?_
    refine wp_cond_false (hf.rel _ _ rfl) ?_
    refine wp_skip ?_
    refine wp_seq ?_
    refine wp_seq ?_
    refine wp_region_lit ?_
    refine sv_mv hf rfl (by decide) (fun a hf => ?_)
    refine sv_len hf rfl Try.underlying22 (by decide) (fun a hf => ?_)
    refine sv_cmp hf rfl rfl true (congrArg some (decide_eq_true (by omega))) (by decide) (fun a hf => ?_)
    replace hf := hf.sub (env' := [(19, .bool true), (6, .int .i64 0), (5, .int .i64 0), (4, .bool false), (0, .slice ga 0 gc), (1, .slice (some ⟨C, p, none⟩) (j + 1) hc)]) (sub_cons rfl (sub_cons rfl (sub_cons rfl (sub_cons rfl (sub_cons rfl (sub_cons rfl (sub_nil)))))))
    refine sv_nil hf ?_
    refine wp_cond_true (hf.rel _ _ rfl) ?_
    refine wp_region_lit ?_
    refine sv_mv hf rfl (by decide) (fun a hf => ?_)
    refine sv_mv hf rfl (by decide) (fun a hf => ?_)
    refine sv_len hf rfl Try.underlying22 (by decide) (fun a hf => ?_)
    refine sv_sub (j : Int) hf rfl rfl (by rw [wrap_in (by omega)]; omega) (by decide) (fun a hf => ?_)
    refine sv_idx (q := j) hf rfl rfl (by omega) Try.underlying22 einfo_ents (by decide) (fun a hf => ?_)
    refine sv_fld hf rfl Try.underlying73 rfl sz_int (p + j * 82) rfl (by decide) (fun a hf => ?_)
    refine sv_lm hf rfl (show w.cell? ⟨C, p + j * 82, none⟩ = _ from hcC) Try.underlying3 rfl (by decide) (fun a hf => ?_)
    refine sv_as hf rfl (by decide) (fun a hf => ?_)
    replace hf := hf.sub (env' := [(6, .int .i64 y), (5, .int .i64 0), (4, .bool false), (0, .slice ga 0 gc), (1, .slice (some ⟨C, p, none⟩) (j + 1) hc)]) (sub_cons rfl (sub_cons rfl (sub_cons rfl (sub_cons rfl (sub_cons rfl (sub_nil))))))
    refine sv_nil hf ?_
    refine wp_seq ?_
    refine wp_region_lit ?_
    refine sv_mv hf rfl (by decide) (fun a hf => ?_)
    refine sv_mv hf rfl (by decide) (fun a hf => ?_)
    rcases Decidable.em (y < 0) with hq1 | hq1
    ·
      refine sv_cmp hf rfl rfl true (congrArg some (decide_eq_true hq1)) (by decide) (fun a hf => ?_)
      refine sv_mv hf rfl (by decide) (fun a hf => ?_)
      refine sv_skip1 hf rfl rfl (by decide) (by decide) (fun a hf => ?_)
      refine sv_skip1 hf rfl rfl (by decide) (by decide) (fun a hf => ?_)
      refine sv_skip1 hf rfl rfl (by decide) (by decide) (fun a hf => ?_)
      refine sv_skip1 hf rfl rfl (by decide) (by decide) (fun a hf => ?_)
      refine sv_skip2 hf rfl rfl (by decide) (fun a hf => ?_)
      refine sv_skip2 hf rfl rfl (by decide) (fun a hf => ?_)
      refine sv_skip2 hf rfl rfl (by decide) (fun a hf => ?_)
      refine sv_skip2 hf rfl rfl (by decide) (fun a hf => ?_)
      refine sv_skip2 hf rfl rfl (by decide) (fun a hf => ?_)
      refine sv_skip1 hf rfl rfl (by decide) (by decide) (fun a hf => ?_)
      refine sv_pk hf rfl rfl (by decide) (fun a hf => ?_)
      refine sv_as hf rfl (by decide) (fun a hf => ?_)
      replace hf := hf.sub (env' := [(4, .bool true)]) (sub_cons rfl (sub_nil))
      refine sv_nil hf ?_
      refine wp_ret ?_
      try simp only [Exit.inBlock, Exit.then]
      have hr : eb = true := by rw [heb]; unfold endB; first | (simp [hq1]; done) | (simp [hq1]; omega)
      rw [hr]
      exact bodyPost_ret (res_tmp (d := 4) (v := .bool true) rfl (hf.rel 4 _ rfl)) hf.defers ⟨rfl, rfl⟩
    ·
      refine sv_cmp hf rfl rfl false (congrArg some (decide_eq_false hq1)) (by decide) (fun a hf => ?_)
      refine sv_mv hf rfl (by decide) (fun a hf => ?_)
      refine sv_want hf rfl rfl ?_
      refine sv_mv hf rfl (by decide) (fun a hf => ?_)
      refine sv_want hf rfl rfl ?_
      refine sv_mv hf rfl (by decide) (fun a hf => ?_)
      refine sv_want hf rfl rfl ?_
      rcases Decidable.em (0 = y) with hq2 | hq2
      ·
        refine sv_cmp hf rfl rfl true (congrArg some (decide_eq_true hq2)) (by decide) (fun a hf => ?_)
        refine sv_want hf rfl rfl ?_
        refine sv_mv hf rfl (by decide) (fun a hf => ?_)
        refine sv_want hf rfl rfl ?_
        refine sv_mv hf rfl (by decide) (fun a hf => ?_)
        refine sv_want hf rfl rfl ?_
        refine sv_len hf rfl Try.underlying22 (by decide) (fun a hf => ?_)
        refine sv_want hf rfl rfl ?_
        refine sv_mv hf rfl (by decide) (fun a hf => ?_)
        refine sv_want hf rfl rfl ?_
        refine sv_len hf rfl Try.underlying22 (by decide) (fun a hf => ?_)
        refine sv_want hf rfl rfl ?_
        rcases Decidable.em (((j + 1 : Nat) : Int) ≤ 0) with hq3 | hq3
        ·
          refine sv_cmp hf rfl rfl true (congrArg some (decide_eq_true hq3)) (by decide) (fun a hf => ?_)
          refine sv_want hf rfl rfl ?_
          refine sv_pk hf rfl rfl (by decide) (fun a hf => ?_)
          refine sv_pk hf rfl rfl (by decide) (fun a hf => ?_)
          refine sv_as hf rfl (by decide) (fun a hf => ?_)
          replace hf := hf.sub (env' := [(4, .bool true)]) (sub_cons rfl (sub_nil))
          refine sv_nil hf ?_
          refine wp_ret ?_
          try simp only [Exit.inBlock, Exit.then]
          have hr : eb = true := by rw [heb]; unfold endB; first | (simp [hq1, hq2, hq3]; done) | (simp [hq1, hq2, hq3]; omega)
          rw [hr]
          exact bodyPost_ret (res_tmp (d := 4) (v := .bool true) rfl (hf.rel 4 _ rfl)) hf.defers ⟨rfl, rfl⟩
        ·
          refine sv_cmp hf rfl rfl false (congrArg some (decide_eq_false hq3)) (by decide) (fun a hf => ?_)
          refine sv_want hf rfl rfl ?_
          refine sv_pk hf rfl rfl (by decide) (fun a hf => ?_)
          refine sv_pk hf rfl rfl (by decide) (fun a hf => ?_)
          refine sv_as hf rfl (by decide) (fun a hf => ?_)
          replace hf := hf.sub (env' := [(4, .bool false)]) (sub_cons rfl (sub_nil))
          refine sv_nil hf ?_
          refine wp_ret ?_
          try simp only [Exit.inBlock, Exit.then]
          have hr : eb = false := by rw [heb]; unfold endB; first | (simp [hq1, hq2, hq3]; done) | (simp [hq1, hq2, hq3]; omega)
          rw [hr]
          exact bodyPost_ret (res_tmp (d := 4) (v := .bool false) rfl (hf.rel 4 _ rfl)) hf.defers ⟨rfl, rfl⟩
      ·
        refine sv_cmp hf rfl rfl false (congrArg some (decide_eq_false hq2)) (by decide) (fun a hf => ?_)
        refine sv_want hf rfl rfl ?_
        refine sv_mv hf rfl (by decide) (fun a hf => ?_)
        refine sv_skip1 hf rfl rfl (by decide) (by decide) (fun a hf => ?_)
        refine sv_skip1 hf rfl rfl (by decide) (by decide) (fun a hf => ?_)
        refine sv_skip1 hf rfl rfl (by decide) (by decide) (fun a hf => ?_)
        refine sv_skip1 hf rfl rfl (by decide) (by decide) (fun a hf => ?_)
        refine sv_skip1 hf rfl rfl (by decide) (by decide) (fun a hf => ?_)
        refine sv_want hf rfl rfl ?_
        refine sv_pk hf rfl rfl (by decide) (fun a hf => ?_)
        refine sv_pk hf rfl rfl (by decide) (fun a hf => ?_)
        refine sv_as hf rfl (by decide) (fun a hf => ?_)
        replace hf := hf.sub (env' := [(4, .bool false)]) (sub_cons rfl (sub_nil))
        refine sv_nil hf ?_
        refine wp_ret ?_
        try simp only [Exit.inBlock, Exit.then]
        have hr : eb = false := by rw [heb]; unfold endB; first | (simp [hq1, hq2]; done) | (simp [hq1, hq2]; omega)
        rw [hr]
        exact bodyPost_ret (res_tmp (d := 4) (v := .bool false) rfl (hf.rel 4 _ rfl)) hf.defers ⟨rfl, rfl⟩
  ·
    refine calls_frv (N := 42) (vs := [.slice (some ⟨B, o, none⟩) (k + 1) gc, .slice ha 0 hc]) [(0, .slice (some ⟨B, o, none⟩) (k + 1) gc), (1, .slice ha 0 hc)] Try.func26 rfl rfl (of_decide_eq_true rfl) (fun p hp => by simp only [List.mem_cons, List.not_mem_nil, or_false] at hp; rcases hp with rfl | rfl <;> rfl) (fun a hf => ?_)
    have hX := Bx.start w
    refine wp_seq ?_
    refine wp_region_lit ?_
    refine sv_ac hf (by decide) (fun a hf => ?_)
    refine sv_nil hf ?_
    refine wp_seq ?_
    refine wp_region_lit ?_
    refine sv_ac hf (by decide) (fun a hf => ?_)
    refine sv_ac hf (by decide) (fun a hf => ?_)
    refine sv_nil hf ?_
    refine wp_seq ?_
    refine wp_seq ?_
    refine wp_region_lit ?_
    refine sv_mv hf rfl (by decide) (fun a hf => ?_)
    refine sv_len hf rfl Try.underlying22 (by decide) (fun a hf => ?_)
    refine sv_cmp hf rfl rfl true (congrArg some (decide_eq_true (by omega))) (by decide) (fun a hf => ?_)
    replace hf := hf.sub (env' := [(9, .bool true), (6, .int .i64 0), (5, .int .i64 0), (4, .bool false), (0, .slice (some ⟨B, o, none⟩) (k + 1) gc), (1, .slice ha 0 hc)]) (sub_cons rfl (sub_cons rfl (sub_cons rfl (sub_cons rfl (sub_cons rfl (sub_cons rfl (sub_nil)))))))
    refine sv_nil hf ?_
    refine wp_cond_true (hf.rel _ _ rfl) ?_
    refine wp_region_lit ?_
    refine sv_mv hf rfl (by decide) (fun a hf => ?_)
    refine sv_mv hf rfl (by decide) (fun a hf => ?_)
    refine sv_len hf rfl Try.underlying22 (by decide) (fun a hf => ?_)
    refine sv_sub (k : Int) hf rfl rfl (by rw [wrap_in (by omega)]; omega) (by decide) (fun a hf => ?_)
    refine sv_idx (q := k) hf rfl rfl (by omega) Try.underlying22 einfo_ents (by decide) (fun a hf => ?_)
    refine sv_fld hf rfl Try.underlying73 rfl sz_int (o + k * 82) rfl (by decide) (fun a hf => ?_)
    refine sv_lm hf rfl (show w.cell? ⟨B, o + k * 82, none⟩ = _ from hcB) Try.underlying3 rfl (by decide) (fun a hf => ?_)
    refine sv_as hf rfl (by decide) (fun a hf => ?_)
    replace hf := hf.sub (env' := [(5, .int .i64 x), (6, .int .i64 0), (4, .bool false), (0, .slice (some ⟨B, o, none⟩) (k + 1) gc), (1, .slice ha 0 hc)]) (sub_cons rfl (sub_cons rfl (sub_cons rfl (sub_cons rfl (sub_cons rfl (sub_nil))))))
    refine sv_nil hf ?_
    refine wp_seq ?_
    refine wp_seq ?_
    refine wp_region_lit ?_
    refine sv_mv hf rfl (by decide) (fun a hf => ?_)
    refine sv_len hf rfl Try.underlying22 (by decide) (fun a hf => ?_)
    refine sv_cmp hf rfl rfl false (congrArg some (decide_eq_false (by omega))) (by decide) (fun a hf => ?_)
    replace hf := hf.sub (env' := [(19, .bool false), (5, .int .i64 x), (6, .int .i64 0), (4, .bool false), (0, .slice (some ⟨B, o, none⟩) (k + 1) gc), (1, .slice ha 0 hc)]) (sub_cons rfl (sub_cons rfl (sub_cons rfl (sub_cons rfl (sub_cons rfl (sub_cons rfl (sub_nil)))))))
    refine sv_nil hf ?_
    refine wp_cond_false (hf.rel _ _ rfl) ?_
    refine wp_skip ?_
    refine wp_seq ?_
    refine wp_region_lit ?_
    refine sv_mv hf rfl (by decide) (fun a hf => ?_)
    refine sv_mv hf rfl (by decide) (fun a hf => ?_)
    rcases Decidable.em (0 < x) with hq1 | hq1
    ·
      refine sv_cmp hf rfl rfl true (congrArg some (decide_eq_true hq1)) (by decide) (fun a hf => ?_)
      refine sv_mv hf rfl (by decide) (fun a hf => ?_)
      refine sv_skip1 hf rfl rfl (by decide) (by decide) (fun a hf => ?_)
      refine sv_skip1 hf rfl rfl (by decide) (by decide) (fun a hf => ?_)
      refine sv_skip1 hf rfl rfl (by decide) (by decide) (fun a hf => ?_)
      refine sv_skip1 hf rfl rfl (by decide) (by decide) (fun a hf => ?_)
      refine sv_skip2 hf rfl rfl (by decide) (fun a hf => ?_)
      refine sv_skip2 hf rfl rfl (by decide) (fun a hf => ?_)
      refine sv_skip2 hf rfl rfl (by decide) (fun a hf => ?_)
      refine sv_skip2 hf rfl rfl (by decide) (fun a hf => ?_)
      refine sv_skip2 hf rfl rfl (by decide) (fun a hf => ?_)
      refine sv_skip1 hf rfl rfl (by decide) (by decide) (fun a hf => ?_)
      refine sv_pk hf rfl rfl (by decide) (fun a hf => ?_)
      refine sv_as hf rfl (by decide) (fun a hf => ?_)
      replace hf := hf.sub (env' := [(4, .bool true)]) (sub_cons rfl (sub_nil))
      refine sv_nil hf ?_
      refine wp_ret ?_
      try simp only [Exit.inBlock, Exit.then]
      have hr : eb = true := by rw [heb]; unfold endB; first | (simp [hq1]; done) | (simp [hq1]; omega)
      rw [hr]
      exact bodyPost_ret (res_tmp (d := 4) (v := .bool true) rfl (hf.rel 4 _ rfl)) hf.defers ⟨rfl, rfl⟩
    ·
      refine sv_cmp hf rfl rfl false (congrArg some (decide_eq_false hq1)) (by decide) (fun a hf => ?_)
      refine sv_mv hf rfl (by decide) (fun a hf => ?_)
      refine sv_want hf rfl rfl ?_
      refine sv_mv hf rfl (by decide) (fun a hf => ?_)
      refine sv_want hf rfl rfl ?_
      refine sv_mv hf rfl (by decide) (fun a hf => ?_)
      refine sv_want hf rfl rfl ?_
      rcases Decidable.em (x = 0) with hq2 | hq2
      ·
        refine sv_cmp hf rfl rfl true (congrArg some (decide_eq_true hq2)) (by decide) (fun a hf => ?_)
        refine sv_want hf rfl rfl ?_
        refine sv_mv hf rfl (by decide) (fun a hf => ?_)
        refine sv_want hf rfl rfl ?_
        refine sv_mv hf rfl (by decide) (fun a hf => ?_)
        refine sv_want hf rfl rfl ?_
        refine sv_len hf rfl Try.underlying22 (by decide) (fun a hf => ?_)
        refine sv_want hf rfl rfl ?_
        refine sv_mv hf rfl (by decide) (fun a hf => ?_)
        refine sv_want hf rfl rfl ?_
        refine sv_len hf rfl Try.underlying22 (by decide) (fun a hf => ?_)
        refine sv_want hf rfl rfl ?_
        rcases Decidable.em (0 ≤ ((k + 1 : Nat) : Int)) with hq3 | hq3
        ·
          refine sv_cmp hf rfl rfl true (congrArg some (decide_eq_true hq3)) (by decide) (fun a hf => ?_)
          refine sv_want hf rfl rfl ?_
          refine sv_pk hf rfl rfl (by decide) (fun a hf => ?_)
          refine sv_pk hf rfl rfl (by decide) (fun a hf => ?_)
          refine sv_as hf rfl (by decide) (fun a hf => ?_)
          replace hf := hf.sub (env' := [(4, .bool true)]) (sub_cons rfl (sub_nil))
          refine sv_nil hf ?_
          refine wp_ret ?_
          try simp only [Exit.inBlock, Exit.then]
          have hr : eb = true := by rw [heb]; unfold endB; first | (simp [hq1, hq2, hq3]; done) | (simp [hq1, hq2, hq3]; omega)
          rw [hr]
          exact bodyPost_ret (res_tmp (d := 4) (v := .bool true) rfl (hf.rel 4 _ rfl)) hf.defers ⟨rfl, rfl⟩
        ·
          refine sv_cmp hf rfl rfl false (congrArg some (decide_eq_false hq3)) (by decide) (fun a hf => ?_)
          refine sv_want hf rfl rfl ?_
          refine sv_pk hf rfl rfl (by decide) (fun a hf => ?_)
          refine sv_pk hf rfl rfl (by decide) (fun a hf => ?_)
          refine sv_as hf rfl (by decide) (fun a hf => ?_)
          replace hf := hf.sub (env' := [(4, .bool false)]) (sub_cons rfl (sub_nil))
          refine sv_nil hf ?_
          refine wp_ret ?_
          try simp only [Exit.inBlock, Exit.then]
          have hr : eb = false := by rw [heb]; unfold endB; first | (simp [hq1, hq2, hq3]; done) | (simp [hq1, hq2, hq3]; omega)
          rw [hr]
          exact bodyPost_ret (res_tmp (d := 4) (v := .bool false) rfl (hf.rel 4 _ rfl)) hf.defers ⟨rfl, rfl⟩
      ·
        refine sv_cmp hf rfl rfl false (congrArg some (decide_eq_false hq2)) (by decide) (fun a hf => ?_)
        refine sv_want hf rfl rfl ?_
        refine sv_mv hf rfl (by decide) (fun a hf => ?_)
        refine sv_skip1 hf rfl rfl (by decide) (by decide) (fun a hf => ?_)
        refine sv_skip1 hf rfl rfl (by decide) (by decide) (fun a hf => ?_)
        refine sv_skip1 hf rfl rfl (by decide) (by decide) (fun a hf => ?_)
        refine sv_skip1 hf rfl rfl (by decide) (by decide) (fun a hf => ?_)
        refine sv_skip1 hf rfl rfl (by decide) (by decide) (fun a hf => ?_)
        refine sv_want hf rfl rfl ?_
        refine sv_pk hf rfl rfl (by decide) (fun a hf => ?_)
        refine sv_pk hf rfl rfl (by decide) (fun a hf => ?_)
        refine sv_as hf rfl (by decide) (fun a hf => ?_)
        replace hf := hf.sub (env' := [(4, .bool false)]) (sub_cons rfl (sub_nil))
        refine sv_nil hf ?_
        refine wp_ret ?_
        try simp only [Exit.inBlock, Exit.then]
        have hr : eb = false := by rw [heb]; unfold endB; first | (simp [hq1, hq2]; done) | (simp [hq1, hq2]; omega)
        rw [hr]
        exact bodyPost_ret (res_tmp (d := 4) (v := .bool false) rfl (hf.rel 4 _ rfl)) hf.defers ⟨rfl, rfl⟩
  ·
    refine calls_frv (N := 42) (vs := [.slice (some ⟨B, o, none⟩) (k + 1) gc, .slice (some ⟨C, p, none⟩) (j + 1) hc]) [(0, .slice (some ⟨B, o, none⟩) (k + 1) gc), (1, .slice (some ⟨C, p, none⟩) (j + 1) hc)] Try.func26 rfl rfl (of_decide_eq_true rfl) (fun p hp => by simp only [List.mem_cons, List.not_mem_nil, or_false] at hp; rcases hp with rfl | rfl <;> rfl) (fun a hf => ?_)
    have hX := Bx.start w
    refine wp_seq ?_
    refine wp_region_lit ?_
    refine sv_ac hf (by decide) (fun a hf => ?_)
    refine sv_nil hf ?_
    refine wp_seq ?_
    refine wp_region_lit ?_
    refine sv_ac hf (by decide) (fun a hf => ?_)
    refine sv_ac hf (by decide) (fun a hf => ?_)
    refine sv_nil hf ?_
    refine wp_seq ?_
    refine wp_seq ?_
    refine wp_region_lit ?_
    refine sv_mv hf rfl (by decide) (fun a hf => ?_)
    refine sv_len hf rfl Try.underlying22 (by decide) (fun a hf => ?_)
    refine sv_cmp hf rfl rfl true (congrArg some (decide_eq_true (by omega))) (by decide) (fun a hf => ?_)
    replace hf := hf.sub (env' := [(9, .bool true), (6, .int .i64 0), (5, .int .i64 0), (4, .bool false), (0, .slice (some ⟨B, o, none⟩) (k + 1) gc), (1, .slice (some ⟨C, p, none⟩) (j + 1) hc)]) (sub_cons rfl (sub_cons rfl (sub_cons rfl (sub_cons rfl (sub_cons rfl (sub_cons rfl (sub_nil)))))))
    refine sv_nil hf ?_
    refine wp_cond_true (hf.rel _ _ rfl) ?_
    refine wp_region_lit ?_
    refine sv_mv hf rfl (by decide) (fun a hf => ?_)
    refine sv_mv hf rfl (by decide) (fun a hf => ?_)
    refine sv_len hf rfl Try.underlying22 (by decide) (fun a hf => ?_)
    refine sv_sub (k : Int) hf rfl rfl (by rw [wrap_in (by omega)]; omega) (by decide) (fun a hf => ?_)
    refine sv_idx (q := k) hf rfl rfl (by omega) Try.underlying22 einfo_ents (by decide) (fun a hf => ?_)
    refine sv_fld hf rfl Try.underlying73 rfl sz_int (o + k * 82) rfl (by decide) (fun a hf => ?_)
    refine sv_lm hf rfl (show w.cell? ⟨B, o + k * 82, none⟩ = _ from hcB) Try.underlying3 rfl (by decide) (fun a hf => ?_)
    refine sv_as hf rfl (by decide) (fun a hf => ?_)
    replace hf := hf.sub (env' := [(5, .int .i64 x), (6, .int .i64 0), (4, .bool false), (0, .slice (some ⟨B, o, none⟩) (k + 1) gc), (1, .slice (some ⟨C, p, none⟩) (j + 1) hc)]) (sub_cons rfl (sub_cons rfl (sub_cons rfl (sub_cons rfl (sub_cons rfl (sub_nil))))))
    refine sv_nil hf ?_
    refine wp_seq ?_
    refine wp_seq ?_
    refine wp_region_lit ?_
    refine sv_mv hf rfl (by decide) (fun a hf => ?_)
    refine sv_len hf rfl Try.underlying22 (by decide) (fun a hf => ?_)
    refine sv_cmp hf rfl rfl true (congrArg some (decide_eq_true (by omega))) (by decide) (fun a hf => ?_)
    replace hf := hf.sub (env' := [(19, .bool true), (5, .int .i64 x), (6, .int .i64 0), (4, .bool false), (0, .slice (some ⟨B, o, none⟩) (k + 1) gc), (1, .slice (some ⟨C, p, none⟩) (j + 1) hc)]) (sub_cons rfl (sub_cons rfl (sub_cons rfl (sub_cons rfl (sub_cons rfl (sub_cons rfl (sub_nil)))))))
    refine sv_nil hf ?_
    refine wp_cond_true (hf.rel _ _ rfl) ?_
    refine wp_region_lit ?_
    refine sv_mv hf rfl (by decide) (fun a hf => ?_)
    refine sv_mv hf rfl (by decide) (fun a hf => ?_)
    refine sv_len hf rfl Try.underlying22 (by decide) (fun a hf => ?_)
    refine sv_sub (j : Int) hf rfl rfl (by rw [wrap_in (by omega)]; omega) (by decide) (fun a hf => ?_)
    refine sv_idx (q := j) hf rfl rfl (by omega) Try.underlying22 einfo_ents (by decide) (fun a hf => ?_)
    refine sv_fld hf rfl Try.underlying73 rfl sz_int (p + j * 82) rfl (by decide) (fun a hf => ?_)
    refine sv_lm hf rfl (show w.cell? ⟨C, p + j * 82, none⟩ = _ from hcC) Try.underlying3 rfl (by decide) (fun a hf => ?_)
    refine sv_as hf rfl (by decide) (fun a hf => ?_)
    replace hf := hf.sub (env' := [(6, .int .i64 y), (5, .int .i64 x), (4, .bool false), (0, .slice (some ⟨B, o, none⟩) (k + 1) gc), (1, .slice (some ⟨C, p, none⟩) (j + 1) hc)]) (sub_cons rfl (sub_cons rfl (sub_cons rfl (sub_cons rfl (sub_cons rfl (sub_nil))))))
    refine sv_nil hf ?_
    refine wp_seq ?_
    refine wp_region_lit ?_
    refine sv_mv hf rfl (by decide) (fun a hf => ?_)
    refine sv_mv hf rfl (by decide) (fun a hf => ?_)
    rcases Decidable.em (y < x) with hq1 | hq1
    ·
      refine sv_cmp hf rfl rfl true (congrArg some (decide_eq_true hq1)) (by decide) (fun a hf => ?_)
      refine sv_mv hf rfl (by decide) (fun a hf => ?_)
      refine sv_skip1 hf rfl rfl (by decide) (by decide) (fun a hf => ?_)
      refine sv_skip1 hf rfl rfl (by decide) (by decide) (fun a hf => ?_)
      refine sv_skip1 hf rfl rfl (by decide) (by decide) (fun a hf => ?_)
      refine sv_skip1 hf rfl rfl (by decide) (by decide) (fun a hf => ?_)
      refine sv_skip2 hf rfl rfl (by decide) (fun a hf => ?_)
      refine sv_skip2 hf rfl rfl (by decide) (fun a hf => ?_)
      refine sv_skip2 hf rfl rfl (by decide) (fun a hf => ?_)
      refine sv_skip2 hf rfl rfl (by decide) (fun a hf => ?_)
      refine sv_skip2 hf rfl rfl (by decide) (fun a hf => ?_)
      refine sv_skip1 hf rfl rfl (by decide) (by decide) (fun a hf => ?_)
      refine sv_pk hf rfl rfl (by decide) (fun a hf => ?_)
      refine sv_as hf rfl (by decide) (fun a hf => ?_)
      replace hf := hf.sub (env' := [(4, .bool true)]) (sub_cons rfl (sub_nil))
      refine sv_nil hf ?_
      refine wp_ret ?_
      try simp only [Exit.inBlock, Exit.then]
      have hr : eb = true := by rw [heb]; unfold endB; first | (simp [hq1]; done) | (simp [hq1]; omega)
      rw [hr]
      exact bodyPost_ret (res_tmp (d := 4) (v := .bool true) rfl (hf.rel 4 _ rfl)) hf.defers ⟨rfl, rfl⟩
    ·
      refine sv_cmp hf rfl rfl false (congrArg some (decide_eq_false hq1)) (by decide) (fun a hf => ?_)
      refine sv_mv hf rfl (by decide) (fun a hf => ?_)
      refine sv_want hf rfl rfl ?_
      refine sv_mv hf rfl (by decide) (fun a hf => ?_)
      refine sv_want hf rfl rfl ?_
      refine sv_mv hf rfl (by decide) (fun a hf => ?_)
      refine sv_want hf rfl rfl ?_
      rcases Decidable.em (x = y) with hq2 | hq2
      ·
        refine sv_cmp hf rfl rfl true (congrArg some (decide_eq_true hq2)) (by decide) (fun a hf => ?_)
        refine sv_want hf rfl rfl ?_
        refine sv_mv hf rfl (by decide) (fun a hf => ?_)
        refine sv_want hf rfl rfl ?_
        refine sv_mv hf rfl (by decide) (fun a hf => ?_)
        refine sv_want hf rfl rfl ?_
        refine sv_len hf rfl Try.underlying22 (by decide) (fun a hf => ?_)
        refine sv_want hf rfl rfl ?_
        refine sv_mv hf rfl (by decide) (fun a hf => ?_)
        refine sv_want hf rfl rfl ?_
        refine sv_len hf rfl Try.underlying22 (by decide) (fun a hf => ?_)
        refine sv_want hf rfl rfl ?_
        rcases Decidable.em (((j + 1 : Nat) : Int) ≤ ((k + 1 : Nat) : Int)) with hq3 | hq3
        ·
          refine sv_cmp hf rfl rfl true (congrArg some (decide_eq_true hq3)) (by decide) (fun a hf => ?_)
          refine sv_want hf rfl rfl ?_
          refine sv_pk hf rfl rfl (by decide) (fun a hf => ?_)
          refine sv_pk hf rfl rfl (by decide) (fun a hf => ?_)
          refine sv_as hf rfl (by decide) (fun a hf => ?_)
          replace hf := hf.sub (env' := [(4, .bool true)]) (sub_cons rfl (sub_nil))
          refine sv_nil hf ?_
          refine wp_ret ?_
          try simp only [Exit.inBlock, Exit.then]
          have hr : eb = true := by rw [heb]; unfold endB; first | (simp [hq1, hq2, hq3]; done) | (simp [hq1, hq2, hq3]; omega)
          rw [hr]
          exact bodyPost_ret (res_tmp (d := 4) (v := .bool true) rfl (hf.rel 4 _ rfl)) hf.defers ⟨rfl, rfl⟩
        ·
          refine sv_cmp hf rfl rfl false (congrArg some (decide_eq_false hq3)) (by decide) (fun a hf => ?_)
          refine sv_want hf rfl rfl ?_
          refine sv_pk hf rfl rfl (by decide) (fun a hf => ?_)
          refine sv_pk hf rfl rfl (by decide) (fun a hf => ?_)
          refine sv_as hf rfl (by decide) (fun a hf => ?_)
          replace hf := hf.sub (env' := [(4, .bool false)]) (sub_cons rfl (sub_nil))
          refine sv_nil hf ?_
          refine wp_ret ?_
          try simp only [Exit.inBlock, Exit.then]
          have hr : eb = false := by rw [heb]; unfold endB; first | (simp [hq1, hq2, hq3]; done) | (simp [hq1, hq2, hq3]; omega)
          rw [hr]
          exact bodyPost_ret (res_tmp (d := 4) (v := .bool false) rfl (hf.rel 4 _ rfl)) hf.defers ⟨rfl, rfl⟩
      ·
        refine sv_cmp hf rfl rfl false (congrArg some (decide_eq_false hq2)) (by decide) (fun a hf => ?_)
        refine sv_want hf rfl rfl ?_
        refine sv_mv hf rfl (by decide) (fun a hf => ?_)
        refine sv_skip1 hf rfl rfl (by decide) (by decide) (fun a hf => ?_)
        refine sv_skip1 hf rfl rfl (by decide) (by decide) (fun a hf => ?_)
        refine sv_skip1 hf rfl rfl (by decide) (by decide) (fun a hf => ?_)
        refine sv_skip1 hf rfl rfl (by decide) (by decide) (fun a hf => ?_)
        refine sv_skip1 hf rfl rfl (by decide) (by decide) (fun a hf => ?_)
        refine sv_want hf rfl rfl ?_
        refine sv_pk hf rfl rfl (by decide) (fun a hf => ?_)
        refine sv_pk hf rfl rfl (by decide) (fun a hf => ?_)
        refine sv_as hf rfl (by decide) (fun a hf => ?_)
        replace hf := hf.sub (env' := [(4, .bool false)]) (sub_cons rfl (sub_nil))
        refine sv_nil hf ?_
        refine wp_ret ?_
        try simp only [Exit.inBlock, Exit.then]
        have hr : eb = false := by rw [heb]; unfold endB; first | (simp [hq1, hq2]; done) | (simp [hq1, hq2]; omega)
        rw [hr]
        exact bodyPost_ret (res_tmp (d := 4) (v := .bool false) rfl (hf.rel 4 _ rfl)) hf.defers ⟨rfl, rfl⟩
end Go.Proofs.Ytfpgklhbghahoaa
/- Values that hold the same, over worlds: transitivity; logs and places of copies (plain). -/
namespace Go.Proofs.Ytfpgklhbghahoaa
open Go.ChangeShapes Go.WideShapes Go.ChangeAt Go.RowKit Go.ChangeMaps Go.Joins Go.Deep
set_option linter.unusedVariables false
set_option linter.unusedSimpArgs false
set_option maxRecDepth 100000
theorem range_uniq {W : World} {B o : Nat} {xs ys : List Value} (hl : xs.length = ys.length) (hx : W.rangeAt B o xs) (hy : W.rangeAt B o ys) : xs = ys := by
  refine List.ext_getElem hl (fun j h1 h2 => ?_)
  have a := hx j _ (List.getElem?_eq_getElem h1)
  have b := hy j _ (List.getElem?_eq_getElem h2)
  rw [a] at b
  exact Option.some.inj b
theorem EqC.trans {P : Program} {W W' W2 : World} {F F' G G' : Nat → Prop} : ∀ (n : Nat) (t : TypeId) (xs ys zs : List Value), EqC P W W' F F' n t xs ys → EqC P W' W2 G G' n t ys zs → EqC P W W2 F G' n t xs zs
  | 0, _, _, _, _, h, _ => h
  | n + 1, t, xs, ys, zs, h, h' => by
    unfold EqC at h h' ⊢
    split at h
    · rename_i hu
      simp only [hu] at h' ⊢
      obtain ⟨b, rfl, rfl⟩ := h
      obtain ⟨b', e, rfl⟩ := h'
      obtain rfl : b = b' := by injection (List.cons.inj e).1
      exact ⟨b, rfl, rfl⟩
    · rename_i k hu
      simp only [hu] at h' ⊢
      obtain ⟨b, rfl, rfl, hw⟩ := h
      obtain ⟨b', e, rfl, _⟩ := h'
      obtain rfl : b = b' := by injection (List.cons.inj e).1
      exact ⟨b, rfl, rfl, hw⟩
    · rename_i hu
      simp only [hu] at h' ⊢
      obtain ⟨b, rfl, rfl, hw⟩ := h
      obtain ⟨b', e, rfl, _⟩ := h'
      obtain rfl : b = b' := by injection (List.cons.inj e).1
      exact ⟨b, rfl, rfl, hw⟩
    · rename_i e hu
      simp only [hu] at h' ⊢
      obtain ⟨a, l, c, a', c', rfl, rfl, h3, h4, h5, h6, h7⟩ := h
      obtain ⟨a1, l1, c1, a2, c2, e1, rfl, g3, g4, g5, g6, g7⟩ := h'
      obtain ⟨rfl, rfl, rfl⟩ := Value.slice.inj (List.cons.inj e1).1
      refine ⟨a, l, c, a2, c2, rfl, rfl, h3, h4, g5, g6, fun h0 => ?_⟩
      obtain ⟨B, o, B', o', e2, e3, hB, hB', hj⟩ := h7 h0
      obtain ⟨C, p, C', p', e4, e5, hC, hC', hj'⟩ := g7 h0
      rw [e3] at e4
      obtain ⟨rfl, rfl, _⟩ := Addr.mk.inj (Option.some.inj e4)
      refine ⟨B, o, C', p', e2, e5, hB, hC', fun j hjl => ?_⟩
      obtain ⟨us, vs, k1, k2, k3, k4, k5⟩ := hj j hjl
      obtain ⟨us', vs', m1, m2, m3, m4, m5⟩ := hj' j hjl
      obtain rfl := range_uniq (k2.trans m1.symm) k4 m3
      exact ⟨us, vs', k1, m2, k3, m4, EqC.trans n _ _ _ _ k5 m5⟩
    · rename_i fs hu
      simp only [hu] at h' ⊢
      exact ⟨h.1, h'.2.1, fun i f hf => EqC.trans n _ _ _ _ (h.2.2 i f hf) (h'.2.2 i f hf)⟩
    · exact h.elim
theorem eqC_int2W {W W' : World} {F F' : Nat → Prop} {n : Nat} {x y : Value} (h : EqC Try.prog W W' F F' n 3 [x] [y]) : ∃ t, x = .int .i64 t ∧ y = .int .i64 t := by
  cases n with
  | zero => exact h.elim
  | succ n =>
    unfold EqC at h
    simp only [Try.underlying3] at h
    obtain ⟨t, g1, g2, g3⟩ := h
    exact ⟨t, (List.cons.inj g1).1, (List.cons.inj g2).1⟩
theorem ent_headsW {W W' : World} {F F' : Nat → Prop} {n : Nat} {xs ys : List Value} (h : EqC Try.prog W W' F F' n 73 xs ys) : xs.length = 82 ∧ ys.length = 82 ∧ ∃ t s r r', xs = .int .i64 t :: .int .i64 s :: r ∧ ys = .int .i64 t :: .int .i64 s :: r' := by
  have e82 : Try.prog.cellsOf 73 = 82 := by kernel_rfl
  have e3 : Try.prog.cellsOf 3 = 1 := by kernel_rfl
  cases n with
  | zero => exact h.elim
  | succ n =>
    obtain ⟨k1, k2, k5⟩ := (eqC_struct Try.underlying73).1 h
    rw [e82] at k1 k2
    have f0 : EqC Try.prog W W' F F' n 3 (part_ xs 0 (Try.prog.cellsOf 3)) (part_ ys 0 (Try.prog.cellsOf 3)) := k5 0 _ rfl
    have f1 : EqC Try.prog W W' F F' n 3 (part_ xs 1 (Try.prog.cellsOf 3)) (part_ ys 1 (Try.prog.cellsOf 3)) := k5 1 _ rfl
    rw [e3] at f0 f1
    match xs, k1, ys, k2 with
    | x :: x' :: xs, _, y :: y' :: ys, _ =>
      have g0 : EqC Try.prog W W' F F' n 3 [x] [y] := f0
      have g1 : EqC Try.prog W W' F F' n 3 [x'] [y'] := f1
      obtain ⟨t, rfl, rfl⟩ := eqC_int2W g0
      obtain ⟨s, rfl, rfl⟩ := eqC_int2W g1
      exact ⟨by assumption, by assumption, t, s, xs, ys, rfl, rfl⟩
/-- the log of a copy: as many entries, of the same terms and times -/
theorem ents_copyW {W W' : World} {F F' : Nat → Prop} {n : Nat} {u v : Value} {es : List (List Value)} (he : EntArg W u es) (h : EqC Try.prog W W' F F' n 22 [u] [v]) : ∃ es', EntArg W' v es' ∧ es'.length = es.length ∧ es'.map trm = es.map trm ∧ es'.map stp = es.map stp := by
  have e82 : Try.prog.cellsOf 73 = 82 := by kernel_rfl
  cases n with
  | zero => exact h.elim
  | succ n =>
    unfold EqC at h
    simp only [Try.underlying22] at h
    obtain ⟨a, l, c, a', c', h1, h2, h3, h4, h5, h6, h7⟩ := h
    obtain rfl := (List.cons.inj h1).1
    obtain rfl := (List.cons.inj h2).1
    rcases he with ⟨rfl, a0, c0, e0⟩ | ⟨B0, o0, c0, e0, hB0, hl0, hm0, hj0⟩
    · obtain ⟨_, rfl, _⟩ := Value.slice.inj e0
      exact ⟨[], .inl ⟨rfl, _, _, rfl⟩, rfl, rfl, rfl⟩
    · obtain ⟨rfl, rfl, rfl⟩ := Value.slice.inj e0
      obtain ⟨B, o, B', o', eB, rfl, hB, hB', hj⟩ := h7 hl0
      obtain ⟨rfl, rfl, _⟩ := Addr.mk.inj (Option.some.inj eB)
      have key : ∀ j, j < es.length → ∃ y, W'.rangeAt B' (o' + j * 82) y ∧ Ent y ∧ ∀ (hj' : j < es.length), trm y = trm es[j] ∧ stp y = stp es[j] := by
        intro j hjl
        obtain ⟨xs, ys, k1, k2, k3, k4, k5⟩ := hj j hjl
        rw [e82] at k1 k2 k3 k4
        obtain ⟨_, hy82, t, s, r, r', rfl, rfl⟩ := ent_headsW k5
        refine ⟨_, k4, ⟨hy82, good_cells_of (by decide) (EqC.good _ _ _ _ (EqC.symm _ _ _ _ k5)), t, s, r', rfl⟩, fun _ => ?_⟩
        obtain ⟨hr, _, _, t0, s0, r0, e0⟩ := hj0 j hjl
        rw [e0] at hr ⊢
        have c0 := hr 0 _ rfl
        have c1 := hr 1 _ rfl
        have d0 := k3 0 _ rfl
        have d1 := k3 1 _ rfl
        rw [d0] at c0
        rw [d1] at c1
        have q0 := Option.some.inj c0
        have q1 := Option.some.inj c1
        injection q0 with _ q0
        injection q1 with _ q1
        exact ⟨q0, q1⟩
      obtain ⟨es', hl', hp'⟩ := list_of es.length key
      refine ⟨es', .inr ⟨B', o', c', by rw [hl'], hB'.2, by omega, by omega, fun j hj => ⟨(hp' j hj).1, (hp' j hj).2.1⟩⟩, hl', ?_, ?_⟩
      · refine List.ext_getElem (by simp [hl']) (fun j g1 g2 => ?_)
        simp only [List.getElem_map]
        exact ((hp' j (by simpa using g1)).2.2 (by simpa using g2)).1
      · refine List.ext_getElem (by simp [hl']) (fun j g1 g2 => ?_)
        simp only [List.getElem_map]
        exact ((hp' j (by simpa using g1)).2.2 (by simpa using g2)).2
theorem ints_copyW {W W' : World} {F F' : Nat → Prop} {n : Nat} {u v : Value} {xs : List Int} (he : IntsIn W u xs) (h : EqC Try.prog W W' F F' n 23 [u] [v]) : IntsIn W' v xs := by
  have e1 : Try.prog.cellsOf 3 = 1 := by kernel_rfl
  cases n with
  | zero => exact h.elim
  | succ n =>
    unfold EqC at h
    simp only [Try.underlying23] at h
    obtain ⟨a, l, c, a', c', h1, h2, h3, h4, h5, h6, h7⟩ := h
    obtain rfl := (List.cons.inj h1).1
    obtain rfl := (List.cons.inj h2).1
    rcases he with ⟨rfl, a0, c0, e0⟩ | ⟨B0, o0, c0, e0, hB0, hl0, hm0, hj0⟩
    · obtain ⟨_, rfl, _⟩ := Value.slice.inj e0
      exact .inl ⟨rfl, _, _, rfl⟩
    · obtain ⟨rfl, rfl, rfl⟩ := Value.slice.inj e0
      obtain ⟨B, o, B', o', eB, rfl, hB, hB', hj⟩ := h7 hl0
      obtain ⟨rfl, rfl, _⟩ := Addr.mk.inj (Option.some.inj eB)
      refine .inr ⟨B', o', c', rfl, hB'.2, hl0, hm0, fun j hjl => ?_⟩
      obtain ⟨ys, zs, k1, k2, k3, k4, k5⟩ := hj j hjl
      rw [e1] at k1 k2 k3 k4
      match ys, k1, zs, k2 with
      | [y], _, [z], _ =>
        obtain ⟨t, rfl, rfl⟩ := eqC_int2W k5
        have d0 := k3 0 _ rfl
        have c0 := hj0 j hjl
        rw [Nat.mul_one, Nat.add_zero] at d0
        rw [d0] at c0
        obtain rfl : t = xs[j] := by have := Option.some.inj c0; injection this
        have c1 := k4 0 _ rfl
        rwa [Nat.mul_one, Nat.add_zero] at c1
theorem lastAt_W {W W' : World} {F F' : Nat → Prop} {n : Nat} {u v : Value} {t : Int} (h : EqC Try.prog W W' F F' n 22 [u] [v]) (hu : LastAt W u t) : LastAt W' v t := by
  have e82 : Try.prog.cellsOf 73 = 82 := by kernel_rfl
  cases n with
  | zero => exact h.elim
  | succ n =>
    unfold EqC at h
    simp only [Try.underlying22] at h
    obtain ⟨a, l, c, a', c', h1, h2, h3, h4, h5, h6, h7⟩ := h
    obtain rfl := (List.cons.inj h1).1
    obtain rfl := (List.cons.inj h2).1
    obtain ⟨_, _, _, e, hu⟩ := hu
    obtain ⟨rfl, rfl, rfl⟩ := Value.slice.inj e
    refine ⟨_, _, _, rfl, ?_⟩
    rcases hu with hu | ⟨B, o, k, rfl, rfl, hl, hB, hc⟩
    · exact .inl hu
    · obtain ⟨B1, o1, B', o', e1, rfl, hB1, hB', hj⟩ := h7 (Nat.succ_pos k)
      obtain ⟨rfl, rfl, _⟩ := Addr.mk.inj (Option.some.inj e1)
      obtain ⟨xs, ys, k1, k2, k3, k4, k5⟩ := hj k (Nat.lt_succ_self k)
      rw [e82] at k1 k2 k3 k4
      obtain ⟨_, _, t', s, r, r', rfl, rfl⟩ := ent_headsW k5
      have c0 := k3 0 _ rfl
      have c1 := k4 0 _ rfl
      rw [Nat.add_zero] at c0 c1
      rw [hc] at c0
      obtain rfl : t = t' := by have := Option.some.inj c0; injection this
      exact .inr ⟨B', o', k, rfl, rfl, hl, hB'.2, c1⟩
/-- entries out of a log that is good -/
theorem ents_good {W : World} {n : Nat} {v : Value} (h : GoodC Try.prog W n 22 [v]) : ∃ es, EntArg W v es := by
  have e82 : Try.prog.cellsOf 73 = 82 := by kernel_rfl
  have hq := EqC.refl (F := TT) (fun _ _ => trivial) _ _ _ h
  cases n with
  | zero => exact h.elim
  | succ n =>
    unfold EqC at hq
    simp only [Try.underlying22] at hq
    obtain ⟨a, l, c, a', c', h1, h2, h3, h4, h5, h6, h7⟩ := hq
    obtain rfl := (List.cons.inj h1).1
    rcases Nat.eq_zero_or_pos l with rfl | h0
    · exact ⟨[], .inl ⟨rfl, _, _, rfl⟩⟩
    · obtain ⟨B, o, B', o', rfl, _, hB, hB', hj⟩ := h7 h0
      have key : ∀ j, j < l → ∃ y, W.rangeAt B (o + j * 82) y ∧ Ent y := by
        intro j hjl
        obtain ⟨xs, ys, k1, k2, k3, k4, k5⟩ := hj j hjl
        rw [e82] at k1 k2 k3 k4
        obtain ⟨hx82, hy82, t, s, r, r', rfl, rfl⟩ := ent_headsW k5
        exact ⟨_, k3, hx82, good_cells_of (by decide) (EqC.good _ _ _ _ k5), t, s, r, rfl⟩
      obtain ⟨es, hl', hp'⟩ := list_of l key
      have hm : l ≤ 9223372036854775807 := by have := h4.1; unfold maxLen at this; omega
      exact ⟨es, .inr ⟨B, o, c, by rw [hl'], hB.2, by omega, by omega, fun j hj => hp' j hj⟩⟩
end Go.Proofs.Ytfpgklhbghahoaa
