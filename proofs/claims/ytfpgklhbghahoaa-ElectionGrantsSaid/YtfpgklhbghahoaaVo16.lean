/- Merged texts: Eh22, Eh23. -/
import Derived.Test.YtfpgklhbghahoaaVo15
/- Election: logs and places of copies; a member's state stays possible when it votes (plain). -/
namespace Go.Proofs.Ytfpgklhbghahoaa
open Go.ChangeShapes Go.WideShapes Go.ChangeAt Go.RowKit Go.ChangeMaps Go.Joins Go.Deep
set_option linter.unusedVariables false
set_option linter.unusedSimpArgs false
set_option maxRecDepth 100000
theorem eqC_int2 {W : World} {n : Nat} {x y : Value} (h : EqC Try.prog W W TT TT n 3 [x] [y]) : ∃ t, x = .int .i64 t ∧ y = .int .i64 t := by
  cases n with
  | zero => exact h.elim
  | succ n =>
    unfold EqC at h
    simp only [Try.underlying3] at h
    obtain ⟨t, g1, g2, g3⟩ := h
    exact ⟨t, (List.cons.inj g1).1, (List.cons.inj g2).1⟩
theorem ent_heads {W : World} {n : Nat} {xs ys : List Value} (h : EqC Try.prog W W TT TT n 73 xs ys) : xs.length = 82 ∧ ys.length = 82 ∧ ∃ t s r r', xs = .int .i64 t :: .int .i64 s :: r ∧ ys = .int .i64 t :: .int .i64 s :: r' := by
  have e82 : Try.prog.cellsOf 73 = 82 := by kernel_rfl
  have e3 : Try.prog.cellsOf 3 = 1 := by kernel_rfl
  cases n with
  | zero => exact h.elim
  | succ n =>
    obtain ⟨k1, k2, k5⟩ := (eqC_struct Try.underlying73).1 h
    rw [e82] at k1 k2
    have f0 : EqC Try.prog W W TT TT n 3 (part_ xs 0 (Try.prog.cellsOf 3)) (part_ ys 0 (Try.prog.cellsOf 3)) := k5 0 _ rfl
    have f1 : EqC Try.prog W W TT TT n 3 (part_ xs 1 (Try.prog.cellsOf 3)) (part_ ys 1 (Try.prog.cellsOf 3)) := k5 1 _ rfl
    rw [e3] at f0 f1
    match xs, k1, ys, k2 with
    | x :: x' :: xs, _, y :: y' :: ys, _ =>
      have g0 : EqC Try.prog W W TT TT n 3 [x] [y] := f0
      have g1 : EqC Try.prog W W TT TT n 3 [x'] [y'] := f1
      obtain ⟨t, rfl, rfl⟩ := eqC_int2 g0
      obtain ⟨s, rfl, rfl⟩ := eqC_int2 g1
      exact ⟨by assumption, by assumption, t, s, xs, ys, rfl, rfl⟩
theorem list_of {P : Nat → List Value → Prop} : ∀ (k : Nat), (∀ j, j < k → ∃ y, P j y) → ∃ l : List (List Value), l.length = k ∧ ∀ j (hj : j < l.length), P j l[j]
  | 0, _ => ⟨[], rfl, fun j hj => absurd hj (Nat.not_lt_zero j)⟩
  | k + 1, h => by
    obtain ⟨l, hl, hp⟩ := list_of k (fun j hj => h j (by omega))
    obtain ⟨y, hy⟩ := h k (by omega)
    refine ⟨l ++ [y], by simp [hl], fun j hj => ?_⟩
    rcases Nat.lt_or_ge j k with h1 | h1
    · rw [List.getElem_append_left (by omega)]; exact hp j (by omega)
    · obtain rfl : j = k := by simp [hl] at hj; omega
      rw [List.getElem_append_right (by omega)]
      simp only [hl, Nat.sub_self, List.getElem_cons_zero]
      exact hy
/-- the log of a copy: as many entries, of the same terms and times -/
theorem ents_copy {W : World} {n : Nat} {u v : Value} {es : List (List Value)} (he : EntArg W u es) (h : EqC Try.prog W W TT TT n 22 [u] [v]) : ∃ es', EntArg W v es' ∧ es'.length = es.length ∧ es'.map trm = es.map trm ∧ es'.map stp = es.map stp := by
  have e82 : Try.prog.cellsOf 73 = 82 := by kernel_rfl
  cases n with
  | zero => exact h.elim
  | succ n =>
    unfold EqC at h
    simp only [Try.underlying22] at h
    obtain ⟨a, l, c, a', c', h1, h2, h3, h4, h5, h6, h7⟩ := h
    obtain rfl := (List.cons.inj h1).1
    obtain rfl := (List.cons.inj h2).1
    rcases he with ⟨rfl, a0, c0, e0⟩ | ⟨B0, o0, c0, e0, hB0, hl0, hm0, hj0⟩
    · obtain ⟨_, rfl, _⟩ := Value.slice.inj e0
      exact ⟨[], .inl ⟨rfl, _, _, rfl⟩, rfl, rfl, rfl⟩
    · obtain ⟨rfl, rfl, rfl⟩ := Value.slice.inj e0
      obtain ⟨B, o, B', o', eB, rfl, hB, hB', hj⟩ := h7 hl0
      obtain ⟨rfl, rfl, _⟩ := Addr.mk.inj (Option.some.inj eB)
      have key : ∀ j, j < es.length → ∃ y, W.rangeAt B' (o' + j * 82) y ∧ Ent y ∧ ∀ (hj' : j < es.length), trm y = trm es[j] ∧ stp y = stp es[j] := by
        intro j hjl
        obtain ⟨xs, ys, k1, k2, k3, k4, k5⟩ := hj j hjl
        rw [e82] at k1 k2 k3 k4
        obtain ⟨_, hy82, t, s, r, r', rfl, rfl⟩ := ent_heads k5
        refine ⟨_, k4, ⟨hy82, good_cells_of (by decide) (EqC.good _ _ _ _ (EqC.symm _ _ _ _ k5)), t, s, r', rfl⟩, fun _ => ?_⟩
        obtain ⟨hr, _, _, t0, s0, r0, e0⟩ := hj0 j hjl
        rw [e0] at hr ⊢
        have c0 := hr 0 _ rfl
        have c1 := hr 1 _ rfl
        have d0 := k3 0 _ rfl
        have d1 := k3 1 _ rfl
        rw [d0] at c0
        rw [d1] at c1
        have q0 := Option.some.inj c0
        have q1 := Option.some.inj c1
        injection q0 with _ q0
        injection q1 with _ q1
        exact ⟨q0, q1⟩
      obtain ⟨es', hl', hp'⟩ := list_of es.length key
      refine ⟨es', .inr ⟨B', o', c', by rw [hl'], hB'.2, by omega, by omega, fun j hj => ⟨(hp' j hj).1, (hp' j hj).2.1⟩⟩, hl', ?_, ?_⟩
      · refine List.ext_getElem (by simp [hl']) (fun j g1 g2 => ?_)
        simp only [List.getElem_map]
        exact ((hp' j (by simpa using g1)).2.2 (by simpa using g2)).1
      · refine List.ext_getElem (by simp [hl']) (fun j g1 g2 => ?_)
        simp only [List.getElem_map]
        exact ((hp' j (by simpa using g1)).2.2 (by simpa using g2)).2
theorem ints_copy {W : World} {n : Nat} {u v : Value} {xs : List Int} (he : IntsIn W u xs) (h : EqC Try.prog W W TT TT n 23 [u] [v]) : IntsIn W v xs := by
  have e1 : Try.prog.cellsOf 3 = 1 := by kernel_rfl
  cases n with
  | zero => exact h.elim
  | succ n =>
    unfold EqC at h
    simp only [Try.underlying23] at h
    obtain ⟨a, l, c, a', c', h1, h2, h3, h4, h5, h6, h7⟩ := h
    obtain rfl := (List.cons.inj h1).1
    obtain rfl := (List.cons.inj h2).1
    rcases he with ⟨rfl, a0, c0, e0⟩ | ⟨B0, o0, c0, e0, hB0, hl0, hm0, hj0⟩
    · obtain ⟨_, rfl, _⟩ := Value.slice.inj e0
      exact .inl ⟨rfl, _, _, rfl⟩
    · obtain ⟨rfl, rfl, rfl⟩ := Value.slice.inj e0
      obtain ⟨B, o, B', o', eB, rfl, hB, hB', hj⟩ := h7 hl0
      obtain ⟨rfl, rfl, _⟩ := Addr.mk.inj (Option.some.inj eB)
      refine .inr ⟨B', o', c', rfl, hB'.2, hl0, hm0, fun j hjl => ?_⟩
      obtain ⟨ys, zs, k1, k2, k3, k4, k5⟩ := hj j hjl
      rw [e1] at k1 k2 k3 k4
      match ys, k1, zs, k2 with
      | [y], _, [z], _ =>
        obtain ⟨t, rfl, rfl⟩ := eqC_int2 k5
        have d0 := k3 0 _ rfl
        have c0 := hj0 j hjl
        rw [Nat.mul_one, Nat.add_zero] at d0
        rw [d0] at c0
        obtain rfl : t = xs[j] := by have := Option.some.inj c0; injection this
        have c1 := k4 0 _ rfl
        rwa [Nat.mul_one, Nat.add_zero] at c1
theorem logB_congr (tm : Int) : ∀ (es es' : List (List Value)) (t s : Int), es'.map trm = es.map trm → es'.map stp = es.map stp → logB tm t s es' = logB tm t s es
  | [], [], _, _, _, _ => rfl
  | [], _ :: _, _, _, h, _ => by simp at h
  | _ :: _, [], _, _, h, _ => by simp at h
  | e :: r, e' :: r', t, s, h, h' => by
    simp only [List.map_cons, List.cons.injEq] at h h'
    unfold logB
    rw [h.1, h'.1, logB_congr tm r r' _ _ h.2 h'.2]
theorem logB_mono {tm tm' : Int} (hm : tm ≤ tm') : ∀ (es : List (List Value)) (t s : Int), logB tm t s es = true → logB tm' t s es = true
  | [], _, _, _ => rfl
  | e :: r, t, s, h => by
    unfold logB at h ⊢
    split at h
    · cases h
    · rename_i hn
      rw [if_neg (by omega)]
      exact logB_mono hm r _ _ h
/-- the state of a member that voted is possible -/
theorem valid_vote {id sz tm vt rl ld ti vs cm xt xf tm1 vt1 rl1 ld1 ti1 vs1 : Int} {es es' : List (List Value)} {xs ys xs' ys' : List Int} {gr nw : Bool} (hv : validB id sz tm vt rl ld ti vs cm es xs ys = true) (hf0 : 0 ≤ xf) (hf : xf < sz) (hfi : xf ≠ id) (hx0 : 0 ≤ xt)
    (hl : es'.length = es.length) (ht : es'.map trm = es.map trm) (hs : es'.map stp = es.map stp) (hX : xs' = if xt ≤ tm then xs else []) (hY : ys' = if xt ≤ tm then ys else [])
    (htm : tm1 = fTm tm xt) (hgr : gr = grantB xt xf tm1 (fVt tm xt vt) nw) (hvt : vt1 = if gr then xf else fVt tm xt vt) (hrl : rl1 = fRl tm xt rl) (hld : ld1 = fLd tm xt ld) (hti : ti1 = if gr then 10 + 3 * id else fTi tm xt rl ti id) (hvs : vs1 = fVs tm xt vs) :
    validB id sz tm1 vt1 rl1 ld1 ti1 vs1 cm es' xs' ys' = true := by
  have hv0 := hv
  unfold validB restB lgB at hv ⊢
  simp only [Bool.and_eq_true, decide_eq_true_eq] at hv ⊢
  obtain ⟨⟨⟨g1, g2, g3, g4, g5, g6, g7, g8, g9⟩, k1, k2, k3, k4, k5⟩, ⟨l1, l2, l3⟩, r⟩ := hv
  have htm1 : tm ≤ tm1 := by rw [htm]; unfold fTm; split <;> omega
  have hpos : (0 : Int) < 2 ^ sz.toNat := Int.pow_pos (by decide)
  have hvt' : -1 ≤ vt1 ∧ vt1 < sz := by
    rw [hvt]; unfold fVt; split <;> (try split) <;> omega
  have hti' : 0 ≤ ti1 := by
    rw [hti]; unfold fTi; split <;> (try split) <;> (try split) <;> omega
  have hld' : -1 ≤ ld1 ∧ ld1 < sz := by rw [hld]; unfold fLd; split <;> omega
  have hrl' : 0 ≤ rl1 ∧ rl1 ≤ 2 := by rw [hrl]; unfold fRl; split <;> omega
  have hvs' : 0 ≤ vs1 ∧ vs1 < 2 ^ sz.toNat := by rw [hvs]; unfold fVs; split <;> omega
  refine ⟨⟨⟨g1, g2, g3, g4, by omega, hvt'.1, hvt'.2, hld'.1, hld'.2⟩, hrl'.1, hrl'.2, hti', hvs'.1, hvs'.2⟩, ⟨?_, l2, by rw [hl]; exact l3⟩, ?_⟩
  · rw [logB_congr tm1 es es' 0 0 ht hs]; exact logB_mono htm1 es 0 0 l1
  · by_cases hle : xt ≤ tm
    · have e1 : tm1 = tm := by rw [htm]; unfold fTm; rw [if_pos hle]
      have e2 : rl1 = rl := by rw [hrl]; unfold fRl; rw [if_pos hle]
      have e3 : ld1 = ld := by rw [hld]; unfold fLd; rw [if_pos hle]
      have e4 : vs1 = vs := by rw [hvs]; unfold fVs; rw [if_pos hle]
      rw [if_pos hle] at hX hY
      subst hX hY e1 e2 e3 e4
      rw [hl]
      by_cases hr0 : rl1 = 0
      · unfold roleB at r ⊢; rw [if_pos hr0] at r ⊢; exact r
      · have hvi : vt = id := by
          unfold roleB at r
          rw [if_neg hr0] at r
          split at r <;> (unfold firstB at r; simp only [Bool.and_eq_true, decide_eq_true_eq] at r)
          · exact r.1.1.1.1.2
          · exact r.1.1.1.1.1.2
        have hvv : vt1 = vt := by
          have hfv : fVt tm1 xt vt = vt := by unfold fVt; rw [if_pos hle]
          rw [hvt, hfv]
          cases gr with
          | false => rfl
          | true =>
            exfalso
            rw [hfv] at hgr
            unfold grantB at hgr
            have := hgr.symm
            simp only [Bool.and_eq_true, Bool.or_eq_true, decide_eq_true_eq] at this
            omega
        rw [hvv]; exact r
    · have e2 : rl1 = 0 := by rw [hrl]; unfold fRl; rw [if_neg hle]
      rw [if_neg hle] at hX hY
      subst hX hY e2
      rfl
end Go.Proofs.Ytfpgklhbghahoaa
/- Election: a vote by letters; a second vote; the law Grants. -/
namespace Go.Proofs.Ytfpgklhbghahoaa
open Go.ChangeShapes Go.WideShapes Go.ChangeAt Go.RowKit Go.ChangeMaps Go.Joins Go.Deep
set_option linter.unusedVariables false
set_option linter.unusedSimpArgs false
set_option maxRecDepth 100000
theorem one_nat : ((1 : Nat) : Int) = 1 := rfl
/-- what a member is behind a vote -/
structure VLet (id tm vt rl ld ti vs xt xf : Int) (nw : Bool) (tm1 vt1 rl1 ld1 ti1 vs1 : Int) (gr : Bool) : Prop where
  etm : tm1 = fTm tm xt
  egr : gr = grantB xt xf tm1 (fVt tm xt vt) nw
  evt : vt1 = if gr then xf else fVt tm xt vt
  erl : rl1 = fRl tm xt rl
  eld : ld1 = fLd tm xt ld
  eti : ti1 = if gr then 10 + 3 * id else fTi tm xt rl ti id
  evs : vs1 = fVs tm xt vs
section
variable {id tm vt rl ld ti vs xt xf tm1 vt1 rl1 ld1 ti1 vs1 tm2 vt2 rl2 ld2 ti2 vs2 : Int} {nw gr gr2 : Bool}
theorem VLet.le (h : VLet id tm vt rl ld ti vs xt xf nw tm1 vt1 rl1 ld1 ti1 vs1 gr) : tm ≤ tm1 ∧ xt ≤ tm1 := by
  rw [h.etm]; unfold fTm; split <;> omega
theorem grant_parts {tm' vt' : Int} (h : grantB xt xf tm' vt' nw = true) : xt = tm' ∧ (vt' = -1 ∨ vt' = xf) ∧ nw = true := by
  unfold grantB at h
  simp only [Bool.and_eq_true, Bool.or_eq_true, decide_eq_true_eq] at h
  exact ⟨h.1.1, h.1.2, h.2⟩
theorem VLet.again (h : VLet id tm vt rl ld ti vs xt xf nw tm1 vt1 rl1 ld1 ti1 vs1 gr) (h' : VLet id tm1 vt1 rl1 ld1 ti1 vs1 xt xf nw tm2 vt2 rl2 ld2 ti2 vs2 gr2) : gr = gr2 ∧ tm1 = tm2 ∧ vt1 = vt2 ∧ rl1 = rl2 ∧ ld1 = ld2 ∧ ti1 = ti2 ∧ vs1 = vs2 := by
  have hx : xt ≤ tm1 := h.le.2
  have e1 : tm2 = tm1 := by rw [h'.etm]; unfold fTm; rw [if_pos hx]
  have e2 : rl2 = rl1 := by rw [h'.erl]; unfold fRl; rw [if_pos hx]
  have e3 : ld2 = ld1 := by rw [h'.eld]; unfold fLd; rw [if_pos hx]
  have e4 : vs2 = vs1 := by rw [h'.evs]; unfold fVs; rw [if_pos hx]
  have e5 : fVt tm1 xt vt1 = vt1 := by unfold fVt; rw [if_pos hx]
  have e6 : fTi tm1 xt rl1 ti1 id = ti1 := by unfold fTi; rw [if_pos hx]
  have hg2 := h'.egr
  rw [e1, e5] at hg2
  have hv2 := h'.evt
  have ht2 := h'.eti
  rw [e5] at hv2
  rw [e6] at ht2
  have hg : gr2 = gr := by
    rw [hg2]
    have h1 := h.egr
    have hv := h.evt
    cases gr with
    | false =>
      simp only [Bool.false_eq_true, if_false] at hv
      rw [hv, ← h1]
    | true =>
      simp only [if_true] at hv
      obtain ⟨p1, p2, p3⟩ := grant_parts h1.symm
      unfold grantB
      simp [hv, p1, p3]
  refine ⟨hg.symm, e1.symm, Eq.symm ?_, e2.symm, e3.symm, Eq.symm ?_, e4.symm⟩
  · rw [hv2, hg]
    have hv := h.evt
    cases gr with
    | false => rfl
    | true => simp only [if_true] at hv ⊢; exact hv.symm
  · rw [ht2, hg]
    have hv := h.eti
    cases gr with
    | false => rfl
    | true => simp only [if_true] at hv ⊢; exact hv.symm
theorem VLet.granted (h : VLet id tm vt rl ld ti vs xt xf nw tm1 vt1 rl1 ld1 ti1 vs1 true) : vt1 = xf ∧ tm1 = xt ∧ (tm = xt → ¬ vt = (-1) → vt = xf) := by
  have h1 := h.evt
  simp only [if_true] at h1
  obtain ⟨p1, p2, p3⟩ := grant_parts h.egr.symm
  refine ⟨h1, p1.symm, fun e hn => ?_⟩
  have e5 : fVt tm xt vt = vt := by unfold fVt; rw [if_pos (by omega)]
  rw [e5] at p2
  omega
end
theorem vote_let (n : Nat) (id sz tm vt rl ld ti vs : Int) (ga : Option Addr) (gl gc : Nat) (cm : Int) (na : Option Addr) (nl nc : Nat) (ma : Option Addr) (ml mc : Nat) (xf xto xk xt xi xl xc : Int) (ea : Option Addr) (el ec : Nat) (xok : Bool) (lt : Int) (W0 w : World) (hb0 : Below W0.heap.size W0 w) (hg : GoodC Try.prog W0 n 25 (memL id sz tm vt rl ld ti vs (.slice ga gl gc) cm (.slice na nl nc) (.slice ma ml mc))) (hlt : LastAt w (.slice ga gl gc) lt) (h0 : 0 ≤ id) (h7 : id ≤ 7) (hxk : xk = 1) :
    Calls Try.prog 19 #[mem id sz tm vt rl ld ti vs (.slice ga gl gc) cm (.slice na nl nc) (.slice ma ml mc), .agg #[.int .i64 xf, .int .i64 xto, .int .i64 xk, .int .i64 xt, .int .i64 xi, .int .i64 xl, .int .i64 xc, .slice ea el ec, .bool xok]] w fun e w' => ∃ tm1 vt1 rl1 ld1 ti1 vs1 gr ga1 gc1 na1 nl1 nc1 ma1 ml1 mc1 G, e = .returned (.tuple #[mem id sz tm1 vt1 rl1 ld1 ti1 vs1 (.slice ga1 gl gc1) cm (.slice na1 nl1 nc1) (.slice ma1 ml1 mc1), .slice (some ⟨G, 0, none⟩) 1 1]) ∧ VLet id tm vt rl ld ti vs xt xf (newB xl xi lt gl) tm1 vt1 rl1 ld1 ti1 vs1 gr ∧
      (∃ m, EqC Try.prog w' w' (fun k => k < W0.heap.size) (fun k => w.heap.size ≤ k) (m + 1) 22 [.slice ga gl gc] [.slice ga1 gl gc1] ∧ EqC Try.prog w' w' (fun k => k < W0.heap.size) (fun k => w.heap.size ≤ k) (m + 1) 23 [.slice (fA tm xt na) (fN tm xt nl) (fN tm xt nc)] [.slice na1 nl1 nc1] ∧ EqC Try.prog w' w' (fun k => k < W0.heap.size) (fun k => w.heap.size ≤ k) (m + 1) 23 [.slice (fA tm xt ma) (fN tm xt ml) (fN tm xt mc)] [.slice ma1 ml1 mc1]) ∧ Box w' G [.int .i64 id, .int .i64 xf, .int .i64 2, .int .i64 tm1, .int .i64 0, .int .i64 0, .int .i64 0, .slice none 0 0, .bool gr] ∧ w.heap.size ≤ G ∧ Below w.heap.size w w' := by
  refine (vote_any n id sz tm vt rl ld ti vs ga gl gc cm na nl nc ma ml mc xf xto xk xt xi xl xc ea el ec xok lt W0 w hb0 hg hlt h0 h7 hxk _ rfl).mono ?_
  rintro e w' ⟨ga2, gc2, na2, nc2, ma2, mc2, G, rfl, ⟨m, h8, h10, h11⟩, hG, hge, hb⟩
  exact ⟨_, _, _, _, _, _, _, _, _, _, _, _, _, _, _, _, rfl, ⟨rfl, rfl, rfl, rfl, rfl, rfl, rfl⟩, ⟨m, h8, fol_ints tm xt h10, fol_ints tm xt h11⟩, hG, hge, hb⟩
theorem valid_true (id sz tm vt rl ld ti vs : Int) (lg : Value) (es : List (List Value)) (cm : Int) (nx mt : Value) (xs ys : List Int) (w : World) (hl : es.length ≤ 100) (he : EntArg w lg es) (hX : IntsIn w nx xs) (hY : IntsIn w mt ys) (hv : validB id sz tm vt rl ld ti vs cm es xs ys = true) :
    Calls Try.prog 16 #[mem id sz tm vt rl ld ti vs lg cm nx mt] w fun e w' => e = .returned (.bool true) ∧ Below w.heap.size w w' := by
  have := valid_at id sz tm vt rl ld ti vs lg es cm nx mt xs ys w hl he hX hY
  rwa [hv] at this
theorem fol_in {W : World} (tm xt : Int) {na : Option Addr} {nl nc : Nat} {xs : List Int} (h : IntsIn W (.slice na nl nc) xs) : IntsIn W (.slice (fA tm xt na) (fN tm xt nl) (fN tm xt nc)) (if xt ≤ tm then xs else []) := by
  by_cases ht : xt ≤ tm
  · simp only [fA, fN, if_pos ht]; exact h
  · simp only [fA, fN, if_neg ht]; exact .inl ⟨rfl, _, _, rfl⟩
theorem fol_id {tm xt : Int} (h : xt ≤ tm) (a : Option Addr) (l c : Nat) : Value.slice (fA tm xt a) (fN tm xt l) (fN tm xt c) = .slice a l c := by simp only [fA, fN, if_pos h]
theorem vlet_wfs {id sz tm vt rl ld ti vs cm xt xf tm1 vt1 rl1 ld1 ti1 vs1 : Int} {nw gr : Bool} (h : VLet id tm vt rl ld ti vs xt xf nw tm1 vt1 rl1 ld1 ti1 vs1 gr) (hw : ∀ x ∈ [id, sz, tm, vt, rl, ld, ti, vs, cm], (Lit.int .i64 x).wf = true) (h0 : 0 ≤ id) (h7 : id ≤ 7) (hx : (Lit.int .i64 xt).wf = true) (hf : (Lit.int .i64 xf).wf = true) : ∀ x ∈ [id, sz, tm1, vt1, rl1, ld1, ti1, vs1, cm], (Lit.int .i64 x).wf = true := by
  rw [h.etm, h.evt, h.erl, h.eld, h.eti, h.evs]
  exact fol_wfs gr hw h0 h7 hx hf
theorem law_grants (n : Nat) (id sz tm vt rl ld ti vs : Int) (ga : Option Addr) (gc : Nat) (es : List (List Value)) (cm : Int) (na : Option Addr) (nl nc : Nat) (ma : Option Addr) (ml mc : Nat) (xs ys : List Int) (xf xto xk xt xi xl xc : Int) (ea : Option Addr) (el ec : Nat) (xok : Bool) (w : World) (hee : EntArg w (.slice ga es.length gc) es) (hXs : IntsIn w (.slice na nl nc) xs) (hYs : IntsIn w (.slice ma ml mc) ys) (hg : GoodC Try.prog w n 25 (memL id sz tm vt rl ld ti vs (.slice ga es.length gc) cm (.slice na nl nc) (.slice ma ml mc))) (hxt : (Lit.int .i64 xt).wf = true) :
    Calls Try.prog 8 #[mem id sz tm vt rl ld ti vs (.slice ga es.length gc) cm (.slice na nl nc) (.slice ma ml mc), .agg #[.int .i64 xf, .int .i64 xto, .int .i64 xk, .int .i64 xt, .int .i64 xi, .int .i64 xl, .int .i64 xc, .slice ea el ec, .bool xok]] w fun e w' => e = .returned (.bool true) ∧ Below w.heap.size w w' := by
  have hws := mem_wfs hg
  obtain ⟨lt, hlt, _⟩ := mem_last hg
  refine calls_frv (N := 134) (vs := [.agg #[.int .i64 id, .int .i64 sz, .int .i64 tm, .int .i64 vt, .int .i64 rl, .int .i64 ld, .int .i64 ti, .int .i64 vs, .slice ga es.length gc, .int .i64 cm, .slice na nl nc, .slice ma ml mc], .agg #[.int .i64 xf, .int .i64 xto, .int .i64 xk, .int .i64 xt, .int .i64 xi, .int .i64 xl, .int .i64 xc, .slice ea el ec, .bool xok]]) [(0, .agg #[.int .i64 id, .int .i64 sz, .int .i64 tm, .int .i64 vt, .int .i64 rl, .int .i64 ld, .int .i64 ti, .int .i64 vs, .slice ga es.length gc, .int .i64 cm, .slice na nl nc, .slice ma ml mc]), (1, .agg #[.int .i64 xf, .int .i64 xto, .int .i64 xk, .int .i64 xt, .int .i64 xi, .int .i64 xl, .int .i64 xc, .slice ea el ec, .bool xok])] Try.func8 rfl rfl (of_decide_eq_true rfl) (fun p hp => by simp only [List.mem_cons, List.not_mem_nil, or_false] at hp; rcases hp with rfl | rfl <;> rfl) (fun a hf => ?_)
  have hX := Bx.start w
  refine wp_seq ?_
  refine wp_region_lit ?_
  refine sv_boxB hf hX rfl (by decide) (fun a C1 W hC hf hX hA => ?_)
  clear hC hA
  refine sv_boxB hf hX rfl (by decide) (fun a C2 W hC hf hX hA => ?_)
  clear hC hA
  refine sv_ac hf (by decide) (fun a hf => ?_)
  replace hf := hf.sub (env' := [(4, .bool false), (3, .pointer (some ⟨C2, 0, none⟩)), (2, .pointer (some ⟨C1, 0, none⟩))]) (sub_cons rfl (sub_cons rfl (sub_cons rfl (sub_nil))))
  refine sv_nil hf ?_
  refine wp_seq ?_
  refine wp_region_lit ?_
  refine sv_fld hf rfl Try.underlying35 rfl sz_int (2) rfl (by decide) (fun a hf => ?_)
  refine sv_scB (cs' := [.int .i64 xf, .int .i64 xto, .int .i64 1, .int .i64 xt, .int .i64 xi, .int .i64 xl, .int .i64 xc, .slice ea el ec, .bool xok]) hf hX rfl rfl 0 rfl (of_decide_eq_true rfl) rfl info_int rfl [(C2, [.int .i64 xf, .int .i64 xto, .int .i64 1, .int .i64 xt, .int .i64 xi, .int .i64 xl, .int .i64 xc, .slice ea el ec, .bool xok]), (C1, [.int .i64 id, .int .i64 sz, .int .i64 tm, .int .i64 vt, .int .i64 rl, .int .i64 ld, .int .i64 ti, .int .i64 vs, .slice ga es.length gc, .int .i64 cm, .slice na nl nc, .slice ma ml mc])] rfl (fun W hX hO => ?_)
  clear hO
  replace hf := hf.sub (env' := [(4, .bool false), (3, .pointer (some ⟨C2, 0, none⟩)), (2, .pointer (some ⟨C1, 0, none⟩))]) (sub_cons rfl (sub_cons rfl (sub_cons rfl (sub_nil))))
  refine sv_nil hf ?_
  refine wp_seq ?_
  refine wp_seq ?_
  refine wp_region_lit ?_
  refine sv_lr hf hX rfl 1 rfl Try.underlying25 info_mem (by decide) (fun a hf => ?_)
  refine sv_lr hf hX rfl 0 rfl Try.underlying35 info_msg (by decide) (fun a hf => ?_)
  refine sv_call hf fnOK_18 rfl (fits_any id sz tm vt rl ld ti vs ga gc es cm na nl nc ma ml mc xs ys xf xto 1 xt xi xl xc ea el ec xok _ (hee.below hX.low) (hXs.below hX.low) (hYs.below hX.low)) (by decide) ?_
  rintro e W ⟨b, rfl, hfit, hb⟩
  replace hX := hX.keep hb
  clear hb
  refine ⟨_, rfl, fun a hf => ?_⟩
  cases b
  ·
    refine sv_not hf rfl (by decide) (fun a hf => ?_)
    replace hf := hf.sub (env' := [(13, .bool true), (4, .bool false), (3, .pointer (some ⟨C2, 0, none⟩)), (2, .pointer (some ⟨C1, 0, none⟩))]) (sub_cons rfl (sub_cons rfl (sub_cons rfl (sub_cons rfl (sub_nil)))))
    refine sv_nil hf ?_
    refine wp_cond_true (hf.rel _ _ rfl) ?_
    refine wp_seq ?_
    refine wp_region_lit ?_
    refine sv_call hf fnOK_14 rfl (awake_any _) (by decide) ?_
    rintro e W ⟨rfl, hb⟩
    replace hX := hX.keep hb
    clear hb
    refine ⟨_, rfl, fun a hf => ?_⟩
    refine sv_as hf rfl (by decide) (fun a hf => ?_)
    replace hf := hf.sub (env' := [(4, .bool true), (3, .pointer (some ⟨C2, 0, none⟩)), (2, .pointer (some ⟨C1, 0, none⟩))]) (sub_cons rfl (sub_cons rfl (sub_cons rfl (sub_nil))))
    refine sv_nil hf ?_
    refine wp_ret ?_
    try simp only [Exit.inBlock, Exit.then]
    exact bodyPost_ret (res_tmp (d := 4) (v := .bool true) rfl (hf.rel 4 _ rfl)) hf.defers ⟨rfl, by have := hX.low; exact this⟩
  ·
    obtain ⟨f1, f2, f3, f4, f5, f6, f7, f8, f9⟩ := hfit rfl
    obtain ⟨⟨g1, g2, g3, g4, g5, g6, g7, g8, g9⟩, gg1, gg2, gg3, gg4, gg5⟩ := valid_g f2
    have hxf : (Lit.int .i64 xf).wf = true := wf_of (by omega)
    clear hfit
    refine sv_not hf rfl (by decide) (fun a hf => ?_)
    replace hf := hf.sub (env' := [(13, .bool false), (4, .bool false), (3, .pointer (some ⟨C2, 0, none⟩)), (2, .pointer (some ⟨C1, 0, none⟩))]) (sub_cons rfl (sub_cons rfl (sub_cons rfl (sub_cons rfl (sub_nil)))))
    refine sv_nil hf ?_
    refine wp_cond_false (hf.rel _ _ rfl) ?_
    refine wp_skip ?_
    refine wp_seq ?_
    refine wp_region_lit ?_
    refine sv_lr hf hX rfl 1 rfl Try.underlying25 info_mem (by decide) (fun a hf => ?_)
    refine sv_lr hf hX rfl 0 rfl Try.underlying35 info_msg (by decide) (fun a hf => ?_)
    obtain ⟨WA1, hWA1⟩ : ∃ X, X = W := ⟨_, rfl⟩
    refine sv_call hf fnOK_19 rfl (vote_let n id sz tm vt rl ld ti vs ga es.length gc cm na nl nc ma ml mc xf xto 1 xt xi xl xc ea el ec xok lt w _ hX.low hg (hlt.below hX.low) g3 (by omega) rfl) (by decide) ?_
    rintro e W2 ⟨tm1, vt1, rl1, ld1, ti1, vs1, gr, ga1, gc1, na1, nl1, nc1, ma1, ml1, mc1, G, rfl, hvl, hE, hbG, hgG, hb⟩
    rw [← hWA1] at hgG
    replace hX := hX.made hb
    clear hb
    rw [← hWA1] at hE hX
    have HE := Lib.hid hE
    clear hE
    obtain ⟨WC1, hWC1⟩ : ∃ X, X = W2 := ⟨_, rfl⟩
    obtain ⟨β1, hβ1⟩ : ∃ b : Base, b = ⟨w, [(WC1, fun k => k < w.heap.size ∨ WA1.heap.size ≤ k)]⟩ := ⟨_, rfl⟩
    replace hX : Bx β1 [(C2, [.int .i64 xf, .int .i64 xto, .int .i64 1, .int .i64 xt, .int .i64 xi, .int .i64 xl, .int .i64 xc, .slice ea el ec, .bool xok]), (C1, [.int .i64 id, .int .i64 sz, .int .i64 tm, .int .i64 vt, .int .i64 rl, .int .i64 ld, .int .i64 ti, .int .i64 vs, .slice ga es.length gc, .int .i64 cm, .slice na nl nc, .slice ma ml mc])] W2 := by rw [hβ1, hWC1]; exact hX
    have hm1 : (WC1, fun k => k < w.heap.size ∨ WA1.heap.size ≤ k) ∈ β1.bs := by rw [hβ1]; exact List.mem_cons_self
    have hβ1w : β1.w = w := by rw [hβ1]
    rw [← hWC1] at HE hbG
    obtain ⟨hle1, hle2⟩ := hvl.le
    refine ⟨_, rfl, fun a hf => ?_⟩
    refine sv_mv hf rfl (by decide) (fun a hf => ?_)
    refine sv_ext hf rfl rfl (by decide) (fun a hf => ?_)
    refine sv_ext hf rfl rfl (by decide) (fun a hf => ?_)
    refine sv_allocB (zs := [.int .i64 0, .int .i64 0, .int .i64 0, .int .i64 0, .int .i64 0, .int .i64 0, .int .i64 0, .int .i64 0, .slice none 0 0, .int .i64 0, .slice none 0 0, .slice none 0 0]) hf hX zero_mem (by decide) (fun a C3 W hC hf hX hA => ?_)
    clear hC hA
    refine sv_srB hf hX rfl rfl 0 rfl rfl info_mem (fun v hv => List.all_eq_true.1 (show List.all [.int .i64 id, .int .i64 sz, .int .i64 tm1, .int .i64 vt1, .int .i64 rl1, .int .i64 ld1, .int .i64 ti1, .int .i64 vs1, .slice ga1 es.length gc1, .int .i64 cm, .slice na1 nl1 nc1, .slice ma1 ml1 mc1] (·.oneCell') = true from rfl) v hv) [(C3, [.int .i64 id, .int .i64 sz, .int .i64 tm1, .int .i64 vt1, .int .i64 rl1, .int .i64 ld1, .int .i64 ti1, .int .i64 vs1, .slice ga1 es.length gc1, .int .i64 cm, .slice na1 nl1 nc1, .slice ma1 ml1 mc1]), (C2, [.int .i64 xf, .int .i64 xto, .int .i64 1, .int .i64 xt, .int .i64 xi, .int .i64 xl, .int .i64 xc, .slice ea el ec, .bool xok]), (C1, [.int .i64 id, .int .i64 sz, .int .i64 tm, .int .i64 vt, .int .i64 rl, .int .i64 ld, .int .i64 ti, .int .i64 vs, .slice ga es.length gc, .int .i64 cm, .slice na nl nc, .slice ma ml mc])] rfl (fun W hX hO => ?_)
    clear hO
    refine sv_as hf rfl (by decide) (fun a hf => ?_)
    replace hf := hf.sub (env' := [(6, .slice (some ⟨G, 0, none⟩) 1 1), (5, .pointer (some ⟨C3, 0, none⟩)), (4, .bool false), (3, .pointer (some ⟨C2, 0, none⟩)), (2, .pointer (some ⟨C1, 0, none⟩))]) (sub_cons rfl (sub_cons rfl (sub_cons rfl (sub_cons rfl (sub_cons rfl (sub_nil))))))
    refine sv_nil hf ?_
    refine wp_seq ?_
    refine wp_region_lit ?_
    refine sv_lr hf hX rfl 0 rfl Try.underlying25 info_mem (by decide) (fun a hf => ?_)
    refine sv_lr hf hX rfl 1 rfl Try.underlying35 info_msg (by decide) (fun a hf => ?_)
    have hlw : Below w.heap.size w W := by have := hX.low; rw [hβ1w] at this; exact this
    obtain ⟨m, h8, h10, h11⟩ := HE.out
    replace h8 := hX.later hm1 (fun k h => Or.inl h) (fun k h => Or.inr h) h8
    replace h10 := hX.later hm1 (fun k h => Or.inl h) (fun k h => Or.inr h) h10
    replace h11 := hX.later hm1 (fun k h => Or.inl h) (fun k h => Or.inr h) h11
    have hws1 := vlet_wfs hvl hws g3 (by omega) hxt hxf
    have hg1 := EqC.good _ _ _ _ (EqC.symm _ _ _ _ (memEq hws1 h8 h10 h11))
    refine sv_call hf fnOK_19 rfl (vote_let _ id sz tm1 vt1 rl1 ld1 ti1 vs1 ga1 es.length gc1 cm na1 nl1 nc1 ma1 ml1 mc1 xf xto 1 xt xi xl xc ea el ec xok lt _ _ (Below.refl _ _) hg1 (last_copy h8 (hlt.below hlw)) g3 (by omega) rfl) (by decide) ?_
    rintro e W2 ⟨tm2, vt2, rl2, ld2, ti2, vs2, gr2, ga2, gc2, na2, nl2, nc2, ma2, ml2, mc2, H, rfl, hvl2, ⟨m2, i8, i10, i11⟩, hbH, hgH, hb⟩
    obtain ⟨rfl, rfl, rfl, rfl, rfl, rfl, rfl⟩ := hvl.again hvl2
    rw [fol_id hle2] at i10 i11
    replace i8 := i8.tt
    replace i10 := i10.tt
    replace i11 := i11.tt
    have hltW := hX.lts
    have hszC := (hX.bas _ hm1).1
    replace hX := hX.keep hb
    clear hb hvl2 h8 h10 h11 hg1
    replace hX := hX.add hbH (by rw [hβ1w]; exact Nat.le_trans hlw.size hgH) (fun q hq e => by have := hltW q hq; omega) (fun p hp hlt => by rw [hβ1] at hp; rw [List.mem_singleton.1 hp] at hlt; exact absurd hlt (Nat.not_lt.2 (Nat.le_trans hszC hgH)))
    obtain ⟨WC2, hWC2⟩ : ∃ X, X = W2 := ⟨_, rfl⟩
    have hL2 : Below WC2.heap.size WC2 W2 := by rw [hWC2]; exact Below.refl _ _
    rw [← hWC2] at i8 i10 i11
    clear hgH hWC2 hbH hltW hszC
    refine ⟨_, rfl, fun a hf => ?_⟩
    refine sv_mv hf rfl (by decide) (fun a hf => ?_)
    refine sv_ext hf rfl rfl (by decide) (fun a hf => ?_)
    refine sv_ext hf rfl rfl (by decide) (fun a hf => ?_)
    refine sv_allocB (zs := [.int .i64 0, .int .i64 0, .int .i64 0, .int .i64 0, .int .i64 0, .int .i64 0, .int .i64 0, .int .i64 0, .slice none 0 0, .int .i64 0, .slice none 0 0, .slice none 0 0]) hf hX zero_mem (by decide) (fun a C4 W hC hf hX hA => ?_)
    have hC7 := Nat.le_trans hL2.size (Nat.le_of_eq hC.symm)
    replace hL2 := hL2.trans (hA.mono hL2.size)
    clear hC hA
    refine sv_srB hf hX rfl rfl 0 rfl rfl info_mem (fun v hv => List.all_eq_true.1 (show List.all [.int .i64 id, .int .i64 sz, .int .i64 tm1, .int .i64 vt1, .int .i64 rl1, .int .i64 ld1, .int .i64 ti1, .int .i64 vs1, .slice ga2 es.length gc2, .int .i64 cm, .slice na2 nl2 nc2, .slice ma2 ml2 mc2] (·.oneCell') = true from rfl) v hv) [(C4, [.int .i64 id, .int .i64 sz, .int .i64 tm1, .int .i64 vt1, .int .i64 rl1, .int .i64 ld1, .int .i64 ti1, .int .i64 vs1, .slice ga2 es.length gc2, .int .i64 cm, .slice na2 nl2 nc2, .slice ma2 ml2 mc2]), (H, [.int .i64 id, .int .i64 xf, .int .i64 2, .int .i64 tm1, .int .i64 0, .int .i64 0, .int .i64 0, .slice none 0 0, .bool gr]), (C3, [.int .i64 id, .int .i64 sz, .int .i64 tm1, .int .i64 vt1, .int .i64 rl1, .int .i64 ld1, .int .i64 ti1, .int .i64 vs1, .slice ga1 es.length gc1, .int .i64 cm, .slice na1 nl1 nc1, .slice ma1 ml1 mc1]), (C2, [.int .i64 xf, .int .i64 xto, .int .i64 1, .int .i64 xt, .int .i64 xi, .int .i64 xl, .int .i64 xc, .slice ea el ec, .bool xok]), (C1, [.int .i64 id, .int .i64 sz, .int .i64 tm, .int .i64 vt, .int .i64 rl, .int .i64 ld, .int .i64 ti, .int .i64 vs, .slice ga es.length gc, .int .i64 cm, .slice na nl nc, .slice ma ml mc])] rfl (fun W hX hO => ?_)
    replace hL2 := hL2.trans (hO.below _ hC7)
    clear hO
    refine sv_as hf rfl (by decide) (fun a hf => ?_)
    replace hf := hf.sub (env' := [(8, .slice (some ⟨H, 0, none⟩) 1 1), (7, .pointer (some ⟨C4, 0, none⟩)), (6, .slice (some ⟨G, 0, none⟩) 1 1), (5, .pointer (some ⟨C3, 0, none⟩)), (4, .bool false), (3, .pointer (some ⟨C2, 0, none⟩)), (2, .pointer (some ⟨C1, 0, none⟩))]) (sub_cons rfl (sub_cons rfl (sub_cons rfl (sub_cons rfl (sub_cons rfl (sub_cons rfl (sub_cons rfl (sub_nil))))))))
    refine sv_nil hf ?_
    refine wp_seq ?_
    refine wp_seq ?_
    refine wp_region_ordW 49 48 [(0, 0), (1, 0), (2, 0), (3, 0), (4, 0), (5, 0), (6, 0), (7, 0), (8, 0), (9, 0), (10, 0), (11, 0), (12, 1), (13, 0), (14, 1), (15, 0), (16, 0), (17, 0), (18, 0), (19, 0), (20, 0), (21, 1), (22, 0), (23, 1), (24, 0), (25, 0), (26, 0), (27, 0), (28, 0), (29, 0), (30, 1), (31, 0), (32, 1), (33, 0), (34, 0), (35, 0), (36, 0), (37, 1), (38, 0), (39, 1), (40, 0), (41, 0), (42, 0), (43, 0), (44, 1), (45, 0), (46, 1), (47, 0), (48, 3)] (fun X => Bx β1 [(C4, [.int .i64 id, .int .i64 sz, .int .i64 tm1, .int .i64 vt1, .int .i64 rl1, .int .i64 ld1, .int .i64 ti1, .int .i64 vs1, .slice ga2 es.length gc2, .int .i64 cm, .slice na2 nl2 nc2, .slice ma2 ml2 mc2]), (H, [.int .i64 id, .int .i64 xf, .int .i64 2, .int .i64 tm1, .int .i64 0, .int .i64 0, .int .i64 0, .slice none 0 0, .bool gr]), (C3, [.int .i64 id, .int .i64 sz, .int .i64 tm1, .int .i64 vt1, .int .i64 rl1, .int .i64 ld1, .int .i64 ti1, .int .i64 vs1, .slice ga1 es.length gc1, .int .i64 cm, .slice na1 nl1 nc1, .slice ma1 ml1 mc1]), (C2, [.int .i64 xf, .int .i64 xto, .int .i64 1, .int .i64 xt, .int .i64 xi, .int .i64 xl, .int .i64 xc, .slice ea el ec, .bool xok]), (C1, [.int .i64 id, .int .i64 sz, .int .i64 tm, .int .i64 vt, .int .i64 rl, .int .i64 ld, .int .i64 ti, .int .i64 vs, .slice ga es.length gc, .int .i64 cm, .slice na nl nc, .slice ma ml mc])] X) mixed (by kernel_rfl) hX.drew (fun c a d v w h => by cases d <;> exact h) ?_
    replace hX := hX.drew
    replace hL2 := hL2.drew
    refine ov0 hf rfl rfl (by decide) rfl (fun X => ex_vmv hf rfl rfl) (fun a hf => ?_)
    refine ov0 hf rfl rfl (by decide) rfl (fun X => ex_len hf rfl rfl Try.underlying37) (fun a hf => ?_)
    refine ov0 hf rfl rfl (by decide) rfl (fun X => ex_cmp (b := false) hf rfl rfl rfl (congrArg some (by rw [decide_eq_true one_nat]; rfl))) (fun a hf => ?_)
    refine ov0 hf rfl rfl (by decide) rfl (fun X => ex_vmv hf rfl rfl) (fun a hf => ?_)
    refine ov0 hf rfl rfl (by decide) (wanted_known hf rfl rfl rfl) (fun X => ex_vmv hf rfl rfl) (fun a hf => ?_)
    refine ov0 hf rfl rfl (by decide) (wanted_known hf rfl rfl rfl) (fun X => ex_len hf rfl rfl Try.underlying37) (fun a hf => ?_)
    refine ov0 hf rfl rfl (by decide) (wanted_known hf rfl rfl rfl) (fun X => ex_cmp (b := false) hf rfl rfl rfl (congrArg some (by rw [decide_eq_true one_nat]; rfl))) (fun a hf => ?_)
    refine ov0 hf rfl rfl (by decide) rfl (fun X => ex_pk (b := false) hf rfl rfl rfl) (fun a hf => ?_)
    refine ov0 hf rfl rfl (by decide) rfl (fun X => ex_vmv hf rfl rfl) (fun a hf => ?_)
    refine ov0 hf rfl rfl (by decide) (wanted_known hf rfl rfl rfl) (fun X => ex_vmv hf rfl rfl) (fun a hf => ?_)
    refine ov0 hf rfl rfl (by decide) (wanted_known hf rfl rfl rfl) (fun X => ex_idx (q := 0) hf rfl rfl rfl (by decide) Try.underlying37 einfo_msgs) (fun a hf => ?_)
    refine ov0 hf rfl rfl (by decide) (wanted_known hf rfl rfl rfl) (fun X => ex_vfld (1) hf rfl rfl Try.underlying35 rfl sz_int rfl) (fun a hf => ?_)
    refine ov1 hf rfl rfl (by decide) (wanted_known hf rfl rfl rfl) (fun X hS => ex_vlm hf rfl rfl ((hS.box_later hm1 (Or.inr hgG) hbG).cell 1 _ rfl) Try.underlying3 rfl) (fun a hf => ?_)
    refine ov0 hf rfl rfl (by decide) (wanted_known hf rfl rfl rfl) (fun X => ex_vfld (0) hf rfl rfl Try.underlying35 rfl sz_int rfl) (fun a hf => ?_)
    refine ov1 hf rfl rfl (by decide) (wanted_known hf rfl rfl rfl) (fun X hS => ex_vlc (cs := [.int .i64 xf, .int .i64 xto, .int .i64 1, .int .i64 xt, .int .i64 xi, .int .i64 xl, .int .i64 xc, .slice ea el ec, .bool xok]) hf rfl rfl (hS.get (i := 3) rfl) rfl Try.underlying3 rfl) (fun a hf => ?_)
    refine ov0 hf rfl rfl (by decide) (wanted_known hf rfl rfl rfl) (fun X => ex_cmp (b := false) hf rfl rfl rfl (congrArg some (by rw [decide_eq_true rfl]; rfl))) (fun a hf => ?_)
    refine ov0 hf rfl rfl (by decide) rfl (fun X => ex_pk (b := false) hf rfl rfl rfl) (fun a hf => ?_)
    refine ov0 hf rfl rfl (by decide) rfl (fun X => ex_vmv hf rfl rfl) (fun a hf => ?_)
    refine ov0 hf rfl rfl (by decide) (wanted_known hf rfl rfl rfl) (fun X => ex_vmv hf rfl rfl) (fun a hf => ?_)
    refine ov0 hf rfl rfl (by decide) (wanted_known hf rfl rfl rfl) (fun X => ex_idx (q := 0) hf rfl rfl rfl (by decide) Try.underlying37 einfo_msgs) (fun a hf => ?_)
    refine ov0 hf rfl rfl (by decide) (wanted_known hf rfl rfl rfl) (fun X => ex_vfld (0) hf rfl rfl Try.underlying35 rfl sz_int rfl) (fun a hf => ?_)
    refine ov1 hf rfl rfl (by decide) (wanted_known hf rfl rfl rfl) (fun X hS => ex_vlm hf rfl rfl ((hS.box_later hm1 (Or.inr hgG) hbG).cell 0 _ rfl) Try.underlying3 rfl) (fun a hf => ?_)
    refine ov0 hf rfl rfl (by decide) (wanted_known hf rfl rfl rfl) (fun X => ex_vfld (0) hf rfl rfl Try.underlying25 rfl sz_int rfl) (fun a hf => ?_)
    refine ov1 hf rfl rfl (by decide) (wanted_known hf rfl rfl rfl) (fun X hS => ex_vlc (cs := [.int .i64 id, .int .i64 sz, .int .i64 tm, .int .i64 vt, .int .i64 rl, .int .i64 ld, .int .i64 ti, .int .i64 vs, .slice ga es.length gc, .int .i64 cm, .slice na nl nc, .slice ma ml mc]) hf rfl rfl (hS.get (i := 4) rfl) rfl Try.underlying3 rfl) (fun a hf => ?_)
    refine ov0 hf rfl rfl (by decide) (wanted_known hf rfl rfl rfl) (fun X => ex_cmp (b := false) hf rfl rfl rfl (congrArg some (by rw [decide_eq_true rfl]; rfl))) (fun a hf => ?_)
    refine ov0 hf rfl rfl (by decide) rfl (fun X => ex_pk (b := false) hf rfl rfl rfl) (fun a hf => ?_)
    refine ov0 hf rfl rfl (by decide) rfl (fun X => ex_vmv hf rfl rfl) (fun a hf => ?_)
    refine ov0 hf rfl rfl (by decide) (wanted_known hf rfl rfl rfl) (fun X => ex_vmv hf rfl rfl) (fun a hf => ?_)
    refine ov0 hf rfl rfl (by decide) (wanted_known hf rfl rfl rfl) (fun X => ex_idx (q := 0) hf rfl rfl rfl (by decide) Try.underlying37 einfo_msgs) (fun a hf => ?_)
    refine ov0 hf rfl rfl (by decide) (wanted_known hf rfl rfl rfl) (fun X => ex_vfld (3) hf rfl rfl Try.underlying35 rfl sz_int rfl) (fun a hf => ?_)
    refine ov1 hf rfl rfl (by decide) (wanted_known hf rfl rfl rfl) (fun X hS => ex_vlm hf rfl rfl ((hS.box_later hm1 (Or.inr hgG) hbG).cell 3 _ rfl) Try.underlying3 rfl) (fun a hf => ?_)
    refine ov0 hf rfl rfl (by decide) (wanted_known hf rfl rfl rfl) (fun X => ex_vfld (2) hf rfl rfl Try.underlying25 rfl sz_int rfl) (fun a hf => ?_)
    refine ov1 hf rfl rfl (by decide) (wanted_known hf rfl rfl rfl) (fun X hS => ex_vlc (cs := [.int .i64 id, .int .i64 sz, .int .i64 tm1, .int .i64 vt1, .int .i64 rl1, .int .i64 ld1, .int .i64 ti1, .int .i64 vs1, .slice ga1 es.length gc1, .int .i64 cm, .slice na1 nl1 nc1, .slice ma1 ml1 mc1]) hf rfl rfl (hS.get (i := 2) rfl) rfl Try.underlying3 rfl) (fun a hf => ?_)
    refine ov0 hf rfl rfl (by decide) (wanted_known hf rfl rfl rfl) (fun X => ex_cmp (b := false) hf rfl rfl rfl (congrArg some (by rw [decide_eq_true rfl]; rfl))) (fun a hf => ?_)
    refine ov0 hf rfl rfl (by decide) rfl (fun X => ex_pk (b := false) hf rfl rfl rfl) (fun a hf => ?_)
    refine ov0 hf rfl rfl (by decide) rfl (fun X => ex_vmv hf rfl rfl) (fun a hf => ?_)
    refine ov0 hf rfl rfl (by decide) (wanted_known hf rfl rfl rfl) (fun X => ex_vfld (2) hf rfl rfl Try.underlying25 rfl sz_int rfl) (fun a hf => ?_)
    refine ov1 hf rfl rfl (by decide) (wanted_known hf rfl rfl rfl) (fun X hS => ex_vlc (cs := [.int .i64 id, .int .i64 sz, .int .i64 tm1, .int .i64 vt1, .int .i64 rl1, .int .i64 ld1, .int .i64 ti1, .int .i64 vs1, .slice ga1 es.length gc1, .int .i64 cm, .slice na1 nl1 nc1, .slice ma1 ml1 mc1]) hf rfl rfl (hS.get (i := 2) rfl) rfl Try.underlying3 rfl) (fun a hf => ?_)
    refine ov0 hf rfl rfl (by decide) (wanted_known hf rfl rfl rfl) (fun X => ex_vfld (2) hf rfl rfl Try.underlying25 rfl sz_int rfl) (fun a hf => ?_)
    refine ov1 hf rfl rfl (by decide) (wanted_known hf rfl rfl rfl) (fun X hS => ex_vlc (cs := [.int .i64 id, .int .i64 sz, .int .i64 tm, .int .i64 vt, .int .i64 rl, .int .i64 ld, .int .i64 ti, .int .i64 vs, .slice ga es.length gc, .int .i64 cm, .slice na nl nc, .slice ma ml mc]) hf rfl rfl (hS.get (i := 4) rfl) rfl Try.underlying3 rfl) (fun a hf => ?_)
    refine ov0 hf rfl rfl (by decide) (wanted_known hf rfl rfl rfl) (fun X => ex_cmp (b := false) hf rfl rfl rfl (congrArg some (decide_eq_false (by omega)))) (fun a hf => ?_)
    refine ov0 hf rfl rfl (by decide) rfl (fun X => ex_pk (b := false) hf rfl rfl rfl) (fun a hf => ?_)
    refine ov0 hf rfl rfl (by decide) rfl (fun X => ex_vmv hf rfl rfl) (fun a hf => ?_)
    refine ov0 hf rfl rfl (by decide) (wanted_known hf rfl rfl rfl) (fun X => ex_vfld (2) hf rfl rfl Try.underlying25 rfl sz_int rfl) (fun a hf => ?_)
    refine ov1 hf rfl rfl (by decide) (wanted_known hf rfl rfl rfl) (fun X hS => ex_vlc (cs := [.int .i64 id, .int .i64 sz, .int .i64 tm1, .int .i64 vt1, .int .i64 rl1, .int .i64 ld1, .int .i64 ti1, .int .i64 vs1, .slice ga1 es.length gc1, .int .i64 cm, .slice na1 nl1 nc1, .slice ma1 ml1 mc1]) hf rfl rfl (hS.get (i := 2) rfl) rfl Try.underlying3 rfl) (fun a hf => ?_)
    refine ov0 hf rfl rfl (by decide) (wanted_known hf rfl rfl rfl) (fun X => ex_vfld (3) hf rfl rfl Try.underlying35 rfl sz_int rfl) (fun a hf => ?_)
    refine ov1 hf rfl rfl (by decide) (wanted_known hf rfl rfl rfl) (fun X hS => ex_vlc (cs := [.int .i64 xf, .int .i64 xto, .int .i64 1, .int .i64 xt, .int .i64 xi, .int .i64 xl, .int .i64 xc, .slice ea el ec, .bool xok]) hf rfl rfl (hS.get (i := 3) rfl) rfl Try.underlying3 rfl) (fun a hf => ?_)
    refine ov0 hf rfl rfl (by decide) (wanted_known hf rfl rfl rfl) (fun X => ex_cmp (b := false) hf rfl rfl rfl (congrArg some (decide_eq_false (by omega)))) (fun a hf => ?_)
    refine ov3v hf rfl rfl (by decide) rfl (ex_pk (b := false) hf rfl rfl rfl) (fun a hf => ?_)
    replace hf := hf.sub (env' := [(75, .bool false), (8, .slice (some ⟨H, 0, none⟩) 1 1), (7, .pointer (some ⟨C4, 0, none⟩)), (6, .slice (some ⟨G, 0, none⟩) 1 1), (5, .pointer (some ⟨C3, 0, none⟩)), (4, .bool false), (3, .pointer (some ⟨C2, 0, none⟩)), (2, .pointer (some ⟨C1, 0, none⟩))]) (sub_cons rfl (sub_cons rfl (sub_cons rfl (sub_cons rfl (sub_cons rfl (sub_cons rfl (sub_cons rfl (sub_cons rfl (sub_nil)))))))))
    refine wpOrd_nil ?_
    refine wp_cond_false (hf.rel _ _ rfl) ?_
    refine wp_skip ?_
    refine wp_seq ?_
    refine wp_seq ?_
    refine wp_meet_region (fun a X => FrV 134 [(112, .bool false), (8, .slice (some ⟨H, 0, none⟩) 1 1), (7, .pointer (some ⟨C4, 0, none⟩)), (6, .slice (some ⟨G, 0, none⟩) 1 1), (5, .pointer (some ⟨C3, 0, none⟩)), (4, .bool false)] a ∧ Bx β1 [(C4, [.int .i64 id, .int .i64 sz, .int .i64 tm1, .int .i64 vt1, .int .i64 rl1, .int .i64 ld1, .int .i64 ti1, .int .i64 vs1, .slice ga2 es.length gc2, .int .i64 cm, .slice na2 nl2 nc2, .slice ma2 ml2 mc2]), (H, [.int .i64 id, .int .i64 xf, .int .i64 2, .int .i64 tm1, .int .i64 0, .int .i64 0, .int .i64 0, .slice none 0 0, .bool gr]), (C3, [.int .i64 id, .int .i64 sz, .int .i64 tm1, .int .i64 vt1, .int .i64 rl1, .int .i64 ld1, .int .i64 ti1, .int .i64 vs1, .slice ga1 es.length gc1, .int .i64 cm, .slice na1 nl1 nc1, .slice ma1 ml1 mc1]), (C2, [.int .i64 xf, .int .i64 xto, .int .i64 1, .int .i64 xt, .int .i64 xi, .int .i64 xl, .int .i64 xc, .slice ea el ec, .bool xok]), (C1, [.int .i64 id, .int .i64 sz, .int .i64 tm, .int .i64 vt, .int .i64 rl, .int .i64 ld, .int .i64 ti, .int .i64 vs, .slice ga es.length gc, .int .i64 cm, .slice na nl nc, .slice ma ml mc])] X ∧ Below WC2.heap.size WC2 X) (fun K hK => ?_) (fun a W hJ => ?_)
    ·
      refine wp_region_lit ?_
      refine sv_mv hf rfl (by decide) (fun a hf => ?_)
      refine sv_idx (q := 0) hf rfl rfl (by decide) Try.underlying37 einfo_msgs (by decide) (fun a hf => ?_)
      refine sv_fld hf rfl Try.underlying35 rfl sz_bool (8) rfl (by decide) (fun a hf => ?_)
      refine sv_lm hf rfl ((hX.box_later hm1 (Or.inr hgG) hbG).cell 8 _ rfl) Try.underlying4 rfl (by decide) (fun a hf => ?_)
      refine sv_mv hf rfl (by decide) (fun a hf => ?_)
      cases gr
      ·
        refine sv_skip1 hf rfl rfl (by decide) (by decide) (fun a hf => ?_)
        refine sv_skip1 hf rfl rfl (by decide) (by decide) (fun a hf => ?_)
        refine sv_skip1 hf rfl rfl (by decide) (by decide) (fun a hf => ?_)
        refine sv_skip1 hf rfl rfl (by decide) (by decide) (fun a hf => ?_)
        refine sv_skip1 hf rfl rfl (by decide) (by decide) (fun a hf => ?_)
        refine sv_skip1 hf rfl rfl (by decide) (by decide) (fun a hf => ?_)
        refine sv_skip2 hf rfl rfl (by decide) (fun a hf => ?_)
        refine sv_skip2 hf rfl rfl (by decide) (fun a hf => ?_)
        refine sv_skip2 hf rfl rfl (by decide) (fun a hf => ?_)
        refine sv_skip2 hf rfl rfl (by decide) (fun a hf => ?_)
        refine sv_skip2 hf rfl rfl (by decide) (fun a hf => ?_)
        refine sv_skip1 hf rfl rfl (by decide) (by decide) (fun a hf => ?_)
        refine sv_skip1 hf rfl rfl (by decide) (by decide) (fun a hf => ?_)
        refine sv_skip2 hf rfl rfl (by decide) (fun a hf => ?_)
        refine sv_skip2 hf rfl rfl (by decide) (fun a hf => ?_)
        refine sv_skip2 hf rfl rfl (by decide) (fun a hf => ?_)
        refine sv_skip2 hf rfl rfl (by decide) (fun a hf => ?_)
        refine sv_skip2 hf rfl rfl (by decide) (fun a hf => ?_)
        refine sv_skip2 hf rfl rfl (by decide) (fun a hf => ?_)
        refine sv_skip2 hf rfl rfl (by decide) (fun a hf => ?_)
        refine sv_skip2 hf rfl rfl (by decide) (fun a hf => ?_)
        refine sv_skip2 hf rfl rfl (by decide) (fun a hf => ?_)
        refine sv_skip2 hf rfl rfl (by decide) (fun a hf => ?_)
        refine sv_skip2 hf rfl rfl (by decide) (fun a hf => ?_)
        refine sv_skip2 hf rfl rfl (by decide) (fun a hf => ?_)
        refine sv_skip2 hf rfl rfl (by decide) (fun a hf => ?_)
        refine sv_skip2 hf rfl rfl (by decide) (fun a hf => ?_)
        refine sv_skip2 hf rfl rfl (by decide) (fun a hf => ?_)
        refine sv_skip2 hf rfl rfl (by decide) (fun a hf => ?_)
        refine sv_skip2 hf rfl rfl (by decide) (fun a hf => ?_)
        refine sv_skip1 hf rfl rfl (by decide) (by decide) (fun a hf => ?_)
        refine sv_pk hf rfl rfl (by decide) (fun a hf => ?_)
        replace hf := hf.sub (env' := [(112, .bool false), (8, .slice (some ⟨H, 0, none⟩) 1 1), (7, .pointer (some ⟨C4, 0, none⟩)), (6, .slice (some ⟨G, 0, none⟩) 1 1), (5, .pointer (some ⟨C3, 0, none⟩)), (4, .bool false)]) (sub_cons rfl (sub_cons rfl (sub_cons rfl (sub_cons rfl (sub_cons rfl (sub_cons rfl (sub_nil)))))))
        refine sv_nil hf ?_
        exact hK _ _ ⟨hf.sub (sub_cons rfl (sub_cons rfl (sub_cons rfl (sub_cons rfl (sub_cons rfl (sub_cons rfl (sub_nil))))))), hX, hL2⟩
      ·
        refine sv_want hf rfl rfl ?_
        refine sv_fld hf rfl Try.underlying25 rfl sz_int (3) rfl (by decide) (fun a hf => ?_)
        refine sv_want hf rfl rfl ?_
        refine sv_lc hf hX rfl 2 rfl rfl Try.underlying3 rfl (by decide) (fun a hf => ?_)
        refine sv_want hf rfl rfl ?_
        refine sv_fld hf rfl Try.underlying35 rfl sz_int (0) rfl (by decide) (fun a hf => ?_)
        refine sv_want hf rfl rfl ?_
        refine sv_lc hf hX rfl 3 rfl rfl Try.underlying3 rfl (by decide) (fun a hf => ?_)
        refine sv_want hf rfl rfl ?_
        refine sv_cmp hf rfl rfl false (congrArg some (by rw [decide_eq_true hvl.granted.1]; rfl)) (by decide) (fun a hf => ?_)
        refine sv_want hf rfl rfl ?_
        refine sv_mv hf rfl (by decide) (fun a hf => ?_)
        refine sv_want hf rfl rfl ?_
        refine sv_fld hf rfl Try.underlying25 rfl sz_int (2) rfl (by decide) (fun a hf => ?_)
        refine sv_want hf rfl rfl ?_
        refine sv_lc hf hX rfl 2 rfl rfl Try.underlying3 rfl (by decide) (fun a hf => ?_)
        refine sv_want hf rfl rfl ?_
        refine sv_fld hf rfl Try.underlying35 rfl sz_int (3) rfl (by decide) (fun a hf => ?_)
        refine sv_want hf rfl rfl ?_
        refine sv_lc hf hX rfl 3 rfl rfl Try.underlying3 rfl (by decide) (fun a hf => ?_)
        refine sv_want hf rfl rfl ?_
        refine sv_cmp hf rfl rfl false (congrArg some (by rw [decide_eq_true hvl.granted.2.1]; rfl)) (by decide) (fun a hf => ?_)
        refine sv_want hf rfl rfl ?_
        refine sv_pk hf rfl rfl (by decide) (fun a hf => ?_)
        refine sv_want hf rfl rfl ?_
        refine sv_mv hf rfl (by decide) (fun a hf => ?_)
        refine sv_want hf rfl rfl ?_
        refine sv_fld hf rfl Try.underlying25 rfl sz_int (2) rfl (by decide) (fun a hf => ?_)
        refine sv_want hf rfl rfl ?_
        refine sv_lc hf hX rfl 4 rfl rfl Try.underlying3 rfl (by decide) (fun a hf => ?_)
        refine sv_want hf rfl rfl ?_
        refine sv_fld hf rfl Try.underlying35 rfl sz_int (3) rfl (by decide) (fun a hf => ?_)
        refine sv_want hf rfl rfl ?_
        refine sv_lc hf hX rfl 3 rfl rfl Try.underlying3 rfl (by decide) (fun a hf => ?_)
        refine sv_want hf rfl rfl ?_
        rcases Decidable.em (tm = xt) with hq6 | hq6
        ·
          refine sv_cmp hf rfl rfl true (congrArg some (decide_eq_true hq6)) (by decide) (fun a hf => ?_)
          refine sv_want hf rfl rfl ?_
          refine sv_mv hf rfl (by decide) (fun a hf => ?_)
          refine sv_want hf rfl rfl ?_
          refine sv_fld hf rfl Try.underlying25 rfl sz_int (3) rfl (by decide) (fun a hf => ?_)
          refine sv_want hf rfl rfl ?_
          refine sv_lc hf hX rfl 4 rfl rfl Try.underlying3 rfl (by decide) (fun a hf => ?_)
          refine sv_want hf rfl rfl ?_
          rcases Decidable.em (vt = (-1)) with hq7 | hq7
          ·
            refine sv_cmp hf rfl rfl false (congrArg some (by rw [decide_eq_true hq7]; rfl)) (by decide) (fun a hf => ?_)
            refine sv_want hf rfl rfl ?_
            refine sv_pk hf rfl rfl (by decide) (fun a hf => ?_)
            refine sv_want hf rfl rfl ?_
            refine sv_mv hf rfl (by decide) (fun a hf => ?_)
            refine sv_skip1 hf rfl rfl (by decide) (by decide) (fun a hf => ?_)
            refine sv_skip1 hf rfl rfl (by decide) (by decide) (fun a hf => ?_)
            refine sv_skip1 hf rfl rfl (by decide) (by decide) (fun a hf => ?_)
            refine sv_skip1 hf rfl rfl (by decide) (by decide) (fun a hf => ?_)
            refine sv_skip1 hf rfl rfl (by decide) (by decide) (fun a hf => ?_)
            refine sv_want hf rfl rfl ?_
            refine sv_pk hf rfl rfl (by decide) (fun a hf => ?_)
            refine sv_want hf rfl rfl ?_
            refine sv_pk hf rfl rfl (by decide) (fun a hf => ?_)
            refine sv_pk hf rfl rfl (by decide) (fun a hf => ?_)
            replace hf := hf.sub (env' := [(112, .bool false), (8, .slice (some ⟨H, 0, none⟩) 1 1), (7, .pointer (some ⟨C4, 0, none⟩)), (6, .slice (some ⟨G, 0, none⟩) 1 1), (5, .pointer (some ⟨C3, 0, none⟩)), (4, .bool false)]) (sub_cons rfl (sub_cons rfl (sub_cons rfl (sub_cons rfl (sub_cons rfl (sub_cons rfl (sub_nil)))))))
            refine sv_nil hf ?_
            exact hK _ _ ⟨hf.sub (sub_cons rfl (sub_cons rfl (sub_cons rfl (sub_cons rfl (sub_cons rfl (sub_cons rfl (sub_nil))))))), hX, hL2⟩
          ·
            refine sv_cmp hf rfl rfl true (congrArg some (by rw [decide_eq_false hq7]; rfl)) (by decide) (fun a hf => ?_)
            refine sv_want hf rfl rfl ?_
            refine sv_pk hf rfl rfl (by decide) (fun a hf => ?_)
            refine sv_want hf rfl rfl ?_
            refine sv_mv hf rfl (by decide) (fun a hf => ?_)
            refine sv_want hf rfl rfl ?_
            refine sv_fld hf rfl Try.underlying25 rfl sz_int (3) rfl (by decide) (fun a hf => ?_)
            refine sv_want hf rfl rfl ?_
            refine sv_lc hf hX rfl 4 rfl rfl Try.underlying3 rfl (by decide) (fun a hf => ?_)
            refine sv_want hf rfl rfl ?_
            refine sv_fld hf rfl Try.underlying35 rfl sz_int (0) rfl (by decide) (fun a hf => ?_)
            refine sv_want hf rfl rfl ?_
            refine sv_lc hf hX rfl 3 rfl rfl Try.underlying3 rfl (by decide) (fun a hf => ?_)
            refine sv_want hf rfl rfl ?_
            refine sv_cmp hf rfl rfl false (congrArg some (by rw [decide_eq_true (hvl.granted.2.2 (by assumption) (by assumption))]; rfl)) (by decide) (fun a hf => ?_)
            refine sv_want hf rfl rfl ?_
            refine sv_pk hf rfl rfl (by decide) (fun a hf => ?_)
            refine sv_want hf rfl rfl ?_
            refine sv_pk hf rfl rfl (by decide) (fun a hf => ?_)
            refine sv_pk hf rfl rfl (by decide) (fun a hf => ?_)
            replace hf := hf.sub (env' := [(112, .bool false), (8, .slice (some ⟨H, 0, none⟩) 1 1), (7, .pointer (some ⟨C4, 0, none⟩)), (6, .slice (some ⟨G, 0, none⟩) 1 1), (5, .pointer (some ⟨C3, 0, none⟩)), (4, .bool false)]) (sub_cons rfl (sub_cons rfl (sub_cons rfl (sub_cons rfl (sub_cons rfl (sub_cons rfl (sub_nil)))))))
            refine sv_nil hf ?_
            exact hK _ _ ⟨hf.sub (sub_cons rfl (sub_cons rfl (sub_cons rfl (sub_cons rfl (sub_cons rfl (sub_cons rfl (sub_nil))))))), hX, hL2⟩
        ·
          refine sv_cmp hf rfl rfl false (congrArg some (decide_eq_false hq6)) (by decide) (fun a hf => ?_)
          refine sv_want hf rfl rfl ?_
          refine sv_mv hf rfl (by decide) (fun a hf => ?_)
          refine sv_skip1 hf rfl rfl (by decide) (by decide) (fun a hf => ?_)
          refine sv_skip1 hf rfl rfl (by decide) (by decide) (fun a hf => ?_)
          refine sv_skip1 hf rfl rfl (by decide) (by decide) (fun a hf => ?_)
          refine sv_want hf rfl rfl ?_
          refine sv_pk hf rfl rfl (by decide) (fun a hf => ?_)
          refine sv_want hf rfl rfl ?_
          refine sv_mv hf rfl (by decide) (fun a hf => ?_)
          refine sv_skip1 hf rfl rfl (by decide) (by decide) (fun a hf => ?_)
          refine sv_skip1 hf rfl rfl (by decide) (by decide) (fun a hf => ?_)
          refine sv_skip1 hf rfl rfl (by decide) (by decide) (fun a hf => ?_)
          refine sv_skip1 hf rfl rfl (by decide) (by decide) (fun a hf => ?_)
          refine sv_skip1 hf rfl rfl (by decide) (by decide) (fun a hf => ?_)
          refine sv_want hf rfl rfl ?_
          refine sv_pk hf rfl rfl (by decide) (fun a hf => ?_)
          refine sv_want hf rfl rfl ?_
          refine sv_pk hf rfl rfl (by decide) (fun a hf => ?_)
          refine sv_pk hf rfl rfl (by decide) (fun a hf => ?_)
          replace hf := hf.sub (env' := [(112, .bool false), (8, .slice (some ⟨H, 0, none⟩) 1 1), (7, .pointer (some ⟨C4, 0, none⟩)), (6, .slice (some ⟨G, 0, none⟩) 1 1), (5, .pointer (some ⟨C3, 0, none⟩)), (4, .bool false)]) (sub_cons rfl (sub_cons rfl (sub_cons rfl (sub_cons rfl (sub_cons rfl (sub_cons rfl (sub_nil)))))))
          refine sv_nil hf ?_
          exact hK _ _ ⟨hf.sub (sub_cons rfl (sub_cons rfl (sub_cons rfl (sub_cons rfl (sub_cons rfl (sub_cons rfl (sub_nil))))))), hX, hL2⟩
    obtain ⟨hf, hX, hL2⟩ := hJ
    refine wp_cond_false (hf.rel _ _ rfl) ?_
    refine wp_skip ?_
    refine wp_seq ?_
    refine wp_region_ordW 22 21 [(0, 0), (1, 0), (2, 0), (3, 1), (4, 0), (5, 0), (6, 0), (7, 1), (8, 0), (9, 0), (10, 1), (11, 1), (12, 2), (13, 0), (14, 0), (15, 1), (16, 2), (17, 0), (18, 0), (19, 2), (20, 0), (21, 3)] (fun X => Bx β1 [(C4, [.int .i64 id, .int .i64 sz, .int .i64 tm1, .int .i64 vt1, .int .i64 rl1, .int .i64 ld1, .int .i64 ti1, .int .i64 vs1, .slice ga2 es.length gc2, .int .i64 cm, .slice na2 nl2 nc2, .slice ma2 ml2 mc2]), (H, [.int .i64 id, .int .i64 xf, .int .i64 2, .int .i64 tm1, .int .i64 0, .int .i64 0, .int .i64 0, .slice none 0 0, .bool gr]), (C3, [.int .i64 id, .int .i64 sz, .int .i64 tm1, .int .i64 vt1, .int .i64 rl1, .int .i64 ld1, .int .i64 ti1, .int .i64 vs1, .slice ga1 es.length gc1, .int .i64 cm, .slice na1 nl1 nc1, .slice ma1 ml1 mc1]), (C2, [.int .i64 xf, .int .i64 xto, .int .i64 1, .int .i64 xt, .int .i64 xi, .int .i64 xl, .int .i64 xc, .slice ea el ec, .bool xok]), (C1, [.int .i64 id, .int .i64 sz, .int .i64 tm, .int .i64 vt, .int .i64 rl, .int .i64 ld, .int .i64 ti, .int .i64 vs, .slice ga es.length gc, .int .i64 cm, .slice na nl nc, .slice ma ml mc])] X) mixed (by kernel_rfl) hX.drew (fun c a d v w h => by cases d <;> exact h) ?_
    replace hX := hX.drew
    replace hL2 := hL2.drew
    refine ov0 hf rfl rfl (by decide) rfl (fun X => ex_vmv hf rfl rfl) (fun a hf => ?_)
    refine ov0 hf rfl rfl (by decide) rfl (fun X => ex_idx (q := 0) hf rfl rfl rfl (by decide) Try.underlying37 einfo_msgs) (fun a hf => ?_)
    refine ov0 hf rfl rfl (by decide) rfl (fun X => ex_vfld (8) hf rfl rfl Try.underlying35 rfl sz_bool rfl) (fun a hf => ?_)
    refine ov1 hf rfl rfl (by decide) rfl (fun X hS => ex_vlc (cs := [.int .i64 id, .int .i64 xf, .int .i64 2, .int .i64 tm1, .int .i64 0, .int .i64 0, .int .i64 0, .slice none 0 0, .bool gr]) hf rfl rfl (hS.get (i := 1) rfl) rfl Try.underlying4 rfl) (fun a hf => ?_)
    refine ov0 hf rfl rfl (by decide) rfl (fun X => ex_vmv hf rfl rfl) (fun a hf => ?_)
    refine ov0 hf rfl rfl (by decide) rfl (fun X => ex_idx (q := 0) hf rfl rfl rfl (by decide) Try.underlying37 einfo_msgs) (fun a hf => ?_)
    refine ov0 hf rfl rfl (by decide) rfl (fun X => ex_vfld (8) hf rfl rfl Try.underlying35 rfl sz_bool rfl) (fun a hf => ?_)
    refine ov1 hf rfl rfl (by decide) rfl (fun X hS => ex_vlm hf rfl rfl ((hS.box_later hm1 (Or.inr hgG) hbG).cell 8 _ rfl) Try.underlying4 rfl) (fun a hf => ?_)
    refine ov0 hf rfl rfl (by decide) rfl (fun X => ex_cmpb (m := gr) hf rfl Try.underlying4 rfl rfl (Or.inl ⟨rfl, rfl⟩)) (fun a hf => ?_)
    refine ov0 hf rfl rfl (by decide) rfl (fun X => ex_vmv hf rfl rfl) (fun a hf => ?_)
    refine ov1 hf rfl rfl (by decide) (wanted_known hf rfl rfl rfl) (fun X hS => ex_vlr (cs := [.int .i64 id, .int .i64 sz, .int .i64 tm1, .int .i64 vt1, .int .i64 rl1, .int .i64 ld1, .int .i64 ti1, .int .i64 vs1, .slice ga1 es.length gc1, .int .i64 cm, .slice na1 nl1 nc1, .slice ma1 ml1 mc1]) hf rfl rfl (hS.get (i := 2) rfl) Try.underlying25 info_mem) (fun a hf => ?_)
    refine ov1 hf rfl rfl (by decide) (wanted_known hf rfl rfl rfl) (fun X hS => ex_vlr (cs := [.int .i64 id, .int .i64 sz, .int .i64 tm1, .int .i64 vt1, .int .i64 rl1, .int .i64 ld1, .int .i64 ti1, .int .i64 vs1, .slice ga2 es.length gc2, .int .i64 cm, .slice na2 nl2 nc2, .slice ma2 ml2 mc2]) hf rfl rfl (hS.get (i := 0) rfl) Try.underlying25 info_mem) (fun a hf => ?_)
    refine ov2c hf rfl rfl (by decide) (wanted_known hf rfl rfl rfl) rfl fnOK_11 rfl (same_mem (memEq hws1 (EqC.below hL2 hL2 _ _ _ _ i8) (EqC.below hL2 hL2 _ _ _ _ i10) (EqC.below hL2 hL2 _ _ _ _ i11))) ?_
    rintro e W ⟨rfl, hb⟩
    replace hX := hX.keep hb
    clear hb
    refine ⟨_, rfl, hX, fun a hf => ?_⟩
    refine ov0 hf rfl rfl (by decide) rfl (fun X => ex_pk (b := true) hf rfl rfl rfl) (fun a hf => ?_)
    refine ov0 hf rfl rfl (by decide) rfl (fun X => ex_vmv hf rfl rfl) (fun a hf => ?_)
    refine ov1 hf rfl rfl (by decide) (wanted_known hf rfl rfl rfl) (fun X hS => ex_vlr (cs := [.int .i64 id, .int .i64 sz, .int .i64 tm1, .int .i64 vt1, .int .i64 rl1, .int .i64 ld1, .int .i64 ti1, .int .i64 vs1, .slice ga1 es.length gc1, .int .i64 cm, .slice na1 nl1 nc1, .slice ma1 ml1 mc1]) hf rfl rfl (hS.get (i := 2) rfl) Try.underlying25 info_mem) (fun a hf => ?_)
    obtain ⟨m, h8, h10, h11⟩ := HE.out
    replace h8 := hX.later hm1 (fun k h => Or.inl h) (fun k h => Or.inr h) h8
    replace h10 := hX.later hm1 (fun k h => Or.inl h) (fun k h => Or.inr h) h10
    replace h11 := hX.later hm1 (fun k h => Or.inl h) (fun k h => Or.inr h) h11
    have hlw := hX.low
    rw [hβ1w] at hlw
    obtain ⟨es', he', hl', ht', hs'⟩ := ents_copy (hee.below hlw) h8
    refine ov2c hf rfl rfl (by decide) (wanted_known hf rfl rfl rfl) rfl fnOK_16 rfl (valid_true _ _ _ _ _ _ _ _ _ es' _ _ _ _ _ _ (by omega) he' (ints_copy (fol_in tm xt (hXs.below hlw)) h10) (ints_copy (fol_in tm xt (hYs.below hlw)) h11) (valid_vote f2 f4 f5 f6 f7 hl' ht' hs' rfl rfl hvl.etm hvl.egr hvl.evt hvl.erl hvl.eld hvl.eti hvl.evs)) ?_
    rintro e W ⟨rfl, hb⟩
    replace hX := hX.keep hb
    clear hb
    refine ⟨_, rfl, hX, fun a hf => ?_⟩
    refine ov0 hf rfl rfl (by decide) rfl (fun X => ex_pk (b := true) hf rfl rfl rfl) (fun a hf => ?_)
    refine ov0 hf rfl rfl (by decide) rfl (fun X => ex_vmv hf rfl rfl) (fun a hf => ?_)
    refine ov2c hf rfl rfl (by decide) (wanted_known hf rfl rfl rfl) rfl fnOK_14 rfl (awake_any _) ?_
    rintro e W ⟨rfl, hb⟩
    replace hX := hX.keep hb
    clear hb
    refine ⟨_, rfl, hX, fun a hf => ?_⟩
    refine ov0 hf rfl rfl (by decide) rfl (fun X => ex_pk (b := true) hf rfl rfl rfl) (fun a hf => ?_)
    refine ov3v hf rfl rfl (by decide) rfl (ex_vas hf rfl rfl) (fun a hf => ?_)
    replace hf := hf.sub (env' := [(4, .bool true)]) (sub_cons rfl (sub_nil))
    refine wpOrd_nil ?_
    refine wp_ret ?_
    try simp only [Exit.inBlock, Exit.then]
    exact bodyPost_ret (res_tmp (d := 4) (v := .bool true) rfl (hf.rel 4 _ rfl)) hf.defers ⟨rfl, by have := hX.low; rw [hβ1w] at this; exact this⟩
end Go.Proofs.Ytfpgklhbghahoaa
