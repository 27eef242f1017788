/- Merged texts: Bu9b, Bu10, Bu12, Bu11, Bu13, Bu14, Bu15, Bu9c, Bu33, Bu34, Bu36, Bu37, Bu38, Bu39, Bu40. -/
import Derived.Test.YtegljepgncicjaaMc1
import Derived.OrdersHeld
import Derived.StillTail
import Derived.ArgAppend
import Derived.Maps.AppendAt
/- A region that draws its order, whose reads yield the same in every world that meets S, then one operation that makes memory, then a chain of the rest. -/
namespace Go.Proofs.Ytegljepgncicjaa
open Go.ChangeShapes Go.WideShapes Go.ChangeAt Go.RowKit Go.Deep
set_option linter.unusedVariables false
set_option linter.unusedSimpArgs false
section
variable {P : Program} {ops : Array Oper} {md : Region.Mode} {Q : Exit → Act → World → Prop} {S : World → Prop}
def Before (c : Nat) (S : World → Prop) (listed : Array Bool) (w : World) : Prop := listed.getD c false = false → S w
def wpAnyT (P : Program) (md : Region.Mode) (ops : Array Oper) (Q : Exit → Act → World → Prop) (S : World → Prop) (n c : Nat) (L : Array Bool → Act → World → Prop) : Nat → Array Bool → Act → World → Prop
  | 0, listed, a, w => L listed a w
  | f + 1, listed, a, w =>
    Region.ready md ops listed ≠ [] ∧ ∀ i ∈ Region.ready md ops listed, i < n ∧ wpOp P ops Q i (fun a' w' => Before c S (listed.setIfInBounds i true) w' ∧ wpAnyT P md ops Q S n c L f (listed.setIfInBounds i true) a' w') a w
theorem wpAny_of_T {n c g : Nat} {L : Array Bool → Act → World → Prop} (hL : ∀ listed a w, L listed a w → wpAny P md ops Q g listed a w) :
    ∀ (f : Nat) (listed : Array Bool) (a : Act) (w : World), wpAnyT P md ops Q S n c L f listed a w → wpAny P md ops Q (f + g) listed a w
  | 0, listed, a, w, h => by rw [Nat.zero_add]; exact hL _ _ _ h
  | f + 1, listed, a, w, h => by
    rw [show f + 1 + g = (f + g) + 1 by omega]
    exact ⟨fun h0 => absurd h0 h.1, fun i hi => wpOp_mono (fun a' w' h' => wpAny_of_T hL f _ a' w' h'.2) (h.2 i hi).2⟩
theorem set_other {listed : Array Bool} {i c : Nat} (h : (listed.setIfInBounds i true).getD c false = false) : listed.getD c false = false := by
  cases hl : listed.getD c false with
  | false => rfl
  | true => rw [getD_set_true hl] at h; cases h
theorem wpAnyT_first {n c i : Nat} {oi : Oper} {v : Value} {Sx : World → Prop} {L : Array Bool → Act → World → Prop} (hi : ops[i]? = some oi) (hsel : ∀ (j : Nat) (o : Oper) cs b, ops[j]? = some o → o.op ≠ .select cs b)
    (hQ : ∀ c (a : Act) (d : Option Tmp) (v : Value) w, Q (.panic c) (a.put d v) w → Q (.panic c) a w)
    (hs : Region.sinkB md ops n = true) (hc : Region.chainB md ops n = true) (hn : n < ops.size) (hin : i < n) (hic : i ≠ c)
    (hSx : ∀ listed w, HeadInv md ops n listed → listed.getD i true = false → Before c S listed w → Sx w)
    (hdone : ∀ listed a w, L listed a w → ∀ j ∈ Region.ready md ops listed, n ≤ j) :
    ∀ (f : Nat) (listed : Array Bool) (a : Act) (w : World), HeadInv md ops n listed →
      (∀ j oj, ops[j]? = some oj → j ≠ i → listed.getD j true = false → (∀ e ∈ oj.after, Region.binds md e = true → e.on ≠ i) → oi.apart ops oj = true) →
      i ∈ Region.ready md ops listed → YieldsIf P ops Sx oi v a → Before c S listed w →
      wpAnyT P md ops Q S n c L f (listed.setIfInBounds i true) (a.put oi.dst v) w → wpAnyT P md ops Q S n c L (f + 1) listed a w := by
  intro f
  induction f with
  | zero =>
    intro listed a w inv _ hr hy hS H
    have hun := (mem_ready.1 hr).1
    refine ⟨fun h => (by rw [h] at hr; cases hr), fun j hj => ?_⟩
    have hjn : j < n := by
      rcases Nat.lt_or_ge j n with h | h
      · exact h
      · exact absurd hj (tail_waits hs hc hn inv _ i rfl hin hun j h)
    refine ⟨hjn, ?_⟩
    by_cases hji : j = i
    · subst hji; exact hy.wpOp hi (hSx _ _ inv hun hS) ⟨fun h => hS (set_other h), H⟩
    · have := hdone _ _ _ H j (ready_mono hj hji)
      omega
  | succ f ih =>
    intro listed a w inv hfree hr hy hS H
    have hun := (mem_ready.1 hr).1
    refine ⟨fun h => (by rw [h] at hr; cases hr), fun j hj => ?_⟩
    have hjn : j < n := by
      rcases Nat.lt_or_ge j n with h | h
      · exact h
      · exact absurd hj (tail_waits hs hc hn inv _ i rfl hin hun j h)
    refine ⟨hjn, ?_⟩
    by_cases hji : j = i
    · subst hji; exact hy.wpOp hi (hSx _ _ inv hun hS) ⟨fun h => hS (set_other h), H⟩
    · have h1 := (H.2 j (ready_mono hj hji)).2
      obtain ⟨hjun, oj, hoj, hall⟩ := mem_ready.1 hj
      have hnot : ∀ e ∈ oj.after, Region.binds md e = true → e.on ≠ i := fun e he hb heq => by
        have h1 := hall e he hb
        rw [heq, getD_both hun] at h1
        cases h1
      have h2 := wpOp_putIf hoj (hfree j oj hoj hji hjun hnot) (fun cs b => hsel i oi cs b hi) (fun cs b => hsel j oj cs b hoj) (fun c a w => hQ c a _ _ w) hy h1
      have hfree' : ∀ k ok, ops[k]? = some ok → k ≠ i → (listed.setIfInBounds j true).getD k true = false →
          (∀ e ∈ ok.after, Region.binds md e = true → e.on ≠ i) → oi.apart ops ok = true := fun k ok hk hki hun hno => by
        refine hfree k ok hk hki ?_ hno
        by_cases hjk : j = k
        · subst hjk; exact hjun
        · rw [getD_set_ne true hjk] at hun; exact hun
      refine wpOp_mono (fun a' w' h3 => ?_) h2
      obtain ⟨hy3, hS3, h3⟩ := h3
      rw [Array.setIfInBounds_comm _ _ (Ne.symm hji)] at hS3 h3
      have hS4 : Before c S (listed.setIfInBounds j true) w' := fun h => by
        refine hS3 ?_
        rw [getD_set_ne false hic]; exact h
      exact ⟨hS4, ih (listed.setIfInBounds j true) a' w' (inv.set hj hjn) hfree' (ready_mono hr (Ne.symm hji)) hy3 hS4 h3⟩
/-- operation c waits for i, by way of others -/
def Region.anc (md : Region.Mode) (ops : Array Oper) (c : Nat) : Nat → Nat → Bool
  | 0, i => Region.waitsFor md ops c i
  | f + 1, i => Region.waitsFor md ops c i || (List.range c).any fun j => Region.waitsFor md ops j i && Region.anc md ops c f j
theorem anc_listed {n c : Nat} {listed : Array Bool} (inv : HeadInv md ops n listed) : ∀ (f i : Nat), Region.anc md ops c f i = true → listed.getD c false = true → listed.getD i false = true
  | 0, i, h, hc => by
    obtain ⟨oj, hj, e, he, hb, ho⟩ := Region.waitsFor_spec h
    rw [← ho]
    exact inv.closed c oj hj hc e he hb
  | f + 1, i, h, hc => by
    simp only [Region.anc, Bool.or_eq_true] at h
    rcases h with h | h
    · obtain ⟨oj, hj, e, he, hb, ho⟩ := Region.waitsFor_spec h
      rw [← ho]
      exact inv.closed c oj hj hc e he hb
    · obtain ⟨j, _, h⟩ := List.any_eq_true.1 h
      simp only [Bool.and_eq_true] at h
      have hl := anc_listed inv f j h.2 hc
      obtain ⟨oj, hj, e, he, hb, ho⟩ := Region.waitsFor_spec h.1
      rw [← ho]
      exact inv.closed j oj hj hl e he hb
/-- kinds: 0 a value in whatever world; 1 a value in every world that meets S; 2 an effect ahead of c; 3 c, or an effect behind it -/
def KindS (S : World → Prop) : Nat → World → Prop
  | 1 => S
  | _ => fun _ => True
def wpOrd (P : Program) (ops : Array Oper) (Q : Exit → Act → World → Prop) (S : World → Prop) (R : Act → World → Prop) : List (Nat × Nat) → Act → World → Prop
  | [], a, w => R a w
  | (i, 0) :: rest, a, w => ∃ oi v, ops[i]? = some oi ∧ YieldsIf P ops (KindS S 0) oi v a ∧ wpOrd P ops Q S R rest (a.put oi.dst v) w
  | (i, 1) :: rest, a, w => ∃ oi v, ops[i]? = some oi ∧ YieldsIf P ops (KindS S 1) oi v a ∧ wpOrd P ops Q S R rest (a.put oi.dst v) w
  | (i, 2) :: rest, a, w => wpOp P ops Q i (fun a' w' => S w' ∧ wpOrd P ops Q S R rest a' w') a w
  | (i, _) :: rest, a, w => wpOp P ops Q i (fun a' w' => wpOrd P ops Q S R rest a' w') a w
def Region.ordB (md : Region.Mode) (ops : Array Oper) (n c g : Nat) : List (Nat × Nat) → Array Bool → Bool
  | [], listed => Region.seqB md ops g n listed
  | (i, 0) :: rest, listed => (Region.ready md ops listed).contains i && Region.free md ops listed i && decide (i < n) && decide (i ≠ c) && Region.ordB md ops n c g rest (listed.setIfInBounds i true)
  | (i, 1) :: rest, listed => (Region.ready md ops listed).contains i && Region.free md ops listed i && decide (i < n) && decide (i ≠ c) && Region.anc md ops c 6 i && Region.ordB md ops n c g rest (listed.setIfInBounds i true)
  | (i, 2) :: rest, listed => decide (Region.ready md ops listed = [i]) && decide (i < n) && Region.ordB md ops n c g rest (listed.setIfInBounds i true)
  | (i, _) :: rest, listed => decide (Region.ready md ops listed = [i]) && decide (i < n) && (listed.setIfInBounds i true).getD c false && Region.ordB md ops n c g rest (listed.setIfInBounds i true)
def Region.regB (md : Region.Mode) (ops : Array Oper) (n c : Nat) (ord : List (Nat × Nat)) : Bool :=
  Region.noSelect ops && decide (n < ops.size) && decide (ord.length = n) && Region.sinkB md ops n && Region.chainB md ops n && Region.ordB md ops n c (ops.size - n) ord (Array.replicate ops.size false)
theorem wpAnyT_ord {n c g : Nat} {R : Act → World → Prop} (hsel : Region.noSelect ops = true) (hQ : ∀ c (a : Act) (d : Option Tmp) (v : Value) w, Q (.panic c) (a.put d v) w → Q (.panic c) a w)
    (hs : Region.sinkB md ops n = true) (hc : Region.chainB md ops n = true) (hn : n < ops.size) :
    ∀ (l : List (Nat × Nat)) (listed : Array Bool) (a : Act) (w : World), HeadInv md ops n listed → Before c S listed w →
    Region.ordB md ops n c g l listed = true → wpOrd P ops Q S R l a w →
    wpAnyT P md ops Q S n c (fun listed' a' w' => Region.seqB md ops g n listed' = true ∧ R a' w') l.length listed a w
  | [], listed, a, w, inv, hS, hB, h => ⟨hB, h⟩
  | (i, 0) :: l, listed, a, w, inv, hS, hB, h => by
    simp only [Region.ordB, Bool.and_eq_true, decide_eq_true_eq] at hB
    obtain ⟨⟨⟨⟨hr, hf⟩, hin⟩, hic⟩, hB'⟩ := hB
    have hr' : i ∈ Region.ready md ops listed := by simpa using hr
    obtain ⟨oi, v, h0, hy, hK⟩ := h
    exact wpAnyT_first h0 (Region.noSelect_spec hsel) hQ hs hc hn hin hic (fun _ _ _ _ _ => trivial) (fun listed' a' w' hL => seqB_ready hL.1) l.length listed a w inv (Region.free_spec h0 hf) hr' hy hS
      (wpAnyT_ord hsel hQ hs hc hn l _ _ _ (inv.set hr' hin) (fun h => hS (set_other h)) hB' hK)
  | (i, 1) :: l, listed, a, w, inv, hS, hB, h => by
    simp only [Region.ordB, Bool.and_eq_true, decide_eq_true_eq] at hB
    obtain ⟨⟨⟨⟨⟨hr, hf⟩, hin⟩, hic⟩, hanc⟩, hB'⟩ := hB
    have hr' : i ∈ Region.ready md ops listed := by simpa using hr
    obtain ⟨oi, v, h0, hy, hK⟩ := h
    exact wpAnyT_first h0 (Region.noSelect_spec hsel) hQ hs hc hn hin hic (fun listed w inv hun hb => hb (by
        cases hl : listed.getD c false with
        | false => rfl
        | true => have := anc_listed inv 6 i hanc hl; rw [getD_both hun] at this; cases this)) (fun listed' a' w' hL => seqB_ready hL.1) l.length listed a w inv (Region.free_spec h0 hf) hr' hy hS
      (wpAnyT_ord hsel hQ hs hc hn l _ _ _ (inv.set hr' hin) (fun h => hS (set_other h)) hB' hK)
  | (i, 2) :: l, listed, a, w, inv, hS, hB, h => by
    simp only [Region.ordB, Bool.and_eq_true, decide_eq_true_eq] at hB
    obtain ⟨⟨hr, hin⟩, hB'⟩ := hB
    refine ⟨fun h0 => (by rw [hr] at h0; cases h0), fun j hj => ?_⟩
    have hj' := hj
    rw [hr] at hj
    have hji : j = i := by simpa using hj
    subst hji
    have h1 : wpOp P ops Q j (fun a' w' => S w' ∧ wpOrd P ops Q S R l a' w') a w := h
    exact ⟨hin, wpOp_mono (fun a' w' h2 => ⟨fun _ => h2.1, wpAnyT_ord hsel hQ hs hc hn l _ _ _ (inv.set hj' hin) (fun _ => h2.1) hB' h2.2⟩) h1⟩
  | (i, k + 3) :: l, listed, a, w, inv, hS, hB, h => by
    simp only [Region.ordB, Bool.and_eq_true, decide_eq_true_eq] at hB
    obtain ⟨⟨⟨hr, hin⟩, hcl⟩, hB'⟩ := hB
    refine ⟨fun h0 => (by rw [hr] at h0; cases h0), fun j hj => ?_⟩
    have hj' := hj
    rw [hr] at hj
    have hji : j = i := by simpa using hj
    subst hji
    have h1 : wpOp P ops Q j (fun a' w' => wpOrd P ops Q S R l a' w') a w := h
    have hno : ∀ w', Before c S (listed.setIfInBounds j true) w' := fun w' h => by rw [hcl] at h; cases h
    exact ⟨hin, wpOp_mono (fun a' w' h2 => ⟨hno w', wpAnyT_ord hsel hQ hs hc hn l _ _ _ (inv.set hj' hin) (hno w') hB' h2⟩) h1⟩
theorem wp_region_ord {id : Nat} {a : Act} {w : World} {l : List Oper} (n c : Nat) (ord : List (Nat × Nat)) (S : World → Prop) (hm : P.follows .mixedOrders = true) (hB : Region.regB .any l.toArray n c ord = true) (hS : S w.drew)
    (hQ : ∀ c (a : Act) (d : Option Tmp) (v : Value) w, Q (.panic c) (a.put d v) w → Q (.panic c) a w)
    (h : wpOrd P l.toArray Q S (fun a' w' => wpList P l.toArray Q (l.drop n) a' w') ord a w.drew) : (Code.region id l.toArray true).wp P Q a w := by
  simp only [Region.regB, Bool.and_eq_true, decide_eq_true_eq] at hB
  obtain ⟨⟨⟨⟨⟨hsel, hn⟩, hol⟩, hs⟩, hc⟩, hlex⟩ := hB
  have hn' : n < l.length := by simpa using hn
  have hdl : (l.drop n).length = l.toArray.size - n := by simp
  have inv0 : HeadInv .any l.toArray n (Array.replicate l.toArray.size false) :=
    ⟨by simp, fun j oj _ hl => (by rw [getD_replicate_false] at hl; cases hl), fun t _ ht => getD_in (by simpa using ht) (getD_replicate_false _ _)⟩
  have H := wpAnyT_ord (md := .any) (g := l.toArray.size - n) hsel hQ hs hc hn ord _ a _ inv0 (fun _ => hS) hlex h
  refine wp_region_any hm ?_
  have := wpAny_of_T (g := l.toArray.size - n) (fun listed a' w' hL => by
    have := wpAny_of_seq (md := .any) (Q' := Q) (l.drop n) n listed a' w' (fun j => by simp [List.getElem?_drop]) (by rw [hdl]; exact hL.1) hL.2
    rwa [hdl] at this) _ _ _ _ H
  rw [hol, show n + (l.toArray.size - n) = l.toArray.size by omega] at this
  exact this
theorem wpOrd_read0 {R : Act → World → Prop} {i : Nat} {rest : List (Nat × Nat)} {a : Act} {w : World} {oi : Oper} (v : Value) (hi : ops[i]? = some oi) (hw : Region.wanted oi (yielded ops a.tmps) = true) (hy : ∀ w, (execOp a.eval oi).run P w = .ok (.value v) w)
    (h : ∀ K : Act → World → Prop, (∀ a w, wpOrd P ops Q S R rest a w → K a w) → K (a.put oi.dst v) w) : wpOrd P ops Q S R ((i, 0) :: rest) a w :=
  ⟨oi, v, hi, .inl ⟨hw, fun w _ => hy w⟩, h _ (fun _ _ h => h)⟩
theorem wpOrd_read1 {R : Act → World → Prop} {i : Nat} {rest : List (Nat × Nat)} {a : Act} {w : World} {oi : Oper} (v : Value) (hi : ops[i]? = some oi) (hw : Region.wanted oi (yielded ops a.tmps) = true) (hy : ∀ w, S w → (execOp a.eval oi).run P w = .ok (.value v) w)
    (h : ∀ K : Act → World → Prop, (∀ a w, wpOrd P ops Q S R rest a w → K a w) → K (a.put oi.dst v) w) : wpOrd P ops Q S R ((i, 1) :: rest) a w :=
  ⟨oi, v, hi, .inl ⟨hw, hy⟩, h _ (fun _ _ h => h)⟩
theorem wpOrd_eff2 {R : Act → World → Prop} {i : Nat} {rest : List (Nat × Nat)} {a : Act} {w : World} {oi : Oper} (hi : ops[i]? = some oi) (hw : Region.wanted oi (yielded ops a.tmps) = true)
    (h : ∀ K : Act → World → Prop, (∀ a w, S w → wpOrd P ops Q S R rest a w → K a w) → oi.wp P a w K Q) : wpOrd P ops Q S R ((i, 2) :: rest) a w := by
  show wpOp P ops Q i _ a w
  unfold wpOp
  simp only [hi, hw, if_true]
  exact .inl (h _ (fun _ _ h1 h2 => ⟨h1, h2⟩))
theorem wpOrd_eff3 {R : Act → World → Prop} {i : Nat} {rest : List (Nat × Nat)} {a : Act} {w : World} {oi : Oper} (hi : ops[i]? = some oi) (hw : Region.wanted oi (yielded ops a.tmps) = true)
    (h : ∀ K : Act → World → Prop, (∀ a w, wpOrd P ops Q S R rest a w → K a w) → oi.wp P a w K Q) : wpOrd P ops Q S R ((i, 3) :: rest) a w := by
  show wpOp P ops Q i _ a w
  unfold wpOp
  simp only [hi, hw, if_true]
  exact .inl (h _ (fun _ _ h => h))
theorem wpOrd_nil {R : Act → World → Prop} {a : Act} {w : World} (h : R a w) : wpOrd P ops Q S R [] a w := h
end
end Go.Proofs.Ytegljepgncicjaa
/- Btree: split. -/
namespace Go.Proofs.Ytegljepgncicjaa
open Go.ChangeShapes Go.WideShapes Go.ChangeAt Go.RowKit Go.Deep
set_option linter.unusedVariables false
set_option linter.unusedSimpArgs false
theorem RowV.base {T B B' : Nat} {W : World} {v : Value} {us : List Value} (h : RowV T B' W v us) (hb : B ≤ B') : RowV T B W v us := by
  rcases h with h | ⟨g, c, h1, h2, h3⟩
  · exact .inl h
  · exact .inr ⟨g, c, h1, Nat.le_trans hb h2, h3⟩
theorem strv_drop (xs : List Bs) (m : Nat) : (strv xs).drop m = strv (xs.drop m) := (List.map_drop ..).symm
theorem ptrv_drop (xs : List Nat) (m : Nat) : (ptrv xs).drop m = ptrv (xs.drop m) := (List.map_drop ..).symm
def SplitOut (B N l i : Nat) (σ : Sig) (ks vs : List Bs) (ns : List Nat) (lk lv : List Bs) (ln : List Nat) (w0 : World) (e : Ending) (W' : World) : Prop :=
  e = .returned (.tuple #[]) ∧ ∃ R σ', Hp B W' σ' ∧ Below B w0 W' ∧ σ R = none ∧ R ≠ N ∧ R ≠ l ∧
    σ' = upd (upd (upd σ R ⟨lk.drop (lk.length / 2 + 1), lv.drop (lk.length / 2 + 1), ln.drop (lk.length / 2 + 1)⟩)
      N ⟨ks.take i ++ sx lk (lk.length / 2) :: ks.drop i, vs.take i ++ sx lv (lk.length / 2) :: vs.drop i, ns.take (i + 1) ++ R :: ns.drop (i + 1)⟩)
      l ⟨lk.take (lk.length / 2), lv.take (lk.length / 2), ln.take (lk.length / 2 + 1)⟩
theorem Hp.f0 {B : Nat} {W : World} {σ : Sig} (h : Hp B W σ) {N : Nat} {ks vs : List Bs} {ns : List Nat} (hN : σ N = some ⟨ks, vs, ns⟩) : ∃ a c, W.cell? ⟨N, 0, none⟩ = some (.slice a ks.length c) ∧ (∀ g, (Value.slice a ks.length c).ownBlock = some g → g < W.heap.size) ∧ N < W.heap.size := by
  obtain ⟨kv, vv, dv, hnd⟩ := h.node hN
  have hr : RowV 9 B W kv (strv ks) := hnd.r0
  have hc := hnd.c0
  obtain ⟨a, c, rfl⟩ := hr.len
  have hl := hr.lt
  rw [strv_len] at hc hl
  exact ⟨a, c, hc, fun g e => (hl g e).2, (h.lt hN).2⟩
theorem Hp.f1 {B : Nat} {W : World} {σ : Sig} (h : Hp B W σ) {N : Nat} {ks vs : List Bs} {ns : List Nat} (hN : σ N = some ⟨ks, vs, ns⟩) : ∃ a c, W.cell? ⟨N, 1, none⟩ = some (.slice a vs.length c) ∧ (∀ g, (Value.slice a vs.length c).ownBlock = some g → g < W.heap.size) ∧ N < W.heap.size := by
  obtain ⟨kv, vv, dv, hnd⟩ := h.node hN
  have hr : RowV 9 B W vv (strv vs) := hnd.r1
  have hc := hnd.c1
  obtain ⟨a, c, rfl⟩ := hr.len
  have hl := hr.lt
  rw [strv_len] at hc hl
  exact ⟨a, c, hc, fun g e => (hl g e).2, (h.lt hN).2⟩
theorem Hp.f2 {B : Nat} {W : World} {σ : Sig} (h : Hp B W σ) {N : Nat} {ks vs : List Bs} {ns : List Nat} (hN : σ N = some ⟨ks, vs, ns⟩) : ∃ a c, W.cell? ⟨N, 2, none⟩ = some (.slice a ns.length c) ∧ (∀ g, (Value.slice a ns.length c).ownBlock = some g → g < W.heap.size) ∧ N < W.heap.size := by
  obtain ⟨kv, vv, dv, hnd⟩ := h.node hN
  have hr : RowV 64 B W dv (ptrv ns) := hnd.r2
  have hc := hnd.c2
  obtain ⟨a, c, rfl⟩ := hr.len
  have hl := hr.lt
  rw [ptrv_len] at hc hl
  exact ⟨a, c, hc, fun g e => (hl g e).2, (h.lt hN).2⟩
theorem Hp.g0 {B : Nat} {W : World} {σ : Sig} (h : Hp B W σ) {N : Nat} {ks vs : List Bs} {ns : List Nat} (hN : σ N = some ⟨ks, vs, ns⟩) (h0 : 0 < ks.length) : ∃ g c, W.cell? ⟨N, 0, none⟩ = some (.slice (some ⟨g, 0, none⟩) ks.length c) ∧ ks.length ≤ c ∧ c ≤ 9223372036854775807 ∧ g < W.heap.size ∧ ∀ j, j < ks.length → W.cell? ⟨g, j, none⟩ = some (.string (sx ks j)) := by
  obtain ⟨kv, vv, dv, hnd⟩ := h.node hN
  have hc := hnd.c0
  obtain ⟨g, c, rfl, h1, h2, h3, h4⟩ := rowk (show RowV 9 B W kv (strv ks) from hnd.r0) h0
  exact ⟨g, c, hc, h1, h2, h3, h4⟩
theorem Hp.g1 {B : Nat} {W : World} {σ : Sig} (h : Hp B W σ) {N : Nat} {ks vs : List Bs} {ns : List Nat} (hN : σ N = some ⟨ks, vs, ns⟩) (h0 : 0 < vs.length) : ∃ g c, W.cell? ⟨N, 1, none⟩ = some (.slice (some ⟨g, 0, none⟩) vs.length c) ∧ vs.length ≤ c ∧ c ≤ 9223372036854775807 ∧ g < W.heap.size ∧ ∀ j, j < vs.length → W.cell? ⟨g, j, none⟩ = some (.string (sx vs j)) := by
  obtain ⟨kv, vv, dv, hnd⟩ := h.node hN
  have hc := hnd.c1
  obtain ⟨g, c, rfl, h1, h2, h3, h4⟩ := rowk (show RowV 9 B W vv (strv vs) from hnd.r1) h0
  exact ⟨g, c, hc, h1, h2, h3, h4⟩
theorem Hp.g2 {B : Nat} {W : World} {σ : Sig} (h : Hp B W σ) {N : Nat} {ks vs : List Bs} {ns : List Nat} (hN : σ N = some ⟨ks, vs, ns⟩) (h0 : 0 < ns.length) : ∃ g c, W.cell? ⟨N, 2, none⟩ = some (.slice (some ⟨g, 0, none⟩) ns.length c) ∧ ns.length ≤ c ∧ c ≤ 9223372036854775807 ∧ g < W.heap.size ∧ ∀ j n, ns[j]? = some n → W.cell? ⟨g, j, none⟩ = some (.pointer (some ⟨n, 0, none⟩)) := by
  obtain ⟨kv, vv, dv, hnd⟩ := h.node hN
  have hc := hnd.c2
  obtain ⟨g, c, rfl, h1, h2, h3, h4⟩ := rown (show RowV 64 B W dv (ptrv ns) from hnd.r2) h0
  exact ⟨g, c, hc, h1, h2, h3, h4⟩
theorem hclone2 {B : Nat} {W : World} {σ : Sig} {R l m g c n : Nat} {rk rv lk lv : List Bs} {rn ln : List Nat} {v : Value} (hp : Hp B W σ) (hB : B ≤ W.heap.size) (hR : σ R = some ⟨rk, rv, rn⟩) (hv : W.cell? ⟨R, 2, none⟩ = some v)
    (hl : σ l = some ⟨lk, lv, ln⟩) (hc2 : W.cell? ⟨l, 2, none⟩ = some (.slice (some ⟨g, 0, none⟩) ln.length c)) (hm : m ≤ ln.length) (hs : ln.length ≤ 1000) (hn : n = ln.length - m) :
    Calls Try.prog 50 #[.slice (some ⟨g, m, none⟩) (ln.length - m) (c - m)] W (FieldOut B W (upd σ R ⟨rk, rv, ln.drop m⟩) R 2 n) := by
  obtain ⟨kv, vv, dv, hnd⟩ := hp.node hl
  have := hnd.c2
  rw [hc2] at this
  cases this
  have hpc : Piece W g m ((ptrv ln).drop m) := piece_of (show RowV 64 B W _ (ptrv ln) from hnd.r2) (by rw [ptrv_len]; exact hm)
  refine hp_row (nd' := ⟨rk, rv, ln.drop m⟩) hp hB hR (by decide) hv (fun k h1 h2 => by match k, h1 with | 0, _ => rfl | 1, _ => rfl | 2, _ => exact absurd rfl h2) (by show n = (ptrv _).length; rw [ptrv_len, List.length_drop, hn]) ?_
  refine (clone_ptr g m (ln.length - m) (c - m) ((ptrv ln).drop m) W (by rw [List.length_drop, ptrv_len]) (by omega) hpc.2 (fun u hu => ptrv_one _ u (List.mem_of_mem_drop hu))).mono ?_
  rintro e W' ⟨v', rfl, hr, hk⟩
  rw [ptrv_drop] at hr
  exact ⟨v', rfl, hr.base hB, ⟨hk.os, hk.tape, hk.output, hk.size, fun k h1 _ => hk.block k h1 (fun h => h)⟩, fun g e => .inr (hr.lt g e).1⟩
set_option maxRecDepth 100000 in
set_option maxHeartbeats 3200000 in
theorem split_any (B N l i : Nat) (σ : Sig) (ks vs : List Bs) (ns : List Nat) (lk lv : List Bs) (ln : List Nat) (w0 : World) (hp : Hp B w0 σ) (hB : B ≤ w0.heap.size) (hN : σ N = some ⟨ks, vs, ns⟩) (hl : σ l = some ⟨lk, lv, ln⟩) (hne : l ≠ N)
    (hi : ns[i]? = some l) (hik : i ≤ ks.length) (hvs : vs.length = ks.length) (hns : ns.length = ks.length + 1) (hlv : lv.length = lk.length) (h3 : 3 ≤ lk.length) (hm : lk.length ≤ 260) (hks : ks.length ≤ 260) (hln : ln = [] ∨ ln.length = lk.length + 1) :
    Calls Try.prog 43 #[.pointer (some ⟨N, 0, none⟩), .int .i64 i] w0 (SplitOut B N l i σ ks vs ns lk lv ln w0) := by
  have HP := Lib.hid hp
  obtain ⟨nk, nv, nn, hNa⟩ := hp.node hN
  obtain ⟨kv, vv, dv, hla⟩ := hp.node hl
  obtain ⟨ng, nc, rfl, hd1, hd2, hng, hdc⟩ := rown (show RowV 64 B w0 nn (ptrv ns) from hNa.r2) (by omega)
  obtain ⟨kg, kc, rfl, hk1, hk2, hkg, hkc⟩ := rowk (show RowV 9 B w0 kv (strv lk) from hla.r0) (by omega)
  obtain ⟨vg, vc, rfl, hv1, hv2, hvg, hvc⟩ := rowk (show RowV 9 B w0 vv (strv lv) from hla.r1) (by omega)
  have c2 : w0.cell? ⟨N, 2, none⟩ = _ := hNa.c2
  have l0 : w0.cell? ⟨l, 0, none⟩ = _ := hla.c0
  have l1 : w0.cell? ⟨l, 1, none⟩ = _ := hla.c1
  have hil : i < ns.length := (List.getElem?_eq_some_iff.1 hi).1
  have ci : w0.cell? ⟨ng, i, none⟩ = some (.pointer (some ⟨l, 0, none⟩)) := hdc i l hi
  have hns2 : ns.length ≤ 300 := by omega
  obtain ⟨m, hmm⟩ : ∃ m, m = lk.length / 2 := ⟨_, rfl⟩
  have hm1 : m + 1 < lk.length := by omega
  have hm0 : 0 < m := by omega
  have hlB := (hp.lt hl).2
  have HK := Lib.hid (piece_of (m := m + 1) (show RowV 9 B w0 _ (strv lk) from hla.r0) (by rw [strv_len]; omega))
  have HV := Lib.hid (piece_of (m := m + 1) (show RowV 9 B w0 _ (strv lv) from hla.r1) (by rw [strv_len]; omega))
  clear hNa hla hdc hkc hvc hp
  rw [hlv] at l1 hv1
  go_enter Try.func43, Try.ntmps43
  go_wp2_with fail
  rw [show (lk.length : Int) / 2 = (m : Int) by omega]
  have hmm0 := Lib.hid hmm
  have hk0 : Kept (fun _ => False) w0 w0.drew := (Kept.refl _ w0).drew
  have b0 : w0.drew.cell? ⟨l, 0, none⟩ = _ := l0
  have b1 : w0.drew.cell? ⟨l, 1, none⟩ = _ := l1
  have HKt := Lib.hid (show ((strv lk).drop (m + 1)).length = lk.length - (m + 1) by rw [List.length_drop, strv_len])
  have HVt := Lib.hid (show ((strv lv).drop (m + 1)).length = lk.length - (m + 1) by rw [List.length_drop, strv_len, hlv])
  clear c2 ci hmm
  have hw1 : IntKind.i64.wrap ((m : Int) + 1) = (m : Int) + 1 := by rw [IntKind.wrap_i64]; omega
  have hx1 : (0 : Int) ≤ (m : Int) + 1 := by omega
  have htn : ((m : Int) + 1).toNat = m + 1 := by omega
  have hx3 : (m : Int) + 1 ≤ (lk.length : Int) := by omega
  have hx4 : (lk.length : Int) ≤ (kc : Int) := by omega
  have hx5 : (lk.length : Int) ≤ (vc : Int) := by omega
  have hx6 : m + 1 ≤ lk.length := by omega
  have hn1 : ¬ (kc = m + 1) := by omega
  have hn2 : ¬ (vc = m + 1) := by omega
  go_region_held3 (fun X => X.cell? ⟨l, 0, none⟩ = some (.slice (some ⟨kg, 0, none⟩) lk.length kc) ∧ X.cell? ⟨l, 1, none⟩ = some (.slice (some ⟨vg, 0, none⟩) lk.length vc) ∧ Kept (fun _ => False) w0 X) (refine ⟨?_, ?_, ?_⟩ <;> first | assumption | exact Kept.alloc (by assumption) _ | (refine ca ?_ ?_ <;> assumption))
    (first
      | (go_at_call_of 46 (kg); refine (clone_str kg (m + 1) (lk.length - (m + 1)) (kc - (m + 1)) _ _ HKt.out (by omega) (HK.out.kept (by assumption)).2 (fun u hu => strv_one _ u (List.mem_of_mem_drop hu))).mono ?_; rintro e w1 ⟨v1, rfl, hr1, hk1⟩; obtain ⟨x1, y1, rfl⟩ := hr1.len; rw [HKt.out] at hr1 ⊢; have d0 := cell_kept' (Kept.both hk0 hk1) hlB l0; have d1 := cell_kept' (Kept.both hk0 hk1) hlB l1; have dk := Kept.both hk0 hk1)
      | (go_at_call_of 46 (vg); refine (clone_str vg (m + 1) (lk.length - (m + 1)) (vc - (m + 1)) _ _ HVt.out (by omega) (HV.out.kept (by assumption)).2 (fun u hu => strv_one _ u (List.mem_of_mem_drop hu))).mono ?_; rintro e w2 ⟨v2, rfl, hr2, hk2⟩; obtain ⟨x2, y2, rfl⟩ := hr2.len; rw [HVt.out] at hr2 ⊢; have d2 := cell_kept' (Kept.both dk hk2) hlB l0; have d3 := cell_kept' (Kept.both dk hk2) hlB l1; have dk2 := Kept.both dk hk2; have hlB2 := Nat.lt_of_lt_of_le hlB dk2.size))
  have hs1 : w0.heap.size ≤ w1.heap.size := hk1.size
  obtain ⟨R, hR⟩ : ∃ R, R = w2.heap.size := ⟨_, rfl⟩
  have HN := (HP.out.drewN 1).new (W2 := w2) hB (Kept.both hk1 hk2) ⟨lk.drop (m + 1), lv.drop (m + 1), []⟩ (.slice x1 (lk.length - (m + 1)) y1) (.slice x2 (lk.length - (m + 1)) y2) (.slice none 0 0) 85
    (by rw [strv_drop] at hr1; exact (hr1.kept hk2 (fun _ _ h => h)).base hB) (by rw [strv_drop] at hr2; exact hr2.base (Nat.le_trans hB hs1)) (.inl ⟨rfl, rfl⟩)
    (fun g e => (hr1.lt g e).1) (fun g e => Nat.le_trans hs1 (hr2.lt g e).1) (fun g e => by simp [Value.ownBlock] at e) (fun g e e2 => by have := (hr1.lt g e).2; have := (hr2.lt g e2).1; omega) (fun g e e2 => by simp [Value.ownBlock] at e2) (fun g e e2 => by simp [Value.ownBlock] at e2)
  rw [← hR] at HN ⊢
  have HF := Lib.hid (And.intro HN.1 (HN.2.2.below (S := fun _ => False) hB (fun _ h => h.elim)))
  have hRn := HN.2.1
  clear HN hR hr1 hr2 hk1 hk2 dk dk2 d0 d1 d2 d3 b0 b1 l0 l1 HK HV HKt HVt
  have hRN : N ≠ R := fun e => by rw [e, hRn] at hN; cases hN
  have hRl : l ≠ R := fun e => by rw [e, hRn] at hl; cases hl
  clear hw1 hx1 htn hx3 hx4 hx5 hx6 hn1 hn2 hk0
  go_wp2_with fail
  refine wp_named (fun W => Hp B W (upd σ R ⟨lk.drop (m + 1), lv.drop (m + 1), []⟩) ∧ Below B w0 W) ⟨HF.out.1, Below.trans (Below.drew (Below.refl B w0)) HF.out.2⟩ ?_
  rintro W3 ⟨hp, hb⟩
  have HPW := Lib.hid (And.intro hp hb)
  clear HF
  have hNk : (upd σ R ⟨lk.drop (m + 1), lv.drop (m + 1), []⟩) N = some ⟨ks, vs, ns⟩ := (upd_other _ _ hRN).trans hN
  have hlk : (upd σ R ⟨lk.drop (m + 1), lv.drop (m + 1), []⟩) l = some ⟨lk, lv, ln⟩ := (upd_other _ _ hRl).trans hl
  obtain ⟨na, nb, c0, hown, hNlt⟩ := HPW.out.1.f0 hNk
  obtain ⟨kg, kc, l0, hk1, hk2, hkg, hkc⟩ := HPW.out.1.g0 hlk (by omega)
  have hllt := (HPW.out.1.lt hlk).2
  have cm := hkc m (by omega)
  have hsz3 := HPW.out.2.size
  have hml : m < lk.length := by omega
  have hiF : i ≤ ks.length := by omega
  have hsF : ks.length ≤ 1000 := by omega
  have HLV := Lib.hid (And.intro hlv (And.intro hvs hns))
  clear hlv hvs hns
  clear hkc
  refine wp_region_ord 15 14 [(0, 0), (1, 0), (2, 0), (3, 0), (4, 1), (5, 0), (6, 0), (7, 0), (8, 0), (9, 1), (10, 0), (11, 0), (12, 1), (13, 2), (14, 3)] (fun X => X.cell? ⟨N, 0, none⟩ = some (.slice na ks.length nb) ∧ X.cell? ⟨l, 0, none⟩ = some (.slice (some ⟨kg, 0, none⟩) lk.length kc) ∧ X.cell? ⟨kg, m, none⟩ = some (.string (sx lk m))) (by kernel_rfl) (by kernel_rfl) ⟨c0, l0, cm⟩ (fun c a d v w h => by cases d <;> exact h) ?_
  apply wpOrd_read0
  case hi => rfl
  case hw => rfl
  case hy => (intro w; go_simp; try rfl)
  intro K hK; go_simp; refine hK _ _ ?_; clear hK K
  apply wpOrd_read0
  case hi => rfl
  case hw => rfl
  case hy => (intro w; go_simp; try rfl)
  intro K hK; go_simp; refine hK _ _ ?_; clear hK K
  apply wpOrd_read0
  case hi => rfl
  case hw => rfl
  case hy => (intro w; go_simp; try rfl)
  intro K hK; go_simp; refine hK _ _ ?_; clear hK K
  apply wpOrd_read0
  case hi => rfl
  case hw => rfl
  case hy => (intro w; go_simp; try rfl)
  intro K hK; go_simp; refine hK _ _ ?_; clear hK K
  apply wpOrd_read1
  case hi => rfl
  case hw => rfl
  case hy => (intro w hw; obtain ⟨h1, h2, h3⟩ := hw; go_simp; try rfl)
  intro K hK; go_simp; refine hK _ _ ?_; clear hK K
  apply wpOrd_read0
  case hi => rfl
  case hw => rfl
  case hy => (intro w; go_simp; try rfl)
  intro K hK; go_simp; refine hK _ _ ?_; clear hK K
  apply wpOrd_read0
  case hi => rfl
  case hw => rfl
  case hy => (intro w; go_simp; try rfl)
  intro K hK; go_simp; refine hK _ _ ?_; clear hK K
  apply wpOrd_read0
  case hi => rfl
  case hw => rfl
  case hy => (intro w; go_simp; try rfl)
  intro K hK; go_simp; refine hK _ _ ?_; clear hK K
  apply wpOrd_read0
  case hi => rfl
  case hw => rfl
  case hy => (intro w; go_simp; try rfl)
  intro K hK; go_simp; refine hK _ _ ?_; clear hK K
  apply wpOrd_read1
  case hi => rfl
  case hw => rfl
  case hy => (intro w hw; obtain ⟨h1, h2, h3⟩ := hw; go_simp; try rfl)
  intro K hK; go_simp; refine hK _ _ ?_; clear hK K
  apply wpOrd_read0
  case hi => rfl
  case hw => rfl
  case hy => (intro w; go_simp; try rfl)
  intro K hK; go_simp; refine hK _ _ ?_; clear hK K
  apply wpOrd_read0
  case hi => rfl
  case hw => rfl
  case hy => (intro w; go_simp; try rfl)
  intro K hK; go_simp; refine hK _ _ ?_; clear hK K
  apply wpOrd_read1
  case hi => rfl
  case hw => rfl
  case hy => (intro w hw; obtain ⟨h1, h2, h3⟩ := hw; go_simp; try rfl)
  intro K hK; go_simp; refine hK _ _ ?_; clear hK K
  apply wpOrd_eff2
  case hi => rfl
  case hw => rfl
  intro K hK
  go_simp
  refine hK _ _ ⟨ca (W := W3.drew) hNlt c0, ca (W := W3.drew) hllt l0, ca (W := W3.drew) hkg cm⟩ ?_
  clear hK K
  apply wpOrd_eff3
  case hi => rfl
  case hw => rfl
  intro K hK
  go_simp
  refine (hins0 (B := B) (σ := upd σ R ⟨lk.drop (m + 1), lv.drop (m + 1), []⟩) (N := N) (i := i) (n := ks.length + 1) (HPW.out.1.kept ((Kept.refl (fun _ => False) W3).drew.alloc _)) (Nat.le_trans hB (Nat.le_trans hsz3 (by simp))) hNk (ca (W := W3.drew) hNlt c0) hiF hsF rfl (heap_new W3.drew _) (fun g e e2 => absurd (hown g e) (by rw [e2]; exact Nat.lt_irrefl _))).mono ?_
  rintro e w4 ⟨a4, c4, rfl, ⟨u4, hu4⟩, hf4, HH4, HB4⟩
  refine hK _ _ (wpOrd_nil ?_)
  clear hK K
  simp only [List.drop_succ_cons, List.drop_zero]
  have HX := Lib.hid (And.intro HH4 ((((HPW.out.2).drew.alloc (Nat.le_trans hB hsz3) _)).trans HB4))
  clear HH4 HB4 HPW hp hb c0 hown hNlt l0 hk1 hk2 cm hNk hlk hkg hllt hml hiF hsF
  obtain ⟨hlv, hvs, hns⟩ := HLV.out
  clear HLV
  go_wp2_with fail
  clear hu4 hf4
  refine wp_named (fun W => Hp B W (upd (upd σ R ⟨lk.drop (m + 1), lv.drop (m + 1), []⟩) N ⟨ks.take i ++ sx lk m :: ks.drop i, vs, ns⟩) ∧ Below B w0 W) HX.out ?_
  clear HX
  rintro W4 ⟨hp, hb⟩
  have HPW := Lib.hid (And.intro hp hb)
  have hNk : (upd (upd σ R ⟨lk.drop (m + 1), lv.drop (m + 1), []⟩) N ⟨ks.take i ++ sx lk m :: ks.drop i, vs, ns⟩) N = some ⟨ks.take i ++ sx lk m :: ks.drop i, vs, ns⟩ := upd_same _ _ _
  have hlk : (upd (upd σ R ⟨lk.drop (m + 1), lv.drop (m + 1), []⟩) N ⟨ks.take i ++ sx lk m :: ks.drop i, vs, ns⟩) l = some ⟨lk, lv, ln⟩ := (upd_other _ _ hne).trans ((upd_other _ _ hRl).trans hl)
  obtain ⟨na, nb, c0, hown, hNlt⟩ := HPW.out.1.f1 hNk
  obtain ⟨kg, kc, l0, hk1, hk2, hkg, hkc⟩ := HPW.out.1.g1 hlk (by omega)
  have hllt := (HPW.out.1.lt hlk).2
  have cm := hkc m (by omega)
  have hsz4 := HPW.out.2.size
  have hml : m < lv.length := by omega
  have hiF : i ≤ vs.length := by omega
  have hsF : vs.length ≤ 1000 := by omega
  have HLV := Lib.hid (And.intro hlv (And.intro hvs hns))
  clear hlv hvs hns
  clear hkc
  refine wp_region_ord 15 14 [(0, 0), (1, 0), (2, 0), (3, 0), (4, 1), (5, 0), (6, 0), (7, 0), (8, 0), (9, 1), (10, 0), (11, 0), (12, 1), (13, 2), (14, 3)] (fun X => X.cell? ⟨N, 1, none⟩ = some (.slice na vs.length nb) ∧ X.cell? ⟨l, 1, none⟩ = some (.slice (some ⟨kg, 0, none⟩) lv.length kc) ∧ X.cell? ⟨kg, m, none⟩ = some (.string (sx lv m))) (by kernel_rfl) (by kernel_rfl) ⟨c0, l0, cm⟩ (fun c a d v w h => by cases d <;> exact h) ?_
  apply wpOrd_read0
  case hi => rfl
  case hw => rfl
  case hy => (intro w; go_simp; try rfl)
  intro K hK; go_simp; refine hK _ _ ?_; clear hK K
  apply wpOrd_read0
  case hi => rfl
  case hw => rfl
  case hy => (intro w; go_simp; try rfl)
  intro K hK; go_simp; refine hK _ _ ?_; clear hK K
  apply wpOrd_read0
  case hi => rfl
  case hw => rfl
  case hy => (intro w; go_simp; try rfl)
  intro K hK; go_simp; refine hK _ _ ?_; clear hK K
  apply wpOrd_read0
  case hi => rfl
  case hw => rfl
  case hy => (intro w; go_simp; try rfl)
  intro K hK; go_simp; refine hK _ _ ?_; clear hK K
  apply wpOrd_read1
  case hi => rfl
  case hw => rfl
  case hy => (intro w hw; obtain ⟨h1, h2, h3⟩ := hw; go_simp; try rfl)
  intro K hK; go_simp; refine hK _ _ ?_; clear hK K
  apply wpOrd_read0
  case hi => rfl
  case hw => rfl
  case hy => (intro w; go_simp; try rfl)
  intro K hK; go_simp; refine hK _ _ ?_; clear hK K
  apply wpOrd_read0
  case hi => rfl
  case hw => rfl
  case hy => (intro w; go_simp; try rfl)
  intro K hK; go_simp; refine hK _ _ ?_; clear hK K
  apply wpOrd_read0
  case hi => rfl
  case hw => rfl
  case hy => (intro w; go_simp; try rfl)
  intro K hK; go_simp; refine hK _ _ ?_; clear hK K
  apply wpOrd_read0
  case hi => rfl
  case hw => rfl
  case hy => (intro w; go_simp; try rfl)
  intro K hK; go_simp; refine hK _ _ ?_; clear hK K
  apply wpOrd_read1
  case hi => rfl
  case hw => rfl
  case hy => (intro w hw; obtain ⟨h1, h2, h3⟩ := hw; go_simp; try rfl)
  intro K hK; go_simp; refine hK _ _ ?_; clear hK K
  apply wpOrd_read0
  case hi => rfl
  case hw => rfl
  case hy => (intro w; go_simp; try rfl)
  intro K hK; go_simp; refine hK _ _ ?_; clear hK K
  apply wpOrd_read0
  case hi => rfl
  case hw => rfl
  case hy => (intro w; go_simp; try rfl)
  intro K hK; go_simp; refine hK _ _ ?_; clear hK K
  apply wpOrd_read1
  case hi => rfl
  case hw => rfl
  case hy => (intro w hw; obtain ⟨h1, h2, h3⟩ := hw; go_simp; try rfl)
  intro K hK; go_simp; refine hK _ _ ?_; clear hK K
  apply wpOrd_eff2
  case hi => rfl
  case hw => rfl
  intro K hK
  go_simp
  refine hK _ _ ⟨ca (W := W4.drew) hNlt c0, ca (W := W4.drew) hllt l0, ca (W := W4.drew) hkg cm⟩ ?_
  clear hK K
  apply wpOrd_eff3
  case hi => rfl
  case hw => rfl
  intro K hK
  go_simp
  refine (hins1 (B := B) (σ := upd (upd σ R ⟨lk.drop (m + 1), lv.drop (m + 1), []⟩) N ⟨ks.take i ++ sx lk m :: ks.drop i, vs, ns⟩) (N := N) (i := i) (n := vs.length + 1) (HPW.out.1.kept ((Kept.refl (fun _ => False) W4).drew.alloc _)) (Nat.le_trans hB (Nat.le_trans hsz4 (by simp))) hNk (ca (W := W4.drew) hNlt c0) hiF hsF rfl (heap_new W4.drew _) (fun g e e2 => absurd (hown g e) (by rw [e2]; exact Nat.lt_irrefl _))).mono ?_
  rintro e w4 ⟨a4, c4, rfl, ⟨u4, hu4⟩, hf4, HH4, HB4⟩
  refine hK _ _ (wpOrd_nil ?_)
  clear hK K
  simp only [List.drop_succ_cons, List.drop_zero]
  have HX := Lib.hid (And.intro HH4 ((((HPW.out.2).drew.alloc (Nat.le_trans hB hsz4) _)).trans HB4))
  clear HH4 HB4 HPW hp hb c0 hown hNlt l0 hk1 hk2 cm hNk hlk hkg hllt hml hiF hsF
  obtain ⟨hlv, hvs, hns⟩ := HLV.out
  clear HLV
  obtain ⟨na, nb, c2', hown, hNlt⟩ := HX.out.1.f2 (upd_same _ _ _)
  have c2 : w4.cell? ⟨N, 2, none⟩ = some (.slice na ns.length nb) := by simpa [go_sem] using c2'
  have HEQ := Lib.hid (And.intro hlv (And.intro hvs hns))
  have hi1 : i + 1 ≤ ns.length := by omega
  have hns3 : ns.length ≤ 1000 := by omega
  have hw1 : IntKind.i64.wrap ((i : Int) + 1) = (i : Int) + 1 := by rw [IntKind.wrap_i64]; omega
  clear hlv hvs hns
  go_wp2_with fail
  have hk5 : Kept (fun _ => False) (w4.setCell ⟨N, 1, none⟩ (.slice a4 (vs.length + 1) c4)) ((w4.setCell ⟨N, 1, none⟩ (.slice a4 (vs.length + 1) c4)).alloc (.cells #[.pointer (some ⟨R, 0, none⟩)] 64)) := (Kept.refl _ _).alloc _
  have hvb5 : ((w4.setCell ⟨N, 1, none⟩ (.slice a4 (vs.length + 1) c4)).alloc (.cells #[.pointer (some ⟨R, 0, none⟩)] 64)).heap[w4.heap.size]? = some (.cells #[.pointer (some ⟨R, 0, none⟩)] 64 (0, 0)) := by
    rw [← show (w4.setCell ⟨N, 1, none⟩ (.slice a4 (vs.length + 1) c4)).heap.size = w4.heap.size from size_setCells' N [.slice a4 (vs.length + 1) c4] 1 w4]
    exact heap_new _ _
  have hsz5 : B ≤ (w4.setCell ⟨N, 1, none⟩ (.slice a4 (vs.length + 1) c4)).heap.size := Nat.le_trans hB HX.out.2.size
  rw [show (i : Int) + 1 = ((i + 1 : Nat) : Int) by omega]
  refine (hins2 (B := B) (N := N) (i := i + 1) (x := R) (n := ns.length + 1) (HX.out.1.kept hk5) (Nat.le_trans hsz5 hk5.size) (upd_same _ _ _) (cell_kept' hk5 hNlt c2') hi1 hns3 rfl hvb5 (fun g e e2 => absurd (hown g e) (by rw [e2, show (w4.setCell ⟨N, 1, none⟩ (.slice a4 (vs.length + 1) c4)).heap.size = w4.heap.size from size_setCells' N [.slice a4 (vs.length + 1) c4] 1 w4]; exact Nat.lt_irrefl _))).mono ?_
  rintro e w5 ⟨a5, c5, rfl, ⟨u5, hu5⟩, hf5, HH5, HB5⟩
  have HX5 := Lib.hid (And.intro HH5 ((HX.out.2.trans (hk5.below (S := fun _ => False) hsz5 (fun _ h => h.elim))).trans HB5))
  clear HH5 HB5 HX c2 c2' hown hNlt hk5 hvb5 hsz5 hi1 hns3 hw1
  go_wp2_with fail
  clear hu5 hf5
  refine wp_named (fun W => Hp B W (upd (upd (upd (upd σ R ⟨lk.drop (m + 1), lv.drop (m + 1), []⟩) N ⟨ks.take i ++ sx lk m :: ks.drop i, vs, ns⟩) N ⟨ks.take i ++ sx lk m :: ks.drop i, vs.take i ++ sx lv m :: vs.drop i, ns⟩) N ⟨ks.take i ++ sx lk m :: ks.drop i, vs.take i ++ sx lv m :: vs.drop i, ns.take (i + 1) ++ R :: ns.drop (i + 1)⟩) ∧ Below B w0 W) HX5.out ?_
  clear HX5
  rintro W6 ⟨hp, hb⟩
  have HPW := Lib.hid (And.intro hp hb)
  obtain ⟨hlv, hvs, hns⟩ := HEQ.out
  clear HEQ
  have hlk : (upd (upd (upd (upd σ R ⟨lk.drop (m + 1), lv.drop (m + 1), []⟩) N ⟨ks.take i ++ sx lk m :: ks.drop i, vs, ns⟩) N ⟨ks.take i ++ sx lk m :: ks.drop i, vs.take i ++ sx lv m :: vs.drop i, ns⟩) N ⟨ks.take i ++ sx lk m :: ks.drop i, vs.take i ++ sx lv m :: vs.drop i, ns.take (i + 1) ++ R :: ns.drop (i + 1)⟩) l = some ⟨lk, lv, ln⟩ := (upd_other _ _ hne).trans ((upd_other _ _ hne).trans ((upd_other _ _ hne).trans ((upd_other _ _ hRl).trans hl)))
  obtain ⟨na, nb, l0, hown, hllt⟩ := HPW.out.1.f0 hlk
  have hsz6 := HPW.out.2.size
  have hlo : m < lk.length := by omega
  have hn : Hid (m = lk.length - (lk.length - (m))) := Lib.hid (by omega)
  have hFs : lk.length ≤ 300 := by omega
  have HEQ := Lib.hid (And.intro hlv (And.intro hvs hns))
  clear hlv hvs hns
  refine wp_region_ord 12 11 [(0, 0), (1, 0), (2, 0), (3, 0), (4, 1), (5, 0), (6, 0), (7, 0), (8, 0), (9, 1), (10, 0), (11, 3)] (fun X => X.cell? ⟨l, 0, none⟩ = some (.slice na lk.length nb)) (by kernel_rfl) (by kernel_rfl) l0 (fun c a d v w h => by cases d <;> exact h) ?_
  apply wpOrd_read0
  case hi => rfl
  case hw => rfl
  case hy => (intro w; go_simp; try rfl)
  intro K hK; go_simp; refine hK _ _ ?_; clear hK K
  apply wpOrd_read0
  case hi => rfl
  case hw => rfl
  case hy => (intro w; go_simp; try rfl)
  intro K hK; go_simp; refine hK _ _ ?_; clear hK K
  apply wpOrd_read0
  case hi => rfl
  case hw => rfl
  case hy => (intro w; go_simp; try rfl)
  intro K hK; go_simp; refine hK _ _ ?_; clear hK K
  apply wpOrd_read0
  case hi => rfl
  case hw => rfl
  case hy => (intro w; go_simp; try rfl)
  intro K hK; go_simp; refine hK _ _ ?_; clear hK K
  apply wpOrd_read1
  case hi => rfl
  case hw => rfl
  case hy => (intro w hw; have h1 := hw; go_simp; try rfl)
  intro K hK; go_simp; refine hK _ _ ?_; clear hK K
  apply wpOrd_read0
  case hi => rfl
  case hw => rfl
  case hy => (intro w; go_simp; try rfl)
  intro K hK; go_simp; refine hK _ _ ?_; clear hK K
  apply wpOrd_read0
  case hi => rfl
  case hw => rfl
  case hy => (intro w; go_simp; try rfl)
  intro K hK; go_simp; refine hK _ _ ?_; clear hK K
  apply wpOrd_read0
  case hi => rfl
  case hw => rfl
  case hy => (intro w; go_simp; try rfl)
  intro K hK; go_simp; refine hK _ _ ?_; clear hK K
  apply wpOrd_read0
  case hi => rfl
  case hw => rfl
  case hy => (intro w; go_simp; try rfl)
  intro K hK; go_simp; refine hK _ _ ?_; clear hK K
  apply wpOrd_read1
  case hi => rfl
  case hw => rfl
  case hy => (intro w hw; have h1 := hw; go_simp; try rfl)
  intro K hK; go_simp; refine hK _ _ ?_; clear hK K
  apply wpOrd_read0
  case hi => rfl
  case hw => rfl
  case hy => (intro w; go_simp; try rfl)
  intro K hK; go_simp; refine hK _ _ ?_; clear hK K
  apply wpOrd_eff3
  case hi => rfl
  case hw => rfl
  intro K hK
  go_simp
  try rw [show (m : Int) + 1 = ((m + 1 : Nat) : Int) by omega]
  refine (hdel0 (B := B) (σ := upd (upd (upd (upd σ R ⟨lk.drop (m + 1), lv.drop (m + 1), []⟩) N ⟨ks.take i ++ sx lk m :: ks.drop i, vs, ns⟩) N ⟨ks.take i ++ sx lk m :: ks.drop i, vs.take i ++ sx lv m :: vs.drop i, ns⟩) N ⟨ks.take i ++ sx lk m :: ks.drop i, vs.take i ++ sx lv m :: vs.drop i, ns.take (i + 1) ++ R :: ns.drop (i + 1)⟩) (N := l) (i := m) (j := lk.length) (n := m) (HPW.out.1.drewN 1) (Nat.le_trans hB hsz6) hlk l0 hlo (Nat.le_refl _) hn.out).mono ?_
  rintro e w4 ⟨a4, c4, rfl, ⟨u4, hu4⟩, hf4, HH4, HB4⟩
  refine hK _ _ (wpOrd_nil ?_)
  clear hK K
  simp only [List.drop_succ_cons, List.drop_zero]
  have HX := Lib.hid (And.intro HH4 ((HPW.out.2).drew.trans HB4))
  clear HH4 HB4 HPW hp hb l0 hown hllt hlk hlo hn hFs
  obtain ⟨hlv, hvs, hns⟩ := HEQ.out
  clear HEQ
  go_wp2_with fail
  clear hu4 hf4
  refine wp_named (fun W => Hp B W (upd (upd (upd (upd (upd σ R ⟨lk.drop (m + 1), lv.drop (m + 1), []⟩) N ⟨ks.take i ++ sx lk m :: ks.drop i, vs, ns⟩) N ⟨ks.take i ++ sx lk m :: ks.drop i, vs.take i ++ sx lv m :: vs.drop i, ns⟩) N ⟨ks.take i ++ sx lk m :: ks.drop i, vs.take i ++ sx lv m :: vs.drop i, ns.take (i + 1) ++ R :: ns.drop (i + 1)⟩) l ⟨lk.take m ++ lk.drop lk.length, lv, ln⟩) ∧ Below B w0 W) HX.out ?_
  clear HX
  rintro W7 ⟨hp, hb⟩
  have HPW := Lib.hid (And.intro hp hb)
  have hmv : m < lv.length := by omega
  have hlk : (upd (upd (upd (upd (upd σ R ⟨lk.drop (m + 1), lv.drop (m + 1), []⟩) N ⟨ks.take i ++ sx lk m :: ks.drop i, vs, ns⟩) N ⟨ks.take i ++ sx lk m :: ks.drop i, vs.take i ++ sx lv m :: vs.drop i, ns⟩) N ⟨ks.take i ++ sx lk m :: ks.drop i, vs.take i ++ sx lv m :: vs.drop i, ns.take (i + 1) ++ R :: ns.drop (i + 1)⟩) l ⟨lk.take m ++ lk.drop lk.length, lv, ln⟩) l = some ⟨lk.take m ++ lk.drop lk.length, lv, ln⟩ := upd_same _ _ _
  obtain ⟨na, nb, l0, hown, hllt⟩ := HPW.out.1.f1 hlk
  have hsz7 := HPW.out.2.size
  have hlo : m < lv.length := by omega
  have hn : Hid (m = lv.length - (lv.length - (m))) := Lib.hid (by omega)
  have hFs : lv.length ≤ 300 := by omega
  have HEQ := Lib.hid (And.intro hlv (And.intro hvs hns))
  clear hlv hvs hns
  refine wp_region_ord 12 11 [(0, 0), (1, 0), (2, 0), (3, 0), (4, 1), (5, 0), (6, 0), (7, 0), (8, 0), (9, 1), (10, 0), (11, 3)] (fun X => X.cell? ⟨l, 1, none⟩ = some (.slice na lv.length nb)) (by kernel_rfl) (by kernel_rfl) l0 (fun c a d v w h => by cases d <;> exact h) ?_
  apply wpOrd_read0
  case hi => rfl
  case hw => rfl
  case hy => (intro w; go_simp; try rfl)
  intro K hK; go_simp; refine hK _ _ ?_; clear hK K
  apply wpOrd_read0
  case hi => rfl
  case hw => rfl
  case hy => (intro w; go_simp; try rfl)
  intro K hK; go_simp; refine hK _ _ ?_; clear hK K
  apply wpOrd_read0
  case hi => rfl
  case hw => rfl
  case hy => (intro w; go_simp; try rfl)
  intro K hK; go_simp; refine hK _ _ ?_; clear hK K
  apply wpOrd_read0
  case hi => rfl
  case hw => rfl
  case hy => (intro w; go_simp; try rfl)
  intro K hK; go_simp; refine hK _ _ ?_; clear hK K
  apply wpOrd_read1
  case hi => rfl
  case hw => rfl
  case hy => (intro w hw; have h1 := hw; go_simp; try rfl)
  intro K hK; go_simp; refine hK _ _ ?_; clear hK K
  apply wpOrd_read0
  case hi => rfl
  case hw => rfl
  case hy => (intro w; go_simp; try rfl)
  intro K hK; go_simp; refine hK _ _ ?_; clear hK K
  apply wpOrd_read0
  case hi => rfl
  case hw => rfl
  case hy => (intro w; go_simp; try rfl)
  intro K hK; go_simp; refine hK _ _ ?_; clear hK K
  apply wpOrd_read0
  case hi => rfl
  case hw => rfl
  case hy => (intro w; go_simp; try rfl)
  intro K hK; go_simp; refine hK _ _ ?_; clear hK K
  apply wpOrd_read0
  case hi => rfl
  case hw => rfl
  case hy => (intro w; go_simp; try rfl)
  intro K hK; go_simp; refine hK _ _ ?_; clear hK K
  apply wpOrd_read1
  case hi => rfl
  case hw => rfl
  case hy => (intro w hw; have h1 := hw; go_simp; try rfl)
  intro K hK; go_simp; refine hK _ _ ?_; clear hK K
  apply wpOrd_read0
  case hi => rfl
  case hw => rfl
  case hy => (intro w; go_simp; try rfl)
  intro K hK; go_simp; refine hK _ _ ?_; clear hK K
  apply wpOrd_eff3
  case hi => rfl
  case hw => rfl
  intro K hK
  go_simp
  try rw [show (m : Int) + 1 = ((m + 1 : Nat) : Int) by omega]
  refine (hdel1 (B := B) (σ := upd (upd (upd (upd (upd σ R ⟨lk.drop (m + 1), lv.drop (m + 1), []⟩) N ⟨ks.take i ++ sx lk m :: ks.drop i, vs, ns⟩) N ⟨ks.take i ++ sx lk m :: ks.drop i, vs.take i ++ sx lv m :: vs.drop i, ns⟩) N ⟨ks.take i ++ sx lk m :: ks.drop i, vs.take i ++ sx lv m :: vs.drop i, ns.take (i + 1) ++ R :: ns.drop (i + 1)⟩) l ⟨lk.take m ++ lk.drop lk.length, lv, ln⟩) (N := l) (i := m) (j := lv.length) (n := m) (HPW.out.1.drewN 1) (Nat.le_trans hB hsz7) hlk l0 hlo (Nat.le_refl _) hn.out).mono ?_
  rintro e w4 ⟨a4, c4, rfl, ⟨u4, hu4⟩, hf4, HH4, HB4⟩
  refine hK _ _ (wpOrd_nil ?_)
  clear hK K
  simp only [List.drop_succ_cons, List.drop_zero]
  have HX := Lib.hid (And.intro HH4 ((HPW.out.2).drew.trans HB4))
  clear HH4 HB4 HPW hp hb l0 hown hllt hlk hlo hn hFs
  obtain ⟨hlv, hvs, hns⟩ := HEQ.out
  clear HEQ
  have HM := hmm0
  rcases hln with hln | hll
  · subst hln
    obtain ⟨na, nb, c2', hown, hNlt⟩ := HX.out.1.f2 (upd_same _ _ _)
    have c2 : w4.cell? ⟨l, 2, none⟩ = some (.slice na 0 nb) := by simpa [go_sem] using c2'
    clear c2' hlv hvs hns
    go_wp2_with fail
    refine bodyPost_end (v := .tuple #[]) (by simp [results, Try.results43, go_sem]) rfl ⟨rfl, R, _, HX.out.1, HX.out.2, hRn, hRN.symm, hRl.symm, ?_⟩
    rw [← HM.out]
    simp only [List.drop_length, List.append_nil, List.drop_nil, List.take_nil]
    refine sig_ext (fun k => ?_) rfl
    simp only [upd_k]
    by_cases h1 : k = l
    · simp [h1]
    · by_cases h2 : k = N
      · simp [h1, h2, hne.symm, hRN]
      · simp [h1, h2]
  · obtain ⟨dg, dc, c2', hd1, hd2, hdg, hdc⟩ := HX.out.1.g2 (upd_same _ _ _) (by omega)
    have c2 : w4.cell? ⟨l, 2, none⟩ = some (.slice (some ⟨dg, 0, none⟩) ln.length dc) := by simpa [go_sem] using c2'
    have hR6 : (upd (upd (upd (upd (upd (upd σ R ⟨lk.drop (m + 1), lv.drop (m + 1), []⟩) N ⟨ks.take i ++ sx lk m :: ks.drop i, vs, ns⟩) N ⟨ks.take i ++ sx lk m :: ks.drop i, vs.take i ++ sx lv m :: vs.drop i, ns⟩) N ⟨ks.take i ++ sx lk m :: ks.drop i, vs.take i ++ sx lv m :: vs.drop i, ns.take (i + 1) ++ R :: ns.drop (i + 1)⟩) l ⟨lk.take m ++ lk.drop lk.length, lv, ln⟩) l ⟨lk.take m ++ lk.drop lk.length, lv.take m ++ lv.drop lv.length, ln⟩) R = some ⟨lk.drop (m + 1), lv.drop (m + 1), []⟩ := (upd_other _ _ hRl.symm).trans ((upd_other _ _ hRl.symm).trans ((upd_other _ _ hRN.symm).trans ((upd_other _ _ hRN.symm).trans ((upd_other _ _ hRN.symm).trans (upd_same _ _ _)))))
    obtain ⟨ra, rb, r2, _, _⟩ := HX.out.1.f2 hR6
    have hml2 : m + 1 < ln.length := by omega
    have hln3 : ln.length ≤ 300 := by omega
    have hw1 : IntKind.i64.wrap ((m : Int) + 1) = (m : Int) + 1 := by rw [IntKind.wrap_i64]; omega
    have hx1 : (0 : Int) ≤ (m : Int) + 1 := by omega
    have htn : ((m : Int) + 1).toNat = m + 1 := by omega
    have hx3 : (m : Int) + 1 ≤ (ln.length : Int) := by omega
    have hx4 : (ln.length : Int) ≤ (dc : Int) := by omega
    have hx6 : m + 1 ≤ ln.length := by omega
    have hn1 : ¬ (dc = m + 1) := by omega
    have hln0 : 0 < ln.length := by omega
    have hsz9 : B ≤ (w4.setCell ⟨l, 1, none⟩ (.slice a4 m c4)).heap.size := Nat.le_trans hB HX.out.2.size
    have HEQ := Lib.hid (And.intro hlv (And.intro hvs (And.intro hns hll)))
    clear hlv hvs hns hll hdc hR6
    go_wp2_with fail
    refine (hclone2 (B := B) (R := R) (l := l) (m := m + 1) (g := dg) (n := ln.length - (m + 1)) HX.out.1 hsz9 ((upd_other _ _ hRl.symm).trans ((upd_other _ _ hRl.symm).trans ((upd_other _ _ hRN.symm).trans ((upd_other _ _ hRN.symm).trans ((upd_other _ _ hRN.symm).trans (upd_same _ _ _)))))) r2 (upd_same _ _ _) c2' hx6 (by omega) rfl).mono ?_
    rintro e w9 ⟨a9, c9, rfl, ⟨u9, hu9⟩, hf9, HH9, HB9⟩
    have HX9 := Lib.hid (And.intro HH9 (HX.out.2.trans HB9))
    clear HH9 HB9 HX c2 c2' r2 hsz9 hd1 hd2 hdg hx1 htn hx3 hx4 hx6 hn1
    go_wp2_with fail
    clear hu9 hf9
    refine wp_named (fun W => Hp B W (upd (upd (upd (upd (upd (upd (upd σ R ⟨lk.drop (m + 1), lv.drop (m + 1), []⟩) N ⟨ks.take i ++ sx lk m :: ks.drop i, vs, ns⟩) N ⟨ks.take i ++ sx lk m :: ks.drop i, vs.take i ++ sx lv m :: vs.drop i, ns⟩) N ⟨ks.take i ++ sx lk m :: ks.drop i, vs.take i ++ sx lv m :: vs.drop i, ns.take (i + 1) ++ R :: ns.drop (i + 1)⟩) l ⟨lk.take m ++ lk.drop lk.length, lv, ln⟩) l ⟨lk.take m ++ lk.drop lk.length, lv.take m ++ lv.drop lv.length, ln⟩) R ⟨lk.drop (m + 1), lv.drop (m + 1), ln.drop (m + 1)⟩) ∧ Below B w0 W) HX9.out ?_
    clear HX9
    rintro W9 ⟨hp, hb⟩
    have HPW := Lib.hid (And.intro hp hb)
    obtain ⟨hlv, hvs, hns, hll⟩ := HEQ.out
    clear HEQ
    have HLL := Lib.hid hll
    clear hll
    have hlk : (upd (upd (upd (upd (upd (upd (upd σ R ⟨lk.drop (m + 1), lv.drop (m + 1), []⟩) N ⟨ks.take i ++ sx lk m :: ks.drop i, vs, ns⟩) N ⟨ks.take i ++ sx lk m :: ks.drop i, vs.take i ++ sx lv m :: vs.drop i, ns⟩) N ⟨ks.take i ++ sx lk m :: ks.drop i, vs.take i ++ sx lv m :: vs.drop i, ns.take (i + 1) ++ R :: ns.drop (i + 1)⟩) l ⟨lk.take m ++ lk.drop lk.length, lv, ln⟩) l ⟨lk.take m ++ lk.drop lk.length, lv.take m ++ lv.drop lv.length, ln⟩) R ⟨lk.drop (m + 1), lv.drop (m + 1), ln.drop (m + 1)⟩) l = some ⟨lk.take m ++ lk.drop lk.length, lv.take m ++ lv.drop lv.length, ln⟩ := (upd_other _ _ hRl).trans (upd_same _ _ _)
    obtain ⟨na, nb, l0, hown, hllt⟩ := HPW.out.1.f2 hlk
    have hsz9 := HPW.out.2.size
    have hlo : m + 1 < ln.length := by omega
    have hn : Hid (m + 1 = ln.length - (ln.length - (m + 1))) := Lib.hid (by omega)
    have hFs : ln.length ≤ 300 := by omega
    have HEQ := Lib.hid (And.intro hlv (And.intro hvs hns))
    clear hlv hvs hns
    refine wp_region_ord 13 12 [(0, 0), (1, 0), (2, 0), (3, 0), (4, 1), (5, 0), (6, 0), (7, 0), (8, 0), (9, 0), (10, 1), (11, 0), (12, 3)] (fun X => X.cell? ⟨l, 2, none⟩ = some (.slice na ln.length nb)) (by kernel_rfl) (by kernel_rfl) l0 (fun c a d v w h => by cases d <;> exact h) ?_
    apply wpOrd_read0
    case hi => rfl
    case hw => rfl
    case hy => (intro w; go_simp; try rfl)
    intro K hK; go_simp; refine hK _ _ ?_; clear hK K
    apply wpOrd_read0
    case hi => rfl
    case hw => rfl
    case hy => (intro w; go_simp; try rfl)
    intro K hK; go_simp; refine hK _ _ ?_; clear hK K
    apply wpOrd_read0
    case hi => rfl
    case hw => rfl
    case hy => (intro w; go_simp; try rfl)
    intro K hK; go_simp; refine hK _ _ ?_; clear hK K
    apply wpOrd_read0
    case hi => rfl
    case hw => rfl
    case hy => (intro w; go_simp; try rfl)
    intro K hK; go_simp; refine hK _ _ ?_; clear hK K
    apply wpOrd_read1
    case hi => rfl
    case hw => rfl
    case hy => (intro w hw; have h1 := hw; go_simp; try rfl)
    intro K hK; go_simp; refine hK _ _ ?_; clear hK K
    apply wpOrd_read0
    case hi => rfl
    case hw => rfl
    case hy => (intro w; go_simp; try rfl)
    intro K hK; go_simp; refine hK _ _ ?_; clear hK K
    apply wpOrd_read0
    case hi => rfl
    case hw => rfl
    case hy => (intro w; go_simp; try rfl)
    intro K hK; go_simp; refine hK _ _ ?_; clear hK K
    apply wpOrd_read0
    case hi => rfl
    case hw => rfl
    case hy => (intro w; go_simp; try rfl)
    intro K hK; go_simp; refine hK _ _ ?_; clear hK K
    apply wpOrd_read0
    case hi => rfl
    case hw => rfl
    case hy => (intro w; go_simp; try rfl)
    intro K hK; go_simp; refine hK _ _ ?_; clear hK K
    apply wpOrd_read0
    case hi => rfl
    case hw => rfl
    case hy => (intro w; go_simp; try rfl)
    intro K hK; go_simp; refine hK _ _ ?_; clear hK K
    apply wpOrd_read1
    case hi => rfl
    case hw => rfl
    case hy => (intro w hw; have h1 := hw; go_simp; try rfl)
    intro K hK; go_simp; refine hK _ _ ?_; clear hK K
    apply wpOrd_read0
    case hi => rfl
    case hw => rfl
    case hy => (intro w; go_simp; try rfl)
    intro K hK; go_simp; refine hK _ _ ?_; clear hK K
    apply wpOrd_eff3
    case hi => rfl
    case hw => rfl
    intro K hK
    go_simp
    try rw [show (m : Int) + 1 = ((m + 1 : Nat) : Int) by omega]
    refine (hdel2 (B := B) (σ := upd (upd (upd (upd (upd (upd (upd σ R ⟨lk.drop (m + 1), lv.drop (m + 1), []⟩) N ⟨ks.take i ++ sx lk m :: ks.drop i, vs, ns⟩) N ⟨ks.take i ++ sx lk m :: ks.drop i, vs.take i ++ sx lv m :: vs.drop i, ns⟩) N ⟨ks.take i ++ sx lk m :: ks.drop i, vs.take i ++ sx lv m :: vs.drop i, ns.take (i + 1) ++ R :: ns.drop (i + 1)⟩) l ⟨lk.take m ++ lk.drop lk.length, lv, ln⟩) l ⟨lk.take m ++ lk.drop lk.length, lv.take m ++ lv.drop lv.length, ln⟩) R ⟨lk.drop (m + 1), lv.drop (m + 1), ln.drop (m + 1)⟩) (N := l) (i := m + 1) (j := ln.length) (n := m + 1) (HPW.out.1.drewN 1) (Nat.le_trans hB hsz9) hlk l0 hlo (Nat.le_refl _) hn.out).mono ?_
    rintro e w4 ⟨a4, c4, rfl, ⟨u4, hu4⟩, hf4, HH4, HB4⟩
    refine hK _ _ (wpOrd_nil ?_)
    clear hK K
    simp only [List.drop_succ_cons, List.drop_zero]
    have HX := Lib.hid (And.intro HH4 ((HPW.out.2).drew.trans HB4))
    clear HH4 HB4 HPW hp hb l0 hown hllt hlk hlo hn hFs
    obtain ⟨hlv, hvs, hns⟩ := HEQ.out
    clear HEQ
    clear hlv hvs hns
    go_wp2_with fail
    refine bodyPost_end (v := .tuple #[]) (by simp [results, Try.results43, go_sem]) rfl ⟨rfl, R, _, HX.out.1, HX.out.2, hRn, hRN.symm, hRl.symm, ?_⟩
    rw [← HM.out]
    simp only [List.drop_length, List.append_nil]
    refine sig_ext (fun k => ?_) rfl
    simp only [upd_k]
    by_cases h1 : k = l
    · simp [h1]
    · by_cases h2 : k = N
      · simp [h1, h2, hne.symm, hRN]
      · by_cases h3 : k = R
        · simp [h1, h2, h3, hRN.symm, hRl.symm]
        · simp [h1, h2, h3]
end Go.Proofs.Ytegljepgncicjaa
/- Btree: the walks of node.put. -/
namespace Go.Proofs.Ytegljepgncicjaa
open Go.ChangeShapes Go.WideShapes Go.ChangeAt Go.RowKit Go.Deep
set_option linter.unusedVariables false
set_option linter.unusedSimpArgs false
theorem Hp.bs {B : Nat} {W : World} {σ : Sig} (h : Hp B W σ) {N : Nat} {ks vs : List Bs} {ns : List Nat} (hN : σ N = some ⟨ks, vs, ns⟩) (hs : ks.length ≤ 1000) (key : Bs) :
    ∃ a c, W.cell? ⟨N, 0, none⟩ = some (.slice a ks.length c) ∧ Calls Try.prog 45 #[.slice a ks.length c, .string key] W fun e W' => e = .returned (.tuple #[.int .i64 (bsI ks key : Nat), .bool (bsF ks key)]) ∧ ∃ q, W' = W.drewN q := by
  obtain ⟨kv, vv, dv, hnd⟩ := h.node hN
  have hr : RowV 9 B W kv (strv ks) := hnd.r0
  have hc := hnd.c0
  obtain ⟨a, c, rfl⟩ := hr.len
  rw [strv_len] at hc hr
  exact ⟨a, c, hc, bs_str B _ ks key W hr hs⟩
def Out (B : Nat) (r : Value) (σ' : Sig) (W : World) (e : Ending) (W' : World) : Prop := e = .returned r ∧ Hp B W' σ' ∧ Below B W W'
set_option maxRecDepth 100000 in
set_option maxHeartbeats 1600000 in
theorem put_found (B N i : Nat) (o : Int) (σ : Sig) (ks vs : List Bs) (ns : List Nat) (key val : Bs) (W : World) (hp : Hp B W σ) (hB : B ≤ W.heap.size) (hN : σ N = some ⟨ks, vs, ns⟩) (hs : ks.length ≤ 260) (hv : vs.length = ks.length) (hi : i = bsI ks key) (hil : i < ks.length) (hf : bsF ks key = true) :
    Calls Try.prog 42 #[.pointer (some ⟨N, 0, none⟩), .int .i64 o, .string key, .string val] W (Out B (.bool false) (upd σ N ⟨ks, vs.set i val, ns⟩) W) := by
  obtain ⟨ka, kc, c0, hbs⟩ := hp.bs hN (by omega) key
  rw [← hi, hf] at hbs
  have HBS := Lib.hid hbs
  obtain ⟨va, vc, c1, _, _⟩ := hp.f1 hN
  obtain ⟨g, c, e1, hth, hfr, hnc, hc63, HH, hk, hBg, hgN⟩ := hp.elem (nd' := ⟨ks, vs.set i val, ns⟩) hN 1 (by decide) _ c1 i (.string val) (by show i < (strv vs).length; rw [strv_len]; omega)
    (by show strv (vs.set i val) = (strv vs).set i (.string val); simp [strv, List.map_set]) (fun k h1 h2 => by match k, h1 with | 0, _ => rfl | 1, _ => exact absurd rfl h2 | 2, _ => rfl)
  rw [show (Nd.row ⟨ks, vs, ns⟩ 1).length = vs.length from strv_len vs] at e1 hnc
  cases e1
  obtain ⟨u, hu⟩ := Option.isSome_iff_exists.1 hth
  have hbk : ∀ k, (Value.slice (some ⟨g, 0, none⟩) vs.length vc).ownBlock = some k → B ≤ k := fun k h => by
    have e : g = k := by simpa [Value.ownBlock] using h
    rw [← e]
    exact hBg
  have HO := Lib.hid (And.intro (fun q => (HH.kept ((Kept.refl (fun _ => False) _).drewN q))) (hk.below hB hbk))
  have hvl : i < vs.length := by omega
  have hvs : vs.length ≤ 260 := by omega
  clear hbs HH hk hth hi hf hp hv hN
  go_enter Try.func42, Try.ntmps42
  go_wp2_with fail
  refine HBS.out.mono ?_
  rintro e W1 ⟨rfl, q, rfl⟩
  clear HBS c0
  go_wp2_with fail
  go_ret
  exact ⟨rfl, HO.out.1 q, ⟨HO.out.2.os, HO.out.2.tape, HO.out.2.output, HO.out.2.size, HO.out.2.block⟩⟩
set_option maxRecDepth 100000 in
set_option maxHeartbeats 1600000 in
theorem put_leaf (B N i : Nat) (o : Int) (σ : Sig) (ks vs : List Bs) (key val : Bs) (W : World) (hp : Hp B W σ) (hB : B ≤ W.heap.size) (hN : σ N = some ⟨ks, vs, []⟩) (hs : ks.length ≤ 260) (hv : vs.length = ks.length) (hi : i = bsI ks key) (hil : i ≤ ks.length) (hf : bsF ks key = false) :
    Calls Try.prog 42 #[.pointer (some ⟨N, 0, none⟩), .int .i64 o, .string key, .string val] W (Out B (.bool true) (upd σ N ⟨ks.take i ++ key :: ks.drop i, vs.take i ++ val :: vs.drop i, []⟩) W) := by
  obtain ⟨ka, kc, c0, hbs⟩ := hp.bs hN (by omega) key
  rw [← hi, hf] at hbs
  have HBS := Lib.hid hbs
  obtain ⟨ka', kc', c0', hown, hNlt⟩ := hp.f0 hN
  rw [c0] at c0'
  cases c0'
  obtain ⟨da, dc, c2, _, _⟩ := hp.f2 hN
  change W.cell? _ = some (.slice da 0 dc) at c2
  have HP := Lib.hid hp
  have hsk : ks.length ≤ 1000 := by omega
  have hsv : vs.length ≤ 1000 := by omega
  have hiv : i ≤ vs.length := by omega
  clear hbs hi hf hp hv
  go_enter Try.func42, Try.ntmps42
  go_wp2_with fail
  refine HBS.out.mono ?_
  rintro e W1 ⟨rfl, q, rfl⟩
  clear HBS
  go_wp2_with fail
  have hk1 : Kept (fun _ => False) W ((W.drewN q).alloc (.cells #[.string key] 9)) := ((Kept.refl _ W).drewN q).alloc _
  refine (hins0 (B := B) (N := N) (i := i) (n := ks.length + 1) (HP.out.kept hk1) (Nat.le_trans hB hk1.size) hN (cell_kept' hk1 hNlt c0) hil hsk rfl (heap_new (W.drewN q) _) (fun g e e2 => absurd (hown g e) (by rw [e2]; exact Nat.lt_irrefl _))).mono ?_
  rintro e w4 ⟨a4, c4, rfl, ⟨u4, hu4⟩, hf4, HH4, HB4⟩
  obtain ⟨va, vc, c1', hown1, hNlt1⟩ := HH4.f1 (upd_same _ _ _)
  have c1 : w4.cell? ⟨N, 1, none⟩ = some (.slice va vs.length vc) := by simpa [go_sem] using c1'
  have HX := Lib.hid (And.intro HH4 ((hk1.below (S := fun _ => False) hB (fun _ h => h.elim)).trans HB4))
  clear HH4 HB4 hk1 c0 c2 hown hNlt
  go_wp2_with fail
  have hq : (w4.setCell ⟨N, 0, none⟩ (.slice a4 (ks.length + 1) c4)).heap.size = w4.heap.size := size_setCells' N [.slice a4 (ks.length + 1) c4] 0 w4
  have hk5 : Kept (fun _ => False) (w4.setCell ⟨N, 0, none⟩ (.slice a4 (ks.length + 1) c4)) ((w4.setCell ⟨N, 0, none⟩ (.slice a4 (ks.length + 1) c4)).alloc (.cells #[.string val] 9)) := (Kept.refl _ _).alloc _
  have hvb5 : ((w4.setCell ⟨N, 0, none⟩ (.slice a4 (ks.length + 1) c4)).alloc (.cells #[.string val] 9)).heap[w4.heap.size]? = some (.cells #[.string val] 9 (0, 0)) := by
    rw [← hq]
    exact heap_new _ _
  have hsz5 : B ≤ (w4.setCell ⟨N, 0, none⟩ (.slice a4 (ks.length + 1) c4)).heap.size := Nat.le_trans hB HX.out.2.size
  have HQ := Lib.hid hq
  clear hq
  refine (hins1 (B := B) (N := N) (i := i) (n := vs.length + 1) (HX.out.1.kept hk5) (Nat.le_trans hsz5 hk5.size) (upd_same _ _ _) (cell_kept' hk5 hNlt1 c1') hiv hsv rfl hvb5 (fun g e e2 => absurd (hown1 g e) (by rw [e2, HQ.out]; exact Nat.lt_irrefl _))).mono ?_
  rintro e w5 ⟨a5, c5, rfl, ⟨u5, hu5⟩, hf5, HH5, HB5⟩
  have HX5 := Lib.hid (And.intro HH5 ((HX.out.2.trans (hk5.below (S := fun _ => False) hsz5 (fun _ h => h.elim))).trans HB5))
  clear HH5 HB5 HX c1 c1' hown1 hNlt1 hk5 hvb5 hsz5 HQ
  go_wp2_with fail
  go_ret
  refine ⟨rfl, ?_, HX5.out.2⟩
  have := HX5.out.1
  rw [upd_upd] at this
  exact this
/-- what stands behind the recursive call -/
def PutIn (B N M i : Nat) (o : Nat) (r : Bool) (ks vs : List Bs) (ns : List Nat) (F : Sig → Prop) (W : World) (e : Ending) (W' : World) : Prop :=
  e = .returned (.bool r) ∧ Below B W W' ∧ ∃ σ1 lk lv ln, F σ1 ∧ σ1 M = some ⟨lk, lv, ln⟩ ∧ ((lk.length ≤ o ∧ Hp B W' σ1) ∨ (o < lk.length ∧ ∃ R σ', Hp B W' σ' ∧ σ1 R = none ∧ R ≠ N ∧ R ≠ M ∧
    σ' = upd (upd (upd σ1 R ⟨lk.drop (lk.length / 2 + 1), lv.drop (lk.length / 2 + 1), ln.drop (lk.length / 2 + 1)⟩)
      N ⟨ks.take i ++ sx lk (lk.length / 2) :: ks.drop i, vs.take i ++ sx lv (lk.length / 2) :: vs.drop i, ns.take (i + 1) ++ R :: ns.drop (i + 1)⟩)
      M ⟨lk.take (lk.length / 2), lv.take (lk.length / 2), ln.take (lk.length / 2 + 1)⟩))
set_option maxRecDepth 100000 in
set_option maxHeartbeats 1600000 in
theorem put_inner (B N M i o : Nat) (r : Bool) (σ : Sig) (ks vs : List Bs) (ns : List Nat) (key val : Bs) (F : Sig → Prop) (W : World) (hp : Hp B W σ) (hB : B ≤ W.heap.size) (hN : σ N = some ⟨ks, vs, ns⟩) (hs : ks.length ≤ 256) (hv : vs.length = ks.length) (hns : ns.length = ks.length + 1) (hi : i = bsI ks key) (hil : i ≤ ks.length) (hf : bsF ks key = false) (hM : ns[i]? = some M) (ho : 4 ≤ o) (ho2 : o ≤ 256)
    (hrec : ∀ q, Calls Try.prog 42 #[.pointer (some ⟨M, 0, none⟩), .int .i64 o, .string key, .string val] (W.drewN q) fun e W' => e = .returned (.bool r) ∧ ∃ σ1, Hp B W' σ1 ∧ Below B (W.drewN q) W' ∧ F σ1)
    (hF : ∀ σ1, F σ1 → σ1 N = some ⟨ks, vs, ns⟩ ∧ ∃ lk lv ln, σ1 M = some ⟨lk, lv, ln⟩ ∧ M ≠ N ∧ lk.length ≤ o + 1 ∧ 1 ≤ lk.length ∧ lv.length = lk.length ∧ (ln = [] ∨ ln.length = lk.length + 1)) :
    Calls Try.prog 42 #[.pointer (some ⟨N, 0, none⟩), .int .i64 o, .string key, .string val] W (PutIn B N M i o r ks vs ns F W) := by
  obtain ⟨ka, kc, c0, hbs⟩ := hp.bs hN (by omega) key
  rw [← hi, hf] at hbs
  have HBS := Lib.hid hbs
  obtain ⟨ng, nc, c2, hd1, hd2, _, hdc⟩ := hp.g2 hN (by omega)
  have ci := hdc i M hM
  have hil2 : i < ns.length := (List.getElem?_eq_some_iff.1 hM).1
  have hns2 : ns.length ≤ 300 := by omega
  have hns3 : 0 < ns.length := by omega
  have HE := Lib.hid (And.intro hv hns)
  clear hbs hi hf hdc hp hv hns
  go_enter Try.func42, Try.ntmps42
  go_wp2_with fail
  refine HBS.out.mono ?_
  rintro e W1 ⟨rfl, q, rfl⟩
  clear HBS c0
  go_wp2_with fail
  refine (hrec q).mono ?_
  rintro e W1 ⟨rfl, σ1, hp1, hb1, hf1⟩
  obtain ⟨hN1, lk, lv, ln, hM1, hMN, hle, hge, hlv, hln⟩ := hF σ1 hf1
  obtain ⟨ng1, nc1, d2, hd3, hd4, _, hdc1⟩ := hp1.g2 hN1 (by omega)
  obtain ⟨ka1, kc1, d0, _, _⟩ := hp1.f0 hM1
  have di := hdc1 i M hM
  have HP1 := Lib.hid (And.intro hp1 (And.intro (show Below B W W1 from ⟨hb1.os, hb1.tape, hb1.output, hb1.size, hb1.block⟩) hf1))
  have hle2 : lk.length ≤ 300 := by omega
  have HLV := Lib.hid (And.intro hlv hln)
  clear hp1 hb1 hf1 hdc1 c2 ci hd1 hd2 hlv hln
  by_cases hgt : o < lk.length
  · have hd : decide ((o : Int) < (lk.length : Int)) = true := decide_eq_true (by omega)
    go_wp2_with fail
    refine (split_any B N M i σ1 ks vs ns lk lv ln W1 HP1.out.1 (Nat.le_trans hB HP1.out.2.1.size) hN1 hM1 hMN hM hil HE.out.1 HE.out.2 HLV.out.1 (by omega) (by omega) (by omega) HLV.out.2).mono ?_
    rintro e W2 ⟨rfl, R, σ', h1, h2, h3, h4, h5, h6⟩
    have HR := Lib.hid (And.intro h1 (And.intro h2 (And.intro h3 (And.intro h4 (And.intro h5 h6)))))
    clear h1 h2 h3 h4 h5 h6 d2 d0 di
    go_wp2_with fail
    have HG := Lib.hid (show PutIn B N M i o r ks vs ns F W (.returned (.bool r)) W2 from ⟨rfl, HP1.out.2.1.trans HR.out.2.1, σ1, lk, lv, ln, HP1.out.2.2, hM1, .inr ⟨hgt, R, σ', HR.out.1, HR.out.2.2.1, HR.out.2.2.2.1, HR.out.2.2.2.2.1, HR.out.2.2.2.2.2⟩⟩)
    apply bodyPost_ret (v := .bool r)
    case hd => rfl
    case hR => exact HG.out
    case hr => simp [results, Try.results42, go_sem]
  · have hd : decide ((o : Int) < (lk.length : Int)) = false := decide_eq_false (by omega)
    have hgt2 := Lib.hid (Nat.le_of_not_lt hgt)
    have hgt3 : lk.length ≤ o := hgt2.out
    go_wp2_with fail
    go_ret
    exact ⟨rfl, HP1.out.2.1, σ1, lk, lv, ln, HP1.out.2.2, hM1, .inl ⟨hgt2.out, HP1.out.1⟩⟩
end Go.Proofs.Ytegljepgncicjaa
/- Btree: what split makes of the trees. -/
namespace Go.Proofs.Ytegljepgncicjaa
open Go.ChangeShapes Go.WideShapes Go.ChangeAt Go.RowKit Go.Deep
set_option linter.unusedVariables false
set_option linter.unusedSimpArgs false
theorem inter_split : ∀ (m : Nat) (ks : List Pr) (cs : List (List Pr)) (p : Pr), cs.length = ks.length + 1 → ks[m]? = some p →
    inter ks cs = inter (ks.take m) (cs.take (m + 1)) ++ p :: inter (ks.drop (m + 1)) (cs.drop (m + 1))
  | _, [], _, _, _, h => by simp at h
  | _, _ :: _, [], _, h, _ => by simp at h
  | _, _ :: _, [_], _, h, _ => by simp at h
  | 0, k :: ks, c :: d :: cs, p, h, hp => by
    simp at hp
    subst hp
    show c ++ (k :: (d ++ interR ks cs)) = (c ++ []) ++ k :: (d ++ interR ks cs)
    rw [List.append_nil]
  | m + 1, k :: ks, c :: d :: cs, p, h, hp => by
    have ih := inter_split m ks (d :: cs) p (by simpa using h) (by simpa using hp)
    have e1 : inter (k :: ks) (c :: d :: cs) = c ++ k :: inter ks (d :: cs) := rfl
    have e2 : inter ((k :: ks).take (m + 1)) ((c :: d :: cs).take (m + 1 + 1)) = c ++ k :: inter (ks.take m) ((d :: cs).take (m + 1)) := rfl
    rw [e1, e2, ih, List.append_assoc]
    rfl
/-- the sets of some kids and a node -/
def UnS (N : Nat) (cs : List Kid) (k : Nat) : Prop := k = N ∨ ∃ c ∈ cs, c.S k
theorem zip_ins (ks vs : List Bs) (i : Nat) (k v : Bs) (hl : vs.length = ks.length) : (ks.take i ++ k :: ks.drop i).zip (vs.take i ++ v :: vs.drop i) = (ks.zip vs).take i ++ (k, v) :: (ks.zip vs).drop i := by
  rw [List.zip_append (by simp [hl]), zip_take, zip_drop]
  rfl
theorem zip_get (ks vs : List Bs) (m : Nat) (h : m < ks.length) (hl : vs.length = ks.length) : (ks.zip vs)[m]? = some (sx ks m, sx vs m) := by
  rw [List.getElem?_eq_getElem (by rw [List.length_zip]; omega), List.getElem_zip, sx_get h, sx_get (by omega)]
/-- a part of a list of kids, at a store that agrees on their sets -/
theorem kids_part {σ σ' : Sig} {o h : Nat} {N : Nat} {cs cs' : List Kid} {S : Nat → Prop} (hk : ∀ c ∈ cs, IsT σ o h c.lo c.hi c.id c.L c.S ∧ ∀ k, c.S k → S k ∧ k ≠ N) (hsub : ∀ c ∈ cs', c ∈ cs) (he : ∀ c ∈ cs', ∀ k, c.S k → σ' k = σ k) :
    ∀ c ∈ cs', IsT σ' o h c.lo c.hi c.id c.L c.S := fun c hc => ((hk c (hsub c hc)).1).congr (he c hc)
theorem Inn.mem {σ : Sig} {o h N : Nat} {ks vs : List Bs} {cs : List Kid} {L : List Pr} {S : Nat → Prop} (hI : Inn σ (IsT σ o h) N ks vs cs L S) {c : Kid} (hc : c ∈ cs) : c.S c.id ∧ (∀ k, c.S k → σ k ≠ none) ∧ (∀ k, c.S k → S k ∧ k ≠ N) := by
  obtain ⟨h1, h2⟩ := hI.kids c hc
  obtain ⟨nd, _, _, _, _, h3, h4, _⟩ := h1.node
  exact ⟨h3, h4, h2⟩
/-- a kid with o + 1 keys becomes two -/
theorem kid_split {σ σ' : Sig} {o h l R m : Nat} {x : Kid} {lk lv : List Bs} {ln : List Nat} (hx : IsT σ o h x.lo x.hi x.id x.L x.S) (hl : σ x.id = some ⟨lk, lv, ln⟩) (hlen : lk.length = o + 1) (ho : 4 ≤ o) (hm : m = lk.length / 2) (hR : σ R = none)
    (h1 : σ' x.id = some ⟨lk.take m, lv.take m, ln.take (m + 1)⟩) (h2 : σ' R = some ⟨lk.drop (m + 1), lv.drop (m + 1), ln.drop (m + 1)⟩) (he : ∀ k, x.S k → k ≠ x.id → σ' k = σ k) :
    ∃ y z : Kid, y.id = x.id ∧ z.id = R ∧ y.lo = o / 2 ∧ y.hi = o ∧ z.lo = o / 2 ∧ z.hi = o ∧ IsT σ' o h (o / 2) o y.id y.L y.S ∧ IsT σ' o h (o / 2) o z.id z.L z.S ∧
      x.L = y.L ++ (sx lk m, sx lv m) :: z.L ∧ (∀ k, y.S k → x.S k) ∧ (∀ k, z.S k → k = R ∨ x.S k) ∧ (∀ k, y.S k → ¬ z.S k) := by
  have hdom : ∀ k, x.S k → σ k ≠ none := (hx.node).choose_spec.2.2.2.2.2.1
  have hRx : ¬ x.S R := fun h => hdom R h hR
  have hm1 : m < lk.length := by omega
  cases h with
  | zero =>
    obtain ⟨ks, vs, e1, e2, e3, e4, e5, e6, e7⟩ := hx
    rw [hl] at e1
    cases e1
    refine ⟨⟨x.id, (lk.take m).zip (lv.take m), x.S, o / 2, o⟩, ⟨R, (lk.drop (m + 1)).zip (lv.drop (m + 1)), fun k => k = R, o / 2, o⟩, rfl, rfl, rfl, rfl, rfl, rfl, ?_, ?_, ?_, fun k h => h, fun k h => .inl h, fun k h1 h2 => hRx (by rw [← h2]; exact h1)⟩
    · refine ⟨_, _, h1, by simp [e2], by simp; omega, by simp; omega, rfl, e6, fun k hk => ?_⟩
      by_cases hk2 : k = x.id
      · rw [hk2, h1]; simp
      · rw [he k hk hk2]; exact e7 k hk
    · refine ⟨_, _, h2, by simp [e2], by simp; omega, by simp; omega, rfl, rfl, fun k hk => ?_⟩
      have hk' : k = R := hk
      rw [hk', h2]; simp
    · rw [e5]
      show lk.zip lv = (lk.take m).zip (lv.take m) ++ (sx lk m, sx lv m) :: (lk.drop (m + 1)).zip (lv.drop (m + 1))
      rw [← zip_take, ← zip_drop]
      have hg := zip_get lk lv m hm1 e2
      have hz : m < (lk.zip lv).length := (List.getElem?_eq_some_iff.1 hg).1
      rw [List.getElem?_eq_getElem hz] at hg
      rw [← Option.some.inj hg, ← List.drop_eq_getElem_cons hz, List.take_append_drop]
  | succ h =>
    obtain ⟨ks, vs, cx, e1, e2, hI, e4⟩ := hx
    have e := hI.at_
    rw [hl] at e
    cases e
    have hlc := hI.lc
    have hlv := hI.lv
    have hmem1 : ∀ c ∈ cx.take (m + 1), c ∈ cx := fun c hc => List.mem_of_mem_take hc
    have hmem2 : ∀ c ∈ cx.drop (m + 1), c ∈ cx := fun c hc => List.mem_of_mem_drop hc
    have hap : ∀ c ∈ cx.take (m + 1), ∀ d ∈ cx.drop (m + 1), ∀ k, c.S k → ¬ d.S k := by
      have := hI.apart
      rw [← List.take_append_drop (m + 1) cx] at this
      exact (List.pairwise_append.1 this).2.2
    have hagree : ∀ c ∈ cx, ∀ k, c.S k → σ' k = σ k := fun c hc k hk => he k ((hI.kids c hc).2 k hk).1 ((hI.kids c hc).2 k hk).2
    refine ⟨⟨x.id, inter ((lk.zip lv).take m) ((cx.take (m + 1)).map (·.L)), UnS x.id (cx.take (m + 1)), o / 2, o⟩, ⟨R, inter ((lk.zip lv).drop (m + 1)) ((cx.drop (m + 1)).map (·.L)), UnS R (cx.drop (m + 1)), o / 2, o⟩, rfl, rfl, rfl, rfl, rfl, rfl, ?_, ?_, ?_, ?_, ?_, ?_⟩
    · refine ⟨lk.take m, lv.take m, cx.take (m + 1), by simp; omega, by simp; omega, ⟨?_, by simp [hlv], by simp; omega, by rw [zip_take], .inl rfl, ?_, ?_, ?_⟩, fun c hc => e4 c (hmem1 c hc)⟩
      · rw [h1, List.map_take]
      · rintro k (rfl | ⟨c, hc, hk⟩)
        · rw [h1]; simp
        · rw [hagree c (hmem1 c hc) k hk]; exact (hI.mem (hmem1 c hc)).2.1 k hk
      · intro c hc
        refine ⟨((hI.kids c (hmem1 c hc)).1).congr (hagree c (hmem1 c hc)), fun k hk => ⟨.inr ⟨c, hc, hk⟩, ((hI.kids c (hmem1 c hc)).2 k hk).2⟩⟩
      · exact hI.apart.sublist (List.take_sublist _ _)
    · refine ⟨lk.drop (m + 1), lv.drop (m + 1), cx.drop (m + 1), by simp; omega, by simp; omega, ⟨?_, by simp [hlv], by simp; omega, by rw [zip_drop], .inl rfl, ?_, ?_, ?_⟩, fun c hc => e4 c (hmem2 c hc)⟩
      · rw [h2, List.map_drop]
      · rintro k (rfl | ⟨c, hc, hk⟩)
        · rw [h2]; simp
        · rw [hagree c (hmem2 c hc) k hk]; exact (hI.mem (hmem2 c hc)).2.1 k hk
      · intro c hc
        refine ⟨((hI.kids c (hmem2 c hc)).1).congr (hagree c (hmem2 c hc)), fun k hk => ⟨.inr ⟨c, hc, hk⟩, fun e => ?_⟩⟩
        rw [e] at hk
        exact hRx ((hI.kids c (hmem2 c hc)).2 R hk).1
      · exact hI.apart.sublist (List.drop_sublist _ _)
    · show x.L = inter ((lk.zip lv).take m) ((cx.take (m + 1)).map (·.L)) ++ (sx lk m, sx lv m) :: inter ((lk.zip lv).drop (m + 1)) ((cx.drop (m + 1)).map (·.L))
      rw [hI.eL, List.map_take, List.map_drop]
      exact inter_split m _ _ _ (by rw [List.length_map, hlc, List.length_zip, hlv, Nat.min_self]) (zip_get lk lv m hm1 hlv)
    · rintro k (rfl | ⟨c, hc, hk⟩)
      · exact hI.sN
      · exact ((hI.kids c (hmem1 c hc)).2 k hk).1
    · rintro k (rfl | ⟨c, hc, hk⟩)
      · exact .inl rfl
      · exact .inr ((hI.kids c (hmem2 c hc)).2 k hk).1
    · rintro k (rfl | ⟨c, hc, hk⟩) (h3 | ⟨d, hd, hk2⟩)
      · exact hRx (by rw [← h3]; exact hI.sN)
      · exact ((hI.kids d (hmem2 d hd)).2 _ hk2).2 rfl
      · rw [h3] at hk; exact hRx ((hI.kids c (hmem1 c hc)).2 R hk).1
      · exact hap c hc d hd k hk hk2
/-- a node one of whose kids is split -/
theorem inn_split {σ σ' : Sig} {o h N R m i : Nat} {ks vs : List Bs} {A C : List Kid} {x : Kid} {L : List Pr} {S S' : Nat → Prop} {lk lv : List Bs} {ln : List Nat} (hI : Inn σ (IsT σ o h) N ks vs (A ++ x :: C) L S) (hA : A.length = i) (hn : ∀ c ∈ A ++ C, c.lo = o / 2 ∧ c.hi = o)
    (hl : σ x.id = some ⟨lk, lv, ln⟩) (hlen : lk.length = o + 1) (ho : 4 ≤ o) (hm : m = lk.length / 2) (hR : σ R = none)
    (h1 : σ' x.id = some ⟨lk.take m, lv.take m, ln.take (m + 1)⟩) (h2 : σ' R = some ⟨lk.drop (m + 1), lv.drop (m + 1), ln.drop (m + 1)⟩)
    (h3 : σ' N = some ⟨ks.take i ++ sx lk m :: ks.drop i, vs.take i ++ sx lv m :: vs.drop i, ((A ++ x :: C).map (·.id)).take (i + 1) ++ R :: ((A ++ x :: C).map (·.id)).drop (i + 1)⟩)
    (he : ∀ k, k ≠ x.id → k ≠ R → k ≠ N → σ' k = σ k) (hS : ∀ k, S' k ↔ S k ∨ k = R) :
    IsT σ' o (h + 1) (ks.length + 1) (ks.length + 1) N L S' := by
  have hxm : x ∈ A ++ x :: C := by simp
  have hx := (hI.kids x hxm).1
  have hxS := (hI.kids x hxm).2
  obtain ⟨hxid, hxdom, _⟩ := hI.mem hxm
  have hxN : x.id ≠ N := (hxS _ hxid).2
  have hRN : R ≠ N := fun e => by rw [e] at hR; rw [hI.at_] at hR; cases hR
  obtain ⟨y, z, hy1, hz1, hy2, hy3, hz2, hz3, hyT, hzT, hL, hyS, hzS, hyz⟩ := kid_split (l := 0) hx hl hlen ho hm hR h1 h2 (fun k hk hk2 => he k hk2 (fun e => hxdom k hk (by rw [e]; exact hR)) (hxS k hk).2)
  have hlc := hI.lc
  have hlv := hI.lv
  have hil : i ≤ ks.length := by rw [List.length_append, List.length_cons] at hlc; omega
  obtain ⟨pA, pxC, pAxC⟩ := List.pairwise_append.1 hI.apart
  obtain ⟨pxC1, pC⟩ := List.pairwise_cons.1 pxC
  have hother : ∀ c ∈ A ++ C, (∀ k, c.S k → ¬ x.S k) ∧ c ∈ A ++ x :: C := fun c hc => by
    rcases List.mem_append.1 hc with h | h
    · exact ⟨fun k hk => pAxC c h x (by simp) k hk, by simp [h]⟩
    · exact ⟨fun k hk hk2 => pxC1 c h k hk2 hk, by simp [h]⟩
  have hoT : ∀ c ∈ A ++ C, IsT σ' o h c.lo c.hi c.id c.L c.S := fun c hc => by
    obtain ⟨ha, hb⟩ := hother c hc
    refine ((hI.kids c hb).1).congr (fun k hk => he k (fun e => ha k hk (by rw [e]; exact hxid)) (fun e => (hI.mem hb).2.1 k hk (by rw [e]; exact hR)) ((hI.kids c hb).2 k hk).2)
  refine ⟨ks.take i ++ sx lk m :: ks.drop i, vs.take i ++ sx lv m :: vs.drop i, A ++ y :: z :: C, by simp; omega, by simp; omega, ⟨?_, ?_, ?_, ?_, (hS N).2 (.inl hI.sN), ?_, ?_, ?_⟩, ?_⟩
  · rw [h3]
    congr 2
    rw [List.map_append, List.map_cons, List.map_append, List.map_cons, List.map_cons, hy1, hz1]
    have hAl : (A.map (·.id)).length = i := by rw [List.length_map, hA]
    rw [List.take_append, List.drop_append, hAl, List.take_of_length_le (by omega), List.drop_eq_nil_of_le (by omega), show i + 1 - i = 1 by omega]
    simp
  · simp [hlv]
  · simp at hlc ⊢; omega
  · rw [zip_ins ks vs i _ _ hlv, List.map_append, List.map_cons, List.map_cons]
    have hz : (ks.zip vs).length = ks.length := by rw [List.length_zip, hlv, Nat.min_self]
    rw [inter_mid (A.map (·.L)) ((ks.zip vs).take i) y.L (z.L :: C.map (·.L)) ((sx lk m, sx lv m) :: (ks.zip vs).drop i) (by rw [List.length_map, hA, List.length_take, hz]; omega)]
    have hL0 := hI.eL
    rw [List.map_append, List.map_cons] at hL0
    conv at hL0 => rhs; rw [← List.take_append_drop i (ks.zip vs)]
    rw [inter_mid (A.map (·.L)) ((ks.zip vs).take i) x.L (C.map (·.L)) ((ks.zip vs).drop i) (by rw [List.length_map, hA, List.length_take, hz]; omega)] at hL0
    rw [hL0, hL, List.append_assoc]
    rfl
  · intro k hk
    rcases (hS k).1 hk with h | h
    · by_cases e1 : k = x.id
      · rw [e1, h1]; simp
      · by_cases e2 : k = N
        · rw [e2, h3]; simp
        · by_cases e3 : k = R
          · rw [e3, h2]; simp
          · rw [he k e1 e3 e2]; exact hI.dom k h
    · rw [h, h2]; simp
  · intro c hc
    rcases List.mem_append.1 hc with h | h
    · exact ⟨hoT c (List.mem_append_left _ h), fun k hk => ⟨(hS k).2 (.inl ((hI.kids c (by simp [h])).2 k hk).1), ((hI.kids c (by simp [h])).2 k hk).2⟩⟩
    · rcases List.mem_cons.1 h with rfl | h
      · rw [hy2, hy3]
        exact ⟨hyT, fun k hk => ⟨(hS k).2 (.inl (hxS k (hyS k hk)).1), (hxS k (hyS k hk)).2⟩⟩
      · rcases List.mem_cons.1 h with rfl | h
        · rw [hz2, hz3]
          refine ⟨hzT, fun k hk => ?_⟩
          rcases hzS k hk with h | h
          · exact ⟨(hS k).2 (.inr h), by rw [h]; exact hRN⟩
          · exact ⟨(hS k).2 (.inl (hxS k h).1), (hxS k h).2⟩
        · exact ⟨hoT c (List.mem_append_right _ h), fun k hk => ⟨(hS k).2 (.inl ((hI.kids c (by simp [h])).2 k hk).1), ((hI.kids c (by simp [h])).2 k hk).2⟩⟩
  · have hnotR : ∀ c ∈ A ++ C, ¬ c.S R := fun c hc h => (hI.mem (hother c hc).2).2.1 R h hR
    refine List.pairwise_append.2 ⟨pA, List.pairwise_cons.2 ⟨fun c hc => ?_, List.pairwise_cons.2 ⟨fun c hc => ?_, pC⟩⟩, fun a ha c hc => ?_⟩
    · rcases List.mem_cons.1 hc with rfl | h
      · exact hyz
      · exact fun k hk => pxC1 c h k (hyS k hk)
    · intro k hk hk2
      rcases hzS k hk with h | h
      · rw [h] at hk2; exact hnotR c (List.mem_append_right _ hc) hk2
      · exact pxC1 c hc k h hk2
    · have hax := pAxC a ha x (by simp)
      rcases List.mem_cons.1 hc with rfl | h
      · exact fun k hk hk2 => hax k hk (hyS k hk2)
      · rcases List.mem_cons.1 h with rfl | h
        · intro k hk hk2
          rcases hzS k hk2 with h | h
          · rw [h] at hk; exact hnotR a (List.mem_append_left _ ha) hk
          · exact hax k hk h
        · exact pAxC a ha c (by simp [h])
  · intro c hc
    rcases List.mem_append.1 hc with h | h
    · exact hn c (List.mem_append_left _ h)
    · rcases List.mem_cons.1 h with rfl | h
      · exact ⟨hy2, hy3⟩
      · rcases List.mem_cons.1 h with rfl | h
        · exact ⟨hz2, hz3⟩
        · exact hn c (List.mem_append_right _ h)
end Go.Proofs.Ytegljepgncicjaa
/- Btree: node.put on any tree. -/
namespace Go.Proofs.Ytegljepgncicjaa
open Go.ChangeShapes Go.WideShapes Go.ChangeAt Go.RowKit Go.Deep
set_option linter.unusedVariables false
set_option linter.unusedSimpArgs false
theorem Ext.sub {σ σ' : Sig} {S S' : Nat → Prop} (h : Ext σ σ' S) (hs : ∀ k, S k → σ k ≠ none → S' k) : Ext σ σ' S' := ⟨fun k hk hn => h.same k (fun h1 => hk (hs k h1 hn)) hn, h.keep, h.frn⟩
theorem IsT.dom {σ : Sig} {o h lo hi N : Nat} {L : List Pr} {S : Nat → Prop} (hT : IsT σ o h lo hi N L S) : S N ∧ ∀ k, S k → σ k ≠ none := by
  obtain ⟨nd, _, _, _, _, h1, h2, _⟩ := hT.node
  exact ⟨h1, h2⟩
theorem grow_dom {σ σ' : Sig} {S : Nat → Prop} (h : Ext σ σ' S) (hd : ∀ k, S k → σ k ≠ none) : ∀ k, Grow S σ σ' k → σ' k ≠ none := fun k hk => by
  rcases hk with hk | hk
  · exact h.keep k (hd k hk)
  · exact hk.2
theorem IsT.grow {σ σ' : Sig} {o h lo hi N : Nat} {L : List Pr} {S : Nat → Prop} (hT : IsT σ' o h lo hi N L S) (he : Ext σ σ' S) (hd : ∀ k, S k → σ k ≠ none) : IsT σ' o h lo hi N L (Grow S σ σ') :=
  hT.super (fun k hk => .inl hk) (grow_dom he hd)
theorem upd_ne {σ : Sig} {N k : Nat} {nd : Nd} (h : σ k ≠ none) : upd σ N nd k ≠ none := by rw [upd_k]; split <;> simp_all
/-- a kid is replaced -/
theorem inn_replace {σ σ1 : Sig} {o h N i lo' hi' : Nat} {ks vs : List Bs} {A C : List Kid} {x : Kid} {L L' Lx : List Pr} {S : Nat → Prop} (hI : Inn σ (IsT σ o h) N ks vs (A ++ x :: C) L S) (hA : A.length = i) (hil : i ≤ ks.length)
    (he : Ext σ σ1 x.S) (hT : IsT σ1 o h lo' hi' x.id Lx (Grow x.S σ σ1)) (hL : L' = interL (A.map (·.L)) ((ks.zip vs).take i) ++ (Lx ++ interR ((ks.zip vs).drop i) (C.map (·.L)))) :
    Inn σ1 (IsT σ1 o h) N ks vs (A ++ ⟨x.id, Lx, Grow x.S σ σ1, lo', hi'⟩ :: C) L' (Grow S σ σ1) := by
  have hxm : x ∈ A ++ x :: C := by simp
  obtain ⟨hxid, hxdom, hxS⟩ := hI.mem hxm
  have hNx : ¬ x.S N := fun h => (hxS N h).2 rfl
  have hσN : σ N ≠ none := by rw [hI.at_]; simp
  have hz : (ks.zip vs).length = ks.length := by rw [List.length_zip, hI.lv, Nat.min_self]
  obtain ⟨pA, pxC, pAxC⟩ := List.pairwise_append.1 hI.apart
  obtain ⟨pxC1, pC⟩ := List.pairwise_cons.1 pxC
  have hother : ∀ c, c ∈ A ∨ c ∈ C → (∀ k, c.S k → ¬ x.S k) ∧ c ∈ A ++ x :: C := fun c hc => by
    rcases hc with h | h
    · exact ⟨fun k hk => pAxC c h x (by simp) k hk, by simp [h]⟩
    · exact ⟨fun k hk hk2 => pxC1 c h k hk2 hk, by simp [h]⟩
  have hoT : ∀ c, c ∈ A ∨ c ∈ C → IsT σ1 o h c.lo c.hi c.id c.L c.S ∧ ∀ k, c.S k → Grow S σ σ1 k ∧ k ≠ N := fun c hc => by
    obtain ⟨ha, hb⟩ := hother c hc
    exact ⟨((hI.kids c hb).1).congr (fun k hk => he.same k (ha k hk) ((hI.mem hb).2.1 k hk)), fun k hk => ⟨.inl ((hI.kids c hb).2 k hk).1, ((hI.kids c hb).2 k hk).2⟩⟩
  refine ⟨?_, hI.lv, ?_, ?_, .inl hI.sN, ?_, ?_, ?_⟩
  · rw [he.same N hNx hσN, hI.at_]
    simp
  · have := hI.lc
    simp at this ⊢
    omega
  · rw [hL, List.map_append, List.map_cons]
    conv => rhs; rw [← List.take_append_drop i (ks.zip vs)]
    rw [inter_mid (A.map (·.L)) ((ks.zip vs).take i) Lx (C.map (·.L)) ((ks.zip vs).drop i) (by rw [List.length_map, hA, List.length_take, hz]; omega)]
  · intro k hk
    rcases hk with hk | hk
    · exact he.keep k (hI.dom k hk)
    · exact hk.2
  · intro c hc
    rcases List.mem_append.1 hc with h | h
    · exact hoT c (.inl h)
    · rcases List.mem_cons.1 h with rfl | h
      · refine ⟨hT, fun k hk => ?_⟩
        rcases hk with hk | hk
        · exact ⟨.inl (hxS k hk).1, (hxS k hk).2⟩
        · exact ⟨.inr hk, fun e => hσN (by rw [← e]; exact hk.1)⟩
      · exact hoT c (.inr h)
  · refine List.pairwise_append.2 ⟨pA, List.pairwise_cons.2 ⟨fun c hc k hk hk2 => ?_, pC⟩, fun a ha c hc k hk hk2 => ?_⟩
    · rcases hk with hk | hk
      · exact pxC1 c hc k hk hk2
      · exact (hI.mem (hother c (.inr hc)).2).2.1 k hk2 hk.1
    · rcases List.mem_cons.1 hc with rfl | h
      · rcases hk2 with hk2 | hk2
        · exact pAxC a ha x (by simp) k hk hk2
        · exact (hI.mem (hother a (.inl ha)).2).2.1 k hk hk2.1
      · exact pAxC a ha c (by simp [h]) k hk hk2
/-- a value is set -/
theorem IsT.setval {σ : Sig} {o : Nat} {key val : Bs} {ks vs : List Bs} {ns : List Nat} : ∀ {h lo hi N : Nat} {L : List Pr} {S : Nat → Prop}, IsT σ o h lo hi N L S → Srt L → σ N = some ⟨ks, vs, ns⟩ → bsF ks key = true →
    IsT (upd σ N ⟨ks, vs.set (bsI ks key) val, ns⟩) o h lo hi N (putL L key val) S
  | 0, _, _, N, _, S, hT, hs, hN, hf => by
    have hk : SrtK ks := hT.srtK hs hN
    obtain ⟨ks', vs', h1, h2, h3, h4, h5, h6, h7⟩ := hT
    rw [h1] at hN; cases hN
    subst h5
    have hF := leaf_found (found_of hk h2 hf) h2 hs val
    exact ⟨ks, vs.set (bsI ks key) val, upd_same _ _ _, by simp [h2], h3, h4, hF.2.1, h6, fun k hk => upd_ne (h7 k hk)⟩
  | h + 1, _, _, N, _, S, hT, hs, hN, hf => by
    have hk : SrtK ks := hT.srtK hs hN
    obtain ⟨ks', vs', cs, h1, h2, hI, h4⟩ := hT
    have e := hI.at_
    rw [hN] at e; cases e
    have hF := found_of hk hI.lv hf
    obtain ⟨A, x, C, hcs, hA, hC, hL⟩ := hI.around _ (Nat.le_of_lt hF.lt)
    obtain ⟨R, _, _, h5, _⟩ := inn_found hF hI.lv (by rw [List.length_map]; exact hC) hL hs val
    refine ⟨ks, vs.set (bsI ks key) val, cs, h1, h2, ⟨upd_same _ _ _, by simp [hI.lv], hI.lc, ?_, hI.sN, fun k hk => upd_ne (hI.dom k hk), fun c hc => ⟨((hI.kids c hc).1).congr (fun k hk => upd_other _ _ ((hI.kids c hc).2 k hk).2), (hI.kids c hc).2⟩, hI.apart⟩, h4⟩
    have hz : (ks.zip (vs.set (bsI ks key) val)).length = ks.length := by rw [List.length_zip]; simp [hI.lv]
    have hlt := hF.lt
    have ht : (ks.zip (vs.set (bsI ks key) val)).take (bsI ks key) = (ks.zip vs).take (bsI ks key) := by
      rw [hF.set hI.lv val, List.take_left' (by rw [List.length_take, List.length_zip, hI.lv, Nat.min_self]; omega)]
    rw [h5, hcs, List.map_append, List.map_cons]
    conv => rhs; rw [← List.take_append_drop (bsI ks key) (ks.zip (vs.set (bsI ks key) val))]
    rw [inter_mid (A.map (·.L)) _ x.L (C.map (·.L)) _ (by rw [List.length_map, hA, List.length_take, hz]; omega), ht]
/-- what put gives -/
def PutT (B o h lo hi N : Nat) (L' : List Pr) (S : Nat → Prop) (σ : Sig) (r : Bool) (W : World) (e : Ending) (W' : World) : Prop :=
  e = .returned (.bool r) ∧ Below B W W' ∧ ∃ σ', Hp B W' σ' ∧ Ext σ σ' S ∧ IsT σ' o h lo (hi + if r then 1 else 0) N L' (Grow S σ σ')
theorem put_T (B o : Nat) (key val : Bs) (ho : 4 ≤ o) (ho2 : o ≤ 256) : ∀ (h lo hi N : Nat) (L : List Pr) (S : Nat → Prop) (σ : Sig) (W : World), Hp B W σ → B ≤ W.heap.size → IsT σ o h lo hi N L S → Srt L → hi ≤ o → 
    Calls Try.prog 42 #[.pointer (some ⟨N, 0, none⟩), .int .i64 o, .string key, .string val] W (PutT B o h lo hi N (putL L key val) S σ (getL L key).isNone W) := by
  intro h
  induction h with
  | zero =>
    intro lo hi N L S σ W hp hB hT hs hhi
    have hk := fun nd hN => hT.srtK (nd := nd) hs hN
    have hT' := hT
    obtain ⟨ks, vs, h1, h2, h3, h4, h5, h6, h7⟩ := hT
    have hk : SrtK ks := hk _ h1
    cases hf : bsF ks key with
    | true =>
      have hF := found_of hk h2 hf
      have hg := hT'.found hs h1 hf
      refine (put_found B N (bsI ks key) o σ ks vs [] key val W hp hB h1 (by omega) h2 rfl hF.lt hf).mono ?_
      rintro e W' ⟨rfl, hp', hb'⟩
      rw [show (getL L key).isNone = false by rw [hg]; rfl]
      refine ⟨rfl, hb', _, hp', Ext.upd _ (.inl h6), ?_⟩
      exact (hT'.setval (val := val) hs h1 hf).grow (Ext.upd _ (.inl h6)) h7
    | false =>
      have hG := gap_of hk hf
      have hl := leaf_gap hG h2 val
      refine (put_leaf B N (bsI ks key) o σ ks vs key val W hp hB h1 (by omega) h2 rfl hG.le hf).mono ?_
      rintro e W' ⟨rfl, hp', hb'⟩
      rw [show (getL L key).isNone = true by rw [h5, hl.1]; rfl]
      refine ⟨rfl, hb', _, hp', Ext.upd _ (.inl h6), ?_⟩
      refine IsT.grow (S := S) ?_ (Ext.upd _ (.inl h6)) h7
      have hle := hG.le
      exact ⟨ks.take (bsI ks key) ++ key :: ks.drop (bsI ks key), vs.take (bsI ks key) ++ val :: vs.drop (bsI ks key), upd_same _ _ _, by simp [h2], by simp; omega, by rw [if_pos rfl]; simp; omega, by rw [h5]; exact hl.2.1, h6, fun k hk => upd_ne (h7 k hk)⟩
  | succ h ih =>
    intro lo hi N L S σ W hp hB hT hs hhi
    have hk := fun nd hN => hT.srtK (nd := nd) hs hN
    have hT' := hT
    obtain ⟨ks, vs, cs, h1, h2, hI, h4⟩ := hT
    have hk : SrtK ks := hk _ hI.at_
    cases hf : bsF ks key with
    | true =>
      have hF := found_of hk hI.lv hf
      have hg := hT'.found hs hI.at_ hf
      refine (put_found B N (bsI ks key) o σ ks vs _ key val W hp hB hI.at_ (by omega) hI.lv rfl hF.lt hf).mono ?_
      rintro e W' ⟨rfl, hp', hb'⟩
      rw [show (getL L key).isNone = false by rw [hg]; rfl]
      refine ⟨rfl, hb', _, hp', Ext.upd _ (.inl hI.sN), ?_⟩
      exact (hT'.setval (val := val) hs hI.at_ hf).grow (Ext.upd _ (.inl hI.sN)) hI.dom
    | false =>
      have hG := gap_of hk hf
      obtain ⟨A, x, C, hcs, hA, hC, hL⟩ := hI.around _ hG.le
      obtain ⟨_, _, hsx, hgx, hpx, _⟩ := inn_gap hG hI.lv (by rw [List.length_map]; exact hA) (by rw [List.length_map]; exact hC) hL hs
      subst hcs
      have hxm : x ∈ A ++ x :: C := by simp
      obtain ⟨hxlo, hxhi⟩ := h4 x hxm
      have hxT := (hI.kids x hxm).1
      rw [hxlo, hxhi] at hxT
      obtain ⟨hxid, hxdom, hxS⟩ := hI.mem hxm
      have hNx : ¬ x.S N := fun h => (hxS N h).2 rfl
      have hσN : σ N ≠ none := by rw [hI.at_]; simp
      have hM : ((A ++ x :: C).map (·.id))[bsI ks key]? = some x.id := by
        rw [List.map_append, List.map_cons, List.getElem?_append_right (by rw [List.length_map, hA]; exact Nat.le_refl _), List.length_map, hA, Nat.sub_self]
        rfl
      have hns : ((A ++ x :: C).map (·.id)).length = ks.length + 1 := by rw [List.length_map]; exact hI.lc
      refine (put_inner B N x.id (bsI ks key) o (getL L key).isNone σ ks vs _ key val (fun σ1 => Ext σ σ1 x.S ∧ IsT σ1 o h (o / 2) (o + if (getL L key).isNone then 1 else 0) x.id (putL x.L key val) (Grow x.S σ σ1)) W hp hB hI.at_ (by omega) hI.lv hns rfl hG.le hf hM ho ho2 (fun q => ?_) (fun σ1 hF => ?_)).mono ?_
      · refine (ih (o / 2) o x.id x.L x.S σ (W.drewN q) (hp.drewN q) hB hxT hsx (Nat.le_refl _)).mono ?_
        rintro e W' ⟨rfl, hb, σ1, hp1, he1, hT1⟩
        rw [← hgx] at hT1
        exact ⟨by rw [hgx], σ1, hp1, hb, he1, hT1⟩
      · obtain ⟨nd, hm1, hm2, hm3, hm4, hm5, hm6, hm7, hm8⟩ := hF.2.node
        have hm3' : nd.ks.length ≤ o + 1 := by
          refine Nat.le_trans hm3 ?_
          split <;> omega
        refine ⟨by rw [hF.1.same N hNx hσN]; exact hI.at_, nd.ks, nd.vs, nd.ns, hm1, (hxS _ hxid).2, hm3', by omega, hm4, ?_⟩
        rcases Nat.eq_zero_or_pos h with h0 | h0
        · exact .inl (hm7 h0)
        · exact .inr (hm8 (by omega))
      · rintro e W' ⟨rfl, hb, σ1, lk, lv, ln, ⟨he1, hT1⟩, hm1, hout⟩
        refine ⟨rfl, hb, ?_⟩
        have hbd := hT1.exact hm1
        obtain ⟨nd, hq1, _, hq3, _⟩ := hT1.node
        rw [hm1] at hq1; cases hq1
        have hExt : Ext σ σ1 S := he1.sub (fun k hk _ => (hxS k hk).1)
        rcases hout with ⟨hle, hp1⟩ | ⟨hgt, R, σ', hp', hR, hRN, hRM, hσ'⟩
        · have hlo : o / 2 ≤ lk.length := by
            obtain ⟨nd, hq1, hq2, _⟩ := hT1.node
            rw [hm1] at hq1; cases hq1
            exact hq2
          have hrep := inn_replace (lo' := o / 2) (hi' := o) hI hA hG.le he1 (hbd.bounds hlo hle) (hpx val)
          refine ⟨σ1, hp1, hExt, ⟨ks, vs, _, h1, Nat.le_trans h2 (Nat.le_add_right _ _), hrep, fun c hc => ?_⟩⟩
          rcases List.mem_append.1 hc with h | h
          · exact h4 c (by simp [h])
          · rcases List.mem_cons.1 h with rfl | h
            · exact ⟨rfl, rfl⟩
            · exact h4 c (by simp [h])
        · have hlen : lk.length = o + 1 := by
            have : lk.length ≤ o + if (getL L key).isNone then 1 else 0 := hq3
            split at this <;> omega
          have hr1 : (getL L key).isNone = true := by
            cases hr1 : (getL L key).isNone with
            | true => rfl
            | false => rw [hr1] at hq3; have : lk.length ≤ o + 0 := hq3; omega
          have hrep := inn_replace (lo' := lk.length) (hi' := lk.length) hI hA hG.le he1 hbd (hpx val)
          have hMN : x.id ≠ N := (hxS _ hxid).2
          have e1 : σ' x.id = some ⟨lk.take (lk.length / 2), lv.take (lk.length / 2), ln.take (lk.length / 2 + 1)⟩ := by rw [hσ']; exact upd_same _ _ _
          have e2 : σ' R = some ⟨lk.drop (lk.length / 2 + 1), lv.drop (lk.length / 2 + 1), ln.drop (lk.length / 2 + 1)⟩ := by rw [hσ', upd_other _ _ hRM, upd_other _ _ hRN, upd_same]
          have e3 : σ' N = some ⟨ks.take (bsI ks key) ++ sx lk (lk.length / 2) :: ks.drop (bsI ks key), vs.take (bsI ks key) ++ sx lv (lk.length / 2) :: vs.drop (bsI ks key), ((A ++ x :: C).map (fun c : Kid => c.id)).take (bsI ks key + 1) ++ R :: ((A ++ x :: C).map (fun c : Kid => c.id)).drop (bsI ks key + 1)⟩ := by
            rw [hσ', upd_other _ _ hMN.symm, upd_same]
          have e4 : ∀ k, k ≠ x.id → k ≠ R → k ≠ N → σ' k = σ1 k := fun k a b c => by rw [hσ', upd_other _ _ a, upd_other _ _ c, upd_other _ _ b]
          have hkeep : ∀ k, σ1 k ≠ none → σ' k ≠ none := fun k hk => by rw [hσ']; exact upd_ne (upd_ne (upd_ne hk))
          have hσR : σ R = none := by
            cases hσR : σ R with
            | none => rfl
            | some nd => exact absurd hR (he1.keep R (by rw [hσR]; simp))
          have hT2 := inn_split (S' := fun k => Grow S σ σ1 k ∨ k = R) hrep hA (fun c hc => by
              rcases List.mem_append.1 hc with h | h
              · exact h4 c (by simp [h])
              · exact h4 c (by simp [h])) hm1 hlen ho rfl hR e1 e2 (by rw [e3]; simp) e4 (fun k => Iff.rfl)
          have hExt2 : Ext σ σ' S := by
            refine hExt.trans (S1 := fun k => k = x.id ∨ k = R ∨ k = N) ⟨fun k hk hn => e4 k (fun e => hk (.inl e)) (fun e => hk (.inr (.inl e))) (fun e => hk (.inr (.inr e))), hkeep, by rw [hσ']; rfl⟩ (fun k hk hn => ?_)
            rcases hk with rfl | rfl | rfl
            · exact (hxS _ hxid).1
            · exact absurd hσR hn
            · exact hI.sN
          refine ⟨σ', hp', hExt2, (hT2.bounds (by omega) (by rw [hr1, if_pos rfl]; omega)).super (fun k hk => ?_) (grow_dom hExt2 hI.dom)⟩
          rcases hk with hk | hk
          · rcases hk with hk | hk
            · exact .inl hk
            · exact .inr ⟨hk.1, hkeep k hk.2⟩
          · exact .inr ⟨by rw [hk]; exact hσR, by rw [hk, e2]; simp⟩
end Go.Proofs.Ytegljepgncicjaa
/- Btree: tree.put on any tree. -/
namespace Go.Proofs.Ytegljepgncicjaa
open Go.ChangeShapes Go.WideShapes Go.ChangeAt Go.RowKit Go.Deep
set_option linter.unusedVariables false
set_option linter.unusedSimpArgs false
def setF (σ : Sig) (T : Nat) (b : Option Obj) : Sig := ⟨σ.f, fun k => if k = T then b else σ.F k⟩
theorem setF_k (σ : Sig) (T : Nat) (b : Option Obj) (k : Nat) : setF σ T b k = σ k := rfl
/-- the box of a tree, left alone by what is done to nodes -/
structure TB (W : World) (T : Nat) (vs : List Value) (σ : Sig) : Prop where
  box : Box W T vs
  hp : Hp 0 W σ
  fr : σ.F T = W.heap[T]?
theorem Box.heap {W W' : World} {T : Nat} {vs : List Value} (h : Box W T vs) (e : W'.heap[T]? = W.heap[T]?) (hs : W.heap.size ≤ W'.heap.size) : Box W' T vs :=
  ⟨fun j v hv => (World.cell?_of_block (a := ⟨T, 0 + j, none⟩) e).trans (h.rng j v hv), fun j => (World.frozen?_of_block (a := ⟨T, j, none⟩) e).trans (h.free j), Nat.lt_of_lt_of_le h.lt hs⟩
theorem heap_some {W : World} {T : Nat} (h : T < W.heap.size) : ∃ b, W.heap[T]? = some b := ⟨_, Array.getElem?_eq_getElem h⟩
theorem TB.call {W W' : World} {T : Nat} {vs : List Value} {σ σ' : Sig} (h : TB W T vs σ) (hp : Hp 0 W' σ') (hF : σ'.F = σ.F) (hs : W.heap.size ≤ W'.heap.size) : TB W' T vs σ' := by
  obtain ⟨b, hb⟩ := heap_some h.box.lt
  have h2 := hp
  obtain ⟨fv, own, _, hfr⟩ := h2
  have e : W'.heap[T]? = W.heap[T]? := by
    rw [hb]
    refine (hfr T b ?_).2
    rw [hF, h.fr, hb]
  exact ⟨h.box.heap e hs, hp, by rw [hF, h.fr, e]⟩
theorem TB.drewN {W : World} {T : Nat} {vs : List Value} {σ : Sig} (h : TB W T vs σ) (q : Nat) : TB (W.drewN q) T vs σ := h.call (h.hp.drewN q) rfl (Nat.le_refl _)
theorem TB.set {W : World} {T : Nat} {vs : List Value} {σ : Sig} (h : TB W T vs σ) (j : Nat) (v : Value) (hj : j < vs.length) : TB (W.setCell ⟨T, j, none⟩ v) T (vs.set j v) (setF σ T (W.setCell ⟨T, j, none⟩ v).heap[T]?) := by
  have hset : Kept (fun k => k = T) W (W.setCell ⟨T, j, none⟩ v) := (Kept.refl _ W).setCells T j [v] (.inl rfl)
  obtain ⟨b, hb⟩ := heap_some h.box.lt
  refine ⟨h.box.setCell j v hj, ?_, if_pos rfl⟩
  obtain ⟨fv, own, hw, hfr⟩ := h.hp
  have hT : own T = (T, 9) := (hfr T b (by rw [h.fr, hb])).1
  refine ⟨fv, own, fun N nd hN => (hw.kept hset (fun k hk e => ?_)) N nd hN, fun k b' hb' => ?_⟩
  · subst e
    obtain ⟨N, nd, hN, hk⟩ := hk
    obtain ⟨_, _, h3, h4⟩ := hw N nd hN
    rcases hk with rfl | ⟨i, hi, e⟩
    · rw [h3] at hT; simp at hT
    · have := (h4 i hi).2 k e
      rw [this] at hT
      simp at hT
      omega
  · by_cases hk : k = T
    · subst hk
      have : (if k = k then (W.setCell ⟨k, j, none⟩ v).heap[k]? else σ.F k) = some b' := hb'
      rw [if_pos rfl] at this
      exact ⟨hT, this⟩
    · have : (if k = T then (W.setCell ⟨T, j, none⟩ v).heap[T]? else σ.F k) = some b' := hb'
      rw [if_neg hk] at this
      obtain ⟨h1, h2⟩ := hfr k b' this
      exact ⟨h1, (hset.block k (hfr.lt this) hk).trans h2⟩
/-- what lies outside of Y is left alone -/
def Rest (W0 : World) (T : Nat) (Y : Nat → Prop) (σ : Sig) : Prop := ∀ k, k ≠ T → k < W0.heap.size → ¬ Y k → σ.F k = W0.heap[k]?
def GrowY (Y : Nat → Prop) (W W' : World) (k : Nat) : Prop := Y k ∨ (W.heap.size ≤ k ∧ k < W'.heap.size)
def RootT (σ : Sig) (o : Nat) (L : List Pr) : Option Nat → Prop
  | none => L = []
  | some N => ∃ h S, IsT σ o h 1 o N L S
def rp (r : Option Nat) : Value := .pointer (r.map fun N => ⟨N, 0, none⟩)
/-- the tree at T has order o and holds L; its blocks lie in Y -/
structure TrS (W : World) (T o : Nat) (L : List Pr) (Y : Nat → Prop) (r : Option Nat) (σ : Sig) (fv : Nat → Nat → Value) (own : Nat → Nat × Nat) : Prop where
  box : Box W T [.int .i64 o, .int .i64 L.length, rp r]
  hp : HpW 0 W σ fv own
  tk : ∀ k, Takes σ fv k → Y k ∧ k ≠ T
  yT : Y T
  yl : ∀ k, Y k → k < W.heap.size
  srt : Srt L
  root : RootT σ o L r
  o4 : 4 ≤ o
  o256 : o ≤ 256
def Tr (W : World) (T o : Nat) (L : List Pr) (Y : Nat → Prop) : Prop := ∃ r σ fv own, TrS W T o L Y r σ fv own
theorem RootT.congr {σ σ' : Sig} {o : Nat} {L : List Pr} {r : Option Nat} (h : RootT σ o L r) (e : ∀ k, σ' k = σ k) : RootT σ' o L r := by
  cases r with
  | none => exact h
  | some N =>
    obtain ⟨hh, S, hT⟩ := h
    exact ⟨hh, S, hT.congr (fun k _ => e k)⟩
open Classical in
theorem Tr.open {W : World} {T o : Nat} {L : List Pr} {Y : Nat → Prop} (h : Tr W T o L Y) : ∃ r σ, TB W T [.int .i64 o, .int .i64 L.length, rp r] σ ∧ Rest W T Y σ ∧ RootT σ o L r ∧ Y T ∧ Srt L ∧ 4 ≤ o ∧ o ≤ 256 := by
  obtain ⟨r, σ, fv, own, h⟩ := h
  let σ2 : Sig := ⟨σ.f, fun k => if (k = T ∨ ¬ Y k) then W.heap[k]? else none⟩
  refine ⟨r, σ2, ⟨h.box, ⟨fv, fun k => if (k = T ∨ ¬ Y k) then (k, 9) else own k, ?_, ?_⟩, if_pos (.inl rfl)⟩, fun k _ _ hy => if_pos (.inr hy), h.root.congr (fun _ => rfl), h.yT, h.srt, h.o4, h.o256⟩
  · intro N nd hN
    obtain ⟨h1, h2, h3, h4⟩ := h.hp N nd hN
    have hNt := h.tk N ⟨N, nd, hN, .inl rfl⟩
    refine ⟨h1, h2, ?_, fun j hj => ⟨(h4 j hj).1, fun g e => ?_⟩⟩
    · show (if (N = T ∨ ¬ Y N) then (N, 9) else own N) = (N, 0)
      rw [if_neg (fun e => e.elim hNt.2 (fun e => e hNt.1))]
      exact h3
    · have hgt := h.tk g ⟨N, nd, hN, .inr ⟨j, hj, e⟩⟩
      show (if (g = T ∨ ¬ Y g) then (g, 9) else own g) = (N, j + 1)
      rw [if_neg (fun e => e.elim hgt.2 (fun e => e hgt.1))]
      exact (h4 j hj).2 g e
  · intro k b hb
    have hb' : (if (k = T ∨ ¬ Y k) then W.heap[k]? else none) = some b := hb
    by_cases hk : k = T ∨ ¬ Y k
    · rw [if_pos hk] at hb'
      exact ⟨if_pos hk, hb'⟩
    · rw [if_neg hk] at hb'; cases hb'
theorem Tr.close {W0 W : World} {T o : Nat} {L : List Pr} {Y : Nat → Prop} {r : Option Nat} {σ : Sig} (hb : TB W T [.int .i64 o, .int .i64 L.length, rp r] σ) (hr : Rest W0 T Y σ) (hR : RootT σ o L r) (hY : Y T) (hT : T < W0.heap.size) (hs : Srt L) (h4 : 4 ≤ o) (h6 : o ≤ 256) (hB : Below 0 W0 W)
    (hYl : ∀ k, Y k → k < W0.heap.size) : Tr W T o L (GrowY Y W0 W) ∧ Kept Y W0 W := by
  obtain ⟨hbox, ⟨fv, own, hw, hfr⟩, hF⟩ := hb
  obtain ⟨b, hb⟩ := heap_some hbox.lt
  have hT9 : own T = (T, 9) := (hfr T b (by rw [hF, hb])).1
  have h9 : ∀ k, Takes σ fv k → own k ≠ (k, 9) := fun k hk e => by
    obtain ⟨N, nd, hN, hk⟩ := hk
    obtain ⟨_, _, h3, h4⟩ := hw N nd hN
    rcases hk with rfl | ⟨i, hi, e2⟩
    · rw [h3] at e; simp at e
    · have := (h4 i hi).2 k e2
      rw [this] at e
      simp at e
      omega
  have hold : ∀ k, k ≠ T → k < W0.heap.size → ¬ Y k → own k = (k, 9) ∧ W.heap[k]? = W0.heap[k]? := fun k hkT hk hy => by
    obtain ⟨b, hb⟩ := heap_some hk
    have := hfr k b (by rw [hr k hkT hk hy, hb])
    rw [hb]
    exact this
  refine ⟨⟨r, σ, fv, own, ⟨hbox, hw, fun k hk => ⟨?_, fun e => h9 k hk (by rw [e]; exact hT9)⟩, .inl hY, fun k hk => ?_, hs, hR, h4, h6⟩⟩, ⟨hB.os, hB.tape, hB.output, hB.size, fun k hk hy => (hold k (fun e => hy (by rw [e]; exact hY)) hk hy).2⟩⟩
  · by_cases hy : Y k
    · exact .inl hy
    · refine .inr ⟨?_, (takes_lt hw hk).2⟩
      rcases Nat.lt_or_ge k W0.heap.size with h | h
      · by_cases hkT : k = T
        · exact absurd (by rw [hkT]; exact hT9) (h9 k hk)
        · exact absurd (hold k hkT h hy).1 (h9 k hk)
      · exact h
  · rcases hk with hk | hk
    · have := hB.size; have := hYl k hk; omega
    · exact hk.2
theorem Tr.yl {W : World} {T o : Nat} {L : List Pr} {Y : Nat → Prop} (h : Tr W T o L Y) : ∀ k, Y k → k < W.heap.size := by
  obtain ⟨r, σ, fv, own, h⟩ := h
  exact h.yl
theorem Tr.kept {W W' : World} {T o : Nat} {L : List Pr} {Y S : Nat → Prop} (h : Tr W T o L Y) (hk : Kept S W W') (hS : ∀ k, Y k → ¬ S k) : Tr W' T o L Y := by
  obtain ⟨r, σ, fv, own, h⟩ := h
  exact ⟨r, σ, fv, own, ⟨h.box.kept hk (hS T h.yT), h.hp.kept hk (fun k hk => hS k (h.tk k hk).1), h.tk, h.yT, fun k hy => Nat.lt_of_lt_of_le (h.yl k hy) hk.size, h.srt, h.root, h.o4, h.o256⟩⟩
theorem putL_len (L : List Pr) (k v : Bs) : (putL L k v).length = L.length + (if (getL L k).isNone then 1 else 0) := by
  induction L with
  | nil => rfl
  | cons a L ih =>
    obtain ⟨a, b⟩ := a
    unfold putL getL
    split
    · simp [ih]; omega
    · split <;> simp
theorem putL_mem {L : List Pr} {k v : Bs} {x : Pr} (h : x ∈ putL L k v) : x ∈ L ∨ x = (k, v) := by
  induction L with
  | nil => exact .inr (by simpa [putL] using h)
  | cons a L ih =>
    obtain ⟨a, b⟩ := a
    unfold putL at h
    split at h
    · rcases List.mem_cons.1 h with rfl | h
      · exact .inl (by simp)
      · rcases ih h with h | h
        · exact .inl (by simp [h])
        · exact .inr h
    · split at h
      · rcases List.mem_cons.1 h with rfl | h
        · exact .inr rfl
        · exact .inl (by simp [h])
      · rcases List.mem_cons.1 h with rfl | h
        · exact .inr rfl
        · exact .inl h
theorem putL_srt {L : List Pr} {k v : Bs} (h : Srt L) : Srt (putL L k v) := by
  induction L with
  | nil => simp [putL, Srt]
  | cons a L ih =>
    obtain ⟨a, b⟩ := a
    obtain ⟨h1, h2⟩ := List.pairwise_cons.1 h
    unfold putL
    split
    · rename_i hlt
      refine List.pairwise_cons.2 ⟨fun x hx => ?_, ih h2⟩
      rcases putL_mem hx with hx | rfl
      · exact h1 x hx
      · exact hlt
    · split
      · rename_i e
        subst e
        exact List.pairwise_cons.2 ⟨h1, h2⟩
      · rename_i h3 h4
        have h5 : lB k a = true := by
          cases h6 : lB k a with
          | true => rfl
          | false => exact absurd (lB_tri (by simpa using h3) h6) h4
        refine List.pairwise_cons.2 ⟨fun x hx => ?_, h⟩
        rcases List.mem_cons.1 hx with rfl | hx
        · exact h5
        · exact lB_trans h5 (h1 x hx)
theorem isT_one {σ : Sig} {o hi N : Nat} {p : Pr} {S : Nat → Prop} (h : IsT σ o 0 0 hi N [p] S) : IsT σ o 0 1 hi N [p] S := by
  obtain ⟨ks, vs, h1, h2, h3, h4, h5, h6, h7⟩ := h
  refine ⟨ks, vs, h1, h2, ?_, h4, h5, h6, h7⟩
  cases ks with
  | nil => simp at h5
  | cons a ks => simp
/-- a new root above N -/
theorem root_split {σ1 σ2 σ' : Sig} {o h lo hi N M R : Nat} {L : List Pr} {S : Nat → Prop} {lk lv : List Bs} {ln : List Nat} (hT : IsT σ1 o h lo hi N L S) (hl : σ1 N = some ⟨lk, lv, ln⟩) (hlen : lk.length = o + 1) (ho : 4 ≤ o) (hM : σ1 M = none) (hR : σ2 R = none) (hRM : R ≠ M) (hRN : R ≠ N)
    (e2 : ∀ k, σ2 k = upd σ1 M ⟨[], [], [N]⟩ k)
    (e : ∀ k, σ' k = upd (upd (upd σ2 R ⟨lk.drop (lk.length / 2 + 1), lv.drop (lk.length / 2 + 1), ln.drop (lk.length / 2 + 1)⟩) M ⟨([] : List Bs).take 0 ++ sx lk (lk.length / 2) :: ([] : List Bs).drop 0, ([] : List Bs).take 0 ++ sx lv (lk.length / 2) :: ([] : List Bs).drop 0, [N].take (0 + 1) ++ R :: [N].drop (0 + 1)⟩)
      N ⟨lk.take (lk.length / 2), lv.take (lk.length / 2), ln.take (lk.length / 2 + 1)⟩ k) : IsT σ' o (h + 1) 1 1 M L (fun k => (S k ∨ k = M) ∨ k = R) := by
  obtain ⟨hSN, hdom⟩ := hT.dom
  have hMN : M ≠ N := fun e => by rw [e, hl] at hM; cases hM
  have hMS : ¬ S M := fun h => hdom M h hM
  have hT2 : IsT σ2 o h lo hi N L S := hT.congr (fun k hk => by rw [e2, upd_other _ _ (fun e => hMS (by rw [← e]; exact hk))])
  have hI : Inn σ2 (IsT σ2 o h) M [] [] ([] ++ (⟨N, L, S, lo, hi⟩ : Kid) :: []) L (fun k => S k ∨ k = M) := by
    refine ⟨by rw [e2, upd_same]; rfl, rfl, rfl, by simp [inter, interR], .inr rfl, fun k hk => ?_, fun c hc => ?_, by simp⟩
    · rcases hk with hk | rfl
      · rw [e2]; exact upd_ne (hdom k hk)
      · rw [e2, upd_same]; simp
    · have : c = ⟨N, L, S, lo, hi⟩ := by simpa using hc
      subst this
      exact ⟨hT2, fun k hk => ⟨.inl hk, fun e => hMS (by rw [← e]; exact hk)⟩⟩
  refine inn_split (m := lk.length / 2) (i := 0) (R := R) (lk := lk) (lv := lv) (ln := ln) hI rfl (fun c hc => by simp at hc) (by rw [e2]; exact (upd_other _ _ hMN.symm).trans hl) hlen ho rfl hR ?_ ?_ ?_ (fun k h1 h2 h3 => ?_) (fun k => Iff.rfl)
  · rw [e, upd_same]
  · rw [e, upd_other _ _ hRN, upd_other _ _ hRM, upd_same]
  · rw [e, upd_other _ _ hMN, upd_same]; rfl
  · rw [e, upd_other _ _ h1, upd_other _ _ h3, upd_other _ _ h2]
def PutO (W : World) (T o : Nat) (L : List Pr) (Y : Nat → Prop) (key val : Bs) (e : Ending) (W' : World) : Prop :=
  e = .returned (.bool (getL L key).isNone) ∧ Tr W' T o (putL L key val) (GrowY Y W W') ∧ Kept Y W W'
end Go.Proofs.Ytegljepgncicjaa
/- Btree: the walk of tree.put; Put. -/
namespace Go.Proofs.Ytegljepgncicjaa
open Go.ChangeShapes Go.WideShapes Go.ChangeAt Go.RowKit Go.Deep
set_option linter.unusedVariables false
set_option linter.unusedSimpArgs false
theorem ret_b {x y : Bool} (h : x = y) : Ending.returned (.bool x) = .returned (.bool y) := by rw [h]
theorem row1 (W : World) (N : Nat) : RowV 64 0 (W.alloc (.cells #[.pointer (some ⟨N, 0, none⟩)] 64)) (.slice (some ⟨W.heap.size, 0, none⟩) 1 1) (ptrv [N]) := by
  refine .inr ⟨W.heap.size, 1, rfl, Nat.zero_le _, Nat.le_refl _, by decide, rowV_new 64 W _ 1 rfl, fun j hj => ?_⟩
  have : j = 0 := by simpa [ptrv] using hj
  subst this
  have e := heap_new W (.cells #[.pointer (some ⟨N, 0, none⟩)] 64)
  unfold World.cell?
  rw [e]
  rfl
set_option maxRecDepth 100000 in
set_option maxHeartbeats 3200000 in
theorem tput_some (W0 : World) (T o N hx sz : Nat) (b : Bool) (L L' : List Pr) (Y S : Nat → Prop) (σ : Sig) (key val : Bs) (hb : b = (getL L key).isNone) (hsz : sz = L.length) (hsz2 : sz ≤ 5000) (hL' : L' = putL L key val) (ht : TB W0 T [.int .i64 o, .int .i64 sz, .pointer (some ⟨N, 0, none⟩)] σ) (hr : Rest W0 T Y σ) (hY : Y T) (hYl : ∀ k, Y k → k < W0.heap.size) (hs : Srt L) (h4 : 4 ≤ o) (h6 : o ≤ 256)
    (hput : ∀ W', Hp 0 W' σ → Calls Try.prog 42 #[.pointer (some ⟨N, 0, none⟩), .int .i64 o, .string key, .string val] W' (PutT 0 o hx 1 o N L' S σ b W')) :
    Calls Try.prog 31 #[.pointer (some ⟨T, 0, none⟩), .string key, .string val] W0 (PutO W0 T o L Y key val) := by
  have HPUT := Lib.hid hput
  have HT := Lib.hid ht
  have HR := Lib.hid hr
  have HY := Lib.hid (And.intro hY (And.intro hYl hs))
  have HZ := Lib.hid (And.intro hsz hL')
  have HBb := Lib.hid hb
  have HTl := Lib.hid ht.box.lt
  have a0 : W0.cell? ⟨T, 0, none⟩ = some (.int .i64 o) := ht.box.cell 0 _ rfl
  have a2 : W0.cell? ⟨T, 2, none⟩ = some (.pointer (some ⟨N, 0, none⟩)) := ht.box.cell 2 _ rfl
  have HB := Lib.hid (Below.refl 0 W0)
  clear hput ht hr hY hYl hs hsz hL' hb
  go_enter Try.func31, Try.ntmps31
  go_wp2_with fail
  go_still_tail 10, (by kernel_rfl)
  change wpList _ _ _ _ _ W0.drew
  clear a0 a2
  go_wp2_with fail
  refine (HPUT.out _ (HT.out.hp.drewN 1)).mono ?_
  rintro e W1 ⟨rfl, hb1, σ1, hp1, he1, hT1⟩
  have HT1 := Lib.hid ((HT.out.drewN 1).call hp1 he1.frn hb1.size)
  have HB1 := Lib.hid (HB.out.trans ((Below.drew (Below.refl 0 W0)).trans hb1))
  have HI1 := Lib.hid hT1
  have HR1 : Hid (Rest W0 T Y σ1) := Lib.hid (fun k h1 h2 h3 => by rw [he1.frn]; exact HR.out k h1 h2 h3)
  obtain ⟨nd, hN1, hk1, hk2, hv1, _, _, hn0, hn1⟩ := hT1.node
  obtain ⟨lk, lv, ln⟩ := nd
  dsimp only at hk1 hk2 hv1 hn0 hn1
  clear hp1 he1 hT1 hb1 HT HB HPUT HR
  have a0 : W1.cell? ⟨T, 0, none⟩ = some (.int .i64 o) := HT1.out.box.cell 0 _ rfl
  have a1 : W1.cell? ⟨T, 1, none⟩ = some (.int .i64 sz) := HT1.out.box.cell 1 _ rfl
  have a2 : W1.cell? ⟨T, 2, none⟩ = some (.pointer (some ⟨N, 0, none⟩)) := HT1.out.box.cell 2 _ rfl
  have f1 : W1.frozen? ⟨T, 1, none⟩ = false := HT1.out.box.free 1
  have HV := Lib.hid (And.intro hv1 (And.intro hn0 hn1))
  clear hv1 hn0 hn1
  cases b with
  | false =>
    go_wp2_with fail
    go_ret
    have e1 := HBb.out
    have e2 := putL_len L key val
    rw [← e1] at e2
    have hc := Tr.close (W0 := W0) (W := W1) (L := L') (r := some N) (by rw [HZ.out.2, e2]; simp only [Bool.false_eq_true, if_false, Nat.add_zero]; rw [← HZ.out.1]; exact HT1.out) HR1.out ⟨hx, _, HI1.out⟩ HY.out.1 HTl.out (by rw [HZ.out.2]; exact putL_srt HY.out.2.2) h4 h6 HB1.out HY.out.2.1
    exact ⟨ret_b e1, by rw [← HZ.out.2]; exact hc.1, hc.2⟩
  | true =>
    have HK2 := Lib.hid (show lk.length ≤ o + 1 from hk2)
    have hk3 : lk.length ≤ 300 := by have := HK2.out; omega
    clear hk2
    have HN1 := Lib.hid hN1
    go_wp2_with fail
    refine wp_named (fun W0' => ∃ σ2, TB W0' T [.int .i64 o, .int .i64 ((sz : Int) + 1), .pointer (some ⟨N, 0, none⟩)] σ2 ∧ (∀ k, σ2 k = σ1 k) ∧ Rest W0 T Y σ2 ∧ Below 0 W0 W0') (⟨_, HT1.out.set 1 (.int .i64 ((sz : Int) + 1)) (by simp), fun _ => rfl, fun k h1 h2 h3 => (if_neg h1).trans (HR1.out k h1 h2 h3), HB1.out.setCell (p := ⟨T, 1, none⟩) (Nat.zero_le _) _⟩) ?_
    clear a0 a1 a2 f1 HT1 HB1 HR1
    rintro W2 ⟨σ2, ht, hσ2, hr, hb⟩
    have hN2 : σ2 N = some ⟨lk, lv, ln⟩ := (hσ2 N).trans hN1
    have a0 : W2.cell? ⟨T, 0, none⟩ = some (.int .i64 o) := ht.box.cell 0 _ rfl
    have a2 : W2.cell? ⟨T, 2, none⟩ = some (.pointer (some ⟨N, 0, none⟩)) := ht.box.cell 2 _ rfl
    have f2 : W2.frozen? ⟨T, 2, none⟩ = false := ht.box.free 2
    obtain ⟨ka, kc, n0, _, _⟩ := ht.hp.f0 hN2
    have HT2 := Lib.hid ht
    have HB2 := Lib.hid hb
    have HR2 := Lib.hid hr
    have HS2 := Lib.hid hσ2
    clear ht hr hb hσ2 hN1
    by_cases hgt : o < lk.length
    · have hd : decide ((o : Int) < (lk.length : Int)) = true := decide_eq_true (by omega)
      go_quiet (fail)
      have HT3 := Lib.hid (HT2.out.drewN nq)
      have HB3 := Lib.hid (below_drewN'' HB2.out nq)
      obtain ⟨W3, hW3⟩ : ∃ W3, W3 = W2.drewN nq := ⟨_, rfl⟩
      rw [← hW3] at HT3 HB3
      rw [← hW3]
      have a0 : W3.cell? ⟨T, 0, none⟩ = some (.int .i64 o) := HT3.out.box.cell 0 _ rfl
      have a2 : W3.cell? ⟨T, 2, none⟩ = some (.pointer (some ⟨N, 0, none⟩)) := HT3.out.box.cell 2 _ rfl
      have f2 : W3.frozen? ⟨T, 2, none⟩ = false := HT3.out.box.free 2
      have hTl2 : T < W3.heap.size := HT3.out.box.lt
      have hTl3 : T ≠ W3.heap.size := Nat.ne_of_lt hTl2
      have hTl4 : T ≠ W3.heap.size + 1 := by omega
      have hTl5 : T < W3.heap.size + 1 := by omega
      clear HT2 HB2 hW3
      have hbx4 := (HT3.out.box.alloc (.cells #[.pointer (some ⟨N, 0, none⟩)] 64)).alloc (.cells #[.slice none 0 0, .slice none 0 0, .slice (some ⟨W3.heap.size, 0, none⟩) 1 1] 85)
      have d2 := hbx4.cell 2 _ rfl
      have df := hbx4.free 2
      clear hbx4
      go_wp2_with fail
      obtain ⟨M, hM⟩ : ∃ M, M = W3.heap.size + 1 := ⟨_, rfl⟩
      rw [← hM]
      obtain ⟨Ws, hWs⟩ : ∃ Ws, Ws = W3.setCell ⟨T, 2, none⟩ (.pointer (some ⟨M, 0, none⟩)) := ⟨_, rfl⟩
      have hwz : Ws.heap.size = W3.heap.size := by rw [hWs]; simp
      have hT3 := HT3.out.set 2 (.pointer (some ⟨M, 0, none⟩)) (by simp)
      have hb3 : Below 0 W0 Ws := by rw [hWs]; exact HB3.out.setCell (p := ⟨T, 2, none⟩) (Nat.zero_le _) _
      rw [← hWs] at hT3
      rw [← hWs]
      have hk3 : Kept (fun _ => False) Ws (Ws.alloc (.cells #[.pointer (some ⟨N, 0, none⟩)] 64)) := (Kept.refl _ _).alloc _
      have hn4 := hT3.hp.new (Nat.zero_le _) hk3 ⟨[], [], [N]⟩ (.slice none 0 0) (.slice none 0 0) (.slice (some ⟨Ws.heap.size, 0, none⟩) 1 1) 85 (.inl ⟨rfl, rfl⟩) (.inl ⟨rfl, rfl⟩) (row1 Ws N)
        (fun g e => by simp [Value.ownBlock] at e) (fun g e => by simp [Value.ownBlock] at e) (fun g e => Nat.le_of_eq (by simpa [Value.ownBlock] using e)) (fun g e => by simp [Value.ownBlock] at e) (fun g e => by simp [Value.ownBlock] at e) (fun g e => by simp [Value.ownBlock] at e)
      have hsz4 : (Ws.alloc (.cells #[.pointer (some ⟨N, 0, none⟩)] 64)).heap.size = M := by rw [hM, ← hwz]; simp
      rw [hsz4] at hn4
      rw [hwz] at hn4
      have hT5 := hT3.call hn4.1 rfl hn4.2.2.size
      have hM2 : σ2 M = none := hn4.2.1
      have hNM : N ≠ M := fun e => by rw [e, hM2] at hN2; cases hN2
      have hr5 : Rest W0 T Y (upd (setF σ2 T Ws.heap[T]?) M ⟨[], [], [N]⟩) := fun k h1 h2 h3 => (if_neg h1).trans (HR2.out k h1 h2 h3)
      have hb5 := (hb3.alloc (Nat.zero_le _) (.cells #[.pointer (some ⟨N, 0, none⟩)] 64)).alloc (Nat.zero_le _) (.cells #[.slice none 0 0, .slice none 0 0, .slice (some ⟨W3.heap.size, 0, none⟩) 1 1] 85)
      have HX := Lib.hid (And.intro hT5 (And.intro hr5 (And.intro hb5 hM2)))
      clear d2 df HT3 HB3 hT3 hk3 hn4 hsz4 hT5 hr5 hb5 hM hb3 hwz hWs a0 a2 f2 n0 hTl2 hTl3 hTl4 hTl5
      have hln : ln = [] ∨ ln.length = lk.length + 1 := by
        rcases Nat.eq_zero_or_pos hx with h0 | h0
        · exact .inl (HV.out.2.1 h0)
        · exact .inr (HV.out.2.2 (by omega))
      refine (split_any 0 M N 0 _ [] [] [N] lk lv ln _ HX.out.1.hp (Nat.zero_le _) (upd_same _ _ _) ((upd_other _ _ hNM).trans hN2) hNM rfl (Nat.le_refl _) rfl rfl HV.out.1 (by omega) (by have := HK2.out; omega) (by simp) hln).mono ?_
      rintro e W6 ⟨rfl, R, σ6, hp6, hb6, hR6, hRM, hRN, hσ6⟩
      have hT6 := Lib.hid (HX.out.1.call hp6 (by rw [hσ6]; rfl) hb6.size)
      have hlen : lk.length = o + 1 := by have := HK2.out; omega
      have HI6 := Lib.hid (root_split (σ' := σ6) HI1.out HN1.out hlen h4 (by rw [← HS2.out]; exact HX.out.2.2.2) hR6 hRM hRN (fun k => by rw [upd_k, upd_k, setF_k, HS2.out]) (fun k => by rw [hσ6]))
      have hR6' : Hid (Rest W0 T Y σ6) := Lib.hid (fun k h1 h2 h3 => by rw [hσ6]; exact HX.out.2.1 k h1 h2 h3)
      have HB6 := Lib.hid (HX.out.2.2.1.trans hb6)
      clear HX hp6 hb6 hR6 hσ6
      go_wp2_with fail
      go_ret
      have e1 := HBb.out
      have e2 := putL_len L key val
      rw [← e1, if_pos rfl] at e2
      have hc := Tr.close (W0 := W0) (W := W6) (L := L') (r := some M) (by rw [HZ.out.2, e2, ← HZ.out.1]; exact hT6.out) hR6'.out ⟨hx + 1, _, HI6.out.bounds (Nat.le_refl _) (by omega)⟩ HY.out.1 HTl.out (by rw [HZ.out.2]; exact putL_srt HY.out.2.2) h4 h6 HB6.out HY.out.2.1
      exact ⟨ret_b e1, by rw [← HZ.out.2]; exact hc.1, hc.2⟩
    · have hd : decide ((o : Int) < (lk.length : Int)) = false := decide_eq_false (by omega)
      have hle := Lib.hid (Nat.le_of_not_lt hgt)
      have hle2 : lk.length ≤ o := hle.out
      go_quiet (fail)
      go_wp2_with fail
      go_ret
      have e1 := HBb.out
      have e2 := putL_len L key val
      rw [← e1, if_pos rfl] at e2
      have hI := (HI1.out.exact HN1.out).bounds hk1 hle.out
      have hc := Tr.close (W0 := W0) (W := W2.drewN nq) (L := L') (r := some N) (by rw [HZ.out.2, e2, ← HZ.out.1]; exact HT2.out.drewN nq) HR2.out ⟨hx, _, hI.congr (fun k _ => HS2.out k)⟩ HY.out.1 HTl.out (by rw [HZ.out.2]; exact putL_srt HY.out.2.2) h4 h6 (below_drewN'' HB2.out nq) HY.out.2.1
      exact ⟨ret_b e1, by rw [← HZ.out.2]; exact hc.1, hc.2⟩
set_option maxRecDepth 100000 in
set_option maxHeartbeats 3200000 in
theorem tput_none (W0 : World) (T o : Nat) (L : List Pr) (Y : Nat → Prop) (σ : Sig) (key val : Bs) (hL0 : L = []) (ht : TB W0 T [.int .i64 o, .int .i64 (0 : Nat), .pointer none] σ) (hr : Rest W0 T Y σ) (hY : Y T) (hYl : ∀ k, Y k → k < W0.heap.size) (hs : Srt L) (h4 : 4 ≤ o) (h6 : o ≤ 256) :
    Calls Try.prog 31 #[.pointer (some ⟨T, 0, none⟩), .string key, .string val] W0 (PutO W0 T o L Y key val) := by
  have e2 : W0.cell? ⟨T, 2, none⟩ = some (.pointer none) := ht.box.cell 2 _ rfl
  have e2f : W0.frozen? ⟨T, 2, none⟩ = false := ht.box.free 2
  have HTl := Lib.hid ht.box.lt
  have hTl0 := ht.box.lt
  have hTne : T ≠ W0.heap.size := Nat.ne_of_lt ht.box.lt
  have hset := ht.set 2 (.pointer (some ⟨W0.heap.size, 0, none⟩)) (by simp)
  have hnew := hset.hp.new (Nat.zero_le _) (Kept.refl _ _) ⟨[], [], []⟩ (.slice none 0 0) (.slice none 0 0) (.slice none 0 0) 85 (.inl ⟨rfl, rfl⟩) (.inl ⟨rfl, rfl⟩) (.inl ⟨rfl, rfl⟩)
    (fun g e => by simp [Value.ownBlock] at e) (fun g e => by simp [Value.ownBlock] at e) (fun g e => by simp [Value.ownBlock] at e) (fun g e => by simp [Value.ownBlock] at e) (fun g e => by simp [Value.ownBlock] at e) (fun g e => by simp [Value.ownBlock] at e)
  have hsz9 : (W0.setCell ⟨T, 2, none⟩ (.pointer (some ⟨W0.heap.size, 0, none⟩))).heap.size = W0.heap.size := by simp
  rw [hsz9] at hnew
  have HF : Hid (∃ σ2, TB ((W0.setCell ⟨T, 2, none⟩ (.pointer (some ⟨W0.heap.size, 0, none⟩))).alloc (.cells #[.slice none 0 0, .slice none 0 0, .slice none 0 0] 85)) T [.int .i64 o, .int .i64 (0 : Nat), .pointer (some ⟨W0.heap.size, 0, none⟩)] σ2 ∧
      IsT σ2 o 0 0 o W0.heap.size [] (fun k => k = W0.heap.size) ∧ Rest W0 T Y σ2 ∧ Below 0 W0 ((W0.setCell ⟨T, 2, none⟩ (.pointer (some ⟨W0.heap.size, 0, none⟩))).alloc (.cells #[.slice none 0 0, .slice none 0 0, .slice none 0 0] 85))) := Lib.hid (by
    refine ⟨_, hset.call hnew.1 rfl (by simp), ⟨[], [], upd_same _ _ _, rfl, Nat.le_refl _, Nat.zero_le _, rfl, rfl, fun k hk => by rw [hk, upd_same]; simp⟩, fun k hk hl hy => ?_, ((Below.refl 0 W0).setCell (p := ⟨T, 2, none⟩) (Nat.zero_le _) _).alloc (Nat.zero_le _) _⟩
    exact (if_neg hk).trans (hr k hk hl hy))
  have HY := Lib.hid (And.intro hY (And.intro hYl hs))
  have hL2 := Lib.hid hL0
  clear ht hr hY hYl hs hset hnew hsz9 hL0
  go_enter Try.func31, Try.ntmps31
  go_wp2_with fail
  obtain ⟨N, hN⟩ : ∃ N, N = W0.heap.size := ⟨_, rfl⟩
  rw [← hN] at HF
  rw [← hN]
  have HN := Lib.hid hN
  refine wp_named (fun W => ∃ σ2, TB W T [.int .i64 o, .int .i64 (0 : Nat), .pointer (some ⟨N, 0, none⟩)] σ2 ∧ IsT σ2 o 0 0 o N [] (fun k => k = N) ∧ Rest W0 T Y σ2 ∧ Below 0 W0 W) HF.out ?_
  clear HF e2 e2f hTne hTl0 hN
  rintro W ⟨σ, ht, hT, hr, hb⟩
  obtain ⟨S, hS⟩ : ∃ S, S = (fun k => k = N) := ⟨_, rfl⟩
  rw [← hS] at hT
  have HT := Lib.hid ht
  have HR := Lib.hid hr
  have HB := Lib.hid hb
  obtain ⟨hx, hh⟩ : ∃ hx, hx = 0 := ⟨_, rfl⟩
  have hT : IsT σ o hx 0 o N [] S := by rw [hh]; exact hT
  obtain ⟨b, hbb⟩ : ∃ b, b = (getL L key).isNone := ⟨_, rfl⟩
  have HBb := Lib.hid hbb
  obtain ⟨L', hL'⟩ : ∃ L', L' = putL L key val := ⟨_, rfl⟩
  obtain ⟨sz, hsz⟩ : ∃ sz : Nat, sz = L.length := ⟨_, rfl⟩
  have hsz0 : (0 : Nat) = sz := by rw [hsz, hL2.out]; rfl
  have hsz2 : sz ≤ 5000 := by omega
  have HT : Hid (TB W T [.int .i64 o, .int .i64 sz, .pointer (some ⟨N, 0, none⟩)] σ) := Lib.hid (by rw [← hsz0]; exact ht)
  have HZ := Lib.hid (And.intro hsz hL')
  have HPUT : Hid (∀ W', Hp 0 W' σ → Calls Try.prog 42 #[.pointer (some ⟨N, 0, none⟩), .int .i64 o, .string key, .string val] W' (PutT 0 o hx 1 o N L' S σ b W')) := Lib.hid (fun W' hp => by
    have hxx := put_T 0 o key val h4 h6 hx 0 o N [] S σ W' hp (Nat.zero_le _) hT (by simp [Srt]) (Nat.le_refl _)
    refine hxx.mono ?_
    rintro e W2 ⟨rfl, h2, σ2, h3, h5, h7⟩
    have e1 : L' = [(key, val)] := by rw [hL', hL2.out]; rfl
    have e3 : b = (getL [] key).isNone := by rw [hbb, hL2.out]
    subst hh
    refine ⟨by rw [e3], h2, σ2, h3, h5, ?_⟩
    rw [e1, e3]
    exact isT_one h7)
  have a0 : W.cell? ⟨T, 0, none⟩ = some (.int .i64 o) := ht.box.cell 0 _ rfl
  have a2 : W.cell? ⟨T, 2, none⟩ = some (.pointer (some ⟨N, 0, none⟩)) := ht.box.cell 2 _ rfl
  clear ht hT hr hb hS hh hbb hL' hsz hsz0 hL2 HN
  go_still_tail 10, (by kernel_rfl)
  change wpList _ _ _ _ _ W.drew
  clear a0 a2
  go_wp2_with fail
  refine (HPUT.out _ (HT.out.hp.drewN 1)).mono ?_
  rintro e W1 ⟨rfl, hb1, σ1, hp1, he1, hT1⟩
  have HT1 := Lib.hid ((HT.out.drewN 1).call hp1 he1.frn hb1.size)
  have HB1 := Lib.hid (HB.out.trans ((Below.drew (Below.refl 0 W)).trans hb1))
  have HI1 := Lib.hid hT1
  have HR1 : Hid (Rest W0 T Y σ1) := Lib.hid (fun k h1 h2 h3 => by rw [he1.frn]; exact HR.out k h1 h2 h3)
  obtain ⟨nd, hN1, hk1, hk2, hv1, _, _, hn0, hn1⟩ := hT1.node
  obtain ⟨lk, lv, ln⟩ := nd
  dsimp only at hk1 hk2 hv1 hn0 hn1
  clear hp1 he1 hT1 hb1 HT HB HPUT HR
  have a0 : W1.cell? ⟨T, 0, none⟩ = some (.int .i64 o) := HT1.out.box.cell 0 _ rfl
  have a1 : W1.cell? ⟨T, 1, none⟩ = some (.int .i64 sz) := HT1.out.box.cell 1 _ rfl
  have a2 : W1.cell? ⟨T, 2, none⟩ = some (.pointer (some ⟨N, 0, none⟩)) := HT1.out.box.cell 2 _ rfl
  have f1 : W1.frozen? ⟨T, 1, none⟩ = false := HT1.out.box.free 1
  have HV := Lib.hid (And.intro hv1 (And.intro hn0 hn1))
  clear hv1 hn0 hn1
  cases b with
  | false =>
    go_wp2_with fail
    go_ret
    have e1 := HBb.out
    have e2 := putL_len L key val
    rw [← e1] at e2
    have hc := Tr.close (W0 := W0) (W := W1) (L := L') (r := some N) (by rw [HZ.out.2, e2]; simp only [Bool.false_eq_true, if_false, Nat.add_zero]; rw [← HZ.out.1]; exact HT1.out) HR1.out ⟨hx, _, HI1.out⟩ HY.out.1 HTl.out (by rw [HZ.out.2]; exact putL_srt HY.out.2.2) h4 h6 HB1.out HY.out.2.1
    exact ⟨ret_b e1, by rw [← HZ.out.2]; exact hc.1, hc.2⟩
  | true =>
    have HK2 := Lib.hid (show lk.length ≤ o + 1 from hk2)
    have hk3 : lk.length ≤ 300 := by have := HK2.out; omega
    clear hk2
    have HN1 := Lib.hid hN1
    go_wp2_with fail
    refine wp_named (fun W' => ∃ σ2, TB W' T [.int .i64 o, .int .i64 ((sz : Int) + 1), .pointer (some ⟨N, 0, none⟩)] σ2 ∧ (∀ k, σ2 k = σ1 k) ∧ Rest W0 T Y σ2 ∧ Below 0 W0 W') (⟨_, HT1.out.set 1 (.int .i64 ((sz : Int) + 1)) (by simp), fun _ => rfl, fun k h1 h2 h3 => (if_neg h1).trans (HR1.out k h1 h2 h3), HB1.out.setCell (p := ⟨T, 1, none⟩) (Nat.zero_le _) _⟩) ?_
    clear a0 a1 a2 f1 HT1 HB1 HR1
    rintro W2 ⟨σ2, ht, hσ2, hr, hb⟩
    have hN2 : σ2 N = some ⟨lk, lv, ln⟩ := (hσ2 N).trans hN1
    have a0 : W2.cell? ⟨T, 0, none⟩ = some (.int .i64 o) := ht.box.cell 0 _ rfl
    have a2 : W2.cell? ⟨T, 2, none⟩ = some (.pointer (some ⟨N, 0, none⟩)) := ht.box.cell 2 _ rfl
    have f2 : W2.frozen? ⟨T, 2, none⟩ = false := ht.box.free 2
    obtain ⟨ka, kc, n0, _, _⟩ := ht.hp.f0 hN2
    have HT2 := Lib.hid ht
    have HB2 := Lib.hid hb
    have HR2 := Lib.hid hr
    have HS2 := Lib.hid hσ2
    clear ht hr hb hσ2 hN1
    by_cases hgt : o < lk.length
    · have hd : decide ((o : Int) < (lk.length : Int)) = true := decide_eq_true (by omega)
      go_quiet (fail)
      have HT3 := Lib.hid (HT2.out.drewN nq)
      have HB3 := Lib.hid (below_drewN'' HB2.out nq)
      obtain ⟨W3, hW3⟩ : ∃ W3, W3 = W2.drewN nq := ⟨_, rfl⟩
      rw [← hW3] at HT3 HB3
      rw [← hW3]
      have a0 : W3.cell? ⟨T, 0, none⟩ = some (.int .i64 o) := HT3.out.box.cell 0 _ rfl
      have a2 : W3.cell? ⟨T, 2, none⟩ = some (.pointer (some ⟨N, 0, none⟩)) := HT3.out.box.cell 2 _ rfl
      have f2 : W3.frozen? ⟨T, 2, none⟩ = false := HT3.out.box.free 2
      have hTl2 : T < W3.heap.size := HT3.out.box.lt
      have hTl3 : T ≠ W3.heap.size := Nat.ne_of_lt hTl2
      have hTl4 : T ≠ W3.heap.size + 1 := by omega
      have hTl5 : T < W3.heap.size + 1 := by omega
      clear HT2 HB2 hW3
      have hbx4 := (HT3.out.box.alloc (.cells #[.pointer (some ⟨N, 0, none⟩)] 64)).alloc (.cells #[.slice none 0 0, .slice none 0 0, .slice (some ⟨W3.heap.size, 0, none⟩) 1 1] 85)
      have d2 := hbx4.cell 2 _ rfl
      have df := hbx4.free 2
      clear hbx4
      go_wp2_with fail
      obtain ⟨M, hM⟩ : ∃ M, M = W3.heap.size + 1 := ⟨_, rfl⟩
      rw [← hM]
      obtain ⟨Ws, hWs⟩ : ∃ Ws, Ws = W3.setCell ⟨T, 2, none⟩ (.pointer (some ⟨M, 0, none⟩)) := ⟨_, rfl⟩
      have hwz : Ws.heap.size = W3.heap.size := by rw [hWs]; simp
      have hT3 := HT3.out.set 2 (.pointer (some ⟨M, 0, none⟩)) (by simp)
      have hb3 : Below 0 W0 Ws := by rw [hWs]; exact HB3.out.setCell (p := ⟨T, 2, none⟩) (Nat.zero_le _) _
      rw [← hWs] at hT3
      rw [← hWs]
      have hk3 : Kept (fun _ => False) Ws (Ws.alloc (.cells #[.pointer (some ⟨N, 0, none⟩)] 64)) := (Kept.refl _ _).alloc _
      have hn4 := hT3.hp.new (Nat.zero_le _) hk3 ⟨[], [], [N]⟩ (.slice none 0 0) (.slice none 0 0) (.slice (some ⟨Ws.heap.size, 0, none⟩) 1 1) 85 (.inl ⟨rfl, rfl⟩) (.inl ⟨rfl, rfl⟩) (row1 Ws N)
        (fun g e => by simp [Value.ownBlock] at e) (fun g e => by simp [Value.ownBlock] at e) (fun g e => Nat.le_of_eq (by simpa [Value.ownBlock] using e)) (fun g e => by simp [Value.ownBlock] at e) (fun g e => by simp [Value.ownBlock] at e) (fun g e => by simp [Value.ownBlock] at e)
      have hsz4 : (Ws.alloc (.cells #[.pointer (some ⟨N, 0, none⟩)] 64)).heap.size = M := by rw [hM, ← hwz]; simp
      rw [hsz4] at hn4
      rw [hwz] at hn4
      have hT5 := hT3.call hn4.1 rfl hn4.2.2.size
      have hM2 : σ2 M = none := hn4.2.1
      have hNM : N ≠ M := fun e => by rw [e, hM2] at hN2; cases hN2
      have hr5 : Rest W0 T Y (upd (setF σ2 T Ws.heap[T]?) M ⟨[], [], [N]⟩) := fun k h1 h2 h3 => (if_neg h1).trans (HR2.out k h1 h2 h3)
      have hb5 := (hb3.alloc (Nat.zero_le _) (.cells #[.pointer (some ⟨N, 0, none⟩)] 64)).alloc (Nat.zero_le _) (.cells #[.slice none 0 0, .slice none 0 0, .slice (some ⟨W3.heap.size, 0, none⟩) 1 1] 85)
      have HX := Lib.hid (And.intro hT5 (And.intro hr5 (And.intro hb5 hM2)))
      clear d2 df HT3 HB3 hT3 hk3 hn4 hsz4 hT5 hr5 hb5 hM hb3 hwz hWs a0 a2 f2 n0 hTl2 hTl3 hTl4 hTl5
      have hln : ln = [] ∨ ln.length = lk.length + 1 := by
        rcases Nat.eq_zero_or_pos hx with h0 | h0
        · exact .inl (HV.out.2.1 h0)
        · exact .inr (HV.out.2.2 (by omega))
      refine (split_any 0 M N 0 _ [] [] [N] lk lv ln _ HX.out.1.hp (Nat.zero_le _) (upd_same _ _ _) ((upd_other _ _ hNM).trans hN2) hNM rfl (Nat.le_refl _) rfl rfl HV.out.1 (by omega) (by have := HK2.out; omega) (by simp) hln).mono ?_
      rintro e W6 ⟨rfl, R, σ6, hp6, hb6, hR6, hRM, hRN, hσ6⟩
      have hT6 := Lib.hid (HX.out.1.call hp6 (by rw [hσ6]; rfl) hb6.size)
      have hlen : lk.length = o + 1 := by have := HK2.out; omega
      have HI6 := Lib.hid (root_split (σ' := σ6) HI1.out HN1.out hlen h4 (by rw [← HS2.out]; exact HX.out.2.2.2) hR6 hRM hRN (fun k => by rw [upd_k, upd_k, setF_k, HS2.out]) (fun k => by rw [hσ6]))
      have hR6' : Hid (Rest W0 T Y σ6) := Lib.hid (fun k h1 h2 h3 => by rw [hσ6]; exact HX.out.2.1 k h1 h2 h3)
      have HB6 := Lib.hid (HX.out.2.2.1.trans hb6)
      clear HX hp6 hb6 hR6 hσ6
      go_wp2_with fail
      go_ret
      have e1 := HBb.out
      have e2 := putL_len L key val
      rw [← e1, if_pos rfl] at e2
      have hc := Tr.close (W0 := W0) (W := W6) (L := L') (r := some M) (by rw [HZ.out.2, e2, ← HZ.out.1]; exact hT6.out) hR6'.out ⟨hx + 1, _, HI6.out.bounds (Nat.le_refl _) (by omega)⟩ HY.out.1 HTl.out (by rw [HZ.out.2]; exact putL_srt HY.out.2.2) h4 h6 HB6.out HY.out.2.1
      exact ⟨ret_b e1, by rw [← HZ.out.2]; exact hc.1, hc.2⟩
    · have hd : decide ((o : Int) < (lk.length : Int)) = false := decide_eq_false (by omega)
      have hle := Lib.hid (Nat.le_of_not_lt hgt)
      have hle2 : lk.length ≤ o := hle.out
      go_quiet (fail)
      go_wp2_with fail
      go_ret
      have e1 := HBb.out
      have e2 := putL_len L key val
      rw [← e1, if_pos rfl] at e2
      have hI := (HI1.out.exact HN1.out).bounds hk1 hle.out
      have hc := Tr.close (W0 := W0) (W := W2.drewN nq) (L := L') (r := some N) (by rw [HZ.out.2, e2, ← HZ.out.1]; exact HT2.out.drewN nq) HR2.out ⟨hx, _, hI.congr (fun k _ => HS2.out k)⟩ HY.out.1 HTl.out (by rw [HZ.out.2]; exact putL_srt HY.out.2.2) h4 h6 (below_drewN'' HB2.out nq) HY.out.2.1
      exact ⟨ret_b e1, by rw [← HZ.out.2]; exact hc.1, hc.2⟩
theorem tput_any (W : World) (T o : Nat) (L : List Pr) (Y : Nat → Prop) (key val : Bs) (h : Tr W T o L Y) (hl : L.length ≤ 5000) :
    Calls Try.prog 31 #[.pointer (some ⟨T, 0, none⟩), .string key, .string val] W (PutO W T o L Y key val) := by
  have hYl := h.yl
  obtain ⟨r, σ, ht, hr, hR, hY, hs, h4, h6⟩ := h.open
  cases r with
  | none =>
    have hL : L = [] := hR
    rw [hL] at ht
    exact tput_none W T o L Y σ key val hL ht hr hY hYl hs h4 h6
  | some N =>
    obtain ⟨hh, S, hT⟩ := hR
    exact tput_some W T o N hh L.length _ L _ Y S σ key val rfl rfl hl rfl ht hr hY hYl hs h4 h6 (fun W' hp => put_T 0 o key val h4 h6 hh 1 o N L S σ W' hp (Nat.zero_le _) hT hs (Nat.le_refl _))
theorem Put_T (W : World) (T o : Nat) (L : List Pr) (Y : Nat → Prop) (key val : Bs) (h : Tr W T o L Y) (hl : L.length ≤ 5000) :
    Calls Try.prog 20 #[.pointer (some ⟨T, 0, none⟩), .string key, .string val] W (PutO W T o L Y key val) := by
  have H := Lib.hid (tput_any W T o L Y key val h hl)
  clear h
  go_enter Try.func20, Try.ntmps20
  go_wp2_with fail
  refine H.out.mono ?_
  rintro e W1 ⟨rfl, h2⟩
  have H2 := Lib.hid h2
  clear h2 H
  go_wp2_with fail
  go_ret
  exact ⟨rfl, H2.out⟩
end Go.Proofs.Ytegljepgncicjaa
/- A drawn region whose reads yield the same in every world that meets S, then one effect, then reads and effects in a given order. -/
namespace Go.Proofs.Ytegljepgncicjaa
open Go.ChangeShapes Go.WideShapes Go.ChangeAt Go.RowKit Go.Deep
set_option linter.unusedVariables false
set_option linter.unusedSimpArgs false
section
variable {P : Program} {ops : Array Oper} {md : Region.Mode} {Q : Exit → Act → World → Prop} {S : World → Prop}
theorem wpAnyT_firstW {n c i : Nat} {oi : Oper} {v : Value} {Sx : World → Prop} {L : Array Bool → Act → World → Prop} (hi : ops[i]? = some oi) (hsel : ∀ (j : Nat) (o : Oper) cs b, ops[j]? = some o → o.op ≠ .select cs b)
    (hQ : ∀ c (a : Act) (d : Option Tmp) (v : Value) w, Q (.panic c) (a.put d v) w → Q (.panic c) a w)
    (hn : n = ops.size) (hin : i < n) (hic : i ≠ c)
    (hSx : ∀ listed w, HeadInv md ops n listed → listed.getD i true = false → Before c S listed w → Sx w)
    (hdone : ∀ listed a w, L listed a w → ∀ j ∈ Region.ready md ops listed, n ≤ j) :
    ∀ (f : Nat) (listed : Array Bool) (a : Act) (w : World), HeadInv md ops n listed →
      (∀ j oj, ops[j]? = some oj → j ≠ i → listed.getD j true = false → (∀ e ∈ oj.after, Region.binds md e = true → e.on ≠ i) → oi.apart ops oj = true) →
      i ∈ Region.ready md ops listed → YieldsIf P ops Sx oi v a → Before c S listed w →
      wpAnyT P md ops Q S n c L f (listed.setIfInBounds i true) (a.put oi.dst v) w → wpAnyT P md ops Q S n c L (f + 1) listed a w := by
  intro f
  induction f with
  | zero =>
    intro listed a w inv _ hr hy hS H
    have hun := (mem_ready.1 hr).1
    refine ⟨fun h => (by rw [h] at hr; cases hr), fun j hj => ?_⟩
    have hjn : j < n := by
      obtain ⟨_, oj, hoj, _⟩ := mem_ready.1 hj
      have := (Array.getElem?_eq_some_iff.1 hoj).1
      omega
    refine ⟨hjn, ?_⟩
    by_cases hji : j = i
    · subst hji; exact hy.wpOp hi (hSx _ _ inv hun hS) ⟨fun h => hS (set_other h), H⟩
    · have := hdone _ _ _ H j (ready_mono hj hji)
      omega
  | succ f ih =>
    intro listed a w inv hfree hr hy hS H
    have hun := (mem_ready.1 hr).1
    refine ⟨fun h => (by rw [h] at hr; cases hr), fun j hj => ?_⟩
    have hjn : j < n := by
      obtain ⟨_, oj, hoj, _⟩ := mem_ready.1 hj
      have := (Array.getElem?_eq_some_iff.1 hoj).1
      omega
    refine ⟨hjn, ?_⟩
    by_cases hji : j = i
    · subst hji; exact hy.wpOp hi (hSx _ _ inv hun hS) ⟨fun h => hS (set_other h), H⟩
    · have h1 := (H.2 j (ready_mono hj hji)).2
      obtain ⟨hjun, oj, hoj, hall⟩ := mem_ready.1 hj
      have hnot : ∀ e ∈ oj.after, Region.binds md e = true → e.on ≠ i := fun e he hb heq => by
        have h1 := hall e he hb
        rw [heq, getD_both hun] at h1
        cases h1
      have h2 := wpOp_putIf hoj (hfree j oj hoj hji hjun hnot) (fun cs b => hsel i oi cs b hi) (fun cs b => hsel j oj cs b hoj) (fun c a w => hQ c a _ _ w) hy h1
      have hfree' : ∀ k ok, ops[k]? = some ok → k ≠ i → (listed.setIfInBounds j true).getD k true = false →
          (∀ e ∈ ok.after, Region.binds md e = true → e.on ≠ i) → oi.apart ops ok = true := fun k ok hk hki hun hno => by
        refine hfree k ok hk hki ?_ hno
        by_cases hjk : j = k
        · subst hjk; exact hjun
        · rw [getD_set_ne true hjk] at hun; exact hun
      refine wpOp_mono (fun a' w' h3 => ?_) h2
      obtain ⟨hy3, hS3, h3⟩ := h3
      rw [Array.setIfInBounds_comm _ _ (Ne.symm hji)] at hS3 h3
      have hS4 : Before c S (listed.setIfInBounds j true) w' := fun h => by
        refine hS3 ?_
        rw [getD_set_ne false hic]; exact h
      exact ⟨hS4, ih (listed.setIfInBounds j true) a' w' (inv.set hj hjn) hfree' (ready_mono hr (Ne.symm hji)) hy3 hS4 h3⟩
def Region.regWB (md : Region.Mode) (ops : Array Oper) (n c : Nat) (ord : List (Nat × Nat)) : Bool :=
  Region.noSelect ops && decide (n = ops.size) && decide (ord.length = n) && Region.ordB md ops n c 0 ord (Array.replicate ops.size false)
theorem wpAnyT_ordW {n c g : Nat} {R : Act → World → Prop} (hsel : Region.noSelect ops = true) (hQ : ∀ c (a : Act) (d : Option Tmp) (v : Value) w, Q (.panic c) (a.put d v) w → Q (.panic c) a w)
    (hn : n = ops.size) :
    ∀ (l : List (Nat × Nat)) (listed : Array Bool) (a : Act) (w : World), HeadInv md ops n listed → Before c S listed w →
    Region.ordB md ops n c g l listed = true → wpOrd P ops Q S R l a w →
    wpAnyT P md ops Q S n c (fun listed' a' w' => Region.seqB md ops g n listed' = true ∧ R a' w') l.length listed a w
  | [], listed, a, w, inv, hS, hB, h => ⟨hB, h⟩
  | (i, 0) :: l, listed, a, w, inv, hS, hB, h => by
    simp only [Region.ordB, Bool.and_eq_true, decide_eq_true_eq] at hB
    obtain ⟨⟨⟨⟨hr, hf⟩, hin⟩, hic⟩, hB'⟩ := hB
    have hr' : i ∈ Region.ready md ops listed := by simpa using hr
    obtain ⟨oi, v, h0, hy, hK⟩ := h
    exact wpAnyT_firstW h0 (Region.noSelect_spec hsel) hQ hn hin hic (fun _ _ _ _ _ => trivial) (fun listed' a' w' hL => seqB_ready hL.1) l.length listed a w inv (Region.free_spec h0 hf) hr' hy hS
      (wpAnyT_ordW hsel hQ hn l _ _ _ (inv.set hr' hin) (fun h => hS (set_other h)) hB' hK)
  | (i, 1) :: l, listed, a, w, inv, hS, hB, h => by
    simp only [Region.ordB, Bool.and_eq_true, decide_eq_true_eq] at hB
    obtain ⟨⟨⟨⟨⟨hr, hf⟩, hin⟩, hic⟩, hanc⟩, hB'⟩ := hB
    have hr' : i ∈ Region.ready md ops listed := by simpa using hr
    obtain ⟨oi, v, h0, hy, hK⟩ := h
    exact wpAnyT_firstW h0 (Region.noSelect_spec hsel) hQ hn hin hic (fun listed w inv hun hb => hb (by
        cases hl : listed.getD c false with
        | false => rfl
        | true => have := anc_listed inv 6 i hanc hl; rw [getD_both hun] at this; cases this)) (fun listed' a' w' hL => seqB_ready hL.1) l.length listed a w inv (Region.free_spec h0 hf) hr' hy hS
      (wpAnyT_ordW hsel hQ hn l _ _ _ (inv.set hr' hin) (fun h => hS (set_other h)) hB' hK)
  | (i, 2) :: l, listed, a, w, inv, hS, hB, h => by
    simp only [Region.ordB, Bool.and_eq_true, decide_eq_true_eq] at hB
    obtain ⟨⟨hr, hin⟩, hB'⟩ := hB
    refine ⟨fun h0 => (by rw [hr] at h0; cases h0), fun j hj => ?_⟩
    have hj' := hj
    rw [hr] at hj
    have hji : j = i := by simpa using hj
    subst hji
    have h1 : wpOp P ops Q j (fun a' w' => S w' ∧ wpOrd P ops Q S R l a' w') a w := h
    exact ⟨hin, wpOp_mono (fun a' w' h2 => ⟨fun _ => h2.1, wpAnyT_ordW hsel hQ hn l _ _ _ (inv.set hj' hin) (fun _ => h2.1) hB' h2.2⟩) h1⟩
  | (i, k + 3) :: l, listed, a, w, inv, hS, hB, h => by
    simp only [Region.ordB, Bool.and_eq_true, decide_eq_true_eq] at hB
    obtain ⟨⟨⟨hr, hin⟩, hcl⟩, hB'⟩ := hB
    refine ⟨fun h0 => (by rw [hr] at h0; cases h0), fun j hj => ?_⟩
    have hj' := hj
    rw [hr] at hj
    have hji : j = i := by simpa using hj
    subst hji
    have h1 : wpOp P ops Q j (fun a' w' => wpOrd P ops Q S R l a' w') a w := h
    have hno : ∀ w', Before c S (listed.setIfInBounds j true) w' := fun w' h => by rw [hcl] at h; cases h
    exact ⟨hin, wpOp_mono (fun a' w' h2 => ⟨hno w', wpAnyT_ordW hsel hQ hn l _ _ _ (inv.set hj' hin) (hno w') hB' h2⟩) h1⟩
theorem wp_region_ordW {id : Nat} {a : Act} {w : World} {l : List Oper} (n c : Nat) (ord : List (Nat × Nat)) (S : World → Prop) (hm : P.follows .mixedOrders = true) (hB : Region.regWB .any l.toArray n c ord = true) (hS : S w.drew)
    (hQ : ∀ c (a : Act) (d : Option Tmp) (v : Value) w, Q (.panic c) (a.put d v) w → Q (.panic c) a w)
    (h : wpOrd P l.toArray Q S (fun a' w' => Q .normal a' w') ord a w.drew) : (Code.region id l.toArray true).wp P Q a w := by
  simp only [Region.regWB, Bool.and_eq_true, decide_eq_true_eq] at hB
  obtain ⟨⟨⟨hsel, hn⟩, hol⟩, hlex⟩ := hB
  have inv0 : HeadInv .any l.toArray n (Array.replicate l.toArray.size false) :=
    ⟨by simp, fun j oj _ hl => (by rw [getD_replicate_false] at hl; cases hl), fun t _ ht => getD_in (by simpa using ht) (getD_replicate_false _ _)⟩
  have H := wpAnyT_ordW (md := .any) (g := 0) hsel hQ hn ord _ a _ inv0 (fun _ => hS) hlex h
  refine wp_region_any hm ?_
  have := wpAny_of_T (g := 0) (fun listed a' w' hL => by
    have hr : Region.ready .any l.toArray listed = [] := by simpa [Region.seqB] using hL.1
    exact wpAny_done (P := P) (Q := Q) hr hL.2 0) _ _ _ _ H
  rwa [Nat.add_zero, hol, hn] at this
end
end Go.Proofs.Ytegljepgncicjaa
/- Btree: append on rows of nodes. -/
namespace Go.Proofs.Ytegljepgncicjaa
open Go.ChangeShapes Go.WideShapes Go.ChangeAt Go.RowKit Go.Deep
set_option linter.unusedVariables false
set_option linter.unusedSimpArgs false
theorem info9b : (Try.prog.info? 9).map (fun i => (i.zero, i.size, i.bytes)) = some (some (.string ⟨#[]⟩), 1, 16) := by kernel_rfl
/-- the source of an append -/
def RSrc (W : World) (sv : Value) (news : List Value) : Prop :=
  (∃ c, sv = .slice none 0 c ∧ news = []) ∨ ∃ ad c, sv = .slice (some ad) news.length c ∧ ∀ j u, news[j]? = some u → W.cell? (ad.add j) = some u
theorem rowV_src {T B : Nat} {W : World} {v : Value} {us : List Value} (h : RowV T B W v us) : RSrc W v us := by
  rcases h with ⟨rfl, rfl⟩ | ⟨g, c, rfl, _, _, _, _, hc⟩
  · exact .inl ⟨0, rfl, rfl⟩
  · refine .inr ⟨_, _, rfl, fun j u hj => ?_⟩
    have e : (⟨g, 0, none⟩ : Addr).add j = ⟨g, j, none⟩ := by by_cases hj : j = 0 <;> simp [Addr.add, hj]
    rw [e, hc j (List.getElem?_eq_some_iff.1 hj).1, hj]
theorem run_app_row {T t : Nat} (i : TypeInfo) (z : Value) (bytes : Nat) (ht : Try.prog.underlying t = some (.slice T)) (hi : Try.prog.info? T = some i) (hz : i.zero = some z) (hsize : i.size = 1) (hby : i.bytes = bytes) (hzs : z.cells.size = 1) (hb : bytes ≤ 1000)
    (B : Nat) (W : World) (v sv : Value) (us news : List Value) (h : RowV T B W v us) (hs : us.length ≤ 1000) (hB : B ≤ W.heap.size) (hm : news.length ≤ 1000) (hsrc : RSrc W sv news) (h1 : ∀ u ∈ news, u.oneCell' = true) :
    ∃ v' W', (Builtin.append_ #[t, t] t #[v, sv]).run Try.prog W = .ok v' W' ∧ RowV T B W' v' (us ++ news) ∧ Kept (fun k => v.ownBlock = some k) W W' ∧ (∀ k, v'.ownBlock = some k → v.ownBlock = some k ∨ W.heap.size ≤ k) := by
  have hbm : (us.length + news.length) * bytes ≤ 140737488355328 := by
    have : (us.length + news.length) * bytes ≤ 2000 * 1000 := Nat.mul_le_mul (by omega) hb
    omega
  rcases hsrc with ⟨c, rfl, rfl⟩ | ⟨a, c, rfl, hnews⟩
  · refine ⟨v, W, ?_, by rw [List.append_nil]; exact h, Kept.refl _ W, fun k hk => .inl hk⟩
    rcases h with ⟨rfl, rfl⟩ | ⟨g, cc, rfl, _, hnc, _⟩
    · simp [Builtin.append_, run_underlying ht, sizeOf, typeInfo, hi, Builtin.lenOf, Builtin.firstCells]
    · simp [Builtin.append_, run_underlying ht, sizeOf, typeInfo, hi, Builtin.lenOf, Builtin.firstCells, hnc, storeCells]
  · rcases h with ⟨rfl, rfl⟩ | ⟨g, cc, rfl, hBg, hnc, hc63, hR, hc⟩
    · obtain ⟨v', w', hr, h2, h3, _, h5⟩ := run_append_own_at (P := Try.prog) W W.heap.size t t T i z 1 bytes ht hi hz hsize hby hzs (by decide) (.slice none 0 0) 0 [] (World.ownsRow_nil _ _ _ _) a news.length c news (by omega) hnews h1 (by unfold maxLen; omega) (by simpa using hbm) (Nat.le_refl _)
      rw [Nat.zero_add, List.nil_append] at h2
      refine ⟨v', w', hr, (rowV_of_own rfl h2).base hB, ⟨h3.os, h3.tape, h3.output, h3.size, fun k hk hs => h3.block k hk (by simp [Value.ownBlock])⟩, fun k hk => .inr ?_⟩
      exact (h2.lt k hk).1
    · by_cases hroom : us.length + news.length ≤ cc
      · have hr := run_append_room_cells (P := Try.prog) (w := W) t t T i ht hi g 0 us.length cc a news.length c news (by rw [hsize, Nat.mul_one]) hnews h1 hroom (fun j hj => hR.th _ (by rw [hsize]; omega)) (fun j hj => hR.fr _)
        rw [hsize, Nat.mul_one, Nat.zero_add] at hr
        refine ⟨_, _, hr, .inr ⟨g, cc, by rw [List.length_append], hBg, by rw [List.length_append]; exact hroom, hc63, hR.set _ _, fun j hj => ?_⟩, (Kept.refl _ W).setCells g _ _ (.inl rfl), fun k hk => .inl hk⟩
        rw [hR.at _ _ hroom]
        rw [List.length_append] at hj
        by_cases hju : us.length ≤ j
        · rw [if_pos ⟨hju, hj⟩, List.getElem?_append_right hju]
        · rw [if_neg (fun h => hju h.1), List.getElem?_append_left (by omega)]
          exact hc j (by omega)
      · obtain ⟨v', w', hr, h2, h3⟩ := run_append_arg_grows (P := Try.prog) (w := W) t t T i z 1 bytes ht hi hz hsize hby hzs (by decide) ⟨g, 0, none⟩ us.length cc us (by omega) (fun j u hj => by
          have e : (⟨g, 0, none⟩ : Addr).add j = ⟨g, j, none⟩ := by by_cases hj : j = 0 <;> simp [Addr.add, hj]
          rw [e, hc j (List.getElem?_eq_some_iff.1 hj).1, hj]) a news.length c news (by omega) hnews (by omega) (by unfold maxLen; omega) hbm
        rw [← List.length_append] at h2
        refine ⟨v', w', hr, (rowV_of_own rfl h2).base hB, ⟨h3.os, h3.tape, h3.output, h3.size, fun k hk hs => h3.block k hk (by simp)⟩, fun k hk => .inr (h2.lt k hk).1⟩
def AppOut (T B : Nat) (v : Value) (us : List Value) (W : World) (v' : Value) (W' : World) : Prop :=
  RowV T B W' v' us ∧ Kept (fun k => v.ownBlock = some k) W W' ∧ (∀ k, v'.ownBlock = some k → v.ownBlock = some k ∨ W.heap.size ≤ k)
def ASide (a : Act) (x y : Nat) (v sv : Value) : Prop := a.eval (.tmp x) = v ∧ a.eval (.tmp y) = sv
theorem wp_app9 {Q : Exit → Act → World → Prop} {K : Act → World → Prop} (x y B : Nat) (v sv : Value) (us news : List Value) (d : Option Nat) (pos : String) (af) (a : Act) (W : World)
    (h : RowV 9 B W v us) (hs : us.length ≤ 1000) (hB : B ≤ W.heap.size) (hm : news.length ≤ 1000) (hsrc : RSrc W sv news) (h1 : ∀ u ∈ news, u.oneCell' = true) (hside : ASide a x y v sv)
    (hK : ∀ v' W', AppOut 9 B v (us ++ news) W v' W' → K (a.put d v') W') :
    Oper.wp Try.prog { dst := d, op := Op.call { callee := .builtin .append, args := #[.tmp x, .tmp y], argTypes := #[40, 40] }, type := 40, pos := pos, after := af, guard := none } a W K Q := by
  obtain ⟨hx, hy⟩ := hside
  obtain ⟨i9, hi9, hz0, hz1, hz2⟩ := info_parts info9b
  obtain ⟨v', w', hr, h2⟩ := run_app_row (T := 9) (t := 40) i9 (.string ⟨#[]⟩) 16 Try.underlying40 hi9 hz0 hz1 hz2 rfl (by decide) B W v sv us news h hs hB hm hsrc h1
  unfold Oper.wp execOp
  simp only [resolve, invoke, builtin, Sem.run_bind, Sem.run_pure, Result.andThen_ok, List.map_toArray, List.map_cons, List.map_nil, hx, hy, hr]
  exact hK _ _ h2
theorem wp_app64 {Q : Exit → Act → World → Prop} {K : Act → World → Prop} (x y B : Nat) (v sv : Value) (us news : List Value) (d : Option Nat) (pos : String) (af) (a : Act) (W : World)
    (h : RowV 64 B W v us) (hs : us.length ≤ 1000) (hB : B ≤ W.heap.size) (hm : news.length ≤ 1000) (hsrc : RSrc W sv news) (h1 : ∀ u ∈ news, u.oneCell' = true) (hside : ASide a x y v sv)
    (hK : ∀ v' W', AppOut 64 B v (us ++ news) W v' W' → K (a.put d v') W') :
    Oper.wp Try.prog { dst := d, op := Op.call { callee := .builtin .append, args := #[.tmp x, .tmp y], argTypes := #[83, 83] }, type := 83, pos := pos, after := af, guard := none } a W K Q := by
  obtain ⟨hx, hy⟩ := hside
  obtain ⟨i9, hi9, hz0, hz1, hz2⟩ := info_parts info64
  obtain ⟨v', w', hr, h2⟩ := run_app_row (T := 64) (t := 83) i9 (.pointer none) 8 Try.underlying83 hi9 hz0 hz1 hz2 rfl (by decide) B W v sv us news h hs hB hm hsrc h1
  unfold Oper.wp execOp
  simp only [resolve, invoke, builtin, Sem.run_bind, Sem.run_pure, Result.andThen_ok, List.map_toArray, List.map_cons, List.map_nil, hx, hy, hr]
  exact hK _ _ h2
end Go.Proofs.Ytegljepgncicjaa
/- Btree: cut. -/
namespace Go.Proofs.Ytegljepgncicjaa
open Go.ChangeShapes Go.WideShapes Go.ChangeAt Go.RowKit Go.Deep
set_option linter.unusedVariables false
set_option linter.unusedSimpArgs false
/-- a call that only returns, and turns the store -/
def Turned (B : Nat) (σ' : Sig) (W : World) (e : Ending) (W' : World) : Prop := e = .returned (.tuple #[]) ∧ Hp B W' σ' ∧ Below B W W'
set_option maxRecDepth 100000 in
set_option maxHeartbeats 1600000 in
theorem cutN_any (B N i : Nat) (σ : Sig) (ks vs : List Bs) (ns : List Nat) (W : World) (hp : Hp B W σ) (hB : B ≤ W.heap.size) (hN : σ N = some ⟨ks, vs, ns⟩) (hi : i < ks.length) (hv : vs.length = ks.length) (hs : ks.length ≤ 1000) :
    Calls Try.prog 52 #[.pointer (some ⟨N, 0, none⟩), .int .i64 i] W (Turned B (upd σ N ⟨ks.take i ++ ks.drop (i + 1), vs.take i ++ vs.drop (i + 1), ns⟩) W) := by
  have HP := Lib.hid hp
  obtain ⟨ka, kc, c0, _, _⟩ := hp.f0 hN
  have hw : IntKind.i64.wrap ((i : Int) + 1) = ((i + 1 : Nat) : Int) := by rw [IntKind.wrap_i64]; omega
  have HN := Lib.hid hN
  have HV := Lib.hid hv
  clear hp hN hv
  go_enter Try.func52, Try.ntmps52
  go_wp2_with fail
  refine (hdel0 (B := B) (N := N) (i := i) (j := i + 1) (n := ks.length - 1) HP.out hB HN.out c0 (by omega) (by omega) (by omega)).mono ?_
  rintro e w4 ⟨a4, c4, rfl, ⟨u4, hu4⟩, hf4, HH4, HB4⟩
  obtain ⟨va, vc, c1', _, _⟩ := HH4.f1 (upd_same _ _ _)
  have c1 : w4.cell? ⟨N, 1, none⟩ = some (.slice va vs.length vc) := by simpa [go_sem] using c1'
  have HX := Lib.hid (And.intro HH4 HB4)
  have HC := Lib.hid c1'
  clear HH4 HB4 c0 HP
  go_wp2_with fail
  have hsz : B ≤ (w4.setCell ⟨N, 0, none⟩ (.slice a4 (ks.length - 1) c4)).heap.size := Nat.le_trans hB HX.out.2.size
  refine (hdel1 (B := B) (N := N) (i := i) (j := i + 1) (n := vs.length - 1) HX.out.1 hsz (upd_same _ _ _) HC.out (by omega) (by rw [HV.out]; omega) (by omega)).mono ?_
  rintro e w5 ⟨a5, c5, rfl, ⟨u5, hu5⟩, hf5, HH5, HB5⟩
  have HX5 := Lib.hid (And.intro HH5 (HX.out.2.trans HB5))
  clear HH5 HB5 HX c1 c1' HC hsz
  go_wp2_with fail
  go_end0
  refine ⟨rfl, ?_, HX5.out.2⟩
  have := HX5.out.1
  rw [upd_upd] at this
  exact this
end Go.Proofs.Ytegljepgncicjaa
/- Btree: rows of nodes are apart; an element of a row is stored. -/
namespace Go.Proofs.Ytegljepgncicjaa
open Go.ChangeShapes Go.WideShapes Go.ChangeAt Go.RowKit Go.Deep
set_option linter.unusedVariables false
set_option linter.unusedSimpArgs false
theorem Hp.cellv {B : Nat} {W : World} {σ : Sig} {fv : Nat → Nat → Value} {own : Nat → Nat × Nat} (h : HpW B W σ fv own) {N : Nat} {nd : Nd} (hN : σ N = some nd) (j : Nat) (hj : j < 3) {v : Value} (hv : W.cell? ⟨N, j, none⟩ = some v) : fv N j = v := by
  have := box_j (h N nd hN).1 (fv N) rfl rfl rfl j hj
  rw [hv] at this
  exact (Option.some.inj this).symm
theorem Hp.rows_ne {B : Nat} {W : World} {σ : Sig} (h : Hp B W σ) {N M : Nat} {nd md : Nd} (hN : σ N = some nd) (hM : σ M = some md) (j i : Nat) (hj : j < 3) (hi : i < 3) (hne : N ≠ M ∨ j ≠ i) {v u : Value} (hv : W.cell? ⟨N, j, none⟩ = some v) (hu : W.cell? ⟨M, i, none⟩ = some u) {g g' : Nat} (e : v.ownBlock = some g) (e' : u.ownBlock = some g') : g ≠ g' := by
  obtain ⟨fv, own, h, _⟩ := h
  have e1 := (((h N nd hN).2.2.2) j hj).2 g (by rw [Hp.cellv h hN j hj hv]; exact e)
  have e2 := (((h M md hM).2.2.2) i hi).2 g' (by rw [Hp.cellv h hM i hi hu]; exact e')
  rintro rfl
  rw [e1] at e2
  simp at e2
  omega
theorem Hp.row_node {B : Nat} {W : World} {σ : Sig} (h : Hp B W σ) {N M : Nat} {nd md : Nd} (hN : σ N = some nd) (hM : σ M = some md) (j : Nat) (hj : j < 3) {v : Value} (hv : W.cell? ⟨N, j, none⟩ = some v) {g : Nat} (e : v.ownBlock = some g) : M ≠ g := by
  obtain ⟨fv, own, h, _⟩ := h
  have e1 := (((h N nd hN).2.2.2) j hj).2 g (by rw [Hp.cellv h hN j hj hv]; exact e)
  have e2 := (h M md hM).2.2.1
  rintro rfl
  rw [e1] at e2
  simp at e2
theorem Hp.drew {B : Nat} {W : World} {σ : Sig} (h : Hp B W σ) : Hp B W.drew σ := h.drewN 1
theorem strv_set (ks : List Bs) (i : Nat) (x : Bs) : strv (ks.set i x) = (strv ks).set i (.string x) := List.map_set
/-- keys[i] = x -/
theorem Hp.set0 {B : Nat} {W : World} {σ : Sig} (h : Hp B W σ) (hB : B ≤ W.heap.size) {N : Nat} {ks vs : List Bs} {ns : List Nat} (hN : σ N = some ⟨ks, vs, ns⟩) {g c i : Nat} (hv : W.cell? ⟨N, 0, none⟩ = some (.slice (some ⟨g, 0, none⟩) ks.length c)) (x : Bs) (hi : i < ks.length) :
    (∃ u, W.cell? ⟨g, i, none⟩ = some u) ∧ W.frozen? ⟨g, i, none⟩ = false ∧ Hp B (W.setCell ⟨g, i, none⟩ (.string x)) (upd σ N ⟨ks.set i x, vs, ns⟩) ∧ Below B W (W.setCell ⟨g, i, none⟩ (.string x)) := by
  obtain ⟨g', c', e, h1, h2, _, _, h3, h4, h5, _⟩ := h.elem (nd' := ⟨ks.set i x, vs, ns⟩) hN 0 (by decide) _ hv i (.string x) (by show i < (strv ks).length; rw [strv_len]; exact hi) (strv_set ks i x) (fun k hk hne => by match k, hk with | 0, _ => exact absurd rfl hne | 1, _ => rfl | 2, _ => rfl)
  have e2 : (Value.slice (some ⟨g, 0, none⟩) ks.length c).ownBlock = (Value.slice (some ⟨g', 0, none⟩) (Nd.row ⟨ks, vs, ns⟩ 0).length c').ownBlock := by rw [e]
  have e3 : g' = g := by simpa [Value.ownBlock] using e2.symm
  subst e3
  exact ⟨Option.isSome_iff_exists.1 h1, h2, h3, h4.below hB (fun k e => by cases e; exact h5)⟩
/-- vals[i] = x -/
theorem Hp.set1 {B : Nat} {W : World} {σ : Sig} (h : Hp B W σ) (hB : B ≤ W.heap.size) {N : Nat} {ks vs : List Bs} {ns : List Nat} (hN : σ N = some ⟨ks, vs, ns⟩) {g c i : Nat} (hv : W.cell? ⟨N, 1, none⟩ = some (.slice (some ⟨g, 0, none⟩) vs.length c)) (x : Bs) (hi : i < vs.length) :
    (∃ u, W.cell? ⟨g, i, none⟩ = some u) ∧ W.frozen? ⟨g, i, none⟩ = false ∧ Hp B (W.setCell ⟨g, i, none⟩ (.string x)) (upd σ N ⟨ks, vs.set i x, ns⟩) ∧ Below B W (W.setCell ⟨g, i, none⟩ (.string x)) := by
  obtain ⟨g', c', e, h1, h2, _, _, h3, h4, h5, _⟩ := h.elem (nd' := ⟨ks, vs.set i x, ns⟩) hN 1 (by decide) _ hv i (.string x) (by show i < (strv vs).length; rw [strv_len]; exact hi) (strv_set vs i x) (fun k hk hne => by match k, hk with | 0, _ => rfl | 1, _ => exact absurd rfl hne | 2, _ => rfl)
  have e2 : (Value.slice (some ⟨g, 0, none⟩) vs.length c).ownBlock = (Value.slice (some ⟨g', 0, none⟩) (Nd.row ⟨ks, vs, ns⟩ 1).length c').ownBlock := by rw [e]
  have e3 : g' = g := by simpa [Value.ownBlock] using e2.symm
  subst e3
  exact ⟨Option.isSome_iff_exists.1 h1, h2, h3, h4.below hB (fun k e => by cases e; exact h5)⟩
theorem cell_other {W : World} {g i b j : Nat} {u v : Value} (h : W.cell? ⟨b, j, none⟩ = some v) (hne : b ≠ g) : (W.setCell ⟨g, i, none⟩ u).cell? ⟨b, j, none⟩ = some v := by
  rw [World.cell?_setCell_far _ _ _ _ (fun e => hne e.symm)]
  exact h
theorem upd5 (σ : Sig) {r N l : Nat} (hrN : r ≠ N) (hrl : r ≠ l) (hlN : l ≠ N) (a b c d e : Nd) : upd (upd (upd (upd (upd σ r a) N b) l c) r d) l e = upd (upd (upd σ r d) N b) l e := by
  refine sig_ext (fun k => ?_) rfl
  simp only [upd_k]
  by_cases h1 : k = l
  · simp [h1]
  · by_cases h2 : k = r
    · subst h2; simp [h1, hrN]
    · simp [h1, h2]
/-- a row is appended to and stored into its field -/
theorem Hp.app {B : Nat} {W W' : World} {σ : Sig} (h : Hp B W σ) (hB : B ≤ W.heap.size) {N j : Nat} {nd nd' : Nd} {v v' : Value} (hN : σ N = some nd) (hj : j < 3) (hv : W.cell? ⟨N, j, none⟩ = some v) (ho : AppOut (fT j) B v (nd'.row j) W v' W') (hoth : ∀ i, i < 3 → i ≠ j → nd'.row i = nd.row i) :
    (∃ u, W'.cell? ⟨N, j, none⟩ = some u) ∧ W'.frozen? ⟨N, j, none⟩ = false ∧ Hp B (W'.setCell ⟨N, j, none⟩ v') (upd σ N nd') ∧ Below B W (W'.setCell ⟨N, j, none⟩ v') := by
  obtain ⟨h1, h2, h3⟩ := ho
  obtain ⟨g1, g2, g3, g4, g5, g6⟩ := h.field hN j hj v v' hv h1 hoth h2 h3
  exact ⟨Option.isSome_iff_exists.1 g6, g5, g1, g2.below hB (fun k hk => hk.elim (g4 k) (fun e => by rw [e]; exact g3))⟩
theorem Hp.rowat {B : Nat} {W : World} {σ : Sig} (h : Hp B W σ) {N : Nat} {nd : Nd} (hN : σ N = some nd) (j : Nat) (hj : j < 3) {v : Value} (hv : W.cell? ⟨N, j, none⟩ = some v) : RowV (fT j) B W v (nd.row j) := by
  obtain ⟨fv, own, h, _⟩ := h
  have := ((h N nd hN).2.2.2 j hj).1
  rw [Hp.cellv h hN j hj hv] at this
  exact this
theorem AppOut.trans {T B : Nat} {v v1 v2 : Value} {us1 us2 : List Value} {W W1 W2 : World} (h : AppOut T B v us1 W v1 W1) (k : AppOut T B v1 us2 W1 v2 W2) : AppOut T B v us2 W v2 W2 := by
  refine ⟨k.1, h.2.1.trans k.2.1 (fun x hx => ?_), fun x hx => ?_⟩
  · exact h.2.2 x hx
  · rcases k.2.2 x hx with h1 | h1
    · exact h.2.2 x h1
    · have := h.2.1.size; exact .inr (by omega)
theorem rsrc_new (W : World) (u : Value) (t : TypeId) : RSrc (W.alloc (.cells #[u] t)) (.slice (some ⟨W.heap.size, 0, none⟩) 1 1) [u] := by
  refine .inr ⟨_, _, rfl, fun j x hj => ?_⟩
  match j with
  | 0 =>
    simp at hj
    subst hj
    exact cn W #[u] t 0
  | j + 1 => simp at hj
theorem strv_app (a b : List Bs) : strv a ++ strv b = strv (a ++ b) := (List.map_append).symm
theorem ptrv_app (a b : List Nat) : ptrv a ++ ptrv b = ptrv (a ++ b) := (List.map_append).symm
theorem cell_kept2 {S : Nat → Prop} {W W' : World} {b j : Nat} {v : Value} (hk : Kept S W W') (hb : b < W.heap.size) (hs : ¬ S b) (h : W.cell? ⟨b, j, none⟩ = some v) : W'.cell? ⟨b, j, none⟩ = some v :=
  (World.cell?_of_block (a := ⟨b, j, none⟩) (hk.block b hb hs)).trans h
end Go.Proofs.Ytegljepgncicjaa
/- Btree: moveRight. -/
namespace Go.Proofs.Ytegljepgncicjaa
open Go.ChangeShapes Go.WideShapes Go.ChangeAt Go.RowKit Go.Deep
set_option linter.unusedVariables false
set_option linter.unusedSimpArgs false
set_option maxRecDepth 100000 in
set_option maxHeartbeats 3200000 in
theorem mr_any (B N l r i m : Nat) (σ : Sig) (ks vs : List Bs) (ns : List Nat) (lk lv : List Bs) (ln : List Nat) (rk rv : List Bs) (rn : List Nat) (w0 : World) (hp : Hp B w0 σ) (hB : B ≤ w0.heap.size)
    (hNb : σ N = some ⟨ks, vs, ns⟩) (hlb : σ l = some ⟨lk, lv, ln⟩) (hrb : σ r = some ⟨rk, rv, rn⟩) (hlN : l ≠ N) (hrN : r ≠ N) (hlr : l ≠ r) (hil : ns[i]? = some l) (hir : ns[i + 1]? = some r)
    (hik : i < ks.length) (hvs : vs.length = ks.length) (hns : ns.length = ks.length + 1) (hlv : lv.length = lk.length) (hrv : rv.length = rk.length) (hm : m + 1 = lk.length) (hks : ks.length ≤ 260) (hlk : lk.length ≤ 260) (hrk : rk.length ≤ 260)
    (hkk : (ln = [] ∧ rn = []) ∨ (ln.length = lk.length + 1 ∧ rn.length = rk.length + 1)) :
    Calls Try.prog 61 #[.pointer (some ⟨N, 0, none⟩), .int .i64 i] w0 (Turned B (upd (upd (upd σ r ⟨sx ks i :: rk, sx vs i :: rv, ln.drop (m + 1) ++ rn⟩) N ⟨ks.set i (sx lk m), vs.set i (sx lv m), ns⟩) l ⟨lk.take m, lv.take m, ln.take (m + 1)⟩) w0) := by
  have hNl := hlN.symm
  have hNr := hrN.symm
  have hrl := hlr.symm
  have HP := Lib.hid hp
  obtain ⟨ng, nc, n2, _, _, hng, hdc⟩ := hp.g2 hNb (by omega)
  have ci := hdc i l hil
  have cj := hdc (i + 1) r hir
  obtain ⟨la, lc, l0, _, _⟩ := hp.f0 hlb
  have hi1 : i < ns.length := by omega
  have hi2 : i + 1 < ns.length := by omega
  have hw1 : IntKind.i64.wrap ((i : Int) + 1) = ((i + 1 : Nat) : Int) := by rw [IntKind.wrap_i64]; omega
  have hw2 : IntKind.i64.wrap ((lk.length : Int) - 1) = (m : Int) := by rw [IntKind.wrap_i64]; omega
  have hvs1' : vs.length ≤ ks.length := Nat.le_of_eq hvs
  have hvs2' : ks.length ≤ vs.length := Nat.le_of_eq hvs.symm
  have hns1' : ns.length ≤ ks.length + 1 := Nat.le_of_eq hns
  have hns2' : ks.length + 1 ≤ ns.length := Nat.le_of_eq hns.symm
  have hlv1' : lv.length ≤ lk.length := Nat.le_of_eq hlv
  have hlv2' : lk.length ≤ lv.length := Nat.le_of_eq hlv.symm
  have hrv1' : rv.length ≤ rk.length := Nat.le_of_eq hrv
  have hrv2' : rk.length ≤ rv.length := Nat.le_of_eq hrv.symm
  have hm1' : m + 1 ≤ lk.length := Nat.le_of_eq hm
  have hm2' : lk.length ≤ m + 1 := Nat.le_of_eq hm.symm
  have HEQ := Lib.hid (And.intro hvs (And.intro hns (And.intro hlv (And.intro hrv hm))))
  have HKK := Lib.hid hkk
  have HIL := Lib.hid (And.intro hil hir)
  clear hdc hp hvs hns hlv hrv hm hkk hil hir
  go_enter Try.func61, Try.ntmps61
  go_wp2_with fail
  go_quiet (fail)
  go_wp2_with fail
  refine wp_named (fun W => Hp B W σ ∧ Below B w0 W) ⟨HP.out.drewN _, below_drewN'' (Below.refl B w0) _⟩ ?_
  rintro W0 ⟨hp, hb⟩
  have HPW := Lib.hid (And.intro hp hb)
  clear hp hb HP n2 ci cj l0
  have hXk : σ r = some ⟨rk, rv, rn⟩ := (hrb)
  have hYk : σ N = some ⟨ks, vs, ns⟩ := (hNb)
  obtain ⟨xa, xc, c0, hown, hXlt⟩ := HPW.out.1.f0 hXk
  obtain ⟨yg, yc, y0, hy1, hy2, hyg, hyc⟩ := HPW.out.1.g0 hYk (by omega)
  have hYlt := (HPW.out.1.lt hYk).2
  have cm := hyc i (by omega)
  have hszk := HPW.out.2.size
  have hidx : i < ks.length := by omega
  have hiF : 0 ≤ rk.length := Nat.zero_le _
  have hsF : rk.length ≤ 1000 := by omega
  clear hyc
  try clear hy1 hy2
  refine wp_region_ordW 17 13 [(0, 0), (1, 0), (2, 0), (3, 0), (4, 1), (5, 0), (6, 0), (7, 0), (8, 1), (9, 0), (10, 0), (11, 1), (12, 2), (13, 3), (14, 0), (15, 0), (16, 3)] (fun X => X.cell? ⟨r, 0, none⟩ = some (.slice xa rk.length xc) ∧ X.cell? ⟨N, 0, none⟩ = some (.slice (some ⟨yg, 0, none⟩) ks.length yc) ∧ X.cell? ⟨yg, i, none⟩ = some (.string (sx ks i))) (by kernel_rfl) (by kernel_rfl) ⟨c0, y0, cm⟩ (fun c a d v w h => by cases d <;> exact h) ?_
  apply wpOrd_read0
  case hi => rfl
  case hw => rfl
  case hy => (intro w; go_simp; try rfl)
  intro K hK; go_simp; refine hK _ _ ?_; clear hK K
  apply wpOrd_read0
  case hi => rfl
  case hw => rfl
  case hy => (intro w; go_simp; try rfl)
  intro K hK; go_simp; refine hK _ _ ?_; clear hK K
  apply wpOrd_read0
  case hi => rfl
  case hw => rfl
  case hy => (intro w; go_simp; try rfl)
  intro K hK; go_simp; refine hK _ _ ?_; clear hK K
  apply wpOrd_read0
  case hi => rfl
  case hw => rfl
  case hy => (intro w; go_simp; try rfl)
  intro K hK; go_simp; refine hK _ _ ?_; clear hK K
  apply wpOrd_read1
  case hi => rfl
  case hw => rfl
  case hy => (intro w hw; obtain ⟨h1, h2, h3⟩ := hw; go_simp; try rfl)
  intro K hK; go_simp; refine hK _ _ ?_; clear hK K
  apply wpOrd_read0
  case hi => rfl
  case hw => rfl
  case hy => (intro w; go_simp; try rfl)
  intro K hK; go_simp; refine hK _ _ ?_; clear hK K
  apply wpOrd_read0
  case hi => rfl
  case hw => rfl
  case hy => (intro w; go_simp; try rfl)
  intro K hK; go_simp; refine hK _ _ ?_; clear hK K
  apply wpOrd_read0
  case hi => rfl
  case hw => rfl
  case hy => (intro w; go_simp; try rfl)
  intro K hK; go_simp; refine hK _ _ ?_; clear hK K
  apply wpOrd_read1
  case hi => rfl
  case hw => rfl
  case hy => (intro w hw; obtain ⟨h1, h2, h3⟩ := hw; go_simp; try rfl)
  intro K hK; go_simp; refine hK _ _ ?_; clear hK K
  apply wpOrd_read0
  case hi => rfl
  case hw => rfl
  case hy => (intro w; go_simp; try rfl)
  intro K hK; go_simp; refine hK _ _ ?_; clear hK K
  apply wpOrd_read0
  case hi => rfl
  case hw => rfl
  case hy => (intro w; go_simp; try rfl)
  intro K hK; go_simp; refine hK _ _ ?_; clear hK K
  apply wpOrd_read1
  case hi => rfl
  case hw => rfl
  case hy => (intro w hw; obtain ⟨h1, h2, h3⟩ := hw; go_simp; try rfl)
  intro K hK; go_simp; refine hK _ _ ?_; clear hK K
  apply wpOrd_eff2
  case hi => rfl
  case hw => rfl
  intro K hK
  go_simp
  refine hK _ _ ⟨ca (W := W0.drew) hXlt c0, ca (W := W0.drew) hYlt y0, ca (W := W0.drew) hyg cm⟩ ?_
  clear hK K
  apply wpOrd_eff3
  case hi => rfl
  case hw => rfl
  intro K hK
  go_simp
  refine (hins0 (B := B) (σ := σ) (N := r) (i := 0) (n := rk.length + 1) (HPW.out.1.kept ((Kept.refl (fun _ => False) W0).drew.alloc _)) (Nat.le_trans hB (Nat.le_trans hszk (by simp))) hXk (ca (W := W0.drew) hXlt c0) hiF hsF rfl (heap_new W0.drew _) (fun g e e2 => absurd (hown g e) (by rw [e2]; exact Nat.lt_irrefl _))).mono ?_
  rintro e w4 ⟨a4, c4, rfl, ⟨u4, hu4⟩, hf4, HH4, HB4⟩
  have HX := Lib.hid (And.intro HH4 ((((HPW.out.2).drew.alloc (Nat.le_trans hB hszk) _)).trans HB4))
  clear hidx HH4 HB4 HPW c0 hown hXlt y0 cm hXk hYk hyg hYlt hiF hsF hszk
  refine hK _ _ ?_
  clear hK K
  apply wpOrd_read0
  case hi => rfl
  case hw => rfl
  case hy => (intro w; go_simp; try rfl)
  intro K hK; go_simp; refine hK _ _ ?_; clear hK K
  apply wpOrd_read0
  case hi => rfl
  case hw => rfl
  case hy => (intro w; go_simp; try rfl)
  intro K hK; go_simp; refine hK _ _ ?_; clear hK K
  apply wpOrd_eff3
  case hi => rfl
  case hw => rfl
  intro K hK
  go_simp
  refine hK _ _ (wpOrd_nil ?_)
  clear hK K hu4 hf4
  go_wp2_with fail
  refine wp_named (fun W => Hp B W (upd σ r ⟨(rk.take 0 ++ (sx ks i) :: rk.drop 0), rv, rn⟩) ∧ Below B w0 W) HX.out ?_
  rintro W1 ⟨hp, hb⟩
  have HPW := Lib.hid (And.intro hp hb)
  clear HX hp hb
  obtain ⟨rk1, hrk1⟩ : ∃ x, x = (rk.take 0 ++ (sx ks i) :: rk.drop 0) := ⟨_, rfl⟩
  have hlrk1 : rk1.length ≤ rk.length + 1 := by rw [hrk1]; simp
  have hgrk1 : rk.length + 1 ≤ rk1.length := by rw [hrk1]; simp
  rw [← hrk1] at HPW
  have Hrk1 := Lib.hid hrk1
  clear hrk1
  have hXk : (upd σ r ⟨rk1, rv, rn⟩) r = some ⟨rk1, rv, rn⟩ := (upd_same _ _ _)
  have hYk : (upd σ r ⟨rk1, rv, rn⟩) N = some ⟨ks, vs, ns⟩ := ((upd_other _ _ hNr).trans (hNb))
  obtain ⟨xa, xc, c0, hown, hXlt⟩ := HPW.out.1.f1 hXk
  obtain ⟨yg, yc, y0, hy1, hy2, hyg, hyc⟩ := HPW.out.1.g1 hYk (by omega)
  have hYlt := (HPW.out.1.lt hYk).2
  have cm := hyc i (by omega)
  have hszk := HPW.out.2.size
  have hidx : i < vs.length := by omega
  have hiF : 0 ≤ rv.length := Nat.zero_le _
  have hsF : rv.length ≤ 1000 := by omega
  clear hyc
  try clear hy1 hy2
  refine wp_region_ordW 17 13 [(0, 0), (1, 0), (2, 0), (3, 0), (4, 1), (5, 0), (6, 0), (7, 0), (8, 1), (9, 0), (10, 0), (11, 1), (12, 2), (13, 3), (14, 0), (15, 0), (16, 3)] (fun X => X.cell? ⟨r, 1, none⟩ = some (.slice xa rv.length xc) ∧ X.cell? ⟨N, 1, none⟩ = some (.slice (some ⟨yg, 0, none⟩) vs.length yc) ∧ X.cell? ⟨yg, i, none⟩ = some (.string (sx vs i))) (by kernel_rfl) (by kernel_rfl) ⟨c0, y0, cm⟩ (fun c a d v w h => by cases d <;> exact h) ?_
  apply wpOrd_read0
  case hi => rfl
  case hw => rfl
  case hy => (intro w; go_simp; try rfl)
  intro K hK; go_simp; refine hK _ _ ?_; clear hK K
  apply wpOrd_read0
  case hi => rfl
  case hw => rfl
  case hy => (intro w; go_simp; try rfl)
  intro K hK; go_simp; refine hK _ _ ?_; clear hK K
  apply wpOrd_read0
  case hi => rfl
  case hw => rfl
  case hy => (intro w; go_simp; try rfl)
  intro K hK; go_simp; refine hK _ _ ?_; clear hK K
  apply wpOrd_read0
  case hi => rfl
  case hw => rfl
  case hy => (intro w; go_simp; try rfl)
  intro K hK; go_simp; refine hK _ _ ?_; clear hK K
  apply wpOrd_read1
  case hi => rfl
  case hw => rfl
  case hy => (intro w hw; obtain ⟨h1, h2, h3⟩ := hw; go_simp; try rfl)
  intro K hK; go_simp; refine hK _ _ ?_; clear hK K
  apply wpOrd_read0
  case hi => rfl
  case hw => rfl
  case hy => (intro w; go_simp; try rfl)
  intro K hK; go_simp; refine hK _ _ ?_; clear hK K
  apply wpOrd_read0
  case hi => rfl
  case hw => rfl
  case hy => (intro w; go_simp; try rfl)
  intro K hK; go_simp; refine hK _ _ ?_; clear hK K
  apply wpOrd_read0
  case hi => rfl
  case hw => rfl
  case hy => (intro w; go_simp; try rfl)
  intro K hK; go_simp; refine hK _ _ ?_; clear hK K
  apply wpOrd_read1
  case hi => rfl
  case hw => rfl
  case hy => (intro w hw; obtain ⟨h1, h2, h3⟩ := hw; go_simp; try rfl)
  intro K hK; go_simp; refine hK _ _ ?_; clear hK K
  apply wpOrd_read0
  case hi => rfl
  case hw => rfl
  case hy => (intro w; go_simp; try rfl)
  intro K hK; go_simp; refine hK _ _ ?_; clear hK K
  apply wpOrd_read0
  case hi => rfl
  case hw => rfl
  case hy => (intro w; go_simp; try rfl)
  intro K hK; go_simp; refine hK _ _ ?_; clear hK K
  apply wpOrd_read1
  case hi => rfl
  case hw => rfl
  case hy => (intro w hw; obtain ⟨h1, h2, h3⟩ := hw; go_simp; try rfl)
  intro K hK; go_simp; refine hK _ _ ?_; clear hK K
  apply wpOrd_eff2
  case hi => rfl
  case hw => rfl
  intro K hK
  go_simp
  refine hK _ _ ⟨ca (W := W1.drew) hXlt c0, ca (W := W1.drew) hYlt y0, ca (W := W1.drew) hyg cm⟩ ?_
  clear hK K
  apply wpOrd_eff3
  case hi => rfl
  case hw => rfl
  intro K hK
  go_simp
  refine (hins1 (B := B) (σ := (upd σ r ⟨rk1, rv, rn⟩)) (N := r) (i := 0) (n := rv.length + 1) (HPW.out.1.kept ((Kept.refl (fun _ => False) W1).drew.alloc _)) (Nat.le_trans hB (Nat.le_trans hszk (by simp))) hXk (ca (W := W1.drew) hXlt c0) hiF hsF rfl (heap_new W1.drew _) (fun g e e2 => absurd (hown g e) (by rw [e2]; exact Nat.lt_irrefl _))).mono ?_
  rintro e w4 ⟨a4, c4, rfl, ⟨u4, hu4⟩, hf4, HH4, HB4⟩
  have HX := Lib.hid (And.intro HH4 ((((HPW.out.2).drew.alloc (Nat.le_trans hB hszk) _)).trans HB4))
  clear hidx HH4 HB4 HPW c0 hown hXlt y0 cm hXk hYk hyg hYlt hiF hsF hszk
  refine hK _ _ ?_
  clear hK K
  apply wpOrd_read0
  case hi => rfl
  case hw => rfl
  case hy => (intro w; go_simp; try rfl)
  intro K hK; go_simp; refine hK _ _ ?_; clear hK K
  apply wpOrd_read0
  case hi => rfl
  case hw => rfl
  case hy => (intro w; go_simp; try rfl)
  intro K hK; go_simp; refine hK _ _ ?_; clear hK K
  apply wpOrd_eff3
  case hi => rfl
  case hw => rfl
  intro K hK
  go_simp
  refine hK _ _ (wpOrd_nil ?_)
  clear hK K hu4 hf4
  go_wp2_with fail
  refine wp_named (fun W => Hp B W (upd (upd σ r ⟨rk1, rv, rn⟩) r ⟨rk1, (rv.take 0 ++ (sx vs i) :: rv.drop 0), rn⟩) ∧ Below B w0 W) HX.out ?_
  rintro W2 ⟨hp, hb⟩
  have HPW := Lib.hid (And.intro hp hb)
  clear HX hp hb
  obtain ⟨rv1, hrv1⟩ : ∃ x, x = (rv.take 0 ++ (sx vs i) :: rv.drop 0) := ⟨_, rfl⟩
  have hlrv1 : rv1.length ≤ rv.length + 1 := by rw [hrv1]; simp
  have hgrv1 : rv.length + 1 ≤ rv1.length := by rw [hrv1]; simp
  rw [← hrv1] at HPW
  have Hrv1 := Lib.hid hrv1
  clear hrv1
  rw [upd_upd] at HPW
  have hNk : (upd σ r ⟨rk1, rv1, rn⟩) N = some ⟨ks, vs, ns⟩ := ((upd_other _ _ hNr).trans (hNb))
  have hYk : (upd σ r ⟨rk1, rv1, rn⟩) l = some ⟨lk, lv, ln⟩ := ((upd_other _ _ hlr).trans (hlb))
  obtain ⟨kg, kc, c0, hk1, hk2, hkg, _⟩ := HPW.out.1.g0 hNk (by omega)
  obtain ⟨vg, vc, c1, hv1, hv2, hvg, _⟩ := HPW.out.1.g1 hNk (by omega)
  obtain ⟨yg, yc, y0, hy1, hy2, hyg, hyc⟩ := HPW.out.1.g0 hYk (by omega)
  obtain ⟨zg, zc, z1, hz1, hz2, hzg, hzc⟩ := HPW.out.1.g1 hYk (by omega)
  have cm := hyc m (by omega)
  have dm := hzc m (by omega)
  have hszk := HPW.out.2.size
  have hx1 : i < ks.length := by omega
  have hx2 : i < vs.length := by omega
  have hx3 : m < lk.length := by omega
  have hx4 : m < lv.length := by omega
  have nNkg : N ≠ kg := HPW.out.1.row_node hNk hNk 0 (by decide) c0 rfl
  have nYkg : l ≠ kg := HPW.out.1.row_node hNk hYk 0 (by decide) c0 rfl
  have nvg : vg ≠ kg := HPW.out.1.rows_ne hNk hNk 1 0 (by decide) (by decide) (.inr (by decide)) c1 c0 rfl rfl
  have nyg : yg ≠ kg := HPW.out.1.rows_ne hYk hNk 0 0 (by decide) (by decide) (.inl hlN) y0 c0 rfl rfl
  have nzg : zg ≠ kg := HPW.out.1.rows_ne hYk hNk 1 0 (by decide) (by decide) (.inl hlN) z1 c0 rfl rfl
  have hWd : Hp B W2 (upd σ r ⟨rk1, rv1, rn⟩) := HPW.out.1
  obtain ⟨⟨e0, he0⟩, hf0, hpE, hbE⟩ := hWd.set0 (Nat.le_trans hB hszk) hNk (i := i) c0 (sx lk m) hx1
  obtain ⟨⟨e2, he2⟩, hf2, _, _⟩ := hWd.set1 (Nat.le_trans hB hszk) hNk (i := i) c1 (sx lv m) hx2
  have nvg2 : kg ≠ vg := fun e => nvg e.symm
  clear hyc hzc
  refine wp_region_ordW 28 27 [(0, 0), (1, 0), (2, 0), (3, 1), (4, 0), (5, 0), (6, 0), (7, 0), (8, 1), (9, 0), (10, 0), (11, 0), (12, 0), (13, 1), (14, 0), (15, 0), (16, 1), (17, 0), (18, 0), (19, 0), (20, 1), (21, 0), (22, 0), (23, 1), (24, 0), (25, 2), (26, 0), (27, 3)] (fun X => X.cell? ⟨N, 0, none⟩ = some (.slice (some ⟨kg, 0, none⟩) ks.length kc) ∧ X.cell? ⟨N, 1, none⟩ = some (.slice (some ⟨vg, 0, none⟩) vs.length vc) ∧ X.cell? ⟨l, 0, none⟩ = some (.slice (some ⟨yg, 0, none⟩) lk.length yc) ∧ X.cell? ⟨l, 1, none⟩ = some (.slice (some ⟨zg, 0, none⟩) lv.length zc) ∧ X.cell? ⟨yg, m, none⟩ = some (.string (sx lk m)) ∧ X.cell? ⟨zg, m, none⟩ = some (.string (sx lv m))) (by kernel_rfl) (by kernel_rfl) ⟨c0, c1, y0, z1, cm, dm⟩ (fun c a d v w h => by cases d <;> exact h) ?_
  apply wpOrd_read0
  case hi => rfl
  case hw => rfl
  case hy => (intro w; go_simp; try rfl)
  intro K hK; go_simp; refine hK _ _ ?_; clear hK K
  apply wpOrd_read0
  case hi => rfl
  case hw => rfl
  case hy => (intro w; go_simp; try rfl)
  intro K hK; go_simp; refine hK _ _ ?_; clear hK K
  apply wpOrd_read0
  case hi => rfl
  case hw => rfl
  case hy => (intro w; go_simp; try rfl)
  intro K hK; go_simp; refine hK _ _ ?_; clear hK K
  apply wpOrd_read1
  case hi => rfl
  case hw => rfl
  case hy => (intro w hw; obtain ⟨h1, h2, h3, h4, h5, h6⟩ := hw; go_simp; try rfl)
  intro K hK; go_simp; refine hK _ _ ?_; clear hK K
  apply wpOrd_read0
  case hi => rfl
  case hw => rfl
  case hy => (intro w; go_simp; try rfl)
  intro K hK; go_simp; refine hK _ _ ?_; clear hK K
  apply wpOrd_read0
  case hi => rfl
  case hw => rfl
  case hy => (intro w; go_simp; try rfl)
  intro K hK; go_simp; refine hK _ _ ?_; clear hK K
  apply wpOrd_read0
  case hi => rfl
  case hw => rfl
  case hy => (intro w; go_simp; try rfl)
  intro K hK; go_simp; refine hK _ _ ?_; clear hK K
  apply wpOrd_read0
  case hi => rfl
  case hw => rfl
  case hy => (intro w; go_simp; try rfl)
  intro K hK; go_simp; refine hK _ _ ?_; clear hK K
  apply wpOrd_read1
  case hi => rfl
  case hw => rfl
  case hy => (intro w hw; obtain ⟨h1, h2, h3, h4, h5, h6⟩ := hw; go_simp; try rfl)
  intro K hK; go_simp; refine hK _ _ ?_; clear hK K
  apply wpOrd_read0
  case hi => rfl
  case hw => rfl
  case hy => (intro w; go_simp; try rfl)
  intro K hK; go_simp; refine hK _ _ ?_; clear hK K
  apply wpOrd_read0
  case hi => rfl
  case hw => rfl
  case hy => (intro w; go_simp; try rfl)
  intro K hK; go_simp; refine hK _ _ ?_; clear hK K
  apply wpOrd_read0
  case hi => rfl
  case hw => rfl
  case hy => (intro w; go_simp; try rfl)
  intro K hK; go_simp; refine hK _ _ ?_; clear hK K
  apply wpOrd_read0
  case hi => rfl
  case hw => rfl
  case hy => (intro w; go_simp; try rfl)
  intro K hK; go_simp; refine hK _ _ ?_; clear hK K
  apply wpOrd_read1
  case hi => rfl
  case hw => rfl
  case hy => (intro w hw; obtain ⟨h1, h2, h3, h4, h5, h6⟩ := hw; go_simp; try rfl)
  intro K hK; go_simp; refine hK _ _ ?_; clear hK K
  apply wpOrd_read0
  case hi => rfl
  case hw => rfl
  case hy => (intro w; go_simp; try rfl)
  intro K hK; go_simp; refine hK _ _ ?_; clear hK K
  apply wpOrd_read0
  case hi => rfl
  case hw => rfl
  case hy => (intro w; go_simp; try rfl)
  intro K hK; go_simp; refine hK _ _ ?_; clear hK K
  apply wpOrd_read1
  case hi => rfl
  case hw => rfl
  case hy => (intro w hw; obtain ⟨h1, h2, h3, h4, h5, h6⟩ := hw; go_simp; try rfl)
  intro K hK; go_simp; refine hK _ _ ?_; clear hK K
  apply wpOrd_read0
  case hi => rfl
  case hw => rfl
  case hy => (intro w; go_simp; try rfl)
  intro K hK; go_simp; refine hK _ _ ?_; clear hK K
  apply wpOrd_read0
  case hi => rfl
  case hw => rfl
  case hy => (intro w; go_simp; try rfl)
  intro K hK; go_simp; refine hK _ _ ?_; clear hK K
  apply wpOrd_read0
  case hi => rfl
  case hw => rfl
  case hy => (intro w; go_simp; try rfl)
  intro K hK; go_simp; refine hK _ _ ?_; clear hK K
  apply wpOrd_read1
  case hi => rfl
  case hw => rfl
  case hy => (intro w hw; obtain ⟨h1, h2, h3, h4, h5, h6⟩ := hw; go_simp; try rfl)
  intro K hK; go_simp; refine hK _ _ ?_; clear hK K
  apply wpOrd_read0
  case hi => rfl
  case hw => rfl
  case hy => (intro w; go_simp; try rfl)
  intro K hK; go_simp; refine hK _ _ ?_; clear hK K
  apply wpOrd_read0
  case hi => rfl
  case hw => rfl
  case hy => (intro w; go_simp; try rfl)
  intro K hK; go_simp; refine hK _ _ ?_; clear hK K
  apply wpOrd_read1
  case hi => rfl
  case hw => rfl
  case hy => (intro w hw; obtain ⟨h1, h2, h3, h4, h5, h6⟩ := hw; go_simp; try rfl)
  intro K hK; go_simp; refine hK _ _ ?_; clear hK K
  apply wpOrd_read0
  case hi => rfl
  case hw => rfl
  case hy => (intro w; go_simp; try rfl)
  intro K hK; go_simp; refine hK _ _ ?_; clear hK K
  apply wpOrd_eff2
  case hi => rfl
  case hw => rfl
  intro K hK
  go_simp
  refine hK _ _ ⟨cell_other c0 nNkg, cell_other c1 nNkg, cell_other y0 nYkg, cell_other z1 nYkg, cell_other cm nyg, cell_other dm nzg⟩ ?_
  clear hK K
  obtain ⟨⟨e1, he1⟩, hf1, hpF, hbF⟩ := hpE.set1 (Nat.le_trans (Nat.le_trans hB hszk) hbE.size) (upd_same _ _ _) (i := i) (cell_other c1 nNkg) (sx lv m) (by omega)
  have HX := Lib.hid (And.intro hpF.drew (Below.drew ((HPW.out.2.trans hbE).trans hbF)))
  clear hpE hbE hpF hbF hWd
  apply wpOrd_read0
  case hi => rfl
  case hw => rfl
  case hy => (intro w; go_simp; try rfl)
  intro K hK; go_simp; refine hK _ _ ?_; clear hK K
  apply wpOrd_eff3
  case hi => rfl
  case hw => rfl
  intro K hK
  go_simp
  refine hK _ _ (wpOrd_nil ?_)
  clear hx1 hx2 hx3 hx4 hK K he0 hf0 he1 hf1 he2 hf2 nvg2 c0 c1 y0 z1 cm dm nNkg nYkg nvg nyg nzg HPW hNk hYk hk1 hk2 hv1 hv2 hy1 hy2 hz1 hz2 hkg hvg hyg hzg hszk
  rw [upd_upd] at HX
  go_wp2_with fail
  obtain ⟨W3, hWe⟩ : ∃ W, W = ((W2.setCell ⟨kg, i, none⟩ (.string (sx lk m))).setCell ⟨vg, i, none⟩ (.string (sx lv m))).drew := ⟨_, rfl⟩
  rw [← hWe] at HX ⊢
  clear hWe
  have HPW := Lib.hid HX.out
  clear HX
  obtain ⟨ks1, hks1⟩ : ∃ x, x = (ks.set i (sx lk m)) := ⟨_, rfl⟩
  obtain ⟨vs1, hvs1⟩ : ∃ x, x = (vs.set i (sx lv m)) := ⟨_, rfl⟩
  have hlks1 : ks1.length ≤ ks.length := by rw [hks1]; simp
  have hgks1 : ks.length ≤ ks1.length := by rw [hks1]; simp
  have hlvs1 : vs1.length ≤ vs.length := by rw [hvs1]; simp
  have hgvs1 : vs.length ≤ vs1.length := by rw [hvs1]; simp
  rw [← hks1, ← hvs1] at HPW
  have Hks1 := Lib.hid hks1
  have Hvs1 := Lib.hid hvs1
  clear hks1 hvs1
  have hml : m < lk.length := by omega
  have hXk : (upd (upd σ r ⟨rk1, rv1, rn⟩) N ⟨ks1, vs1, ns⟩) l = some ⟨lk, lv, ln⟩ := ((upd_other _ _ hlN).trans ((upd_other _ _ hlr).trans (hlb)))
  refine (cutN_any B l m _ _ _ _ _ HPW.out.1 (Nat.le_trans hB HPW.out.2.size) hXk (by omega) (by omega) (by omega)).mono ?_
  rintro e w4 ⟨rfl, HH4, HB4⟩
  have HX := Lib.hid (And.intro HH4 (HPW.out.2.trans HB4))
  clear HH4 HB4 HPW hXk
  obtain ⟨W4, hWe⟩ : ∃ W, W = w4 := ⟨_, rfl⟩
  rw [← hWe] at HX ⊢
  clear hWe
  have HPW := Lib.hid HX.out
  clear HX
  obtain ⟨lk1, hlk1⟩ : ∃ x, x = (lk.take m ++ lk.drop (m + 1)) := ⟨_, rfl⟩
  obtain ⟨lv1, hlv1⟩ : ∃ x, x = (lv.take m ++ lv.drop (m + 1)) := ⟨_, rfl⟩
  have hllk1 : lk1.length + 1 ≤ lk.length := by rw [hlk1]; simp; omega
  have hglk1 : lk.length ≤ lk1.length + 1 := by rw [hlk1]; simp; omega
  have hllv1 : lv1.length + 1 ≤ lv.length := by rw [hlv1]; simp; omega
  have hglv1 : lv.length ≤ lv1.length + 1 := by rw [hlv1]; simp; omega
  rw [← hlk1, ← hlv1] at HPW
  have Hlk1 := Lib.hid hlk1
  have Hlv1 := Lib.hid hlv1
  clear hlk1 hlv1
  have hLk : (upd (upd (upd σ r ⟨rk1, rv1, rn⟩) N ⟨ks1, vs1, ns⟩) l ⟨lk1, lv1, ln⟩) l = some ⟨lk1, lv1, ln⟩ := (upd_same _ _ _)
  obtain ⟨da, dc, d2, _, _⟩ := HPW.out.1.f2 hLk
  have e1 : sx ks i :: rk = rk1 := by rw [Hrk1.out]; simp
  have e2 : sx vs i :: rv = rv1 := by rw [Hrv1.out]; simp
  have e3 : lk.take m = lk1 := by rw [Hlk1.out, List.drop_eq_nil_of_le (by omega), List.append_nil]
  have e4 : lv.take m = lv1 := by rw [Hlv1.out, List.drop_eq_nil_of_le (by omega), List.append_nil]
  have HE := Lib.hid (And.intro e1 (And.intro e2 (And.intro e3 (And.intro e4 (And.intro Hks1.out.symm Hvs1.out.symm)))))
  clear e1 e2 e3 e4 hLk
  rcases HKK.out with ⟨hl0, hr0⟩ | ⟨hl0, hr0⟩
  · rw [hl0] at d2
    change W4.cell? _ = some (.slice da 0 dc) at d2
    have HL0 := Lib.hid (And.intro hl0 hr0)
    clear hl0 hr0
    go_wp2_with fail
    go_end0
    refine ⟨rfl, ?_, HPW.out.2⟩
    obtain ⟨e1, e2, e3, e4, e5, e6⟩ := HE.out
    rw [e1, e2, e3, e4, e5, e6]
    have := HPW.out.1
    rw [HL0.out.1, HL0.out.2] at this ⊢
    exact this
  · have hln1 : ln.length ≤ lk.length + 1 := Nat.le_of_eq hl0
    have hln2 : lk.length + 1 ≤ ln.length := Nat.le_of_eq hl0.symm
    have hrn1 : rn.length ≤ rk.length + 1 := Nat.le_of_eq hr0
    have hrn2 : rk.length + 1 ≤ rn.length := Nat.le_of_eq hr0.symm
    have hlnp : 0 < ln.length := by omega
    have hz1 : (0 : Int) ≤ (m : Int) + 1 := by omega
    have hz2 : (m : Int) + 1 < (ln.length : Int) := by omega
    have hz3 : ((m : Int) + 1).toNat = m + 1 := by omega
    have hw3 : IntKind.i64.wrap ((m : Int) + 1) = ((m + 1 : Nat) : Int) := by rw [IntKind.wrap_i64]; omega
    have hw4 : IntKind.i64.wrap ((m : Int) + 2) = ((m + 2 : Nat) : Int) := by rw [IntKind.wrap_i64]; omega
    obtain ⟨z, hz⟩ : ∃ z, ln[m + 1]? = some z := ⟨_, List.getElem?_eq_getElem (by omega)⟩
    have HZ := Lib.hid hz
    clear hl0 hr0 hz
    go_wp2_with fail
    clear d2
    have hXk : (upd (upd (upd σ r ⟨rk1, rv1, rn⟩) N ⟨ks1, vs1, ns⟩) l ⟨lk1, lv1, ln⟩) r = some ⟨rk1, rv1, rn⟩ := ((upd_other _ _ hrl).trans ((upd_other _ _ hrN).trans (upd_same _ _ _)))
    have hYk : (upd (upd (upd σ r ⟨rk1, rv1, rn⟩) N ⟨ks1, vs1, ns⟩) l ⟨lk1, lv1, ln⟩) l = some ⟨lk1, lv1, ln⟩ := (upd_same _ _ _)
    obtain ⟨xa, xc, c0, hown, hXlt⟩ := HPW.out.1.f2 hXk
    obtain ⟨yg, yc, y0, hy1, hy2, hyg, hyc⟩ := HPW.out.1.g2 hYk (by omega)
    have hYlt := (HPW.out.1.lt hYk).2
    have cm := hyc (m + 1) z HZ.out
    have hszk := HPW.out.2.size
    have hidx : (m + 1) < ln.length := by omega
    have hiF : 0 ≤ rn.length := Nat.zero_le _
    have hsF : rn.length ≤ 1000 := by omega
    clear hyc
    try clear hy1 hy2
    refine wp_region_ordW 18 14 [(0, 0), (1, 0), (2, 0), (3, 0), (4, 1), (5, 0), (6, 0), (7, 0), (8, 1), (9, 0), (10, 0), (11, 0), (12, 1), (13, 2), (14, 3), (15, 0), (16, 0), (17, 3)] (fun X => X.cell? ⟨r, 2, none⟩ = some (.slice xa rn.length xc) ∧ X.cell? ⟨l, 2, none⟩ = some (.slice (some ⟨yg, 0, none⟩) ln.length yc) ∧ X.cell? ⟨yg, (m + 1), none⟩ = some (.pointer (some ⟨z, 0, none⟩))) (by kernel_rfl) (by kernel_rfl) ⟨c0, y0, cm⟩ (fun c a d v w h => by cases d <;> exact h) ?_
    apply wpOrd_read0
    case hi => rfl
    case hw => rfl
    case hy => (intro w; go_simp; try rfl)
    intro K hK; go_simp; refine hK _ _ ?_; clear hK K
    apply wpOrd_read0
    case hi => rfl
    case hw => rfl
    case hy => (intro w; go_simp; try rfl)
    intro K hK; go_simp; refine hK _ _ ?_; clear hK K
    apply wpOrd_read0
    case hi => rfl
    case hw => rfl
    case hy => (intro w; go_simp; try rfl)
    intro K hK; go_simp; refine hK _ _ ?_; clear hK K
    apply wpOrd_read0
    case hi => rfl
    case hw => rfl
    case hy => (intro w; go_simp; try rfl)
    intro K hK; go_simp; refine hK _ _ ?_; clear hK K
    apply wpOrd_read1
    case hi => rfl
    case hw => rfl
    case hy => (intro w hw; obtain ⟨h1, h2, h3⟩ := hw; go_simp; try rfl)
    intro K hK; go_simp; refine hK _ _ ?_; clear hK K
    apply wpOrd_read0
    case hi => rfl
    case hw => rfl
    case hy => (intro w; go_simp; try rfl)
    intro K hK; go_simp; refine hK _ _ ?_; clear hK K
    apply wpOrd_read0
    case hi => rfl
    case hw => rfl
    case hy => (intro w; go_simp; try rfl)
    intro K hK; go_simp; refine hK _ _ ?_; clear hK K
    apply wpOrd_read0
    case hi => rfl
    case hw => rfl
    case hy => (intro w; go_simp; try rfl)
    intro K hK; go_simp; refine hK _ _ ?_; clear hK K
    apply wpOrd_read1
    case hi => rfl
    case hw => rfl
    case hy => (intro w hw; obtain ⟨h1, h2, h3⟩ := hw; go_simp; try rfl)
    intro K hK; go_simp; refine hK _ _ ?_; clear hK K
    apply wpOrd_read0
    case hi => rfl
    case hw => rfl
    case hy => (intro w; go_simp; try rfl)
    intro K hK; go_simp; refine hK _ _ ?_; clear hK K
    apply wpOrd_read0
    case hi => rfl
    case hw => rfl
    case hy => (intro w; go_simp; try rfl)
    intro K hK; go_simp; refine hK _ _ ?_; clear hK K
    apply wpOrd_read0
    case hi => rfl
    case hw => rfl
    case hy => (intro w; go_simp; try rfl)
    intro K hK; go_simp; refine hK _ _ ?_; clear hK K
    apply wpOrd_read1
    case hi => rfl
    case hw => rfl
    case hy => (intro w hw; obtain ⟨h1, h2, h3⟩ := hw; go_simp; try rfl)
    intro K hK; go_simp; refine hK _ _ ?_; clear hK K
    apply wpOrd_eff2
    case hi => rfl
    case hw => rfl
    intro K hK
    go_simp
    refine hK _ _ ⟨ca (W := W4.drew) hXlt c0, ca (W := W4.drew) hYlt y0, ca (W := W4.drew) hyg cm⟩ ?_
    clear hK K
    apply wpOrd_eff3
    case hi => rfl
    case hw => rfl
    intro K hK
    go_simp
    refine (hins2 (B := B) (σ := (upd (upd (upd σ r ⟨rk1, rv1, rn⟩) N ⟨ks1, vs1, ns⟩) l ⟨lk1, lv1, ln⟩)) (N := r) (i := 0) (n := rn.length + 1) (HPW.out.1.kept ((Kept.refl (fun _ => False) W4).drew.alloc _)) (Nat.le_trans hB (Nat.le_trans hszk (by simp))) hXk (ca (W := W4.drew) hXlt c0) hiF hsF rfl (heap_new W4.drew _) (fun g e e2 => absurd (hown g e) (by rw [e2]; exact Nat.lt_irrefl _))).mono ?_
    rintro e w4 ⟨a4, c4, rfl, ⟨u4, hu4⟩, hf4, HH4, HB4⟩
    have HX := Lib.hid (And.intro HH4 ((((HPW.out.2).drew.alloc (Nat.le_trans hB hszk) _)).trans HB4))
    clear hidx HH4 HB4 HPW c0 hown hXlt y0 cm hXk hYk hyg hYlt hiF hsF hszk
    refine hK _ _ ?_
    clear hK K
    apply wpOrd_read0
    case hi => rfl
    case hw => rfl
    case hy => (intro w; go_simp; try rfl)
    intro K hK; go_simp; refine hK _ _ ?_; clear hK K
    apply wpOrd_read0
    case hi => rfl
    case hw => rfl
    case hy => (intro w; go_simp; try rfl)
    intro K hK; go_simp; refine hK _ _ ?_; clear hK K
    apply wpOrd_eff3
    case hi => rfl
    case hw => rfl
    intro K hK
    go_simp
    refine hK _ _ (wpOrd_nil ?_)
    clear hK K hu4 hf4
    obtain ⟨W5, hWe⟩ : ∃ W, W = w4.setCell ⟨r, 2, none⟩ (.slice a4 (rn.length + 1) c4) := ⟨_, rfl⟩
    rw [← hWe] at HX ⊢
    clear hWe
    have HPW := Lib.hid HX.out
    clear HX
    obtain ⟨rn1, hrn1⟩ : ∃ x, x = (rn.take 0 ++ z :: rn.drop 0) := ⟨_, rfl⟩
    have hlrn1 : rn1.length ≤ rn.length + 1 := by rw [hrn1]; simp
    have hgrn1 : rn.length + 1 ≤ rn1.length := by rw [hrn1]; simp
    rw [← hrn1] at HPW
    have Hrn1 := Lib.hid hrn1
    clear hrn1
    have hXk : (upd (upd (upd (upd σ r ⟨rk1, rv1, rn⟩) N ⟨ks1, vs1, ns⟩) l ⟨lk1, lv1, ln⟩) r ⟨rk1, rv1, rn1⟩) l = some ⟨lk1, lv1, ln⟩ := ((upd_other _ _ hlr).trans (upd_same _ _ _))
    obtain ⟨xa, xc, c2, _, _⟩ := HPW.out.1.f2 hXk
    go_wp2_with fail
    refine (hdel2 (B := B) (σ := (upd (upd (upd (upd σ r ⟨rk1, rv1, rn⟩) N ⟨ks1, vs1, ns⟩) l ⟨lk1, lv1, ln⟩) r ⟨rk1, rv1, rn1⟩)) (N := l) (i := (m + 1)) (j := (m + 2)) (n := ln.length - 1) HPW.out.1 (Nat.le_trans hB HPW.out.2.size) hXk c2 (by omega) (by omega) (by omega)).mono ?_
    rintro e w4 ⟨a4, c4, rfl, ⟨u4, hu4⟩, hf4, HH4, HB4⟩
    have HX := Lib.hid (And.intro HH4 (HPW.out.2.trans HB4))
    clear HH4 HB4 HPW hXk c2
    go_wp2_with fail
    go_end0
    refine ⟨rfl, ?_, HX.out.2⟩
    obtain ⟨e1, e2, e3, e4, e5, e6⟩ := HE.out
    have e7 : ln.drop (m + 1) ++ rn = rn1 := by
      rw [Hrn1.out, List.drop_eq_getElem_cons (by omega), List.drop_eq_nil_of_le (by omega)]
      have := HZ.out
      rw [List.getElem?_eq_getElem (by omega)] at this
      cases this
      simp
    have e8 : ln.take (m + 1) = ln.take (m + 1) ++ ln.drop (m + 2) := by rw [List.drop_eq_nil_of_le (by omega), List.append_nil]
    rw [e1, e2, e3, e4, e5, e6, e7, e8]
    have := HX.out.1
    rw [upd5 σ hrN hrl hlN] at this
    exact this
end Go.Proofs.Ytegljepgncicjaa
/- Btree: moveLeft. -/
namespace Go.Proofs.Ytegljepgncicjaa
open Go.ChangeShapes Go.WideShapes Go.ChangeAt Go.RowKit Go.Deep
set_option linter.unusedVariables false
set_option linter.unusedSimpArgs false
set_option maxRecDepth 100000 in
set_option maxHeartbeats 3200000 in
theorem ml_any (B N l r i : Nat) (σ : Sig) (ks vs : List Bs) (ns : List Nat) (lk lv : List Bs) (ln : List Nat) (rk rv : List Bs) (rn : List Nat) (w0 : World) (hp : Hp B w0 σ) (hB : B ≤ w0.heap.size)
    (hNb : σ N = some ⟨ks, vs, ns⟩) (hlb : σ l = some ⟨lk, lv, ln⟩) (hrb : σ r = some ⟨rk, rv, rn⟩) (hlN : l ≠ N) (hrN : r ≠ N) (hlr : l ≠ r) (hil : ns[i]? = some l) (hir : ns[i + 1]? = some r)
    (hik : i < ks.length) (hvs : vs.length = ks.length) (hns : ns.length = ks.length + 1) (hlv : lv.length = lk.length) (hrv : rv.length = rk.length) (hm : 1 ≤ rk.length) (hks : ks.length ≤ 260) (hlk : lk.length ≤ 260) (hrk : rk.length ≤ 260)
    (hkk : (ln = [] ∧ rn = []) ∨ (ln.length = lk.length + 1 ∧ rn.length = rk.length + 1)) :
    Calls Try.prog 62 #[.pointer (some ⟨N, 0, none⟩), .int .i64 i] w0 (Turned B (upd (upd (upd σ l ⟨lk ++ [sx ks i], lv ++ [sx vs i], ln ++ rn.take 1⟩) N ⟨ks.set i (sx rk 0), vs.set i (sx rv 0), ns⟩) r ⟨rk.drop 1, rv.drop 1, rn.drop 1⟩) w0) := by
  have hNl := hlN.symm
  have hNr := hrN.symm
  have hrl := hlr.symm
  have HP := Lib.hid hp
  obtain ⟨ng, nc, n2, _, _, hng, hdc⟩ := hp.g2 hNb (by omega)
  have ci := hdc i l hil
  have cj := hdc (i + 1) r hir
  obtain ⟨la, lc, l0, _, _⟩ := hp.f0 hlb
  have hi1 : i < ns.length := by omega
  have hi2 : i + 1 < ns.length := by omega
  have hw1 : IntKind.i64.wrap ((i : Int) + 1) = ((i + 1 : Nat) : Int) := by rw [IntKind.wrap_i64]; omega
  have hvs1' : vs.length ≤ ks.length := Nat.le_of_eq hvs
  have hvs2' : ks.length ≤ vs.length := Nat.le_of_eq hvs.symm
  have hns1' : ns.length ≤ ks.length + 1 := Nat.le_of_eq hns
  have hns2' : ks.length + 1 ≤ ns.length := Nat.le_of_eq hns.symm
  have hlv1' : lv.length ≤ lk.length := Nat.le_of_eq hlv
  have hlv2' : lk.length ≤ lv.length := Nat.le_of_eq hlv.symm
  have hrv1' : rv.length ≤ rk.length := Nat.le_of_eq hrv
  have hrv2' : rk.length ≤ rv.length := Nat.le_of_eq hrv.symm
  have HEQ := Lib.hid (And.intro hvs (And.intro hns (And.intro hlv hrv)))
  have HKK := Lib.hid hkk
  have HIL := Lib.hid (And.intro hil hir)
  clear hdc hp hvs hns hlv hrv hkk hil hir
  go_enter Try.func62, Try.ntmps62
  go_wp2_with fail
  go_quiet (fail)
  go_wp2_with fail
  refine wp_named (fun W => Hp B W σ ∧ Below B w0 W) ⟨HP.out.drewN _, below_drewN'' (Below.refl B w0) _⟩ ?_
  rintro W0 ⟨hp, hb⟩
  have HPW := Lib.hid (And.intro hp hb)
  clear hp hb HP n2 ci cj l0
  have hXk : σ l = some ⟨lk, lv, ln⟩ := (hlb)
  have hYk : σ N = some ⟨ks, vs, ns⟩ := (hNb)
  obtain ⟨xa, xc, c0, hown, hXlt⟩ := HPW.out.1.f0 hXk
  obtain ⟨yg, yc, y0, hy1, hy2, hyg, hyc⟩ := HPW.out.1.g0 hYk (by omega)
  have hYlt := (HPW.out.1.lt hYk).2
  have cm := hyc i (by omega)
  have hszk := HPW.out.2.size
  have hidx : i < ks.length := by omega
  have hsF : lk.length ≤ 999 := by omega
  clear hyc
  try clear hy1 hy2
  refine wp_region_ordW 17 13 [(0, 0), (1, 0), (2, 0), (3, 0), (4, 1), (5, 0), (6, 0), (7, 0), (8, 1), (9, 0), (10, 0), (11, 1), (12, 2), (13, 3), (14, 0), (15, 0), (16, 3)] (fun X => X.cell? ⟨l, 0, none⟩ = some (.slice xa lk.length xc) ∧ X.cell? ⟨N, 0, none⟩ = some (.slice (some ⟨yg, 0, none⟩) ks.length yc) ∧ X.cell? ⟨yg, i, none⟩ = some (.string (sx ks i))) (by kernel_rfl) (by kernel_rfl) ⟨c0, y0, cm⟩ (fun c a d v w h => by cases d <;> exact h) ?_
  apply wpOrd_read0
  case hi => rfl
  case hw => rfl
  case hy => (intro w; go_simp; try rfl)
  intro K hK; go_simp; refine hK _ _ ?_; clear hK K
  apply wpOrd_read0
  case hi => rfl
  case hw => rfl
  case hy => (intro w; go_simp; try rfl)
  intro K hK; go_simp; refine hK _ _ ?_; clear hK K
  apply wpOrd_read0
  case hi => rfl
  case hw => rfl
  case hy => (intro w; go_simp; try rfl)
  intro K hK; go_simp; refine hK _ _ ?_; clear hK K
  apply wpOrd_read0
  case hi => rfl
  case hw => rfl
  case hy => (intro w; go_simp; try rfl)
  intro K hK; go_simp; refine hK _ _ ?_; clear hK K
  apply wpOrd_read1
  case hi => rfl
  case hw => rfl
  case hy => (intro w hw; obtain ⟨h1, h2, h3⟩ := hw; go_simp; try rfl)
  intro K hK; go_simp; refine hK _ _ ?_; clear hK K
  apply wpOrd_read0
  case hi => rfl
  case hw => rfl
  case hy => (intro w; go_simp; try rfl)
  intro K hK; go_simp; refine hK _ _ ?_; clear hK K
  apply wpOrd_read0
  case hi => rfl
  case hw => rfl
  case hy => (intro w; go_simp; try rfl)
  intro K hK; go_simp; refine hK _ _ ?_; clear hK K
  apply wpOrd_read0
  case hi => rfl
  case hw => rfl
  case hy => (intro w; go_simp; try rfl)
  intro K hK; go_simp; refine hK _ _ ?_; clear hK K
  apply wpOrd_read1
  case hi => rfl
  case hw => rfl
  case hy => (intro w hw; obtain ⟨h1, h2, h3⟩ := hw; go_simp; try rfl)
  intro K hK; go_simp; refine hK _ _ ?_; clear hK K
  apply wpOrd_read0
  case hi => rfl
  case hw => rfl
  case hy => (intro w; go_simp; try rfl)
  intro K hK; go_simp; refine hK _ _ ?_; clear hK K
  apply wpOrd_read0
  case hi => rfl
  case hw => rfl
  case hy => (intro w; go_simp; try rfl)
  intro K hK; go_simp; refine hK _ _ ?_; clear hK K
  apply wpOrd_read1
  case hi => rfl
  case hw => rfl
  case hy => (intro w hw; obtain ⟨h1, h2, h3⟩ := hw; go_simp; try rfl)
  intro K hK; go_simp; refine hK _ _ ?_; clear hK K
  apply wpOrd_eff2
  case hi => rfl
  case hw => rfl
  intro K hK
  go_simp
  refine hK _ _ ⟨ca (W := W0.drew) hXlt c0, ca (W := W0.drew) hYlt y0, ca (W := W0.drew) hyg cm⟩ ?_
  clear hK K
  apply wpOrd_eff3
  case hi => rfl
  case hw => rfl
  intro K hK
  have hal : Hp B (W0.drew.alloc (.cells #[.string (sx ks i)] 9)) σ := HPW.out.1.kept ((Kept.refl (fun _ => False) W0).drew.alloc _)
  refine wp_app9 25 33 B (.slice xa lk.length xc) (.slice (some ⟨W0.heap.size, 0, none⟩) 1 1) (strv lk) [.string (sx ks i)] _ _ _ _ _ (hal.rowat hXk 0 (by decide) (ca (W := W0.drew) hXlt c0)) (by rw [strv_len]; omega) (Nat.le_trans hB (Nat.le_trans hszk (by simp))) (by simp) (rsrc_new W0.drew _ _) (fun u hu => by simp at hu; subst hu; rfl) ⟨rfl, rfl⟩ ?_
  intro v4 w4 ho
  have ho2 : AppOut 9 B (.slice xa lk.length xc) (strv (lk ++ [(sx ks i)])) (W0.drew.alloc (.cells #[.string (sx ks i)] 9)) v4 w4 := by rw [← strv_app]; exact ho
  obtain ⟨⟨u4, hu4⟩, hf4, HH4, HB4⟩ := hal.app (j := 0) (nd' := ⟨(lk ++ [(sx ks i)]), lv, ln⟩) (Nat.le_trans hB (Nat.le_trans hszk (by simp))) hXk (by decide) (ca (W := W0.drew) hXlt c0) ho2 (fun k h1 h2 => by match k, h1 with | 0, _ => exact absurd rfl h2 | 1, _ => rfl | 2, _ => rfl)
  obtain ⟨a4, c4, rfl⟩ := ho2.1.len
  have HX := Lib.hid (And.intro HH4 ((((HPW.out.2).drew.alloc (Nat.le_trans hB hszk) _)).trans HB4))
  clear hidx HH4 HB4 HPW c0 hown hXlt y0 cm hXk hYk hyg hYlt hsF hszk ho ho2 hal
  generalize (strv (lk ++ [(sx ks i)])).length = n4 at *
  refine hK _ _ ?_
  clear hK K
  apply wpOrd_read0
  case hi => rfl
  case hw => rfl
  case hy => (intro w; go_simp; try rfl)
  intro K hK; go_simp; refine hK _ _ ?_; clear hK K
  apply wpOrd_read0
  case hi => rfl
  case hw => rfl
  case hy => (intro w; go_simp; try rfl)
  intro K hK; go_simp; refine hK _ _ ?_; clear hK K
  apply wpOrd_eff3
  case hi => rfl
  case hw => rfl
  intro K hK
  go_simp
  refine hK _ _ (wpOrd_nil ?_)
  clear hK K hu4 hf4
  obtain ⟨W1, hWe⟩ : ∃ W, W = w4.setCell ⟨l, 0, none⟩ (.slice a4 n4 c4) := ⟨_, rfl⟩
  rw [← hWe] at HX ⊢
  clear hWe
  have HPW := Lib.hid HX.out
  clear HX
  obtain ⟨lk1, hlk1⟩ : ∃ x, x = (lk ++ [(sx ks i)]) := ⟨_, rfl⟩
  have hllk1 : lk1.length ≤ lk.length + 1 := by rw [hlk1]; simp
  have hglk1 : lk.length + 1 ≤ lk1.length := by rw [hlk1]; simp
  rw [← hlk1] at HPW
  have Hlk1 := Lib.hid hlk1
  clear hlk1
  go_wp2_with fail
  have hXk : (upd σ l ⟨lk1, lv, ln⟩) l = some ⟨lk1, lv, ln⟩ := (upd_same _ _ _)
  have hYk : (upd σ l ⟨lk1, lv, ln⟩) N = some ⟨ks, vs, ns⟩ := ((upd_other _ _ hNl).trans (hNb))
  obtain ⟨xa, xc, c0, hown, hXlt⟩ := HPW.out.1.f1 hXk
  obtain ⟨yg, yc, y0, hy1, hy2, hyg, hyc⟩ := HPW.out.1.g1 hYk (by omega)
  have hYlt := (HPW.out.1.lt hYk).2
  have cm := hyc i (by omega)
  have hszk := HPW.out.2.size
  have hidx : i < vs.length := by omega
  have hsF : lv.length ≤ 999 := by omega
  clear hyc
  try clear hy1 hy2
  refine wp_region_ordW 17 13 [(0, 0), (1, 0), (2, 0), (3, 0), (4, 1), (5, 0), (6, 0), (7, 0), (8, 1), (9, 0), (10, 0), (11, 1), (12, 2), (13, 3), (14, 0), (15, 0), (16, 3)] (fun X => X.cell? ⟨l, 1, none⟩ = some (.slice xa lv.length xc) ∧ X.cell? ⟨N, 1, none⟩ = some (.slice (some ⟨yg, 0, none⟩) vs.length yc) ∧ X.cell? ⟨yg, i, none⟩ = some (.string (sx vs i))) (by kernel_rfl) (by kernel_rfl) ⟨c0, y0, cm⟩ (fun c a d v w h => by cases d <;> exact h) ?_
  apply wpOrd_read0
  case hi => rfl
  case hw => rfl
  case hy => (intro w; go_simp; try rfl)
  intro K hK; go_simp; refine hK _ _ ?_; clear hK K
  apply wpOrd_read0
  case hi => rfl
  case hw => rfl
  case hy => (intro w; go_simp; try rfl)
  intro K hK; go_simp; refine hK _ _ ?_; clear hK K
  apply wpOrd_read0
  case hi => rfl
  case hw => rfl
  case hy => (intro w; go_simp; try rfl)
  intro K hK; go_simp; refine hK _ _ ?_; clear hK K
  apply wpOrd_read0
  case hi => rfl
  case hw => rfl
  case hy => (intro w; go_simp; try rfl)
  intro K hK; go_simp; refine hK _ _ ?_; clear hK K
  apply wpOrd_read1
  case hi => rfl
  case hw => rfl
  case hy => (intro w hw; obtain ⟨h1, h2, h3⟩ := hw; go_simp; try rfl)
  intro K hK; go_simp; refine hK _ _ ?_; clear hK K
  apply wpOrd_read0
  case hi => rfl
  case hw => rfl
  case hy => (intro w; go_simp; try rfl)
  intro K hK; go_simp; refine hK _ _ ?_; clear hK K
  apply wpOrd_read0
  case hi => rfl
  case hw => rfl
  case hy => (intro w; go_simp; try rfl)
  intro K hK; go_simp; refine hK _ _ ?_; clear hK K
  apply wpOrd_read0
  case hi => rfl
  case hw => rfl
  case hy => (intro w; go_simp; try rfl)
  intro K hK; go_simp; refine hK _ _ ?_; clear hK K
  apply wpOrd_read1
  case hi => rfl
  case hw => rfl
  case hy => (intro w hw; obtain ⟨h1, h2, h3⟩ := hw; go_simp; try rfl)
  intro K hK; go_simp; refine hK _ _ ?_; clear hK K
  apply wpOrd_read0
  case hi => rfl
  case hw => rfl
  case hy => (intro w; go_simp; try rfl)
  intro K hK; go_simp; refine hK _ _ ?_; clear hK K
  apply wpOrd_read0
  case hi => rfl
  case hw => rfl
  case hy => (intro w; go_simp; try rfl)
  intro K hK; go_simp; refine hK _ _ ?_; clear hK K
  apply wpOrd_read1
  case hi => rfl
  case hw => rfl
  case hy => (intro w hw; obtain ⟨h1, h2, h3⟩ := hw; go_simp; try rfl)
  intro K hK; go_simp; refine hK _ _ ?_; clear hK K
  apply wpOrd_eff2
  case hi => rfl
  case hw => rfl
  intro K hK
  go_simp
  refine hK _ _ ⟨ca (W := W1.drew) hXlt c0, ca (W := W1.drew) hYlt y0, ca (W := W1.drew) hyg cm⟩ ?_
  clear hK K
  apply wpOrd_eff3
  case hi => rfl
  case hw => rfl
  intro K hK
  have hal : Hp B (W1.drew.alloc (.cells #[.string (sx vs i)] 9)) (upd σ l ⟨lk1, lv, ln⟩) := HPW.out.1.kept ((Kept.refl (fun _ => False) W1).drew.alloc _)
  refine wp_app9 41 49 B (.slice xa lv.length xc) (.slice (some ⟨W1.heap.size, 0, none⟩) 1 1) (strv lv) [.string (sx vs i)] _ _ _ _ _ (hal.rowat hXk 1 (by decide) (ca (W := W1.drew) hXlt c0)) (by rw [strv_len]; omega) (Nat.le_trans hB (Nat.le_trans hszk (by simp))) (by simp) (rsrc_new W1.drew _ _) (fun u hu => by simp at hu; subst hu; rfl) ⟨rfl, rfl⟩ ?_
  intro v4 w4 ho
  have ho2 : AppOut 9 B (.slice xa lv.length xc) (strv (lv ++ [(sx vs i)])) (W1.drew.alloc (.cells #[.string (sx vs i)] 9)) v4 w4 := by rw [← strv_app]; exact ho
  obtain ⟨⟨u4, hu4⟩, hf4, HH4, HB4⟩ := hal.app (j := 1) (nd' := ⟨lk1, (lv ++ [(sx vs i)]), ln⟩) (Nat.le_trans hB (Nat.le_trans hszk (by simp))) hXk (by decide) (ca (W := W1.drew) hXlt c0) ho2 (fun k h1 h2 => by match k, h1 with | 0, _ => rfl | 1, _ => exact absurd rfl h2 | 2, _ => rfl)
  obtain ⟨a4, c4, rfl⟩ := ho2.1.len
  have HX := Lib.hid (And.intro HH4 ((((HPW.out.2).drew.alloc (Nat.le_trans hB hszk) _)).trans HB4))
  clear hidx HH4 HB4 HPW c0 hown hXlt y0 cm hXk hYk hyg hYlt hsF hszk ho ho2 hal
  generalize (strv (lv ++ [(sx vs i)])).length = n4 at *
  refine hK _ _ ?_
  clear hK K
  apply wpOrd_read0
  case hi => rfl
  case hw => rfl
  case hy => (intro w; go_simp; try rfl)
  intro K hK; go_simp; refine hK _ _ ?_; clear hK K
  apply wpOrd_read0
  case hi => rfl
  case hw => rfl
  case hy => (intro w; go_simp; try rfl)
  intro K hK; go_simp; refine hK _ _ ?_; clear hK K
  apply wpOrd_eff3
  case hi => rfl
  case hw => rfl
  intro K hK
  go_simp
  refine hK _ _ (wpOrd_nil ?_)
  clear hK K hu4 hf4
  obtain ⟨W2, hWe⟩ : ∃ W, W = w4.setCell ⟨l, 1, none⟩ (.slice a4 n4 c4) := ⟨_, rfl⟩
  rw [← hWe] at HX ⊢
  clear hWe
  have HPW := Lib.hid HX.out
  clear HX
  obtain ⟨lv1, hlv1⟩ : ∃ x, x = (lv ++ [(sx vs i)]) := ⟨_, rfl⟩
  have hllv1 : lv1.length ≤ lv.length + 1 := by rw [hlv1]; simp
  have hglv1 : lv.length + 1 ≤ lv1.length := by rw [hlv1]; simp
  rw [← hlv1] at HPW
  have Hlv1 := Lib.hid hlv1
  clear hlv1
  rw [upd_upd] at HPW
  go_wp2_with fail
  have hNk : (upd σ l ⟨lk1, lv1, ln⟩) N = some ⟨ks, vs, ns⟩ := ((upd_other _ _ hNl).trans (hNb))
  have hYk : (upd σ l ⟨lk1, lv1, ln⟩) r = some ⟨rk, rv, rn⟩ := ((upd_other _ _ hrl).trans (hrb))
  obtain ⟨kg, kc, c0, hk1, hk2, hkg, _⟩ := HPW.out.1.g0 hNk (by omega)
  obtain ⟨vg, vc, c1, hv1, hv2, hvg, _⟩ := HPW.out.1.g1 hNk (by omega)
  obtain ⟨yg, yc, y0, hy1, hy2, hyg, hyc⟩ := HPW.out.1.g0 hYk (by omega)
  obtain ⟨zg, zc, z1, hz1, hz2, hzg, hzc⟩ := HPW.out.1.g1 hYk (by omega)
  have cm := hyc 0 (by omega)
  have dm := hzc 0 (by omega)
  have hszk := HPW.out.2.size
  have hx1 : i < ks.length := by omega
  have hx2 : i < vs.length := by omega
  have hx3 : 0 < rk.length := by omega
  have hx4 : 0 < rv.length := by omega
  have nNkg : N ≠ kg := HPW.out.1.row_node hNk hNk 0 (by decide) c0 rfl
  have nYkg : r ≠ kg := HPW.out.1.row_node hNk hYk 0 (by decide) c0 rfl
  have nvg : vg ≠ kg := HPW.out.1.rows_ne hNk hNk 1 0 (by decide) (by decide) (.inr (by decide)) c1 c0 rfl rfl
  have nyg : yg ≠ kg := HPW.out.1.rows_ne hYk hNk 0 0 (by decide) (by decide) (.inl hrN) y0 c0 rfl rfl
  have nzg : zg ≠ kg := HPW.out.1.rows_ne hYk hNk 1 0 (by decide) (by decide) (.inl hrN) z1 c0 rfl rfl
  have hWd : Hp B W2 (upd σ l ⟨lk1, lv1, ln⟩) := HPW.out.1
  obtain ⟨⟨e0, he0⟩, hf0, hpE, hbE⟩ := hWd.set0 (Nat.le_trans hB hszk) hNk (i := i) c0 (sx rk 0) hx1
  obtain ⟨⟨e2, he2⟩, hf2, _, _⟩ := hWd.set1 (Nat.le_trans hB hszk) hNk (i := i) c1 (sx rv 0) hx2
  have nvg2 : kg ≠ vg := fun e => nvg e.symm
  clear hyc hzc
  refine wp_region_ordW 26 25 [(0, 0), (1, 0), (2, 0), (3, 1), (4, 0), (5, 0), (6, 0), (7, 0), (8, 1), (9, 0), (10, 0), (11, 0), (12, 0), (13, 1), (14, 0), (15, 1), (16, 0), (17, 0), (18, 0), (19, 1), (20, 0), (21, 1), (22, 0), (23, 2), (24, 0), (25, 3)] (fun X => X.cell? ⟨N, 0, none⟩ = some (.slice (some ⟨kg, 0, none⟩) ks.length kc) ∧ X.cell? ⟨N, 1, none⟩ = some (.slice (some ⟨vg, 0, none⟩) vs.length vc) ∧ X.cell? ⟨r, 0, none⟩ = some (.slice (some ⟨yg, 0, none⟩) rk.length yc) ∧ X.cell? ⟨r, 1, none⟩ = some (.slice (some ⟨zg, 0, none⟩) rv.length zc) ∧ X.cell? ⟨yg, 0, none⟩ = some (.string (sx rk 0)) ∧ X.cell? ⟨zg, 0, none⟩ = some (.string (sx rv 0))) (by kernel_rfl) (by kernel_rfl) ⟨c0, c1, y0, z1, cm, dm⟩ (fun c a d v w h => by cases d <;> exact h) ?_
  apply wpOrd_read0
  case hi => rfl
  case hw => rfl
  case hy => (intro w; go_simp; try rfl)
  intro K hK; go_simp; refine hK _ _ ?_; clear hK K
  apply wpOrd_read0
  case hi => rfl
  case hw => rfl
  case hy => (intro w; go_simp; try rfl)
  intro K hK; go_simp; refine hK _ _ ?_; clear hK K
  apply wpOrd_read0
  case hi => rfl
  case hw => rfl
  case hy => (intro w; go_simp; try rfl)
  intro K hK; go_simp; refine hK _ _ ?_; clear hK K
  apply wpOrd_read1
  case hi => rfl
  case hw => rfl
  case hy => (intro w hw; obtain ⟨h1, h2, h3, h4, h5, h6⟩ := hw; go_simp; try rfl)
  intro K hK; go_simp; refine hK _ _ ?_; clear hK K
  apply wpOrd_read0
  case hi => rfl
  case hw => rfl
  case hy => (intro w; go_simp; try rfl)
  intro K hK; go_simp; refine hK _ _ ?_; clear hK K
  apply wpOrd_read0
  case hi => rfl
  case hw => rfl
  case hy => (intro w; go_simp; try rfl)
  intro K hK; go_simp; refine hK _ _ ?_; clear hK K
  apply wpOrd_read0
  case hi => rfl
  case hw => rfl
  case hy => (intro w; go_simp; try rfl)
  intro K hK; go_simp; refine hK _ _ ?_; clear hK K
  apply wpOrd_read0
  case hi => rfl
  case hw => rfl
  case hy => (intro w; go_simp; try rfl)
  intro K hK; go_simp; refine hK _ _ ?_; clear hK K
  apply wpOrd_read1
  case hi => rfl
  case hw => rfl
  case hy => (intro w hw; obtain ⟨h1, h2, h3, h4, h5, h6⟩ := hw; go_simp; try rfl)
  intro K hK; go_simp; refine hK _ _ ?_; clear hK K
  apply wpOrd_read0
  case hi => rfl
  case hw => rfl
  case hy => (intro w; go_simp; try rfl)
  intro K hK; go_simp; refine hK _ _ ?_; clear hK K
  apply wpOrd_read0
  case hi => rfl
  case hw => rfl
  case hy => (intro w; go_simp; try rfl)
  intro K hK; go_simp; refine hK _ _ ?_; clear hK K
  apply wpOrd_read0
  case hi => rfl
  case hw => rfl
  case hy => (intro w; go_simp; try rfl)
  intro K hK; go_simp; refine hK _ _ ?_; clear hK K
  apply wpOrd_read0
  case hi => rfl
  case hw => rfl
  case hy => (intro w; go_simp; try rfl)
  intro K hK; go_simp; refine hK _ _ ?_; clear hK K
  apply wpOrd_read1
  case hi => rfl
  case hw => rfl
  case hy => (intro w hw; obtain ⟨h1, h2, h3, h4, h5, h6⟩ := hw; go_simp; try rfl)
  intro K hK; go_simp; refine hK _ _ ?_; clear hK K
  apply wpOrd_read0
  case hi => rfl
  case hw => rfl
  case hy => (intro w; go_simp; try rfl)
  intro K hK; go_simp; refine hK _ _ ?_; clear hK K
  apply wpOrd_read1
  case hi => rfl
  case hw => rfl
  case hy => (intro w hw; obtain ⟨h1, h2, h3, h4, h5, h6⟩ := hw; go_simp; try rfl)
  intro K hK; go_simp; refine hK _ _ ?_; clear hK K
  apply wpOrd_read0
  case hi => rfl
  case hw => rfl
  case hy => (intro w; go_simp; try rfl)
  intro K hK; go_simp; refine hK _ _ ?_; clear hK K
  apply wpOrd_read0
  case hi => rfl
  case hw => rfl
  case hy => (intro w; go_simp; try rfl)
  intro K hK; go_simp; refine hK _ _ ?_; clear hK K
  apply wpOrd_read0
  case hi => rfl
  case hw => rfl
  case hy => (intro w; go_simp; try rfl)
  intro K hK; go_simp; refine hK _ _ ?_; clear hK K
  apply wpOrd_read1
  case hi => rfl
  case hw => rfl
  case hy => (intro w hw; obtain ⟨h1, h2, h3, h4, h5, h6⟩ := hw; go_simp; try rfl)
  intro K hK; go_simp; refine hK _ _ ?_; clear hK K
  apply wpOrd_read0
  case hi => rfl
  case hw => rfl
  case hy => (intro w; go_simp; try rfl)
  intro K hK; go_simp; refine hK _ _ ?_; clear hK K
  apply wpOrd_read1
  case hi => rfl
  case hw => rfl
  case hy => (intro w hw; obtain ⟨h1, h2, h3, h4, h5, h6⟩ := hw; go_simp; try rfl)
  intro K hK; go_simp; refine hK _ _ ?_; clear hK K
  apply wpOrd_read0
  case hi => rfl
  case hw => rfl
  case hy => (intro w; go_simp; try rfl)
  intro K hK; go_simp; refine hK _ _ ?_; clear hK K
  apply wpOrd_eff2
  case hi => rfl
  case hw => rfl
  intro K hK
  go_simp
  refine hK _ _ ⟨cell_other c0 nNkg, cell_other c1 nNkg, cell_other y0 nYkg, cell_other z1 nYkg, cell_other cm nyg, cell_other dm nzg⟩ ?_
  clear hK K
  obtain ⟨⟨e1, he1⟩, hf1, hpF, hbF⟩ := hpE.set1 (Nat.le_trans (Nat.le_trans hB hszk) hbE.size) (upd_same _ _ _) (i := i) (cell_other c1 nNkg) (sx rv 0) (by omega)
  have HX := Lib.hid (And.intro hpF.drew (Below.drew ((HPW.out.2.trans hbE).trans hbF)))
  clear hpE hbE hpF hbF hWd
  apply wpOrd_read0
  case hi => rfl
  case hw => rfl
  case hy => (intro w; go_simp; try rfl)
  intro K hK; go_simp; refine hK _ _ ?_; clear hK K
  apply wpOrd_eff3
  case hi => rfl
  case hw => rfl
  intro K hK
  go_simp
  refine hK _ _ (wpOrd_nil ?_)
  clear hx1 hx2 hx3 hx4 hK K he0 hf0 he1 hf1 he2 hf2 nvg2 c0 c1 y0 z1 cm dm nNkg nYkg nvg nyg nzg HPW hNk hYk hk1 hk2 hv1 hv2 hy1 hy2 hz1 hz2 hkg hvg hyg hzg hszk
  rw [upd_upd] at HX
  go_wp2_with fail
  obtain ⟨W3, hWe⟩ : ∃ W, W = ((W2.setCell ⟨kg, i, none⟩ (.string (sx rk 0))).setCell ⟨vg, i, none⟩ (.string (sx rv 0))).drew := ⟨_, rfl⟩
  rw [← hWe] at HX ⊢
  clear hWe
  have HPW := Lib.hid HX.out
  clear HX
  obtain ⟨ks1, hks1⟩ : ∃ x, x = (ks.set i (sx rk 0)) := ⟨_, rfl⟩
  obtain ⟨vs1, hvs1⟩ : ∃ x, x = (vs.set i (sx rv 0)) := ⟨_, rfl⟩
  have hlks1 : ks1.length ≤ ks.length := by rw [hks1]; simp
  have hgks1 : ks.length ≤ ks1.length := by rw [hks1]; simp
  have hlvs1 : vs1.length ≤ vs.length := by rw [hvs1]; simp
  have hgvs1 : vs.length ≤ vs1.length := by rw [hvs1]; simp
  rw [← hks1, ← hvs1] at HPW
  have Hks1 := Lib.hid hks1
  have Hvs1 := Lib.hid hvs1
  clear hks1 hvs1
  have hXk : (upd (upd σ l ⟨lk1, lv1, ln⟩) N ⟨ks1, vs1, ns⟩) r = some ⟨rk, rv, rn⟩ := ((upd_other _ _ hrN).trans ((upd_other _ _ hrl).trans (hrb)))
  refine (cutN_any B r 0 _ _ _ _ _ HPW.out.1 (Nat.le_trans hB HPW.out.2.size) hXk (by omega) (by omega) (by omega)).mono ?_
  rintro e w4 ⟨rfl, HH4, HB4⟩
  have HX := Lib.hid (And.intro HH4 (HPW.out.2.trans HB4))
  clear HH4 HB4 HPW hXk
  obtain ⟨W4, hWe⟩ : ∃ W, W = w4 := ⟨_, rfl⟩
  rw [← hWe] at HX ⊢
  clear hWe
  have HPW := Lib.hid HX.out
  clear HX
  obtain ⟨rk1, hrk1⟩ : ∃ x, x = (rk.take 0 ++ rk.drop (0 + 1)) := ⟨_, rfl⟩
  obtain ⟨rv1, hrv1⟩ : ∃ x, x = (rv.take 0 ++ rv.drop (0 + 1)) := ⟨_, rfl⟩
  have hlrk1 : rk1.length + 1 ≤ rk.length := by rw [hrk1]; simp; omega
  have hgrk1 : rk.length ≤ rk1.length + 1 := by rw [hrk1]; simp; omega
  have hlrv1 : rv1.length + 1 ≤ rv.length := by rw [hrv1]; simp; omega
  have hgrv1 : rv.length ≤ rv1.length + 1 := by rw [hrv1]; simp; omega
  rw [← hrk1, ← hrv1] at HPW
  have Hrk1 := Lib.hid hrk1
  have Hrv1 := Lib.hid hrv1
  clear hrk1 hrv1
  have hLk : (upd (upd (upd σ l ⟨lk1, lv1, ln⟩) N ⟨ks1, vs1, ns⟩) r ⟨rk1, rv1, rn⟩) r = some ⟨rk1, rv1, rn⟩ := (upd_same _ _ _)
  obtain ⟨da, dc, d2, _, _⟩ := HPW.out.1.f2 hLk
  have e3 : rk.drop 1 = rk1 := by rw [Hrk1.out]; simp
  have e4 : rv.drop 1 = rv1 := by rw [Hrv1.out]; simp
  have HE := Lib.hid (And.intro Hlk1.out.symm (And.intro Hlv1.out.symm (And.intro e3 (And.intro e4 (And.intro Hks1.out.symm Hvs1.out.symm)))))
  clear e3 e4 hLk
  rcases HKK.out with ⟨hl0, hr0⟩ | ⟨hl0, hr0⟩
  · rw [hr0] at d2
    change W4.cell? _ = some (.slice da 0 dc) at d2
    have HL0 := Lib.hid (And.intro hl0 hr0)
    clear hl0 hr0
    go_wp2_with fail
    go_end0
    refine ⟨rfl, ?_, HPW.out.2⟩
    obtain ⟨e1, e2, e3, e4, e5, e6⟩ := HE.out
    rw [e1, e2, e3, e4, e5, e6]
    have := HPW.out.1
    rw [HL0.out.1, HL0.out.2] at this ⊢
    exact this
  · have hln1 : ln.length ≤ lk.length + 1 := Nat.le_of_eq hl0
    have hln2 : lk.length + 1 ≤ ln.length := Nat.le_of_eq hl0.symm
    have hrn1 : rn.length ≤ rk.length + 1 := Nat.le_of_eq hr0
    have hrn2 : rk.length + 1 ≤ rn.length := Nat.le_of_eq hr0.symm
    have hrnp : 0 < rn.length := by omega
    obtain ⟨z, hz⟩ : ∃ z, rn[0]? = some z := ⟨_, List.getElem?_eq_getElem (by omega)⟩
    have HZ := Lib.hid hz
    clear hl0 hr0 hz
    go_wp2_with fail
    clear d2
    have hXk : (upd (upd (upd σ l ⟨lk1, lv1, ln⟩) N ⟨ks1, vs1, ns⟩) r ⟨rk1, rv1, rn⟩) l = some ⟨lk1, lv1, ln⟩ := ((upd_other _ _ hlr).trans ((upd_other _ _ hlN).trans (upd_same _ _ _)))
    have hYk : (upd (upd (upd σ l ⟨lk1, lv1, ln⟩) N ⟨ks1, vs1, ns⟩) r ⟨rk1, rv1, rn⟩) r = some ⟨rk1, rv1, rn⟩ := (upd_same _ _ _)
    obtain ⟨xa, xc, c0, hown, hXlt⟩ := HPW.out.1.f2 hXk
    obtain ⟨yg, yc, y0, hy1, hy2, hyg, hyc⟩ := HPW.out.1.g2 hYk (by omega)
    have hYlt := (HPW.out.1.lt hYk).2
    have cm := hyc 0 z HZ.out
    have hszk := HPW.out.2.size
    have hidx : 0 < rn.length := by omega
    have hsF : ln.length ≤ 999 := by omega
    clear hyc
    try clear hy1 hy2
    refine wp_region_ordW 16 12 [(0, 0), (1, 0), (2, 0), (3, 0), (4, 1), (5, 0), (6, 0), (7, 0), (8, 1), (9, 0), (10, 1), (11, 2), (12, 3), (13, 0), (14, 0), (15, 3)] (fun X => X.cell? ⟨l, 2, none⟩ = some (.slice xa ln.length xc) ∧ X.cell? ⟨r, 2, none⟩ = some (.slice (some ⟨yg, 0, none⟩) rn.length yc) ∧ X.cell? ⟨yg, 0, none⟩ = some (.pointer (some ⟨z, 0, none⟩))) (by kernel_rfl) (by kernel_rfl) ⟨c0, y0, cm⟩ (fun c a d v w h => by cases d <;> exact h) ?_
    apply wpOrd_read0
    case hi => rfl
    case hw => rfl
    case hy => (intro w; go_simp; try rfl)
    intro K hK; go_simp; refine hK _ _ ?_; clear hK K
    apply wpOrd_read0
    case hi => rfl
    case hw => rfl
    case hy => (intro w; go_simp; try rfl)
    intro K hK; go_simp; refine hK _ _ ?_; clear hK K
    apply wpOrd_read0
    case hi => rfl
    case hw => rfl
    case hy => (intro w; go_simp; try rfl)
    intro K hK; go_simp; refine hK _ _ ?_; clear hK K
    apply wpOrd_read0
    case hi => rfl
    case hw => rfl
    case hy => (intro w; go_simp; try rfl)
    intro K hK; go_simp; refine hK _ _ ?_; clear hK K
    apply wpOrd_read1
    case hi => rfl
    case hw => rfl
    case hy => (intro w hw; obtain ⟨h1, h2, h3⟩ := hw; go_simp; try rfl)
    intro K hK; go_simp; refine hK _ _ ?_; clear hK K
    apply wpOrd_read0
    case hi => rfl
    case hw => rfl
    case hy => (intro w; go_simp; try rfl)
    intro K hK; go_simp; refine hK _ _ ?_; clear hK K
    apply wpOrd_read0
    case hi => rfl
    case hw => rfl
    case hy => (intro w; go_simp; try rfl)
    intro K hK; go_simp; refine hK _ _ ?_; clear hK K
    apply wpOrd_read0
    case hi => rfl
    case hw => rfl
    case hy => (intro w; go_simp; try rfl)
    intro K hK; go_simp; refine hK _ _ ?_; clear hK K
    apply wpOrd_read1
    case hi => rfl
    case hw => rfl
    case hy => (intro w hw; obtain ⟨h1, h2, h3⟩ := hw; go_simp; try rfl)
    intro K hK; go_simp; refine hK _ _ ?_; clear hK K
    apply wpOrd_read0
    case hi => rfl
    case hw => rfl
    case hy => (intro w; go_simp; try rfl)
    intro K hK; go_simp; refine hK _ _ ?_; clear hK K
    apply wpOrd_read1
    case hi => rfl
    case hw => rfl
    case hy => (intro w hw; obtain ⟨h1, h2, h3⟩ := hw; go_simp; try rfl)
    intro K hK; go_simp; refine hK _ _ ?_; clear hK K
    apply wpOrd_eff2
    case hi => rfl
    case hw => rfl
    intro K hK
    go_simp
    refine hK _ _ ⟨ca (W := W4.drew) hXlt c0, ca (W := W4.drew) hYlt y0, ca (W := W4.drew) hyg cm⟩ ?_
    clear hK K
    apply wpOrd_eff3
    case hi => rfl
    case hw => rfl
    intro K hK
    have hal : Hp B (W4.drew.alloc (.cells #[.pointer (some ⟨z, 0, none⟩)] 64)) (upd (upd (upd σ l ⟨lk1, lv1, ln⟩) N ⟨ks1, vs1, ns⟩) r ⟨rk1, rv1, rn⟩) := HPW.out.1.kept ((Kept.refl (fun _ => False) W4).drew.alloc _)
    refine wp_app64 89 96 B (.slice xa ln.length xc) (.slice (some ⟨W4.heap.size, 0, none⟩) 1 1) (ptrv ln) [.pointer (some ⟨z, 0, none⟩)] _ _ _ _ _ (hal.rowat hXk 2 (by decide) (ca (W := W4.drew) hXlt c0)) (by rw [ptrv_len]; omega) (Nat.le_trans hB (Nat.le_trans hszk (by simp))) (by simp) (rsrc_new W4.drew _ _) (fun u hu => by simp at hu; subst hu; rfl) ⟨rfl, rfl⟩ ?_
    intro v4 w4 ho
    have ho2 : AppOut 64 B (.slice xa ln.length xc) (ptrv (ln ++ [z])) (W4.drew.alloc (.cells #[.pointer (some ⟨z, 0, none⟩)] 64)) v4 w4 := by rw [← ptrv_app]; exact ho
    obtain ⟨⟨u4, hu4⟩, hf4, HH4, HB4⟩ := hal.app (j := 2) (nd' := ⟨lk1, lv1, (ln ++ [z])⟩) (Nat.le_trans hB (Nat.le_trans hszk (by simp))) hXk (by decide) (ca (W := W4.drew) hXlt c0) ho2 (fun k h1 h2 => by match k, h1 with | 0, _ => rfl | 1, _ => rfl | 2, _ => exact absurd rfl h2)
    obtain ⟨a4, c4, rfl⟩ := ho2.1.len
    have HX := Lib.hid (And.intro HH4 ((((HPW.out.2).drew.alloc (Nat.le_trans hB hszk) _)).trans HB4))
    clear hidx HH4 HB4 HPW c0 hown hXlt y0 cm hXk hYk hyg hYlt hsF hszk ho ho2 hal
    generalize (ptrv (ln ++ [z])).length = n4 at *
    refine hK _ _ ?_
    clear hK K
    apply wpOrd_read0
    case hi => rfl
    case hw => rfl
    case hy => (intro w; go_simp; try rfl)
    intro K hK; go_simp; refine hK _ _ ?_; clear hK K
    apply wpOrd_read0
    case hi => rfl
    case hw => rfl
    case hy => (intro w; go_simp; try rfl)
    intro K hK; go_simp; refine hK _ _ ?_; clear hK K
    apply wpOrd_eff3
    case hi => rfl
    case hw => rfl
    intro K hK
    go_simp
    refine hK _ _ (wpOrd_nil ?_)
    clear hK K hu4 hf4
    obtain ⟨W5, hWe⟩ : ∃ W, W = w4.setCell ⟨l, 2, none⟩ (.slice a4 n4 c4) := ⟨_, rfl⟩
    rw [← hWe] at HX ⊢
    clear hWe
    have HPW := Lib.hid HX.out
    clear HX
    obtain ⟨ln1, hln1⟩ : ∃ x, x = (ln ++ [z]) := ⟨_, rfl⟩
    have hlln1 : ln1.length ≤ ln.length + 1 := by rw [hln1]; simp
    have hgln1 : ln.length + 1 ≤ ln1.length := by rw [hln1]; simp
    rw [← hln1] at HPW
    have Hln1 := Lib.hid hln1
    clear hln1
    have hXk : (upd (upd (upd (upd σ l ⟨lk1, lv1, ln⟩) N ⟨ks1, vs1, ns⟩) r ⟨rk1, rv1, rn⟩) l ⟨lk1, lv1, ln1⟩) r = some ⟨rk1, rv1, rn⟩ := ((upd_other _ _ hrl).trans (upd_same _ _ _))
    obtain ⟨xa, xc, c2, _, _⟩ := HPW.out.1.f2 hXk
    go_wp2_with fail
    refine (hdel2 (B := B) (σ := (upd (upd (upd (upd σ l ⟨lk1, lv1, ln⟩) N ⟨ks1, vs1, ns⟩) r ⟨rk1, rv1, rn⟩) l ⟨lk1, lv1, ln1⟩)) (N := r) (i := 0) (j := 1) (n := rn.length - 1) HPW.out.1 (Nat.le_trans hB HPW.out.2.size) hXk c2 (by omega) (by omega) (by omega)).mono ?_
    rintro e w4 ⟨a4, c4, rfl, ⟨u4, hu4⟩, hf4, HH4, HB4⟩
    have HX := Lib.hid (And.intro HH4 (HPW.out.2.trans HB4))
    clear HH4 HB4 HPW hXk c2
    go_wp2_with fail
    go_end0
    refine ⟨rfl, ?_, HX.out.2⟩
    obtain ⟨e1, e2, e3, e4, e5, e6⟩ := HE.out
    have e7 : ln ++ rn.take 1 = ln1 := by
      rw [Hln1.out, List.take_one, List.head?_eq_getElem?, HZ.out]
      rfl
    have e8 : rn.drop 1 = rn.take 0 ++ rn.drop 1 := rfl
    rw [e1, e2, e3, e4, e5, e6, e7, e8]
    have := HX.out.1
    rw [upd5 σ hlN hlr hrN] at this
    exact this
end Go.Proofs.Ytegljepgncicjaa
/- Btree: join. -/
namespace Go.Proofs.Ytegljepgncicjaa
open Go.ChangeShapes Go.WideShapes Go.ChangeAt Go.RowKit Go.Deep
set_option linter.unusedVariables false
set_option linter.unusedSimpArgs false
set_option maxRecDepth 100000 in
set_option maxHeartbeats 3200000 in
theorem jn_any (B N l r i : Nat) (σ : Sig) (ks vs : List Bs) (ns : List Nat) (lk lv : List Bs) (ln : List Nat) (rk rv : List Bs) (rn : List Nat) (w0 : World) (hp : Hp B w0 σ) (hB : B ≤ w0.heap.size)
    (hNb : σ N = some ⟨ks, vs, ns⟩) (hlb : σ l = some ⟨lk, lv, ln⟩) (hrb : σ r = some ⟨rk, rv, rn⟩) (hlN : l ≠ N) (hrN : r ≠ N) (hlr : l ≠ r) (hil : ns[i]? = some l) (hir : ns[i + 1]? = some r)
    (hik : i < ks.length) (hvs : vs.length = ks.length) (hns : ns.length = ks.length + 1) (hlv : lv.length = lk.length) (hrv : rv.length = rk.length) (hks : ks.length ≤ 260) (hlk : lk.length ≤ 260) (hrk : rk.length ≤ 260)
    (hkk : (ln = [] ∧ rn = []) ∨ (ln.length = lk.length + 1 ∧ rn.length = rk.length + 1)) :
    Calls Try.prog 63 #[.pointer (some ⟨N, 0, none⟩), .int .i64 i] w0 (Turned B (upd (upd σ l ⟨lk ++ sx ks i :: rk, lv ++ sx vs i :: rv, ln ++ rn⟩) N ⟨ks.take i ++ ks.drop (i + 1), vs.take i ++ vs.drop (i + 1), ns.take (i + 1) ++ ns.drop (i + 2)⟩) w0) := by
  have hNl := hlN.symm
  have hNr := hrN.symm
  have hrl := hlr.symm
  have HP := Lib.hid hp
  obtain ⟨ng, nc, n2, _, _, hng, hdc⟩ := hp.g2 hNb (by omega)
  have ci := hdc i l hil
  have cj := hdc (i + 1) r hir
  obtain ⟨la, lc, l0, _, _⟩ := hp.f0 hlb
  have hi1 : i < ns.length := by omega
  have hi2 : i + 1 < ns.length := by omega
  have hw1 : IntKind.i64.wrap ((i : Int) + 1) = ((i + 1 : Nat) : Int) := by rw [IntKind.wrap_i64]; omega
  have hvs1' : vs.length ≤ ks.length := Nat.le_of_eq hvs
  have hvs2' : ks.length ≤ vs.length := Nat.le_of_eq hvs.symm
  have hns1' : ns.length ≤ ks.length + 1 := Nat.le_of_eq hns
  have hns2' : ks.length + 1 ≤ ns.length := Nat.le_of_eq hns.symm
  have hlv1' : lv.length ≤ lk.length := Nat.le_of_eq hlv
  have hlv2' : lk.length ≤ lv.length := Nat.le_of_eq hlv.symm
  have hrv1' : rv.length ≤ rk.length := Nat.le_of_eq hrv
  have hrv2' : rk.length ≤ rv.length := Nat.le_of_eq hrv.symm
  have HEQ := Lib.hid (And.intro hvs (And.intro hns (And.intro hlv hrv)))
  have HKK := Lib.hid hkk
  have HIL := Lib.hid (And.intro hil hir)
  clear hdc hp hvs hns hlv hrv hkk hil hir
  go_enter Try.func63, Try.ntmps63
  go_wp2_with fail
  go_quiet (fail)
  go_wp2_with fail
  refine wp_named (fun W => Hp B W σ ∧ Below B w0 W) ⟨HP.out.drewN _, below_drewN'' (Below.refl B w0) _⟩ ?_
  rintro W0 ⟨hp, hb⟩
  have HPW := Lib.hid (And.intro hp hb)
  clear hp hb HP n2 ci cj l0
  have hXk : σ l = some ⟨lk, lv, ln⟩ := (hlb)
  have hYk : σ N = some ⟨ks, vs, ns⟩ := (hNb)
  have hRk : σ r = some ⟨rk, rv, rn⟩ := (hrb)
  obtain ⟨xa, xc, c0, hown, hXlt⟩ := HPW.out.1.f0 hXk
  obtain ⟨yg, yc, y0, _, _, hyg, hyc⟩ := HPW.out.1.g0 hYk (by omega)
  obtain ⟨ra, rc, r0, hrown, hRlt⟩ := HPW.out.1.f0 hRk
  have hYlt := (HPW.out.1.lt hYk).2
  have cm := hyc i (by omega)
  have hszk := HPW.out.2.size
  have hidx : i < ks.length := by omega
  have hsF : lk.length ≤ 400 := by omega
  have hsR : rk.length ≤ 400 := by omega
  clear hyc
  refine wp_region_ordW 22 18 [(0, 0), (1, 0), (2, 0), (3, 0), (4, 1), (5, 0), (6, 0), (7, 0), (8, 1), (9, 0), (10, 0), (11, 1), (14, 0), (15, 0), (16, 0), (17, 1), (12, 2), (13, 2), (18, 3), (19, 0), (20, 0), (21, 3)] (fun X => X.cell? ⟨l, 0, none⟩ = some (.slice xa lk.length xc) ∧ X.cell? ⟨N, 0, none⟩ = some (.slice (some ⟨yg, 0, none⟩) ks.length yc) ∧ X.cell? ⟨yg, i, none⟩ = some (.string (sx ks i)) ∧ X.cell? ⟨r, 0, none⟩ = some (.slice ra rk.length rc)) (by kernel_rfl) (by kernel_rfl) ⟨c0, y0, cm, r0⟩ (fun c a d v w h => by cases d <;> exact h) ?_
  apply wpOrd_read0
  case hi => rfl
  case hw => rfl
  case hy => (intro w; go_simp; try rfl)
  intro K hK; go_simp; refine hK _ _ ?_; clear hK K
  apply wpOrd_read0
  case hi => rfl
  case hw => rfl
  case hy => (intro w; go_simp; try rfl)
  intro K hK; go_simp; refine hK _ _ ?_; clear hK K
  apply wpOrd_read0
  case hi => rfl
  case hw => rfl
  case hy => (intro w; go_simp; try rfl)
  intro K hK; go_simp; refine hK _ _ ?_; clear hK K
  apply wpOrd_read0
  case hi => rfl
  case hw => rfl
  case hy => (intro w; go_simp; try rfl)
  intro K hK; go_simp; refine hK _ _ ?_; clear hK K
  apply wpOrd_read1
  case hi => rfl
  case hw => rfl
  case hy => (intro w hw; obtain ⟨h1, h2, h3, h4⟩ := hw; go_simp; try rfl)
  intro K hK; go_simp; refine hK _ _ ?_; clear hK K
  apply wpOrd_read0
  case hi => rfl
  case hw => rfl
  case hy => (intro w; go_simp; try rfl)
  intro K hK; go_simp; refine hK _ _ ?_; clear hK K
  apply wpOrd_read0
  case hi => rfl
  case hw => rfl
  case hy => (intro w; go_simp; try rfl)
  intro K hK; go_simp; refine hK _ _ ?_; clear hK K
  apply wpOrd_read0
  case hi => rfl
  case hw => rfl
  case hy => (intro w; go_simp; try rfl)
  intro K hK; go_simp; refine hK _ _ ?_; clear hK K
  apply wpOrd_read1
  case hi => rfl
  case hw => rfl
  case hy => (intro w hw; obtain ⟨h1, h2, h3, h4⟩ := hw; go_simp; try rfl)
  intro K hK; go_simp; refine hK _ _ ?_; clear hK K
  apply wpOrd_read0
  case hi => rfl
  case hw => rfl
  case hy => (intro w; go_simp; try rfl)
  intro K hK; go_simp; refine hK _ _ ?_; clear hK K
  apply wpOrd_read0
  case hi => rfl
  case hw => rfl
  case hy => (intro w; go_simp; try rfl)
  intro K hK; go_simp; refine hK _ _ ?_; clear hK K
  apply wpOrd_read1
  case hi => rfl
  case hw => rfl
  case hy => (intro w hw; obtain ⟨h1, h2, h3, h4⟩ := hw; go_simp; try rfl)
  intro K hK; go_simp; refine hK _ _ ?_; clear hK K
  apply wpOrd_read0
  case hi => rfl
  case hw => rfl
  case hy => (intro w; go_simp; try rfl)
  intro K hK; go_simp; refine hK _ _ ?_; clear hK K
  apply wpOrd_read0
  case hi => rfl
  case hw => rfl
  case hy => (intro w; go_simp; try rfl)
  intro K hK; go_simp; refine hK _ _ ?_; clear hK K
  apply wpOrd_read0
  case hi => rfl
  case hw => rfl
  case hy => (intro w; go_simp; try rfl)
  intro K hK; go_simp; refine hK _ _ ?_; clear hK K
  apply wpOrd_read1
  case hi => rfl
  case hw => rfl
  case hy => (intro w hw; obtain ⟨h1, h2, h3, h4⟩ := hw; go_simp; try rfl)
  intro K hK; go_simp; refine hK _ _ ?_; clear hK K
  apply wpOrd_eff2
  case hi => rfl
  case hw => rfl
  intro K hK
  go_simp
  refine hK _ _ ⟨ca (W := W0.drew) hXlt c0, ca (W := W0.drew) hYlt y0, ca (W := W0.drew) hyg cm, ca (W := W0.drew) hRlt r0⟩ ?_
  clear hK K
  apply wpOrd_eff2
  case hi => rfl
  case hw => rfl
  intro K hK
  have hal : Hp B (W0.drew.alloc (.cells #[.string (sx ks i)] 9)) σ := HPW.out.1.kept ((Kept.refl (fun _ => False) W0).drew.alloc _)
  have hszA : B ≤ (W0.drew.alloc (.cells #[.string (sx ks i)] 9)).heap.size := Nat.le_trans hB (Nat.le_trans hszk (by simp))
  have a0 := ca (W := W0.drew) (ob := .cells #[.string (sx ks i)] 9) hXlt c0
  have a1 := ca (W := W0.drew) (ob := .cells #[.string (sx ks i)] 9) hYlt y0
  have a2 := ca (W := W0.drew) (ob := .cells #[.string (sx ks i)] 9) hyg cm
  have a3 := ca (W := W0.drew) (ob := .cells #[.string (sx ks i)] 9) hRlt r0
  refine wp_app9 25 33 B (.slice xa lk.length xc) (.slice (some ⟨W0.heap.size, 0, none⟩) 1 1) (strv lk) [.string (sx ks i)] _ _ _ _ _ (hal.rowat hXk 0 (by decide) a0) (by rw [strv_len]; omega) hszA (by simp) (rsrc_new W0.drew _ _) (fun u hu => by simp at hu; subst hu; rfl) ⟨rfl, rfl⟩ ?_
  intro v4 w4 ho
  have ho2 : AppOut 9 B (.slice xa lk.length xc) (strv (lk ++ [(sx ks i)])) (W0.drew.alloc (.cells #[.string (sx ks i)] 9)) v4 w4 := by rw [← strv_app]; exact ho
  have nN : ¬ (Value.slice xa lk.length xc).ownBlock = some N := fun e => hal.row_node hXk hYk 0 (by decide) a0 e rfl
  have nl : ¬ (Value.slice xa lk.length xc).ownBlock = some l := fun e => hal.row_node hXk hXk 0 (by decide) a0 e rfl
  have nr : ¬ (Value.slice xa lk.length xc).ownBlock = some r := fun e => hal.row_node hXk hRk 0 (by decide) a0 e rfl
  have ny : ¬ (Value.slice xa lk.length xc).ownBlock = some yg := fun e => hal.rows_ne hYk hXk 0 0 (by decide) (by decide) (.inl hNl) a1 a0 rfl e rfl
  have hrr := (hal.rowat hRk 0 (by decide) a3).kept ho.2.1 (fun k hk e => hal.rows_ne hRk hXk 0 0 (by decide) (by decide) (.inl hrl) a3 a0 hk e rfl)
  refine hK _ _ ⟨cell_kept2 ho.2.1 (by simp; omega) nl a0, cell_kept2 ho.2.1 (by simp; omega) nN a1, cell_kept2 ho.2.1 (by simp; omega) ny a2, cell_kept2 ho.2.1 (by simp; omega) nr a3⟩ ?_
  clear hK K ho
  apply wpOrd_eff3
  case hi => rfl
  case hw => rfl
  intro K hK
  refine wp_app9 34 38 B v4 (.slice ra rk.length rc) (strv (lk ++ [(sx ks i)])) (strv rk) _ _ _ _ _ ho2.1 (by rw [strv_len]; simp; omega) (Nat.le_trans hszA ho2.2.1.size) (by rw [strv_len]; omega) (rowV_src hrr) (strv_one rk) ⟨rfl, rfl⟩ ?_
  intro v5 w5 ho5
  have ho6 : AppOut 9 B (.slice xa lk.length xc) (strv (lk ++ [(sx ks i)] ++ rk)) (W0.drew.alloc (.cells #[.string (sx ks i)] 9)) v5 w5 := ho2.trans (by rw [← strv_app]; exact ho5)
  obtain ⟨⟨u4, hu4⟩, hf4, HH4, HB4⟩ := hal.app (j := 0) (nd' := ⟨(lk ++ [(sx ks i)] ++ rk), lv, ln⟩) hszA hXk (by decide) a0 ho6 (fun k h1 h2 => by match k, h1 with | 0, _ => exact absurd rfl h2 | 1, _ => rfl | 2, _ => rfl)
  obtain ⟨a4, c4, rfl⟩ := ho6.1.len
  have HX := Lib.hid (And.intro HH4 ((((HPW.out.2).drew.alloc (Nat.le_trans hB hszk) _)).trans HB4))
  clear hidx HH4 HB4 HPW c0 hown hXlt y0 cm hXk hYk hRk hyg hYlt hRlt hrown r0 hsF hsR hszk ho2 ho5 ho6 hal hszA a0 a1 a2 a3 nN nl nr ny hrr
  generalize (strv (lk ++ [(sx ks i)] ++ rk)).length = n4 at *
  refine hK _ _ ?_
  clear hK K
  apply wpOrd_read0
  case hi => rfl
  case hw => rfl
  case hy => (intro w; go_simp; try rfl)
  intro K hK; go_simp; refine hK _ _ ?_; clear hK K
  apply wpOrd_read0
  case hi => rfl
  case hw => rfl
  case hy => (intro w; go_simp; try rfl)
  intro K hK; go_simp; refine hK _ _ ?_; clear hK K
  apply wpOrd_eff3
  case hi => rfl
  case hw => rfl
  intro K hK
  go_simp
  refine hK _ _ (wpOrd_nil ?_)
  clear hK K hu4 hf4
  obtain ⟨W1, hWe⟩ : ∃ W, W = w5.setCell ⟨l, 0, none⟩ (.slice a4 n4 c4) := ⟨_, rfl⟩
  rw [← hWe] at HX ⊢
  clear hWe
  have HPW := Lib.hid HX.out
  clear HX
  obtain ⟨lk1, hlk1⟩ : ∃ x, x = (lk ++ [(sx ks i)] ++ rk) := ⟨_, rfl⟩
  have hllk1 : lk1.length ≤ lk.length + rk.length + 1 := by rw [hlk1]; simp; omega
  have hglk1 : lk.length + rk.length + 1 ≤ lk1.length := by rw [hlk1]; simp; omega
  rw [← hlk1] at HPW
  have Hlk1 := Lib.hid hlk1
  clear hlk1
  go_wp2_with fail
  have hXk : (upd σ l ⟨lk1, lv, ln⟩) l = some ⟨lk1, lv, ln⟩ := (upd_same _ _ _)
  have hYk : (upd σ l ⟨lk1, lv, ln⟩) N = some ⟨ks, vs, ns⟩ := ((upd_other _ _ hNl).trans (hNb))
  have hRk : (upd σ l ⟨lk1, lv, ln⟩) r = some ⟨rk, rv, rn⟩ := ((upd_other _ _ hrl).trans (hrb))
  obtain ⟨xa, xc, c0, hown, hXlt⟩ := HPW.out.1.f1 hXk
  obtain ⟨yg, yc, y0, _, _, hyg, hyc⟩ := HPW.out.1.g1 hYk (by omega)
  obtain ⟨ra, rc, r0, hrown, hRlt⟩ := HPW.out.1.f1 hRk
  have hYlt := (HPW.out.1.lt hYk).2
  have cm := hyc i (by omega)
  have hszk := HPW.out.2.size
  have hidx : i < vs.length := by omega
  have hsF : lv.length ≤ 400 := by omega
  have hsR : rv.length ≤ 400 := by omega
  clear hyc
  refine wp_region_ordW 22 18 [(0, 0), (1, 0), (2, 0), (3, 0), (4, 1), (5, 0), (6, 0), (7, 0), (8, 1), (9, 0), (10, 0), (11, 1), (14, 0), (15, 0), (16, 0), (17, 1), (12, 2), (13, 2), (18, 3), (19, 0), (20, 0), (21, 3)] (fun X => X.cell? ⟨l, 1, none⟩ = some (.slice xa lv.length xc) ∧ X.cell? ⟨N, 1, none⟩ = some (.slice (some ⟨yg, 0, none⟩) vs.length yc) ∧ X.cell? ⟨yg, i, none⟩ = some (.string (sx vs i)) ∧ X.cell? ⟨r, 1, none⟩ = some (.slice ra rv.length rc)) (by kernel_rfl) (by kernel_rfl) ⟨c0, y0, cm, r0⟩ (fun c a d v w h => by cases d <;> exact h) ?_
  apply wpOrd_read0
  case hi => rfl
  case hw => rfl
  case hy => (intro w; go_simp; try rfl)
  intro K hK; go_simp; refine hK _ _ ?_; clear hK K
  apply wpOrd_read0
  case hi => rfl
  case hw => rfl
  case hy => (intro w; go_simp; try rfl)
  intro K hK; go_simp; refine hK _ _ ?_; clear hK K
  apply wpOrd_read0
  case hi => rfl
  case hw => rfl
  case hy => (intro w; go_simp; try rfl)
  intro K hK; go_simp; refine hK _ _ ?_; clear hK K
  apply wpOrd_read0
  case hi => rfl
  case hw => rfl
  case hy => (intro w; go_simp; try rfl)
  intro K hK; go_simp; refine hK _ _ ?_; clear hK K
  apply wpOrd_read1
  case hi => rfl
  case hw => rfl
  case hy => (intro w hw; obtain ⟨h1, h2, h3, h4⟩ := hw; go_simp; try rfl)
  intro K hK; go_simp; refine hK _ _ ?_; clear hK K
  apply wpOrd_read0
  case hi => rfl
  case hw => rfl
  case hy => (intro w; go_simp; try rfl)
  intro K hK; go_simp; refine hK _ _ ?_; clear hK K
  apply wpOrd_read0
  case hi => rfl
  case hw => rfl
  case hy => (intro w; go_simp; try rfl)
  intro K hK; go_simp; refine hK _ _ ?_; clear hK K
  apply wpOrd_read0
  case hi => rfl
  case hw => rfl
  case hy => (intro w; go_simp; try rfl)
  intro K hK; go_simp; refine hK _ _ ?_; clear hK K
  apply wpOrd_read1
  case hi => rfl
  case hw => rfl
  case hy => (intro w hw; obtain ⟨h1, h2, h3, h4⟩ := hw; go_simp; try rfl)
  intro K hK; go_simp; refine hK _ _ ?_; clear hK K
  apply wpOrd_read0
  case hi => rfl
  case hw => rfl
  case hy => (intro w; go_simp; try rfl)
  intro K hK; go_simp; refine hK _ _ ?_; clear hK K
  apply wpOrd_read0
  case hi => rfl
  case hw => rfl
  case hy => (intro w; go_simp; try rfl)
  intro K hK; go_simp; refine hK _ _ ?_; clear hK K
  apply wpOrd_read1
  case hi => rfl
  case hw => rfl
  case hy => (intro w hw; obtain ⟨h1, h2, h3, h4⟩ := hw; go_simp; try rfl)
  intro K hK; go_simp; refine hK _ _ ?_; clear hK K
  apply wpOrd_read0
  case hi => rfl
  case hw => rfl
  case hy => (intro w; go_simp; try rfl)
  intro K hK; go_simp; refine hK _ _ ?_; clear hK K
  apply wpOrd_read0
  case hi => rfl
  case hw => rfl
  case hy => (intro w; go_simp; try rfl)
  intro K hK; go_simp; refine hK _ _ ?_; clear hK K
  apply wpOrd_read0
  case hi => rfl
  case hw => rfl
  case hy => (intro w; go_simp; try rfl)
  intro K hK; go_simp; refine hK _ _ ?_; clear hK K
  apply wpOrd_read1
  case hi => rfl
  case hw => rfl
  case hy => (intro w hw; obtain ⟨h1, h2, h3, h4⟩ := hw; go_simp; try rfl)
  intro K hK; go_simp; refine hK _ _ ?_; clear hK K
  apply wpOrd_eff2
  case hi => rfl
  case hw => rfl
  intro K hK
  go_simp
  refine hK _ _ ⟨ca (W := W1.drew) hXlt c0, ca (W := W1.drew) hYlt y0, ca (W := W1.drew) hyg cm, ca (W := W1.drew) hRlt r0⟩ ?_
  clear hK K
  apply wpOrd_eff2
  case hi => rfl
  case hw => rfl
  intro K hK
  have hal : Hp B (W1.drew.alloc (.cells #[.string (sx vs i)] 9)) (upd σ l ⟨lk1, lv, ln⟩) := HPW.out.1.kept ((Kept.refl (fun _ => False) W1).drew.alloc _)
  have hszA : B ≤ (W1.drew.alloc (.cells #[.string (sx vs i)] 9)).heap.size := Nat.le_trans hB (Nat.le_trans hszk (by simp))
  have a0 := ca (W := W1.drew) (ob := .cells #[.string (sx vs i)] 9) hXlt c0
  have a1 := ca (W := W1.drew) (ob := .cells #[.string (sx vs i)] 9) hYlt y0
  have a2 := ca (W := W1.drew) (ob := .cells #[.string (sx vs i)] 9) hyg cm
  have a3 := ca (W := W1.drew) (ob := .cells #[.string (sx vs i)] 9) hRlt r0
  refine wp_app9 46 54 B (.slice xa lv.length xc) (.slice (some ⟨W1.heap.size, 0, none⟩) 1 1) (strv lv) [.string (sx vs i)] _ _ _ _ _ (hal.rowat hXk 1 (by decide) a0) (by rw [strv_len]; omega) hszA (by simp) (rsrc_new W1.drew _ _) (fun u hu => by simp at hu; subst hu; rfl) ⟨rfl, rfl⟩ ?_
  intro v4 w4 ho
  have ho2 : AppOut 9 B (.slice xa lv.length xc) (strv (lv ++ [(sx vs i)])) (W1.drew.alloc (.cells #[.string (sx vs i)] 9)) v4 w4 := by rw [← strv_app]; exact ho
  have nN : ¬ (Value.slice xa lv.length xc).ownBlock = some N := fun e => hal.row_node hXk hYk 1 (by decide) a0 e rfl
  have nl : ¬ (Value.slice xa lv.length xc).ownBlock = some l := fun e => hal.row_node hXk hXk 1 (by decide) a0 e rfl
  have nr : ¬ (Value.slice xa lv.length xc).ownBlock = some r := fun e => hal.row_node hXk hRk 1 (by decide) a0 e rfl
  have ny : ¬ (Value.slice xa lv.length xc).ownBlock = some yg := fun e => hal.rows_ne hYk hXk 1 1 (by decide) (by decide) (.inl hNl) a1 a0 rfl e rfl
  have hrr := (hal.rowat hRk 1 (by decide) a3).kept ho.2.1 (fun k hk e => hal.rows_ne hRk hXk 1 1 (by decide) (by decide) (.inl hrl) a3 a0 hk e rfl)
  refine hK _ _ ⟨cell_kept2 ho.2.1 (by simp; omega) nl a0, cell_kept2 ho.2.1 (by simp; omega) nN a1, cell_kept2 ho.2.1 (by simp; omega) ny a2, cell_kept2 ho.2.1 (by simp; omega) nr a3⟩ ?_
  clear hK K ho
  apply wpOrd_eff3
  case hi => rfl
  case hw => rfl
  intro K hK
  refine wp_app9 55 59 B v4 (.slice ra rv.length rc) (strv (lv ++ [(sx vs i)])) (strv rv) _ _ _ _ _ ho2.1 (by rw [strv_len]; simp; omega) (Nat.le_trans hszA ho2.2.1.size) (by rw [strv_len]; omega) (rowV_src hrr) (strv_one rv) ⟨rfl, rfl⟩ ?_
  intro v5 w5 ho5
  have ho6 : AppOut 9 B (.slice xa lv.length xc) (strv (lv ++ [(sx vs i)] ++ rv)) (W1.drew.alloc (.cells #[.string (sx vs i)] 9)) v5 w5 := ho2.trans (by rw [← strv_app]; exact ho5)
  obtain ⟨⟨u4, hu4⟩, hf4, HH4, HB4⟩ := hal.app (j := 1) (nd' := ⟨lk1, (lv ++ [(sx vs i)] ++ rv), ln⟩) hszA hXk (by decide) a0 ho6 (fun k h1 h2 => by match k, h1 with | 0, _ => rfl | 1, _ => exact absurd rfl h2 | 2, _ => rfl)
  obtain ⟨a4, c4, rfl⟩ := ho6.1.len
  have HX := Lib.hid (And.intro HH4 ((((HPW.out.2).drew.alloc (Nat.le_trans hB hszk) _)).trans HB4))
  clear hidx HH4 HB4 HPW c0 hown hXlt y0 cm hXk hYk hRk hyg hYlt hRlt hrown r0 hsF hsR hszk ho2 ho5 ho6 hal hszA a0 a1 a2 a3 nN nl nr ny hrr
  generalize (strv (lv ++ [(sx vs i)] ++ rv)).length = n4 at *
  refine hK _ _ ?_
  clear hK K
  apply wpOrd_read0
  case hi => rfl
  case hw => rfl
  case hy => (intro w; go_simp; try rfl)
  intro K hK; go_simp; refine hK _ _ ?_; clear hK K
  apply wpOrd_read0
  case hi => rfl
  case hw => rfl
  case hy => (intro w; go_simp; try rfl)
  intro K hK; go_simp; refine hK _ _ ?_; clear hK K
  apply wpOrd_eff3
  case hi => rfl
  case hw => rfl
  intro K hK
  go_simp
  refine hK _ _ (wpOrd_nil ?_)
  clear hK K hu4 hf4
  obtain ⟨W2, hWe⟩ : ∃ W, W = w5.setCell ⟨l, 1, none⟩ (.slice a4 n4 c4) := ⟨_, rfl⟩
  rw [← hWe] at HX ⊢
  clear hWe
  have HPW := Lib.hid HX.out
  clear HX
  obtain ⟨lv1, hlv1⟩ : ∃ x, x = (lv ++ [(sx vs i)] ++ rv) := ⟨_, rfl⟩
  have hllv1 : lv1.length ≤ lv.length + rv.length + 1 := by rw [hlv1]; simp; omega
  have hglv1 : lv.length + rv.length + 1 ≤ lv1.length := by rw [hlv1]; simp; omega
  rw [← hlv1] at HPW
  have Hlv1 := Lib.hid hlv1
  clear hlv1
  rw [upd_upd] at HPW
  have hnn1 : ln.length ≤ 400 := by rcases HKK.out with ⟨h, _⟩ | ⟨h, _⟩ <;> (rw [h]; first | omega | simp)
  have hnn2 : rn.length ≤ 400 := by rcases HKK.out with ⟨_, h⟩ | ⟨_, h⟩ <;> (rw [h]; first | omega | simp)
  go_wp2_with fail
  have hXk : (upd σ l ⟨lk1, lv1, ln⟩) l = some ⟨lk1, lv1, ln⟩ := (upd_same _ _ _)
  have hRk : (upd σ l ⟨lk1, lv1, ln⟩) r = some ⟨rk, rv, rn⟩ := ((upd_other _ _ hrl).trans (hrb))
  obtain ⟨xa, xc, c0, hown, hXlt⟩ := HPW.out.1.f2 hXk
  obtain ⟨ra, rc, r0, hrown, hRlt⟩ := HPW.out.1.f2 hRk
  have hszk := HPW.out.2.size
  refine wp_region_ordW 13 9 [(0, 0), (1, 0), (2, 0), (3, 0), (4, 1), (5, 0), (6, 0), (7, 0), (8, 1), (9, 3), (10, 0), (11, 0), (12, 3)] (fun X => X.cell? ⟨l, 2, none⟩ = some (.slice xa ln.length xc) ∧ X.cell? ⟨r, 2, none⟩ = some (.slice ra rn.length rc)) (by kernel_rfl) (by kernel_rfl) ⟨c0, r0⟩ (fun c a d v w h => by cases d <;> exact h) ?_
  apply wpOrd_read0
  case hi => rfl
  case hw => rfl
  case hy => (intro w; go_simp; try rfl)
  intro K hK; go_simp; refine hK _ _ ?_; clear hK K
  apply wpOrd_read0
  case hi => rfl
  case hw => rfl
  case hy => (intro w; go_simp; try rfl)
  intro K hK; go_simp; refine hK _ _ ?_; clear hK K
  apply wpOrd_read0
  case hi => rfl
  case hw => rfl
  case hy => (intro w; go_simp; try rfl)
  intro K hK; go_simp; refine hK _ _ ?_; clear hK K
  apply wpOrd_read0
  case hi => rfl
  case hw => rfl
  case hy => (intro w; go_simp; try rfl)
  intro K hK; go_simp; refine hK _ _ ?_; clear hK K
  apply wpOrd_read1
  case hi => rfl
  case hw => rfl
  case hy => (intro w hw; obtain ⟨h1, h2⟩ := hw; go_simp; try rfl)
  intro K hK; go_simp; refine hK _ _ ?_; clear hK K
  apply wpOrd_read0
  case hi => rfl
  case hw => rfl
  case hy => (intro w; go_simp; try rfl)
  intro K hK; go_simp; refine hK _ _ ?_; clear hK K
  apply wpOrd_read0
  case hi => rfl
  case hw => rfl
  case hy => (intro w; go_simp; try rfl)
  intro K hK; go_simp; refine hK _ _ ?_; clear hK K
  apply wpOrd_read0
  case hi => rfl
  case hw => rfl
  case hy => (intro w; go_simp; try rfl)
  intro K hK; go_simp; refine hK _ _ ?_; clear hK K
  apply wpOrd_read1
  case hi => rfl
  case hw => rfl
  case hy => (intro w hw; obtain ⟨h1, h2⟩ := hw; go_simp; try rfl)
  intro K hK; go_simp; refine hK _ _ ?_; clear hK K
  apply wpOrd_eff3
  case hi => rfl
  case hw => rfl
  intro K hK
  have hal : Hp B W2.drew (upd σ l ⟨lk1, lv1, ln⟩) := HPW.out.1.drew
  have hszA : B ≤ W2.drew.heap.size := Nat.le_trans hB hszk
  refine wp_app64 67 71 B (.slice xa ln.length xc) (.slice ra rn.length rc) (ptrv ln) (ptrv rn) _ _ _ _ _ (hal.rowat hXk 2 (by decide) c0) (by rw [ptrv_len]; omega) hszA (by rw [ptrv_len]; omega) (rowV_src (hal.rowat hRk 2 (by decide) r0)) (ptrv_one rn) ⟨rfl, rfl⟩ ?_
  intro v5 w5 ho5
  have ho6 : AppOut 64 B (.slice xa ln.length xc) (ptrv (ln ++ rn)) W2.drew v5 w5 := by rw [← ptrv_app]; exact ho5
  obtain ⟨⟨u4, hu4⟩, hf4, HH4, HB4⟩ := hal.app (j := 2) (nd' := ⟨lk1, lv1, (ln ++ rn)⟩) hszA hXk (by decide) c0 ho6 (fun k h1 h2 => by match k, h1 with | 0, _ => rfl | 1, _ => rfl | 2, _ => exact absurd rfl h2)
  obtain ⟨a4, c4, rfl⟩ := ho6.1.len
  have HX := Lib.hid (And.intro HH4 (((HPW.out.2).drew).trans HB4))
  clear HH4 HB4 HPW c0 hown hXlt hXk hRk hRlt hrown r0 hszk ho5 ho6 hal hszA
  generalize (ptrv (ln ++ rn)).length = n4 at *
  refine hK _ _ ?_
  clear hK K
  apply wpOrd_read0
  case hi => rfl
  case hw => rfl
  case hy => (intro w; go_simp; try rfl)
  intro K hK; go_simp; refine hK _ _ ?_; clear hK K
  apply wpOrd_read0
  case hi => rfl
  case hw => rfl
  case hy => (intro w; go_simp; try rfl)
  intro K hK; go_simp; refine hK _ _ ?_; clear hK K
  apply wpOrd_eff3
  case hi => rfl
  case hw => rfl
  intro K hK
  go_simp
  refine hK _ _ (wpOrd_nil ?_)
  clear hK K hu4 hf4
  obtain ⟨W3, hWe⟩ : ∃ W, W = w5.setCell ⟨l, 2, none⟩ (.slice a4 n4 c4) := ⟨_, rfl⟩
  rw [← hWe] at HX ⊢
  clear hWe
  have HPW := Lib.hid HX.out
  clear HX
  obtain ⟨ln1, hln1⟩ : ∃ x, x = (ln ++ rn) := ⟨_, rfl⟩
  rw [← hln1] at HPW
  have Hln1 := Lib.hid hln1
  clear hln1
  rw [upd_upd] at HPW
  go_wp2_with fail
  have hXk : (upd σ l ⟨lk1, lv1, ln1⟩) N = some ⟨ks, vs, ns⟩ := ((upd_other _ _ hNl).trans (hNb))
  refine (cutN_any B N i _ _ _ _ _ HPW.out.1 (Nat.le_trans hB HPW.out.2.size) hXk (by omega) (by omega) (by omega)).mono ?_
  rintro e w4 ⟨rfl, HH4, HB4⟩
  have HX := Lib.hid (And.intro HH4 (HPW.out.2.trans HB4))
  clear HH4 HB4 HPW hXk
  obtain ⟨W4, hWe⟩ : ∃ W, W = w4 := ⟨_, rfl⟩
  rw [← hWe] at HX ⊢
  clear hWe
  have HPW := Lib.hid HX.out
  clear HX
  obtain ⟨ks1, hks1⟩ : ∃ x, x = (ks.take i ++ ks.drop (i + 1)) := ⟨_, rfl⟩
  obtain ⟨vs1, hvs1⟩ : ∃ x, x = (vs.take i ++ vs.drop (i + 1)) := ⟨_, rfl⟩
  have hlks1 : ks1.length + 1 ≤ ks.length := by rw [hks1]; simp; omega
  have hgks1 : ks.length ≤ ks1.length + 1 := by rw [hks1]; simp; omega
  have hlvs1 : vs1.length + 1 ≤ vs.length := by rw [hvs1]; simp; omega
  have hgvs1 : vs.length ≤ vs1.length + 1 := by rw [hvs1]; simp; omega
  rw [← hks1, ← hvs1] at HPW
  have Hks1 := Lib.hid hks1
  have Hvs1 := Lib.hid hvs1
  clear hks1 hvs1
  have hw3 : IntKind.i64.wrap ((i : Int) + 2) = ((i + 2 : Nat) : Int) := by rw [IntKind.wrap_i64]; omega
  have hXk : (upd (upd σ l ⟨lk1, lv1, ln1⟩) N ⟨ks1, vs1, ns⟩) N = some ⟨ks1, vs1, ns⟩ := (upd_same _ _ _)
  obtain ⟨xa, xc, c2, _, _⟩ := HPW.out.1.f2 hXk
  go_wp2_with fail
  refine (hdel2 (B := B) (σ := (upd (upd σ l ⟨lk1, lv1, ln1⟩) N ⟨ks1, vs1, ns⟩)) (N := N) (i := (i + 1)) (j := (i + 2)) (n := ns.length - 1) HPW.out.1 (Nat.le_trans hB HPW.out.2.size) hXk c2 (by omega) (by omega) (by omega)).mono ?_
  rintro e w4 ⟨a4, c4, rfl, ⟨u4, hu4⟩, hf4, HH4, HB4⟩
  have HX := Lib.hid (And.intro HH4 (HPW.out.2.trans HB4))
  clear HH4 HB4 HPW hXk c2
  rw [upd_upd] at HX
  go_wp2_with fail
  go_end0
  refine ⟨rfl, ?_, HX.out.2⟩
  have e1 : lk ++ sx ks i :: rk = lk1 := by rw [Hlk1.out]; simp
  have e2 : lv ++ sx vs i :: rv = lv1 := by rw [Hlv1.out]; simp
  rw [e1, e2, ← Hln1.out, ← Hks1.out, ← Hvs1.out]
  exact HX.out.1
end Go.Proofs.Ytegljepgncicjaa
/- Btree: the walks of refill. -/
namespace Go.Proofs.Ytegljepgncicjaa
open Go.ChangeShapes Go.WideShapes Go.ChangeAt Go.RowKit Go.Deep
set_option linter.unusedVariables false
set_option linter.unusedSimpArgs false
set_option maxRecDepth 100000 in
theorem rf0 (B N i x least : Nat) (σ : Sig) (ks vs : List Bs) (ns : List Nat) (xk xv : List Bs) (xn : List Nat) (W : World) (hp : Hp B W σ) (hN : σ N = some ⟨ks, vs, ns⟩) (hns : ns.length = ks.length + 1) (hks : ks.length ≤ 260) (hx : ns[i]? = some x) (hX : σ x = some ⟨xk, xv, xn⟩) (hxk : least ≤ xk.length) :
    Calls Try.prog 54 #[.pointer (some ⟨N, 0, none⟩), .int .i64 least, .int .i64 i] W (fun e W' => e = .returned (.tuple #[]) ∧ W' = W) := by
  obtain ⟨ng, nc, n2, _, _, _, hdc⟩ := hp.g2 hN (by omega)
  have ci := hdc i x hx
  have hin : i < ns.length := (List.getElem?_eq_some_iff.1 hx).1
  obtain ⟨xa, xc, x0, _, _⟩ := hp.f0 hX
  have d0 : decide ((least : Int) ≤ (xk.length : Int)) = true := decide_eq_true (by omega)
  clear hdc hp hns
  go_enter Try.func54, Try.ntmps54
  go_wp2_with fail
  exact bodyPost_ret (results_none rfl _ _ _) rfl ⟨rfl, rfl⟩
set_option maxRecDepth 100000 in
set_option maxHeartbeats 1600000 in
theorem rf_mr (B N i j x y z least : Nat) (σ : Sig) (ks vs : List Bs) (ns : List Nat) (xk xv : List Bs) (xn : List Nat) (yk yv : List Bs) (yn : List Nat) (zk zv : List Bs) (zn : List Nat) (W : World) (P : World → Prop) (hp : Hp B W σ) (hN : σ N = some ⟨ks, vs, ns⟩) (hns : ns.length = ks.length + 1) (hks : ks.length ≤ 260) (hle : least ≤ 200)
    (hx : ns[i]? = some x) (hX : σ x = some ⟨xk, xv, xn⟩) (hxk : xk.length < least) (hj : i = j + 1) (hy : ns[j]? = some y) (hY : σ y = some ⟨yk, yv, yn⟩) (hl : least < yk.length)
    (hsub : Calls Try.prog 61 #[.pointer (some ⟨N, 0, none⟩), .int .i64 j] W fun e W' => e = .returned (.tuple #[]) ∧ P W') :
    Calls Try.prog 54 #[.pointer (some ⟨N, 0, none⟩), .int .i64 least, .int .i64 i] W (fun e W' => e = .returned (.tuple #[]) ∧ P W') := by
  have HS := Lib.hid hsub
  obtain ⟨ka, kc, n0, _, _⟩ := hp.f0 hN
  obtain ⟨ng, nc, n2, _, _, _, hdc⟩ := hp.g2 hN (by omega)
  have ci := hdc i x hx
  have hin : i < ns.length := (List.getElem?_eq_some_iff.1 hx).1
  obtain ⟨xa, xc, x0, _, _⟩ := hp.f0 hX
  have d0 : decide ((least : Int) ≤ (xk.length : Int)) = false := decide_eq_false (by omega)
  have d0' : ¬ (least ≤ xk.length) := by omega
  have cj := hdc j y hy
  have hjn : j < ns.length := (List.getElem?_eq_some_iff.1 hy).1
  obtain ⟨ya, yc, y0, _, _⟩ := hp.f0 hY
  have hw1 : IntKind.i64.wrap ((i : Int) - 1) = (j : Int) := by rw [IntKind.wrap_i64]; omega
  have p1 : decide ((0 : Int) < (i : Int)) = true := decide_eq_true (by omega)
  have p2 : 0 < i := by omega
  have p3 : decide (0 < i) = true := decide_eq_true p2
  have l1 : decide ((least : Int) < (yk.length : Int)) = true := decide_eq_true (by omega)
  have l2 : least < yk.length := hl
  clear hdc hp hns hsub hj
  go_enter Try.func54, Try.ntmps54
  go_wp2_with fail
  refine HS.out.mono ?_
  rintro e W1 ⟨rfl, hP⟩
  have HP := Lib.hid hP
  clear hP HS
  go_wp2_with fail
  first
    | (go_end0; exact ⟨rfl, HP.out⟩)
    | (go_ret; exact ⟨rfl, HP.out⟩)
set_option maxRecDepth 100000 in
set_option maxHeartbeats 1600000 in
theorem rf_ml1 (B N i j x y z least : Nat) (σ : Sig) (ks vs : List Bs) (ns : List Nat) (xk xv : List Bs) (xn : List Nat) (yk yv : List Bs) (yn : List Nat) (zk zv : List Bs) (zn : List Nat) (W : World) (P : World → Prop) (hp : Hp B W σ) (hN : σ N = some ⟨ks, vs, ns⟩) (hns : ns.length = ks.length + 1) (hks : ks.length ≤ 260) (hle : least ≤ 200)
    (hx : ns[i]? = some x) (hX : σ x = some ⟨xk, xv, xn⟩) (hxk : xk.length < least) (hj : i = j + 1) (hy : ns[j]? = some y) (hY : σ y = some ⟨yk, yv, yn⟩) (hl : yk.length ≤ least) (hz : ns[i + 1]? = some z) (hZ : σ z = some ⟨zk, zv, zn⟩) (hik : i < ks.length) (hr : least < zk.length)
    (hsub : Calls Try.prog 62 #[.pointer (some ⟨N, 0, none⟩), .int .i64 i] W fun e W' => e = .returned (.tuple #[]) ∧ P W') :
    Calls Try.prog 54 #[.pointer (some ⟨N, 0, none⟩), .int .i64 least, .int .i64 i] W (fun e W' => e = .returned (.tuple #[]) ∧ P W') := by
  have HS := Lib.hid hsub
  obtain ⟨ka, kc, n0, _, _⟩ := hp.f0 hN
  obtain ⟨ng, nc, n2, _, _, _, hdc⟩ := hp.g2 hN (by omega)
  have ci := hdc i x hx
  have hin : i < ns.length := (List.getElem?_eq_some_iff.1 hx).1
  obtain ⟨xa, xc, x0, _, _⟩ := hp.f0 hX
  have d0 : decide ((least : Int) ≤ (xk.length : Int)) = false := decide_eq_false (by omega)
  have d0' : ¬ (least ≤ xk.length) := by omega
  have cj := hdc j y hy
  have hjn : j < ns.length := (List.getElem?_eq_some_iff.1 hy).1
  obtain ⟨ya, yc, y0, _, _⟩ := hp.f0 hY
  have hw1 : IntKind.i64.wrap ((i : Int) - 1) = (j : Int) := by rw [IntKind.wrap_i64]; omega
  have p1 : decide ((0 : Int) < (i : Int)) = true := decide_eq_true (by omega)
  have p2 : 0 < i := by omega
  have p3 : decide (0 < i) = true := decide_eq_true p2
  have l1 : decide ((least : Int) < (yk.length : Int)) = false := decide_eq_false (by omega)
  have l2 : ¬ (least < yk.length) := by omega
  have cz := hdc (i + 1) z hz
  have hzn : i + 1 < ns.length := (List.getElem?_eq_some_iff.1 hz).1
  obtain ⟨za, zc, z0, _, _⟩ := hp.f0 hZ
  have hw2 : IntKind.i64.wrap ((i : Int) + 1) = ((i + 1 : Nat) : Int) := by rw [IntKind.wrap_i64]; omega
  have q1 : decide ((i : Int) < (ks.length : Int)) = true := decide_eq_true (by omega)
  have q2 : i < ks.length := hik
  have r1 : decide ((least : Int) < (zk.length : Int)) = true := decide_eq_true (by omega)
  have r2 : (least < zk.length) := by omega
  clear hdc hp hns hsub hj
  go_enter Try.func54, Try.ntmps54
  go_wp2_with fail
  refine HS.out.mono ?_
  rintro e W1 ⟨rfl, hP⟩
  have HP := Lib.hid hP
  clear hP HS
  go_wp2_with fail
  first
    | (go_end0; exact ⟨rfl, HP.out⟩)
    | (go_ret; exact ⟨rfl, HP.out⟩)
set_option maxRecDepth 100000 in
set_option maxHeartbeats 1600000 in
theorem rf_ml0 (B N i j x y z least : Nat) (σ : Sig) (ks vs : List Bs) (ns : List Nat) (xk xv : List Bs) (xn : List Nat) (yk yv : List Bs) (yn : List Nat) (zk zv : List Bs) (zn : List Nat) (W : World) (P : World → Prop) (hp : Hp B W σ) (hN : σ N = some ⟨ks, vs, ns⟩) (hns : ns.length = ks.length + 1) (hks : ks.length ≤ 260) (hle : least ≤ 200)
    (hx : ns[i]? = some x) (hX : σ x = some ⟨xk, xv, xn⟩) (hxk : xk.length < least) (hi : i = 0) (hz : ns[i + 1]? = some z) (hZ : σ z = some ⟨zk, zv, zn⟩) (hik : i < ks.length) (hr : least < zk.length)
    (hsub : Calls Try.prog 62 #[.pointer (some ⟨N, 0, none⟩), .int .i64 i] W fun e W' => e = .returned (.tuple #[]) ∧ P W') :
    Calls Try.prog 54 #[.pointer (some ⟨N, 0, none⟩), .int .i64 least, .int .i64 i] W (fun e W' => e = .returned (.tuple #[]) ∧ P W') := by
  have HS := Lib.hid hsub
  obtain ⟨ka, kc, n0, _, _⟩ := hp.f0 hN
  obtain ⟨ng, nc, n2, _, _, _, hdc⟩ := hp.g2 hN (by omega)
  have ci := hdc i x hx
  have hin : i < ns.length := (List.getElem?_eq_some_iff.1 hx).1
  obtain ⟨xa, xc, x0, _, _⟩ := hp.f0 hX
  have d0 : decide ((least : Int) ≤ (xk.length : Int)) = false := decide_eq_false (by omega)
  have d0' : ¬ (least ≤ xk.length) := by omega
  have p1 : decide ((0 : Int) < (i : Int)) = false := decide_eq_false (by omega)
  have p2 : ¬ (0 < i) := by omega
  have p3 : decide (0 < i) = false := decide_eq_false p2
  have cz := hdc (i + 1) z hz
  have hzn : i + 1 < ns.length := (List.getElem?_eq_some_iff.1 hz).1
  obtain ⟨za, zc, z0, _, _⟩ := hp.f0 hZ
  have hw2 : IntKind.i64.wrap ((i : Int) + 1) = ((i + 1 : Nat) : Int) := by rw [IntKind.wrap_i64]; omega
  have q1 : decide ((i : Int) < (ks.length : Int)) = true := decide_eq_true (by omega)
  have q2 : i < ks.length := hik
  have r1 : decide ((least : Int) < (zk.length : Int)) = true := decide_eq_true (by omega)
  have r2 : (least < zk.length) := by omega
  clear hdc hp hns hsub hi
  go_enter Try.func54, Try.ntmps54
  go_wp2_with fail
  refine HS.out.mono ?_
  rintro e W1 ⟨rfl, hP⟩
  have HP := Lib.hid hP
  clear hP HS
  go_wp2_with fail
  first
    | (go_end0; exact ⟨rfl, HP.out⟩)
    | (go_ret; exact ⟨rfl, HP.out⟩)
set_option maxRecDepth 100000 in
set_option maxHeartbeats 1600000 in
theorem rf_jl1 (B N i j x y z least : Nat) (σ : Sig) (ks vs : List Bs) (ns : List Nat) (xk xv : List Bs) (xn : List Nat) (yk yv : List Bs) (yn : List Nat) (zk zv : List Bs) (zn : List Nat) (W : World) (P : World → Prop) (hp : Hp B W σ) (hN : σ N = some ⟨ks, vs, ns⟩) (hns : ns.length = ks.length + 1) (hks : ks.length ≤ 260) (hle : least ≤ 200)
    (hx : ns[i]? = some x) (hX : σ x = some ⟨xk, xv, xn⟩) (hxk : xk.length < least) (hj : i = j + 1) (hy : ns[j]? = some y) (hY : σ y = some ⟨yk, yv, yn⟩) (hl : yk.length ≤ least) (hz : ns[i + 1]? = some z) (hZ : σ z = some ⟨zk, zv, zn⟩) (hik : i < ks.length) (hr : zk.length ≤ least)
    (hsub : Calls Try.prog 63 #[.pointer (some ⟨N, 0, none⟩), .int .i64 j] W fun e W' => e = .returned (.tuple #[]) ∧ P W') :
    Calls Try.prog 54 #[.pointer (some ⟨N, 0, none⟩), .int .i64 least, .int .i64 i] W (fun e W' => e = .returned (.tuple #[]) ∧ P W') := by
  have HS := Lib.hid hsub
  obtain ⟨ka, kc, n0, _, _⟩ := hp.f0 hN
  obtain ⟨ng, nc, n2, _, _, _, hdc⟩ := hp.g2 hN (by omega)
  have ci := hdc i x hx
  have hin : i < ns.length := (List.getElem?_eq_some_iff.1 hx).1
  obtain ⟨xa, xc, x0, _, _⟩ := hp.f0 hX
  have d0 : decide ((least : Int) ≤ (xk.length : Int)) = false := decide_eq_false (by omega)
  have d0' : ¬ (least ≤ xk.length) := by omega
  have cj := hdc j y hy
  have hjn : j < ns.length := (List.getElem?_eq_some_iff.1 hy).1
  obtain ⟨ya, yc, y0, _, _⟩ := hp.f0 hY
  have hw1 : IntKind.i64.wrap ((i : Int) - 1) = (j : Int) := by rw [IntKind.wrap_i64]; omega
  have p1 : decide ((0 : Int) < (i : Int)) = true := decide_eq_true (by omega)
  have p2 : 0 < i := by omega
  have p3 : decide (0 < i) = true := decide_eq_true p2
  have l1 : decide ((least : Int) < (yk.length : Int)) = false := decide_eq_false (by omega)
  have l2 : ¬ (least < yk.length) := by omega
  have cz := hdc (i + 1) z hz
  have hzn : i + 1 < ns.length := (List.getElem?_eq_some_iff.1 hz).1
  obtain ⟨za, zc, z0, _, _⟩ := hp.f0 hZ
  have hw2 : IntKind.i64.wrap ((i : Int) + 1) = ((i + 1 : Nat) : Int) := by rw [IntKind.wrap_i64]; omega
  have q1 : decide ((i : Int) < (ks.length : Int)) = true := decide_eq_true (by omega)
  have q2 : i < ks.length := hik
  have r1 : decide ((least : Int) < (zk.length : Int)) = false := decide_eq_false (by omega)
  have r2 : ¬ (least < zk.length) := by omega
  clear hdc hp hns hsub hj
  go_enter Try.func54, Try.ntmps54
  go_wp2_with fail
  refine HS.out.mono ?_
  rintro e W1 ⟨rfl, hP⟩
  have HP := Lib.hid hP
  clear hP HS
  go_wp2_with fail
  first
    | (go_end0; exact ⟨rfl, HP.out⟩)
    | (go_ret; exact ⟨rfl, HP.out⟩)
set_option maxRecDepth 100000 in
set_option maxHeartbeats 1600000 in
theorem rf_jl2 (B N i j x y z least : Nat) (σ : Sig) (ks vs : List Bs) (ns : List Nat) (xk xv : List Bs) (xn : List Nat) (yk yv : List Bs) (yn : List Nat) (zk zv : List Bs) (zn : List Nat) (W : World) (P : World → Prop) (hp : Hp B W σ) (hN : σ N = some ⟨ks, vs, ns⟩) (hns : ns.length = ks.length + 1) (hks : ks.length ≤ 260) (hle : least ≤ 200)
    (hx : ns[i]? = some x) (hX : σ x = some ⟨xk, xv, xn⟩) (hxk : xk.length < least) (hj : i = j + 1) (hy : ns[j]? = some y) (hY : σ y = some ⟨yk, yv, yn⟩) (hl : yk.length ≤ least) (hik : ks.length ≤ i)
    (hsub : Calls Try.prog 63 #[.pointer (some ⟨N, 0, none⟩), .int .i64 j] W fun e W' => e = .returned (.tuple #[]) ∧ P W') :
    Calls Try.prog 54 #[.pointer (some ⟨N, 0, none⟩), .int .i64 least, .int .i64 i] W (fun e W' => e = .returned (.tuple #[]) ∧ P W') := by
  have HS := Lib.hid hsub
  obtain ⟨ka, kc, n0, _, _⟩ := hp.f0 hN
  obtain ⟨ng, nc, n2, _, _, _, hdc⟩ := hp.g2 hN (by omega)
  have ci := hdc i x hx
  have hin : i < ns.length := (List.getElem?_eq_some_iff.1 hx).1
  obtain ⟨xa, xc, x0, _, _⟩ := hp.f0 hX
  have d0 : decide ((least : Int) ≤ (xk.length : Int)) = false := decide_eq_false (by omega)
  have d0' : ¬ (least ≤ xk.length) := by omega
  have cj := hdc j y hy
  have hjn : j < ns.length := (List.getElem?_eq_some_iff.1 hy).1
  obtain ⟨ya, yc, y0, _, _⟩ := hp.f0 hY
  have hw1 : IntKind.i64.wrap ((i : Int) - 1) = (j : Int) := by rw [IntKind.wrap_i64]; omega
  have p1 : decide ((0 : Int) < (i : Int)) = true := decide_eq_true (by omega)
  have p2 : 0 < i := by omega
  have p3 : decide (0 < i) = true := decide_eq_true p2
  have l1 : decide ((least : Int) < (yk.length : Int)) = false := decide_eq_false (by omega)
  have l2 : ¬ (least < yk.length) := by omega
  have q1 : decide ((i : Int) < (ks.length : Int)) = false := decide_eq_false (by omega)
  have q2 : ¬ (i < ks.length) := by omega
  clear hdc hp hns hsub hj
  go_enter Try.func54, Try.ntmps54
  go_wp2_with fail
  refine HS.out.mono ?_
  rintro e W1 ⟨rfl, hP⟩
  have HP := Lib.hid hP
  clear hP HS
  go_wp2_with fail
  first
    | (go_end0; exact ⟨rfl, HP.out⟩)
    | (go_ret; exact ⟨rfl, HP.out⟩)
set_option maxRecDepth 100000 in
set_option maxHeartbeats 1600000 in
theorem rf_jr (B N i j x y z least : Nat) (σ : Sig) (ks vs : List Bs) (ns : List Nat) (xk xv : List Bs) (xn : List Nat) (yk yv : List Bs) (yn : List Nat) (zk zv : List Bs) (zn : List Nat) (W : World) (P : World → Prop) (hp : Hp B W σ) (hN : σ N = some ⟨ks, vs, ns⟩) (hns : ns.length = ks.length + 1) (hks : ks.length ≤ 260) (hle : least ≤ 200)
    (hx : ns[i]? = some x) (hX : σ x = some ⟨xk, xv, xn⟩) (hxk : xk.length < least) (hi : i = 0) (hz : ns[i + 1]? = some z) (hZ : σ z = some ⟨zk, zv, zn⟩) (hik : i < ks.length) (hr : zk.length ≤ least)
    (hsub : Calls Try.prog 63 #[.pointer (some ⟨N, 0, none⟩), .int .i64 i] W fun e W' => e = .returned (.tuple #[]) ∧ P W') :
    Calls Try.prog 54 #[.pointer (some ⟨N, 0, none⟩), .int .i64 least, .int .i64 i] W (fun e W' => e = .returned (.tuple #[]) ∧ P W') := by
  have HS := Lib.hid hsub
  obtain ⟨ka, kc, n0, _, _⟩ := hp.f0 hN
  obtain ⟨ng, nc, n2, _, _, _, hdc⟩ := hp.g2 hN (by omega)
  have ci := hdc i x hx
  have hin : i < ns.length := (List.getElem?_eq_some_iff.1 hx).1
  obtain ⟨xa, xc, x0, _, _⟩ := hp.f0 hX
  have d0 : decide ((least : Int) ≤ (xk.length : Int)) = false := decide_eq_false (by omega)
  have d0' : ¬ (least ≤ xk.length) := by omega
  have p1 : decide ((0 : Int) < (i : Int)) = false := decide_eq_false (by omega)
  have p2 : ¬ (0 < i) := by omega
  have p3 : decide (0 < i) = false := decide_eq_false p2
  have cz := hdc (i + 1) z hz
  have hzn : i + 1 < ns.length := (List.getElem?_eq_some_iff.1 hz).1
  obtain ⟨za, zc, z0, _, _⟩ := hp.f0 hZ
  have hw2 : IntKind.i64.wrap ((i : Int) + 1) = ((i + 1 : Nat) : Int) := by rw [IntKind.wrap_i64]; omega
  have q1 : decide ((i : Int) < (ks.length : Int)) = true := decide_eq_true (by omega)
  have q2 : i < ks.length := hik
  have r1 : decide ((least : Int) < (zk.length : Int)) = false := decide_eq_false (by omega)
  have r2 : ¬ (least < zk.length) := by omega
  clear hdc hp hns hsub hi
  go_enter Try.func54, Try.ntmps54
  go_wp2_with fail
  refine HS.out.mono ?_
  rintro e W1 ⟨rfl, hP⟩
  have HP := Lib.hid hP
  clear hP HS
  go_wp2_with fail
  first
    | (go_end0; exact ⟨rfl, HP.out⟩)
    | (go_ret; exact ⟨rfl, HP.out⟩)
end Go.Proofs.Ytegljepgncicjaa
