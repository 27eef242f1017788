/- Drawn regions in an order of one's own (wp_region_ord, wp_region_ordW, wp_region_tree). -/
import Derived.Test.YtpcjmceakelilaaBox
import Derived.OrdersHeld
import Derived.StillTail
import Derived.WalkKit
namespace Go.Proofs.Ytpcjmceakelilaa
open Go.ChangeShapes Go.WideShapes Go.ChangeAt Go.RowKit Go.Deep
set_option linter.unusedVariables false
set_option linter.unusedSimpArgs false
section
variable {P : Program} {ops : Array Oper} {md : Region.Mode} {Q : Exit → Act → World → Prop} {S : World → Prop}
def Before (c : Nat) (S : World → Prop) (listed : Array Bool) (w : World) : Prop := listed.getD c false = false → S w
def wpAnyT (P : Program) (md : Region.Mode) (ops : Array Oper) (Q : Exit → Act → World → Prop) (S : World → Prop) (n c : Nat) (L : Array Bool → Act → World → Prop) : Nat → Array Bool → Act → World → Prop
  | 0, listed, a, w => L listed a w
  | f + 1, listed, a, w =>
    Region.ready md ops listed ≠ [] ∧ ∀ i ∈ Region.ready md ops listed, i < n ∧ wpOp P ops Q i (fun a' w' => Before c S (listed.setIfInBounds i true) w' ∧ wpAnyT P md ops Q S n c L f (listed.setIfInBounds i true) a' w') a w
theorem wpAny_of_T {n c g : Nat} {L : Array Bool → Act → World → Prop} (hL : ∀ listed a w, L listed a w → wpAny P md ops Q g listed a w) :
    ∀ (f : Nat) (listed : Array Bool) (a : Act) (w : World), wpAnyT P md ops Q S n c L f listed a w → wpAny P md ops Q (f + g) listed a w
  | 0, listed, a, w, h => by rw [Nat.zero_add]; exact hL _ _ _ h
  | f + 1, listed, a, w, h => by
    rw [show f + 1 + g = (f + g) + 1 by omega]
    exact ⟨fun h0 => absurd h0 h.1, fun i hi => wpOp_mono (fun a' w' h' => wpAny_of_T hL f _ a' w' h'.2) (h.2 i hi).2⟩
theorem set_other {listed : Array Bool} {i c : Nat} (h : (listed.setIfInBounds i true).getD c false = false) : listed.getD c false = false := by
  cases hl : listed.getD c false with
  | false => rfl
  | true => rw [getD_set_true hl] at h; cases h
theorem wpAnyT_first {n c i : Nat} {oi : Oper} {v : Value} {Sx : World → Prop} {L : Array Bool → Act → World → Prop} (hi : ops[i]? = some oi) (hsel : ∀ (j : Nat) (o : Oper) cs b, ops[j]? = some o → o.op ≠ .select cs b)
    (hQ : ∀ c (a : Act) (d : Option Tmp) (v : Value) w, Q (.panic c) (a.put d v) w → Q (.panic c) a w)
    (hs : Region.sinkB md ops n = true) (hc : Region.chainB md ops n = true) (hn : n < ops.size) (hin : i < n) (hic : i ≠ c)
    (hSx : ∀ listed w, HeadInv md ops n listed → listed.getD i true = false → Before c S listed w → Sx w)
    (hdone : ∀ listed a w, L listed a w → ∀ j ∈ Region.ready md ops listed, n ≤ j) :
    ∀ (f : Nat) (listed : Array Bool) (a : Act) (w : World), HeadInv md ops n listed →
      (∀ j oj, ops[j]? = some oj → j ≠ i → listed.getD j true = false → (∀ e ∈ oj.after, Region.binds md e = true → e.on ≠ i) → oi.apart ops oj = true) →
      i ∈ Region.ready md ops listed → YieldsIf P ops Sx oi v a → Before c S listed w →
      wpAnyT P md ops Q S n c L f (listed.setIfInBounds i true) (a.put oi.dst v) w → wpAnyT P md ops Q S n c L (f + 1) listed a w := by
  intro f
  induction f with
  | zero =>
    intro listed a w inv _ hr hy hS H
    have hun := (mem_ready.1 hr).1
    refine ⟨fun h => (by rw [h] at hr; cases hr), fun j hj => ?_⟩
    have hjn : j < n := by
      rcases Nat.lt_or_ge j n with h | h
      · exact h
      · exact absurd hj (tail_waits hs hc hn inv _ i rfl hin hun j h)
    refine ⟨hjn, ?_⟩
    by_cases hji : j = i
    · subst hji; exact hy.wpOp hi (hSx _ _ inv hun hS) ⟨fun h => hS (set_other h), H⟩
    · have := hdone _ _ _ H j (ready_mono hj hji)
      omega
  | succ f ih =>
    intro listed a w inv hfree hr hy hS H
    have hun := (mem_ready.1 hr).1
    refine ⟨fun h => (by rw [h] at hr; cases hr), fun j hj => ?_⟩
    have hjn : j < n := by
      rcases Nat.lt_or_ge j n with h | h
      · exact h
      · exact absurd hj (tail_waits hs hc hn inv _ i rfl hin hun j h)
    refine ⟨hjn, ?_⟩
    by_cases hji : j = i
    · subst hji; exact hy.wpOp hi (hSx _ _ inv hun hS) ⟨fun h => hS (set_other h), H⟩
    · have h1 := (H.2 j (ready_mono hj hji)).2
      obtain ⟨hjun, oj, hoj, hall⟩ := mem_ready.1 hj
      have hnot : ∀ e ∈ oj.after, Region.binds md e = true → e.on ≠ i := fun e he hb heq => by
        have h1 := hall e he hb
        rw [heq, getD_both hun] at h1
        cases h1
      have h2 := wpOp_putIf hoj (hfree j oj hoj hji hjun hnot) (fun cs b => hsel i oi cs b hi) (fun cs b => hsel j oj cs b hoj) (fun c a w => hQ c a _ _ w) hy h1
      have hfree' : ∀ k ok, ops[k]? = some ok → k ≠ i → (listed.setIfInBounds j true).getD k true = false →
          (∀ e ∈ ok.after, Region.binds md e = true → e.on ≠ i) → oi.apart ops ok = true := fun k ok hk hki hun hno => by
        refine hfree k ok hk hki ?_ hno
        by_cases hjk : j = k
        · subst hjk; exact hjun
        · rw [getD_set_ne true hjk] at hun; exact hun
      refine wpOp_mono (fun a' w' h3 => ?_) h2
      obtain ⟨hy3, hS3, h3⟩ := h3
      rw [Array.setIfInBounds_comm _ _ (Ne.symm hji)] at hS3 h3
      have hS4 : Before c S (listed.setIfInBounds j true) w' := fun h => by
        refine hS3 ?_
        rw [getD_set_ne false hic]; exact h
      exact ⟨hS4, ih (listed.setIfInBounds j true) a' w' (inv.set hj hjn) hfree' (ready_mono hr (Ne.symm hji)) hy3 hS4 h3⟩
/-- operation c waits for i, by way of others -/
def Region.anc (md : Region.Mode) (ops : Array Oper) (c : Nat) : Nat → Nat → Bool
  | 0, i => Region.waitsFor md ops c i
  | f + 1, i => Region.waitsFor md ops c i || (List.range c).any fun j => Region.waitsFor md ops j i && Region.anc md ops c f j
theorem anc_listed {n c : Nat} {listed : Array Bool} (inv : HeadInv md ops n listed) : ∀ (f i : Nat), Region.anc md ops c f i = true → listed.getD c false = true → listed.getD i false = true
  | 0, i, h, hc => by
    obtain ⟨oj, hj, e, he, hb, ho⟩ := Region.waitsFor_spec h
    rw [← ho]
    exact inv.closed c oj hj hc e he hb
  | f + 1, i, h, hc => by
    simp only [Region.anc, Bool.or_eq_true] at h
    rcases h with h | h
    · obtain ⟨oj, hj, e, he, hb, ho⟩ := Region.waitsFor_spec h
      rw [← ho]
      exact inv.closed c oj hj hc e he hb
    · obtain ⟨j, _, h⟩ := List.any_eq_true.1 h
      simp only [Bool.and_eq_true] at h
      have hl := anc_listed inv f j h.2 hc
      obtain ⟨oj, hj, e, he, hb, ho⟩ := Region.waitsFor_spec h.1
      rw [← ho]
      exact inv.closed j oj hj hl e he hb
/-- kinds: 0 a value in whatever world; 1 a value in every world that meets S; 2 an effect ahead of c; 3 c, or an effect behind it -/
def KindS (S : World → Prop) : Nat → World → Prop
  | 1 => S
  | _ => fun _ => True
def wpOrd (P : Program) (ops : Array Oper) (Q : Exit → Act → World → Prop) (S : World → Prop) (R : Act → World → Prop) : List (Nat × Nat) → Act → World → Prop
  | [], a, w => R a w
  | (i, 0) :: rest, a, w => ∃ oi v, ops[i]? = some oi ∧ YieldsIf P ops (KindS S 0) oi v a ∧ wpOrd P ops Q S R rest (a.put oi.dst v) w
  | (i, 1) :: rest, a, w => ∃ oi v, ops[i]? = some oi ∧ YieldsIf P ops (KindS S 1) oi v a ∧ wpOrd P ops Q S R rest (a.put oi.dst v) w
  | (i, 2) :: rest, a, w => wpOp P ops Q i (fun a' w' => S w' ∧ wpOrd P ops Q S R rest a' w') a w
  | (i, _) :: rest, a, w => wpOp P ops Q i (fun a' w' => wpOrd P ops Q S R rest a' w') a w
def Region.ordB (md : Region.Mode) (ops : Array Oper) (n c g : Nat) : List (Nat × Nat) → Array Bool → Bool
  | [], listed => Region.seqB md ops g n listed
  | (i, 0) :: rest, listed => (Region.ready md ops listed).contains i && Region.free md ops listed i && decide (i < n) && decide (i ≠ c) && Region.ordB md ops n c g rest (listed.setIfInBounds i true)
  | (i, 1) :: rest, listed => (Region.ready md ops listed).contains i && Region.free md ops listed i && decide (i < n) && decide (i ≠ c) && Region.anc md ops c 6 i && Region.ordB md ops n c g rest (listed.setIfInBounds i true)
  | (i, 2) :: rest, listed => decide (Region.ready md ops listed = [i]) && decide (i < n) && Region.ordB md ops n c g rest (listed.setIfInBounds i true)
  | (i, _) :: rest, listed => decide (Region.ready md ops listed = [i]) && decide (i < n) && (listed.setIfInBounds i true).getD c false && Region.ordB md ops n c g rest (listed.setIfInBounds i true)
def Region.regB (md : Region.Mode) (ops : Array Oper) (n c : Nat) (ord : List (Nat × Nat)) : Bool :=
  Region.noSelect ops && decide (n < ops.size) && decide (ord.length = n) && Region.sinkB md ops n && Region.chainB md ops n && Region.ordB md ops n c (ops.size - n) ord (Array.replicate ops.size false)
theorem wpAnyT_ord {n c g : Nat} {R : Act → World → Prop} (hsel : Region.noSelect ops = true) (hQ : ∀ c (a : Act) (d : Option Tmp) (v : Value) w, Q (.panic c) (a.put d v) w → Q (.panic c) a w)
    (hs : Region.sinkB md ops n = true) (hc : Region.chainB md ops n = true) (hn : n < ops.size) :
    ∀ (l : List (Nat × Nat)) (listed : Array Bool) (a : Act) (w : World), HeadInv md ops n listed → Before c S listed w →
    Region.ordB md ops n c g l listed = true → wpOrd P ops Q S R l a w →
    wpAnyT P md ops Q S n c (fun listed' a' w' => Region.seqB md ops g n listed' = true ∧ R a' w') l.length listed a w
  | [], listed, a, w, inv, hS, hB, h => ⟨hB, h⟩
  | (i, 0) :: l, listed, a, w, inv, hS, hB, h => by
    simp only [Region.ordB, Bool.and_eq_true, decide_eq_true_eq] at hB
    obtain ⟨⟨⟨⟨hr, hf⟩, hin⟩, hic⟩, hB'⟩ := hB
    have hr' : i ∈ Region.ready md ops listed := by simpa using hr
    obtain ⟨oi, v, h0, hy, hK⟩ := h
    exact wpAnyT_first h0 (Region.noSelect_spec hsel) hQ hs hc hn hin hic (fun _ _ _ _ _ => trivial) (fun listed' a' w' hL => seqB_ready hL.1) l.length listed a w inv (Region.free_spec h0 hf) hr' hy hS
      (wpAnyT_ord hsel hQ hs hc hn l _ _ _ (inv.set hr' hin) (fun h => hS (set_other h)) hB' hK)
  | (i, 1) :: l, listed, a, w, inv, hS, hB, h => by
    simp only [Region.ordB, Bool.and_eq_true, decide_eq_true_eq] at hB
    obtain ⟨⟨⟨⟨⟨hr, hf⟩, hin⟩, hic⟩, hanc⟩, hB'⟩ := hB
    have hr' : i ∈ Region.ready md ops listed := by simpa using hr
    obtain ⟨oi, v, h0, hy, hK⟩ := h
    exact wpAnyT_first h0 (Region.noSelect_spec hsel) hQ hs hc hn hin hic (fun listed w inv hun hb => hb (by
        cases hl : listed.getD c false with
        | false => rfl
        | true => have := anc_listed inv 6 i hanc hl; rw [getD_both hun] at this; cases this)) (fun listed' a' w' hL => seqB_ready hL.1) l.length listed a w inv (Region.free_spec h0 hf) hr' hy hS
      (wpAnyT_ord hsel hQ hs hc hn l _ _ _ (inv.set hr' hin) (fun h => hS (set_other h)) hB' hK)
  | (i, 2) :: l, listed, a, w, inv, hS, hB, h => by
    simp only [Region.ordB, Bool.and_eq_true, decide_eq_true_eq] at hB
    obtain ⟨⟨hr, hin⟩, hB'⟩ := hB
    refine ⟨fun h0 => (by rw [hr] at h0; cases h0), fun j hj => ?_⟩
    have hj' := hj
    rw [hr] at hj
    have hji : j = i := by simpa using hj
    subst hji
    have h1 : wpOp P ops Q j (fun a' w' => S w' ∧ wpOrd P ops Q S R l a' w') a w := h
    exact ⟨hin, wpOp_mono (fun a' w' h2 => ⟨fun _ => h2.1, wpAnyT_ord hsel hQ hs hc hn l _ _ _ (inv.set hj' hin) (fun _ => h2.1) hB' h2.2⟩) h1⟩
  | (i, k + 3) :: l, listed, a, w, inv, hS, hB, h => by
    simp only [Region.ordB, Bool.and_eq_true, decide_eq_true_eq] at hB
    obtain ⟨⟨⟨hr, hin⟩, hcl⟩, hB'⟩ := hB
    refine ⟨fun h0 => (by rw [hr] at h0; cases h0), fun j hj => ?_⟩
    have hj' := hj
    rw [hr] at hj
    have hji : j = i := by simpa using hj
    subst hji
    have h1 : wpOp P ops Q j (fun a' w' => wpOrd P ops Q S R l a' w') a w := h
    have hno : ∀ w', Before c S (listed.setIfInBounds j true) w' := fun w' h => by rw [hcl] at h; cases h
    exact ⟨hin, wpOp_mono (fun a' w' h2 => ⟨hno w', wpAnyT_ord hsel hQ hs hc hn l _ _ _ (inv.set hj' hin) (hno w') hB' h2⟩) h1⟩
theorem wp_region_ord {id : Nat} {a : Act} {w : World} {l : List Oper} (n c : Nat) (ord : List (Nat × Nat)) (S : World → Prop) (hm : P.follows .mixedOrders = true) (hB : Region.regB .any l.toArray n c ord = true) (hS : S w.drew)
    (hQ : ∀ c (a : Act) (d : Option Tmp) (v : Value) w, Q (.panic c) (a.put d v) w → Q (.panic c) a w)
    (h : wpOrd P l.toArray Q S (fun a' w' => wpList P l.toArray Q (l.drop n) a' w') ord a w.drew) : (Code.region id l.toArray true).wp P Q a w := by
  simp only [Region.regB, Bool.and_eq_true, decide_eq_true_eq] at hB
  obtain ⟨⟨⟨⟨⟨hsel, hn⟩, hol⟩, hs⟩, hc⟩, hlex⟩ := hB
  have hn' : n < l.length := by simpa using hn
  have hdl : (l.drop n).length = l.toArray.size - n := by simp
  have inv0 : HeadInv .any l.toArray n (Array.replicate l.toArray.size false) :=
    ⟨by simp, fun j oj _ hl => (by rw [getD_replicate_false] at hl; cases hl), fun t _ ht => getD_in (by simpa using ht) (getD_replicate_false _ _)⟩
  have H := wpAnyT_ord (md := .any) (g := l.toArray.size - n) hsel hQ hs hc hn ord _ a _ inv0 (fun _ => hS) hlex h
  refine wp_region_any hm ?_
  have := wpAny_of_T (g := l.toArray.size - n) (fun listed a' w' hL => by
    have := wpAny_of_seq (md := .any) (Q' := Q) (l.drop n) n listed a' w' (fun j => by simp [List.getElem?_drop]) (by rw [hdl]; exact hL.1) hL.2
    rwa [hdl] at this) _ _ _ _ H
  rw [hol, show n + (l.toArray.size - n) = l.toArray.size by omega] at this
  exact this
theorem wpOrd_read0 {R : Act → World → Prop} {i : Nat} {rest : List (Nat × Nat)} {a : Act} {w : World} {oi : Oper} (v : Value) (hi : ops[i]? = some oi) (hw : Region.wanted oi (yielded ops a.tmps) = true) (hy : ∀ w, (execOp a.eval oi).run P w = .ok (.value v) w)
    (h : ∀ K : Act → World → Prop, (∀ a w, wpOrd P ops Q S R rest a w → K a w) → K (a.put oi.dst v) w) : wpOrd P ops Q S R ((i, 0) :: rest) a w :=
  ⟨oi, v, hi, .inl ⟨hw, fun w _ => hy w⟩, h _ (fun _ _ h => h)⟩
theorem wpOrd_read1 {R : Act → World → Prop} {i : Nat} {rest : List (Nat × Nat)} {a : Act} {w : World} {oi : Oper} (v : Value) (hi : ops[i]? = some oi) (hw : Region.wanted oi (yielded ops a.tmps) = true) (hy : ∀ w, S w → (execOp a.eval oi).run P w = .ok (.value v) w)
    (h : ∀ K : Act → World → Prop, (∀ a w, wpOrd P ops Q S R rest a w → K a w) → K (a.put oi.dst v) w) : wpOrd P ops Q S R ((i, 1) :: rest) a w :=
  ⟨oi, v, hi, .inl ⟨hw, hy⟩, h _ (fun _ _ h => h)⟩
theorem wpOrd_eff2 {R : Act → World → Prop} {i : Nat} {rest : List (Nat × Nat)} {a : Act} {w : World} {oi : Oper} (hi : ops[i]? = some oi) (hw : Region.wanted oi (yielded ops a.tmps) = true)
    (h : ∀ K : Act → World → Prop, (∀ a w, S w → wpOrd P ops Q S R rest a w → K a w) → oi.wp P a w K Q) : wpOrd P ops Q S R ((i, 2) :: rest) a w := by
  show wpOp P ops Q i _ a w
  unfold wpOp
  simp only [hi, hw, if_true]
  exact .inl (h _ (fun _ _ h1 h2 => ⟨h1, h2⟩))
theorem wpOrd_eff3 {R : Act → World → Prop} {i : Nat} {rest : List (Nat × Nat)} {a : Act} {w : World} {oi : Oper} (hi : ops[i]? = some oi) (hw : Region.wanted oi (yielded ops a.tmps) = true)
    (h : ∀ K : Act → World → Prop, (∀ a w, wpOrd P ops Q S R rest a w → K a w) → oi.wp P a w K Q) : wpOrd P ops Q S R ((i, 3) :: rest) a w := by
  show wpOp P ops Q i _ a w
  unfold wpOp
  simp only [hi, hw, if_true]
  exact .inl (h _ (fun _ _ h => h))
theorem wpOrd_nil {R : Act → World → Prop} {a : Act} {w : World} (h : R a w) : wpOrd P ops Q S R [] a w := h
end
section
variable {P : Program} {ops : Array Oper} {md : Region.Mode} {Q : Exit → Act → World → Prop} {S : World → Prop}
theorem wpAnyT_firstW {n c i : Nat} {oi : Oper} {v : Value} {Sx : World → Prop} {L : Array Bool → Act → World → Prop} (hi : ops[i]? = some oi) (hsel : ∀ (j : Nat) (o : Oper) cs b, ops[j]? = some o → o.op ≠ .select cs b)
    (hQ : ∀ c (a : Act) (d : Option Tmp) (v : Value) w, Q (.panic c) (a.put d v) w → Q (.panic c) a w)
    (hn : n = ops.size) (hin : i < n) (hic : i ≠ c)
    (hSx : ∀ listed w, HeadInv md ops n listed → listed.getD i true = false → Before c S listed w → Sx w)
    (hdone : ∀ listed a w, L listed a w → ∀ j ∈ Region.ready md ops listed, n ≤ j) :
    ∀ (f : Nat) (listed : Array Bool) (a : Act) (w : World), HeadInv md ops n listed →
      (∀ j oj, ops[j]? = some oj → j ≠ i → listed.getD j true = false → (∀ e ∈ oj.after, Region.binds md e = true → e.on ≠ i) → oi.apart ops oj = true) →
      i ∈ Region.ready md ops listed → YieldsIf P ops Sx oi v a → Before c S listed w →
      wpAnyT P md ops Q S n c L f (listed.setIfInBounds i true) (a.put oi.dst v) w → wpAnyT P md ops Q S n c L (f + 1) listed a w := by
  intro f
  induction f with
  | zero =>
    intro listed a w inv _ hr hy hS H
    have hun := (mem_ready.1 hr).1
    refine ⟨fun h => (by rw [h] at hr; cases hr), fun j hj => ?_⟩
    have hjn : j < n := by
      obtain ⟨_, oj, hoj, _⟩ := mem_ready.1 hj
      have := (Array.getElem?_eq_some_iff.1 hoj).1
      omega
    refine ⟨hjn, ?_⟩
    by_cases hji : j = i
    · subst hji; exact hy.wpOp hi (hSx _ _ inv hun hS) ⟨fun h => hS (set_other h), H⟩
    · have := hdone _ _ _ H j (ready_mono hj hji)
      omega
  | succ f ih =>
    intro listed a w inv hfree hr hy hS H
    have hun := (mem_ready.1 hr).1
    refine ⟨fun h => (by rw [h] at hr; cases hr), fun j hj => ?_⟩
    have hjn : j < n := by
      obtain ⟨_, oj, hoj, _⟩ := mem_ready.1 hj
      have := (Array.getElem?_eq_some_iff.1 hoj).1
      omega
    refine ⟨hjn, ?_⟩
    by_cases hji : j = i
    · subst hji; exact hy.wpOp hi (hSx _ _ inv hun hS) ⟨fun h => hS (set_other h), H⟩
    · have h1 := (H.2 j (ready_mono hj hji)).2
      obtain ⟨hjun, oj, hoj, hall⟩ := mem_ready.1 hj
      have hnot : ∀ e ∈ oj.after, Region.binds md e = true → e.on ≠ i := fun e he hb heq => by
        have h1 := hall e he hb
        rw [heq, getD_both hun] at h1
        cases h1
      have h2 := wpOp_putIf hoj (hfree j oj hoj hji hjun hnot) (fun cs b => hsel i oi cs b hi) (fun cs b => hsel j oj cs b hoj) (fun c a w => hQ c a _ _ w) hy h1
      have hfree' : ∀ k ok, ops[k]? = some ok → k ≠ i → (listed.setIfInBounds j true).getD k true = false →
          (∀ e ∈ ok.after, Region.binds md e = true → e.on ≠ i) → oi.apart ops ok = true := fun k ok hk hki hun hno => by
        refine hfree k ok hk hki ?_ hno
        by_cases hjk : j = k
        · subst hjk; exact hjun
        · rw [getD_set_ne true hjk] at hun; exact hun
      refine wpOp_mono (fun a' w' h3 => ?_) h2
      obtain ⟨hy3, hS3, h3⟩ := h3
      rw [Array.setIfInBounds_comm _ _ (Ne.symm hji)] at hS3 h3
      have hS4 : Before c S (listed.setIfInBounds j true) w' := fun h => by
        refine hS3 ?_
        rw [getD_set_ne false hic]; exact h
      exact ⟨hS4, ih (listed.setIfInBounds j true) a' w' (inv.set hj hjn) hfree' (ready_mono hr (Ne.symm hji)) hy3 hS4 h3⟩
def Region.regWB (md : Region.Mode) (ops : Array Oper) (n c : Nat) (ord : List (Nat × Nat)) : Bool :=
  Region.noSelect ops && decide (n = ops.size) && decide (ord.length = n) && Region.ordB md ops n c 0 ord (Array.replicate ops.size false)
theorem wpAnyT_ordW {n c g : Nat} {R : Act → World → Prop} (hsel : Region.noSelect ops = true) (hQ : ∀ c (a : Act) (d : Option Tmp) (v : Value) w, Q (.panic c) (a.put d v) w → Q (.panic c) a w)
    (hn : n = ops.size) :
    ∀ (l : List (Nat × Nat)) (listed : Array Bool) (a : Act) (w : World), HeadInv md ops n listed → Before c S listed w →
    Region.ordB md ops n c g l listed = true → wpOrd P ops Q S R l a w →
    wpAnyT P md ops Q S n c (fun listed' a' w' => Region.seqB md ops g n listed' = true ∧ R a' w') l.length listed a w
  | [], listed, a, w, inv, hS, hB, h => ⟨hB, h⟩
  | (i, 0) :: l, listed, a, w, inv, hS, hB, h => by
    simp only [Region.ordB, Bool.and_eq_true, decide_eq_true_eq] at hB
    obtain ⟨⟨⟨⟨hr, hf⟩, hin⟩, hic⟩, hB'⟩ := hB
    have hr' : i ∈ Region.ready md ops listed := by simpa using hr
    obtain ⟨oi, v, h0, hy, hK⟩ := h
    exact wpAnyT_firstW h0 (Region.noSelect_spec hsel) hQ hn hin hic (fun _ _ _ _ _ => trivial) (fun listed' a' w' hL => seqB_ready hL.1) l.length listed a w inv (Region.free_spec h0 hf) hr' hy hS
      (wpAnyT_ordW hsel hQ hn l _ _ _ (inv.set hr' hin) (fun h => hS (set_other h)) hB' hK)
  | (i, 1) :: l, listed, a, w, inv, hS, hB, h => by
    simp only [Region.ordB, Bool.and_eq_true, decide_eq_true_eq] at hB
    obtain ⟨⟨⟨⟨⟨hr, hf⟩, hin⟩, hic⟩, hanc⟩, hB'⟩ := hB
    have hr' : i ∈ Region.ready md ops listed := by simpa using hr
    obtain ⟨oi, v, h0, hy, hK⟩ := h
    exact wpAnyT_firstW h0 (Region.noSelect_spec hsel) hQ hn hin hic (fun listed w inv hun hb => hb (by
        cases hl : listed.getD c false with
        | false => rfl
        | true => have := anc_listed inv 6 i hanc hl; rw [getD_both hun] at this; cases this)) (fun listed' a' w' hL => seqB_ready hL.1) l.length listed a w inv (Region.free_spec h0 hf) hr' hy hS
      (wpAnyT_ordW hsel hQ hn l _ _ _ (inv.set hr' hin) (fun h => hS (set_other h)) hB' hK)
  | (i, 2) :: l, listed, a, w, inv, hS, hB, h => by
    simp only [Region.ordB, Bool.and_eq_true, decide_eq_true_eq] at hB
    obtain ⟨⟨hr, hin⟩, hB'⟩ := hB
    refine ⟨fun h0 => (by rw [hr] at h0; cases h0), fun j hj => ?_⟩
    have hj' := hj
    rw [hr] at hj
    have hji : j = i := by simpa using hj
    subst hji
    have h1 : wpOp P ops Q j (fun a' w' => S w' ∧ wpOrd P ops Q S R l a' w') a w := h
    exact ⟨hin, wpOp_mono (fun a' w' h2 => ⟨fun _ => h2.1, wpAnyT_ordW hsel hQ hn l _ _ _ (inv.set hj' hin) (fun _ => h2.1) hB' h2.2⟩) h1⟩
  | (i, k + 3) :: l, listed, a, w, inv, hS, hB, h => by
    simp only [Region.ordB, Bool.and_eq_true, decide_eq_true_eq] at hB
    obtain ⟨⟨⟨hr, hin⟩, hcl⟩, hB'⟩ := hB
    refine ⟨fun h0 => (by rw [hr] at h0; cases h0), fun j hj => ?_⟩
    have hj' := hj
    rw [hr] at hj
    have hji : j = i := by simpa using hj
    subst hji
    have h1 : wpOp P ops Q j (fun a' w' => wpOrd P ops Q S R l a' w') a w := h
    have hno : ∀ w', Before c S (listed.setIfInBounds j true) w' := fun w' h => by rw [hcl] at h; cases h
    exact ⟨hin, wpOp_mono (fun a' w' h2 => ⟨hno w', wpAnyT_ordW hsel hQ hn l _ _ _ (inv.set hj' hin) (hno w') hB' h2⟩) h1⟩
theorem wp_region_ordW {id : Nat} {a : Act} {w : World} {l : List Oper} (n c : Nat) (ord : List (Nat × Nat)) (S : World → Prop) (hm : P.follows .mixedOrders = true) (hB : Region.regWB .any l.toArray n c ord = true) (hS : S w.drew)
    (hQ : ∀ c (a : Act) (d : Option Tmp) (v : Value) w, Q (.panic c) (a.put d v) w → Q (.panic c) a w)
    (h : wpOrd P l.toArray Q S (fun a' w' => Q .normal a' w') ord a w.drew) : (Code.region id l.toArray true).wp P Q a w := by
  simp only [Region.regWB, Bool.and_eq_true, decide_eq_true_eq] at hB
  obtain ⟨⟨⟨hsel, hn⟩, hol⟩, hlex⟩ := hB
  have inv0 : HeadInv .any l.toArray n (Array.replicate l.toArray.size false) :=
    ⟨by simp, fun j oj _ hl => (by rw [getD_replicate_false] at hl; cases hl), fun t _ ht => getD_in (by simpa using ht) (getD_replicate_false _ _)⟩
  have H := wpAnyT_ordW (md := .any) (g := 0) hsel hQ hn ord _ a _ inv0 (fun _ => hS) hlex h
  refine wp_region_any hm ?_
  have := wpAny_of_T (g := 0) (fun listed a' w' hL => by
    have hr : Region.ready .any l.toArray listed = [] := by simpa [Region.seqB] using hL.1
    exact wpAny_done (P := P) (Q := Q) hr hL.2 0) _ _ _ _ H
  rwa [Nat.add_zero, hol, hn] at this
end
/-- an order with forks: 'fork m r s': operation m or the call c comes next, r is the order behind m, s the order behind c -/
inductive OrdT where
  | nil
  | one (i k : Nat) (r : OrdT)
  | fork (m : Nat) (r s : OrdT)
def OrdT.size : OrdT → Nat
  | .nil => 0
  | .one _ _ r => r.size + 1
  | .fork _ r _ => r.size + 1
section
variable {P : Program} {ops : Array Oper} {md : Region.Mode} {Q : Exit → Act → World → Prop} {S : World → Prop}
def wpTree (P : Program) (ops : Array Oper) (Q : Exit → Act → World → Prop) (S : World → Prop) (c : Nat) (R : Act → World → Prop) : OrdT → Act → World → Prop
  | .nil, a, w => R a w
  | .one i 0 rest, a, w => ∃ oi v, ops[i]? = some oi ∧ YieldsIf P ops (KindS S 0) oi v a ∧ wpTree P ops Q S c R rest (a.put oi.dst v) w
  | .one i 1 rest, a, w => ∃ oi v, ops[i]? = some oi ∧ YieldsIf P ops (KindS S 1) oi v a ∧ wpTree P ops Q S c R rest (a.put oi.dst v) w
  | .one i 2 rest, a, w => wpOp P ops Q i (fun a' w' => S w' ∧ wpTree P ops Q S c R rest a' w') a w
  | .one i _ rest, a, w => wpOp P ops Q i (fun a' w' => wpTree P ops Q S c R rest a' w') a w
  | .fork m r s, a, w => wpOp P ops Q m (fun a' w' => S w' ∧ wpTree P ops Q S c R r a' w') a w ∧ wpOp P ops Q c (fun a' w' => wpTree P ops Q S c R s a' w') a w
def Region.treeB (md : Region.Mode) (ops : Array Oper) (n c g : Nat) : OrdT → Array Bool → Bool
  | .nil, listed => Region.seqB md ops g n listed
  | .one i 0 rest, listed => (Region.ready md ops listed).contains i && Region.free md ops listed i && decide (i < n) && decide (i ≠ c) && Region.treeB md ops n c g rest (listed.setIfInBounds i true)
  | .one i 1 rest, listed => (Region.ready md ops listed).contains i && Region.free md ops listed i && decide (i < n) && decide (i ≠ c) && Region.anc md ops c 6 i && Region.treeB md ops n c g rest (listed.setIfInBounds i true)
  | .one i 2 rest, listed => decide (Region.ready md ops listed = [i]) && decide (i < n) && Region.treeB md ops n c g rest (listed.setIfInBounds i true)
  | .one i _ rest, listed => decide (Region.ready md ops listed = [i]) && decide (i < n) && (listed.setIfInBounds i true).getD c false && Region.treeB md ops n c g rest (listed.setIfInBounds i true)
  | .fork m r s, listed => (decide (Region.ready md ops listed = [c, m]) || decide (Region.ready md ops listed = [m, c])) && decide (m < n) && decide (c < n) && decide (r.size = s.size) && (listed.setIfInBounds c true).getD c false && Region.treeB md ops n c g r (listed.setIfInBounds m true) && Region.treeB md ops n c g s (listed.setIfInBounds c true)
theorem wpAnyT_tree {n c g : Nat} {R : Act → World → Prop} (hsel : Region.noSelect ops = true) (hQ : ∀ c (a : Act) (d : Option Tmp) (v : Value) w, Q (.panic c) (a.put d v) w → Q (.panic c) a w)
    (hn : n = ops.size) :
    ∀ (l : OrdT) (listed : Array Bool) (a : Act) (w : World), HeadInv md ops n listed → Before c S listed w →
    Region.treeB md ops n c g l listed = true → wpTree P ops Q S c R l a w →
    wpAnyT P md ops Q S n c (fun listed' a' w' => Region.seqB md ops g n listed' = true ∧ R a' w') l.size listed a w
  | .nil, listed, a, w, inv, hS, hB, h => ⟨hB, h⟩
  | .one i 0 l, listed, a, w, inv, hS, hB, h => by
    simp only [Region.treeB, Bool.and_eq_true, decide_eq_true_eq] at hB
    obtain ⟨⟨⟨⟨hr, hf⟩, hin⟩, hic⟩, hB'⟩ := hB
    have hr' : i ∈ Region.ready md ops listed := by simpa using hr
    obtain ⟨oi, v, h0, hy, hK⟩ := h
    exact wpAnyT_firstW h0 (Region.noSelect_spec hsel) hQ hn hin hic (fun _ _ _ _ _ => trivial) (fun listed' a' w' hL => seqB_ready hL.1) l.size listed a w inv (Region.free_spec h0 hf) hr' hy hS
      (wpAnyT_tree hsel hQ hn l _ _ _ (inv.set hr' hin) (fun h => hS (set_other h)) hB' hK)
  | .one i 1 l, listed, a, w, inv, hS, hB, h => by
    simp only [Region.treeB, Bool.and_eq_true, decide_eq_true_eq] at hB
    obtain ⟨⟨⟨⟨⟨hr, hf⟩, hin⟩, hic⟩, hanc⟩, hB'⟩ := hB
    have hr' : i ∈ Region.ready md ops listed := by simpa using hr
    obtain ⟨oi, v, h0, hy, hK⟩ := h
    exact wpAnyT_firstW h0 (Region.noSelect_spec hsel) hQ hn hin hic (fun listed w inv hun hb => hb (by
        cases hl : listed.getD c false with
        | false => rfl
        | true => have := anc_listed inv 6 i hanc hl; rw [getD_both hun] at this; cases this)) (fun listed' a' w' hL => seqB_ready hL.1) l.size listed a w inv (Region.free_spec h0 hf) hr' hy hS
      (wpAnyT_tree hsel hQ hn l _ _ _ (inv.set hr' hin) (fun h => hS (set_other h)) hB' hK)
  | .one i 2 l, listed, a, w, inv, hS, hB, h => by
    simp only [Region.treeB, Bool.and_eq_true, decide_eq_true_eq] at hB
    obtain ⟨⟨hr, hin⟩, hB'⟩ := hB
    refine ⟨fun h0 => (by rw [hr] at h0; cases h0), fun j hj => ?_⟩
    have hj' := hj
    rw [hr] at hj
    have hji : j = i := by simpa using hj
    subst hji
    have h1 : wpOp P ops Q j (fun a' w' => S w' ∧ wpTree P ops Q S c R l a' w') a w := h
    exact ⟨hin, wpOp_mono (fun a' w' h2 => ⟨fun _ => h2.1, wpAnyT_tree hsel hQ hn l _ _ _ (inv.set hj' hin) (fun _ => h2.1) hB' h2.2⟩) h1⟩
  | .one i (k + 3) l, listed, a, w, inv, hS, hB, h => by
    simp only [Region.treeB, Bool.and_eq_true, decide_eq_true_eq] at hB
    obtain ⟨⟨⟨hr, hin⟩, hcl⟩, hB'⟩ := hB
    refine ⟨fun h0 => (by rw [hr] at h0; cases h0), fun j hj => ?_⟩
    have hj' := hj
    rw [hr] at hj
    have hji : j = i := by simpa using hj
    subst hji
    have h1 : wpOp P ops Q j (fun a' w' => wpTree P ops Q S c R l a' w') a w := h
    have hno : ∀ w', Before c S (listed.setIfInBounds j true) w' := fun w' h => by rw [hcl] at h; cases h
    exact ⟨hin, wpOp_mono (fun a' w' h2 => ⟨hno w', wpAnyT_tree hsel hQ hn l _ _ _ (inv.set hj' hin) (hno w') hB' h2⟩) h1⟩
  | .fork m r s, listed, a, w, inv, hS, hB, h => by
    simp only [Region.treeB, Bool.and_eq_true, Bool.or_eq_true, decide_eq_true_eq] at hB
    obtain ⟨⟨⟨⟨⟨⟨hr, hmn⟩, hcn⟩, hsz⟩, hcl⟩, hB1⟩, hB2⟩ := hB
    obtain ⟨h1, h2⟩ := h
    have hno : ∀ w', Before c S (listed.setIfInBounds c true) w' := fun w' h => by rw [hcl] at h; cases h
    refine ⟨fun h0 => (by rcases hr with hr | hr <;> (rw [hr] at h0; cases h0)), fun j hj => ?_⟩
    have hj' := hj
    have hji : j = m ∨ j = c := by
      rcases hr with hr | hr <;> (rw [hr] at hj; simp at hj)
      · exact hj.symm
      · exact hj
    rcases hji with rfl | rfl
    · exact ⟨hmn, wpOp_mono (fun a' w' h3 => ⟨fun _ => h3.1, wpAnyT_tree hsel hQ hn r _ _ _ (inv.set hj' hmn) (fun _ => h3.1) hB1 h3.2⟩) h1⟩
    · refine ⟨hcn, wpOp_mono (fun a' w' h3 => ⟨hno w', ?_⟩) h2⟩
      have := wpAnyT_tree hsel hQ hn s _ _ _ (inv.set hj' hcn) (hno w') hB2 h3
      rwa [← hsz] at this
def Region.regTB (md : Region.Mode) (ops : Array Oper) (n c : Nat) (ord : OrdT) : Bool :=
  Region.noSelect ops && decide (n = ops.size) && decide (ord.size = n) && Region.treeB md ops n c 0 ord (Array.replicate ops.size false)
theorem wp_region_tree {id : Nat} {a : Act} {w : World} {l : List Oper} (n c : Nat) (ord : OrdT) (S : World → Prop) (hm : P.follows .mixedOrders = true) (hB : Region.regTB .any l.toArray n c ord = true) (hS : S w.drew)
    (hQ : ∀ c (a : Act) (d : Option Tmp) (v : Value) w, Q (.panic c) (a.put d v) w → Q (.panic c) a w)
    (h : wpTree P l.toArray Q S c (fun a' w' => Q .normal a' w') ord a w.drew) : (Code.region id l.toArray true).wp P Q a w := by
  simp only [Region.regTB, Bool.and_eq_true, decide_eq_true_eq] at hB
  obtain ⟨⟨⟨hsel, hn⟩, hol⟩, hlex⟩ := hB
  have inv0 : HeadInv .any l.toArray n (Array.replicate l.toArray.size false) :=
    ⟨by simp, fun j oj _ hl => (by rw [getD_replicate_false] at hl; cases hl), fun t _ ht => getD_in (by simpa using ht) (getD_replicate_false _ _)⟩
  have H := wpAnyT_tree (md := .any) (g := 0) hsel hQ hn ord _ a _ inv0 (fun _ => hS) hlex h
  refine wp_region_any hm ?_
  have := wpAny_of_T (g := 0) (fun listed a' w' hL => by
    have hr : Region.ready .any l.toArray listed = [] := by simpa [Region.seqB] using hL.1
    exact wpAny_done (P := P) (Q := Q) hr hL.2 0) _ _ _ _ H
  rwa [Nat.add_zero, hol, hn] at this
theorem wpTree_read0 {c : Nat} {R : Act → World → Prop} {i : Nat} {rest : OrdT} {a : Act} {w : World} {oi : Oper} (v : Value) (hi : ops[i]? = some oi) (hw : Region.wanted oi (yielded ops a.tmps) = true) (hy : ∀ w, (execOp a.eval oi).run P w = .ok (.value v) w)
    (h : ∀ K : Act → World → Prop, (∀ a w, wpTree P ops Q S c R rest a w → K a w) → K (a.put oi.dst v) w) : wpTree P ops Q S c R (.one i 0 rest) a w :=
  ⟨oi, v, hi, .inl ⟨hw, fun w _ => hy w⟩, h _ (fun _ _ h => h)⟩
theorem wpTree_read1 {c : Nat} {R : Act → World → Prop} {i : Nat} {rest : OrdT} {a : Act} {w : World} {oi : Oper} (v : Value) (hi : ops[i]? = some oi) (hw : Region.wanted oi (yielded ops a.tmps) = true) (hy : ∀ w, S w → (execOp a.eval oi).run P w = .ok (.value v) w)
    (h : ∀ K : Act → World → Prop, (∀ a w, wpTree P ops Q S c R rest a w → K a w) → K (a.put oi.dst v) w) : wpTree P ops Q S c R (.one i 1 rest) a w :=
  ⟨oi, v, hi, .inl ⟨hw, hy⟩, h _ (fun _ _ h => h)⟩
theorem wpTree_eff2 {c : Nat} {R : Act → World → Prop} {i : Nat} {rest : OrdT} {a : Act} {w : World} {oi : Oper} (hi : ops[i]? = some oi) (hw : Region.wanted oi (yielded ops a.tmps) = true)
    (h : ∀ K : Act → World → Prop, (∀ a w, S w → wpTree P ops Q S c R rest a w → K a w) → oi.wp P a w K Q) : wpTree P ops Q S c R (.one i 2 rest) a w := by
  show wpOp P ops Q i _ a w
  unfold wpOp
  simp only [hi, hw, if_true]
  exact .inl (h _ (fun _ _ h1 h2 => ⟨h1, h2⟩))
theorem wpTree_eff3 {c : Nat} {R : Act → World → Prop} {i : Nat} {rest : OrdT} {a : Act} {w : World} {oi : Oper} (hi : ops[i]? = some oi) (hw : Region.wanted oi (yielded ops a.tmps) = true)
    (h : ∀ K : Act → World → Prop, (∀ a w, wpTree P ops Q S c R rest a w → K a w) → oi.wp P a w K Q) : wpTree P ops Q S c R (.one i 3 rest) a w := by
  show wpOp P ops Q i _ a w
  unfold wpOp
  simp only [hi, hw, if_true]
  exact .inl (h _ (fun _ _ h => h))
theorem wpTree_fork {c m : Nat} {R : Act → World → Prop} {r s : OrdT} {a : Act} {w : World} {om oc : Oper} (hm : ops[m]? = some om) (hc : ops[c]? = some oc)
    (hwm : Region.wanted om (yielded ops a.tmps) = true) (hwc : Region.wanted oc (yielded ops a.tmps) = true)
    (h1 : ∀ K : Act → World → Prop, (∀ a w, S w → wpTree P ops Q S c R r a w → K a w) → om.wp P a w K Q)
    (h2 : ∀ K : Act → World → Prop, (∀ a w, wpTree P ops Q S c R s a w → K a w) → oc.wp P a w K Q) : wpTree P ops Q S c R (.fork m r s) a w := by
  refine ⟨?_, ?_⟩
  · show wpOp P ops Q m _ a w
    unfold wpOp
    simp only [hm, hwm, if_true]
    exact .inl (h1 _ (fun _ _ h1 h2 => ⟨h1, h2⟩))
  · show wpOp P ops Q c _ a w
    unfold wpOp
    simp only [hc, hwc, if_true]
    exact .inl (h2 _ (fun _ _ h => h))
theorem wpTree_nil {c : Nat} {R : Act → World → Prop} {a : Act} {w : World} (h : R a w) : wpTree P ops Q S c R .nil a w := h
end
end Go.Proofs.Ytpcjmceakelilaa
