/- A drawn region whose reads yield the same in every world that meets S, then one effect, then reads and effects in a given order. -/
import Derived.Test.YtegljepgncicjaaBu9b
namespace Go.Proofs.Ytegljepgncicjaa
open Go.ChangeShapes Go.WideShapes Go.ChangeAt Go.RowKit Go.Deep
set_option linter.unusedVariables false
set_option linter.unusedSimpArgs false
section
variable {P : Program} {ops : Array Oper} {md : Region.Mode} {Q : Exit → Act → World → Prop} {S : World → Prop}
theorem wpAnyT_firstW {n c i : Nat} {oi : Oper} {v : Value} {Sx : World → Prop} {L : Array Bool → Act → World → Prop} (hi : ops[i]? = some oi) (hsel : ∀ (j : Nat) (o : Oper) cs b, ops[j]? = some o → o.op ≠ .select cs b)
    (hQ : ∀ c (a : Act) (d : Option Tmp) (v : Value) w, Q (.panic c) (a.put d v) w → Q (.panic c) a w)
    (hn : n = ops.size) (hin : i < n) (hic : i ≠ c)
    (hSx : ∀ listed w, HeadInv md ops n listed → listed.getD i true = false → Before c S listed w → Sx w)
    (hdone : ∀ listed a w, L listed a w → ∀ j ∈ Region.ready md ops listed, n ≤ j) :
    ∀ (f : Nat) (listed : Array Bool) (a : Act) (w : World), HeadInv md ops n listed →
      (∀ j oj, ops[j]? = some oj → j ≠ i → listed.getD j true = false → (∀ e ∈ oj.after, Region.binds md e = true → e.on ≠ i) → oi.apart ops oj = true) →
      i ∈ Region.ready md ops listed → YieldsIf P ops Sx oi v a → Before c S listed w →
      wpAnyT P md ops Q S n c L f (listed.setIfInBounds i true) (a.put oi.dst v) w → wpAnyT P md ops Q S n c L (f + 1) listed a w := by
  intro f
  induction f with
  | zero =>
    intro listed a w inv _ hr hy hS H
    have hun := (mem_ready.1 hr).1
    refine ⟨fun h => (by rw [h] at hr; cases hr), fun j hj => ?_⟩
    have hjn : j < n := by
      obtain ⟨_, oj, hoj, _⟩ := mem_ready.1 hj
      have := (Array.getElem?_eq_some_iff.1 hoj).1
      omega
    refine ⟨hjn, ?_⟩
    by_cases hji : j = i
    · subst hji; exact hy.wpOp hi (hSx _ _ inv hun hS) ⟨fun h => hS (set_other h), H⟩
    · have := hdone _ _ _ H j (ready_mono hj hji)
      omega
  | succ f ih =>
    intro listed a w inv hfree hr hy hS H
    have hun := (mem_ready.1 hr).1
    refine ⟨fun h => (by rw [h] at hr; cases hr), fun j hj => ?_⟩
    have hjn : j < n := by
      obtain ⟨_, oj, hoj, _⟩ := mem_ready.1 hj
      have := (Array.getElem?_eq_some_iff.1 hoj).1
      omega
    refine ⟨hjn, ?_⟩
    by_cases hji : j = i
    · subst hji; exact hy.wpOp hi (hSx _ _ inv hun hS) ⟨fun h => hS (set_other h), H⟩
    · have h1 := (H.2 j (ready_mono hj hji)).2
      obtain ⟨hjun, oj, hoj, hall⟩ := mem_ready.1 hj
      have hnot : ∀ e ∈ oj.after, Region.binds md e = true → e.on ≠ i := fun e he hb heq => by
        have h1 := hall e he hb
        rw [heq, getD_both hun] at h1
        cases h1
      have h2 := wpOp_putIf hoj (hfree j oj hoj hji hjun hnot) (fun cs b => hsel i oi cs b hi) (fun cs b => hsel j oj cs b hoj) (fun c a w => hQ c a _ _ w) hy h1
      have hfree' : ∀ k ok, ops[k]? = some ok → k ≠ i → (listed.setIfInBounds j true).getD k true = false →
          (∀ e ∈ ok.after, Region.binds md e = true → e.on ≠ i) → oi.apart ops ok = true := fun k ok hk hki hun hno => by
        refine hfree k ok hk hki ?_ hno
        by_cases hjk : j = k
        · subst hjk; exact hjun
        · rw [getD_set_ne true hjk] at hun; exact hun
      refine wpOp_mono (fun a' w' h3 => ?_) h2
      obtain ⟨hy3, hS3, h3⟩ := h3
      rw [Array.setIfInBounds_comm _ _ (Ne.symm hji)] at hS3 h3
      have hS4 : Before c S (listed.setIfInBounds j true) w' := fun h => by
        refine hS3 ?_
        rw [getD_set_ne false hic]; exact h
      exact ⟨hS4, ih (listed.setIfInBounds j true) a' w' (inv.set hj hjn) hfree' (ready_mono hr (Ne.symm hji)) hy3 hS4 h3⟩
def Region.regWB (md : Region.Mode) (ops : Array Oper) (n c : Nat) (ord : List (Nat × Nat)) : Bool :=
  Region.noSelect ops && decide (n = ops.size) && decide (ord.length = n) && Region.ordB md ops n c 0 ord (Array.replicate ops.size false)
theorem wpAnyT_ordW {n c g : Nat} {R : Act → World → Prop} (hsel : Region.noSelect ops = true) (hQ : ∀ c (a : Act) (d : Option Tmp) (v : Value) w, Q (.panic c) (a.put d v) w → Q (.panic c) a w)
    (hn : n = ops.size) :
    ∀ (l : List (Nat × Nat)) (listed : Array Bool) (a : Act) (w : World), HeadInv md ops n listed → Before c S listed w →
    Region.ordB md ops n c g l listed = true → wpOrd P ops Q S R l a w →
    wpAnyT P md ops Q S n c (fun listed' a' w' => Region.seqB md ops g n listed' = true ∧ R a' w') l.length listed a w
  | [], listed, a, w, inv, hS, hB, h => ⟨hB, h⟩
  | (i, 0) :: l, listed, a, w, inv, hS, hB, h => by
    simp only [Region.ordB, Bool.and_eq_true, decide_eq_true_eq] at hB
    obtain ⟨⟨⟨⟨hr, hf⟩, hin⟩, hic⟩, hB'⟩ := hB
    have hr' : i ∈ Region.ready md ops listed := by simpa using hr
    obtain ⟨oi, v, h0, hy, hK⟩ := h
    exact wpAnyT_firstW h0 (Region.noSelect_spec hsel) hQ hn hin hic (fun _ _ _ _ _ => trivial) (fun listed' a' w' hL => seqB_ready hL.1) l.length listed a w inv (Region.free_spec h0 hf) hr' hy hS
      (wpAnyT_ordW hsel hQ hn l _ _ _ (inv.set hr' hin) (fun h => hS (set_other h)) hB' hK)
  | (i, 1) :: l, listed, a, w, inv, hS, hB, h => by
    simp only [Region.ordB, Bool.and_eq_true, decide_eq_true_eq] at hB
    obtain ⟨⟨⟨⟨⟨hr, hf⟩, hin⟩, hic⟩, hanc⟩, hB'⟩ := hB
    have hr' : i ∈ Region.ready md ops listed := by simpa using hr
    obtain ⟨oi, v, h0, hy, hK⟩ := h
    exact wpAnyT_firstW h0 (Region.noSelect_spec hsel) hQ hn hin hic (fun listed w inv hun hb => hb (by
        cases hl : listed.getD c false with
        | false => rfl
        | true => have := anc_listed inv 6 i hanc hl; rw [getD_both hun] at this; cases this)) (fun listed' a' w' hL => seqB_ready hL.1) l.length listed a w inv (Region.free_spec h0 hf) hr' hy hS
      (wpAnyT_ordW hsel hQ hn l _ _ _ (inv.set hr' hin) (fun h => hS (set_other h)) hB' hK)
  | (i, 2) :: l, listed, a, w, inv, hS, hB, h => by
    simp only [Region.ordB, Bool.and_eq_true, decide_eq_true_eq] at hB
    obtain ⟨⟨hr, hin⟩, hB'⟩ := hB
    refine ⟨fun h0 => (by rw [hr] at h0; cases h0), fun j hj => ?_⟩
    have hj' := hj
    rw [hr] at hj
    have hji : j = i := by simpa using hj
    subst hji
    have h1 : wpOp P ops Q j (fun a' w' => S w' ∧ wpOrd P ops Q S R l a' w') a w := h
    exact ⟨hin, wpOp_mono (fun a' w' h2 => ⟨fun _ => h2.1, wpAnyT_ordW hsel hQ hn l _ _ _ (inv.set hj' hin) (fun _ => h2.1) hB' h2.2⟩) h1⟩
  | (i, k + 3) :: l, listed, a, w, inv, hS, hB, h => by
    simp only [Region.ordB, Bool.and_eq_true, decide_eq_true_eq] at hB
    obtain ⟨⟨⟨hr, hin⟩, hcl⟩, hB'⟩ := hB
    refine ⟨fun h0 => (by rw [hr] at h0; cases h0), fun j hj => ?_⟩
    have hj' := hj
    rw [hr] at hj
    have hji : j = i := by simpa using hj
    subst hji
    have h1 : wpOp P ops Q j (fun a' w' => wpOrd P ops Q S R l a' w') a w := h
    have hno : ∀ w', Before c S (listed.setIfInBounds j true) w' := fun w' h => by rw [hcl] at h; cases h
    exact ⟨hin, wpOp_mono (fun a' w' h2 => ⟨hno w', wpAnyT_ordW hsel hQ hn l _ _ _ (inv.set hj' hin) (hno w') hB' h2⟩) h1⟩
theorem wp_region_ordW {id : Nat} {a : Act} {w : World} {l : List Oper} (n c : Nat) (ord : List (Nat × Nat)) (S : World → Prop) (hm : P.follows .mixedOrders = true) (hB : Region.regWB .any l.toArray n c ord = true) (hS : S w.drew)
    (hQ : ∀ c (a : Act) (d : Option Tmp) (v : Value) w, Q (.panic c) (a.put d v) w → Q (.panic c) a w)
    (h : wpOrd P l.toArray Q S (fun a' w' => Q .normal a' w') ord a w.drew) : (Code.region id l.toArray true).wp P Q a w := by
  simp only [Region.regWB, Bool.and_eq_true, decide_eq_true_eq] at hB
  obtain ⟨⟨⟨hsel, hn⟩, hol⟩, hlex⟩ := hB
  have inv0 : HeadInv .any l.toArray n (Array.replicate l.toArray.size false) :=
    ⟨by simp, fun j oj _ hl => (by rw [getD_replicate_false] at hl; cases hl), fun t _ ht => getD_in (by simpa using ht) (getD_replicate_false _ _)⟩
  have H := wpAnyT_ordW (md := .any) (g := 0) hsel hQ hn ord _ a _ inv0 (fun _ => hS) hlex h
  refine wp_region_any hm ?_
  have := wpAny_of_T (g := 0) (fun listed a' w' hL => by
    have hr : Region.ready .any l.toArray listed = [] := by simpa [Region.seqB] using hL.1
    exact wpAny_done (P := P) (Q := Q) hr hL.2 0) _ _ _ _ H
  rwa [Nat.add_zero, hol, hn] at this
end
end Go.Proofs.Ytegljepgncicjaa
