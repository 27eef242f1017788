/- Mvcc: a store is known by what its keys hold (plain). -/
import Derived.Test.YtpcjmceakelilaaEnc
namespace Go.Proofs.Ytpcjmceakelilaa
open Go.ChangeShapes Go.WideShapes Go.ChangeAt Go.RowKit Go.Deep Go.ChangeMaps Go.Shelf Go.Sort
set_option linter.unusedVariables false
set_option linter.unusedSimpArgs false
structure Gd (E : List En) : Prop where
  keys : (E.map (·.key)).Nodup
  ne : ∀ e ∈ E, e.vs ≠ []
theorem Sto.gd {B S m clock : Nat} {W : World} {E : List En} (h : Sto B W S m E clock) : Gd E := ⟨h.ok.keys, fun e he => (h.rows e he).2.1⟩
theorem lkL_of {E : List En} (hn : (E.map (·.key)).Nodup) {e : En} (he : e ∈ E) : lkL E e.key = e.vs := by unfold lkL; rw [lkE_of_mem hn he]
theorem lkL_absent {E : List En} {k : Bs} (h : ∀ e ∈ E, e.key ≠ k) : lkL E k = [] := by
  unfold lkL
  cases hl : lkE E k with
  | none => rfl
  | some x => exact absurd (lkE_mem hl).2 (h _ (lkE_mem hl).1)
theorem lkL_some {E : List En} {k : Bs} (h : lkL E k ≠ []) : ∃ e ∈ E, e.key = k ∧ e.vs = lkL E k := by
  unfold lkL at h ⊢
  cases hl : lkE E k with
  | none => rw [hl] at h; exact absurd rfl h
  | some x => exact ⟨x, (lkE_mem hl).1, (lkE_mem hl).2, rfl⟩
theorem mem_keys {E : List En} (g : Gd E) (k : Bs) : k ∈ E.map (·.key) ↔ lkL E k ≠ [] := by
  constructor
  · intro h
    obtain ⟨e, he, rfl⟩ := List.mem_map.1 h
    rw [lkL_of g.keys he]
    exact g.ne e he
  · intro h
    obtain ⟨e, he, hk, _⟩ := lkL_some h
    exact List.mem_map.2 ⟨e, he, hk⟩
theorem ord_same {E E' : List En} (g : Gd E) (g' : Gd E') (h : lkL E = lkL E') : ordE E = ordE E' := by
  unfold ordE
  refine sortB_congr ?_ g'.keys
  exact (List.perm_ext_iff_of_nodup g.keys g'.keys).2 fun k => by rw [mem_keys g, mem_keys g', h]
/-- what All yields -/
def vw (E : List En) : List (Bs × Ver) := allK E (ordE E)
theorem vw_same {E E' : List En} (g : Gd E) (g' : Gd E') (h : lkL E = lkL E') : vw E = vw E' := by
  unfold vw allK
  rw [ord_same g g' h, h]
/-- what Scan yields -/
theorem total_vw {E : List En} (g : Gd E) : total E = (vw E).length := by
  have h1 : total E = ((E.map (·.key)).flatMap fun k => (lkL E k).map fun x => (k, x)).length := by
    rw [List.length_flatMap, List.map_map]
    unfold total
    congr 1
    refine List.map_congr_left fun e he => ?_
    show e.vs.length = ((lkL E e.key).map _).length
    rw [lkL_of g.keys he, List.length_map]
  rw [h1]
  exact (List.Perm.flatMap_right _ (sortB_perm (E.map (·.key))).symm).length_eq
theorem total_same {E E' : List En} (g : Gd E) (g' : Gd E') (h : lkL E = lkL E') : total E = total E' := by rw [total_vw g, total_vw g', vw_same g g' h]
theorem swept_lk {E E' : List En} {f : List Ver → List Ver} {seen : Array Nat} (hs : Swp E E' f seen) (hall : ∀ e ∈ E, seen.contains e.born = true) (g : Gd E) (g' : Gd E') (f0 : f [] = []) : lkL E' = fun k => f (lkL E k) := by
  have hsw : ∀ e ∈ E, sw f seen e = f e.vs := fun e he => by unfold sw; rw [if_pos (hall e he)]
  funext k
  by_cases h : ∃ e ∈ E, e.key = k
  · obtain ⟨e, he, rfl⟩ := h
    rw [lkL_of g.keys he]
    by_cases hf : f e.vs = []
    · rw [hf]
      refine lkL_absent fun e' he' hk => ?_
      obtain ⟨e2, he2, h1, _, h3⟩ := hs.back e' he'
      have : e2 = e := nodup_inj g.keys he2 he (by rw [← h1, hk])
      subst this
      exact g'.ne e' he' (by rw [h3, hsw _ he2, hf])
    · obtain ⟨e', he', h1, _, h3⟩ := hs.forth e he (by rw [hsw e he]; exact hf)
      rw [← h1, lkL_of g'.keys he', h3, hsw e he]
  · have h' : ∀ e ∈ E, e.key ≠ k := fun e he hk => h ⟨e, he, hk⟩
    rw [lkL_absent h', f0]
    refine lkL_absent fun e' he' hk => ?_
    obtain ⟨e, he, h1, _⟩ := hs.back e' he'
    exact h' e he (by rw [← h1, hk])
theorem cpy_lk {E E' : List En} {seen : Array Nat} (hs : Cpy E E' seen) (hall : ∀ e ∈ E, seen.contains e.born = true) (g : Gd E) (g' : Gd E') : lkL E' = lkL E := by
  funext k
  by_cases h : ∃ e ∈ E, e.key = k
  · obtain ⟨e, he, rfl⟩ := h
    obtain ⟨e', he', h1, h2⟩ := hs.forth e he (hall e he)
    rw [lkL_of g.keys he, ← h1, lkL_of g'.keys he', h2]
  · have h' : ∀ e ∈ E, e.key ≠ k := fun e he hk => h ⟨e, he, hk⟩
    rw [lkL_absent h']
    refine lkL_absent fun e' he' hk => ?_
    obtain ⟨e, he, h1, _⟩ := hs.back e' he'
    exact h' e he (by rw [← h1, hk])
theorem mem_put_self (E : List En) (c : Nat) (k : Bs) (val : Value) (vs : List Ver) : ∃ e ∈ putE E c k val vs, e.key = k ∧ e.vs = vs := by
  unfold putE
  cases hl : lkE E k with
  | some x =>
    obtain ⟨h1, h2⟩ := lkE_mem hl
    exact ⟨_, List.mem_map.2 ⟨x, h1, rfl⟩, by rw [if_pos h2]; exact h2, by rw [if_pos h2]⟩
  | none => exact ⟨_, List.mem_append_right _ (List.mem_singleton.2 rfl), rfl, rfl⟩
theorem mem_put_other {E : List En} {c : Nat} {k : Bs} {val : Value} {vs : List Ver} {e : En} (he : e ∈ E) (hk : e.key ≠ k) : e ∈ putE E c k val vs := by
  unfold putE
  cases hl : lkE E k with
  | some x => exact List.mem_map.2 ⟨e, he, by rw [if_neg hk]⟩
  | none => exact List.mem_append_left _ he
theorem put_lk {E : List En} {c : Nat} (h : EnOK E c) (k : Bs) (val : Value) (vs : List Ver) : lkL (putE E c k val vs) = fun k' => if k' = k then vs else lkL E k' := by
  have hn := (h.put k val vs).keys
  funext k'
  by_cases hk : k' = k
  · subst hk
    obtain ⟨e, he, h1, h2⟩ := mem_put_self E c k' val vs
    have h3 := lkL_of hn he
    rw [h1] at h3
    rw [if_pos rfl, h3, h2]
  · rw [if_neg hk]
    by_cases he : ∃ e ∈ E, e.key = k'
    · obtain ⟨e, he, rfl⟩ := he
      rw [lkL_of h.keys he, lkL_of hn (mem_put_other he hk)]
    · rw [lkL_absent (fun e h1 h2 => he ⟨e, h1, h2⟩)]
      refine lkL_absent fun e h1 h2 => ?_
      rcases putE_mem h.keys h1 with ⟨h3, _⟩ | ⟨h3, _⟩
      · exact he ⟨e, h3, h2⟩
      · exact hk (by rw [← h2, h3])
end Go.Proofs.Ytpcjmceakelilaa
