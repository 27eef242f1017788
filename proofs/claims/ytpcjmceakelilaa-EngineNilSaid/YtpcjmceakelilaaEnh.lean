/- Mvcc: pruning (plain). -/
import Derived.Test.YtpcjmceakelilaaEng
namespace Go.Proofs.Ytpcjmceakelilaa
open Go.ChangeShapes Go.WideShapes Go.ChangeAt Go.RowKit Go.ChangeMaps Go.Deep Go.Shelf Go.Sort
set_option linter.unusedVariables false
set_option linter.unusedSimpArgs false
theorem inR_all (k : Bs) : inR ⟨#[]⟩ ⟨#[]⟩ k = true := by
  have e : (⟨#[]⟩ : Bs).toList = [] := by rw [ByteArray.toList_eq]
  unfold inR
  rw [e]
  cases k.toList <;> rfl
theorem scanT_all (E : List En) (back : Bool) : scanT E ⟨#[]⟩ ⟨#[]⟩ back = if back = true then (ordE E).reverse else ordE E := by
  unfold scanT
  rw [List.filter_eq_self.2 (fun k _ => inR_all k)]
theorem upto_drop : ∀ (L : List Ver) (n : Nat) (t : Int), n ≤ upto L t → upto (L.drop n) t = upto L t - n
  | [], n, t, h => by simp [upto]
  | a :: L, 0, t, h => by simp
  | a :: L, n + 1, t, h => by
    have e1 : upto (a :: L) t = if a.1 ≤ t then upto L t + 1 else 0 := rfl
    rw [e1] at h
    rw [e1, List.drop_succ_cons]
    by_cases ha : a.1 ≤ t
    · rw [if_pos ha] at h
      have := upto_drop L n t (by omega)
      rw [if_pos ha, this]
      omega
    · rw [if_neg ha] at h
      omega
theorem upto_mono : ∀ (L : List Ver) {s t : Int}, s ≤ t → upto L s ≤ upto L t
  | [], _, _, _ => Nat.le_refl _
  | a :: L, s, t, h => by
    show (if a.1 ≤ s then upto L s + 1 else 0) ≤ (if a.1 ≤ t then upto L t + 1 else 0)
    have := upto_mono L h
    by_cases h1 : a.1 ≤ s
    · rw [if_pos h1, if_pos (by omega)]; omega
    · rw [if_neg h1]; omega
theorem pn_upto (L : List Ver) (s : Int) : pn L s ≤ upto L s := by
  unfold pn
  split
  · split <;> omega
  · omega
/-- where all is pruned that is not after the time, the last one is a deletion -/
theorem pn_all {L : List Ver} {s : Int} (h : pn L s = upto L s) (h0 : upto L s ≠ 0) : ∃ x, L[upto L s - 1]? = some x ∧ x.2.2 = true := by
  unfold pn at h
  cases hx : L[upto L s - 1]? with
  | none => rw [hx] at h; exact absurd h.symm h0
  | some x =>
    rw [hx] at h
    refine ⟨x, rfl, ?_⟩
    by_cases hd : x.2.2 = true
    · exact hd
    · simp only [hd] at h
      simp at h
      omega
theorem valAt_zero {L : List Ver} {t : Int} (h : upto L t = 0) : valAt L t = none := by
  unfold valAt
  cases hx : L[upto L t - 1]? with
  | none => rfl
  | some x => simp [h]
theorem valAt_prune (L : List Ver) {s t : Int} (h : s ≤ t) : valAt (pruneF s L) t = valAt L t := by
  have h1 := pn_upto L s
  have h2 := upto_mono L h
  have hu : upto (pruneF s L) t = upto L t - pn L s := upto_drop L (pn L s) t (by omega)
  by_cases he : upto L t = pn L s
  · rw [valAt_zero (by omega)]
    by_cases h0 : upto L t = 0
    · rw [valAt_zero h0]
    · have e2 : upto L s = upto L t := by omega
      obtain ⟨x, hx, hd⟩ := pn_all (L := L) (s := s) (by omega) (by omega)
      unfold valAt
      rw [← e2, hx]
      simp [hd]
  · have hi : (pruneF s L)[upto (pruneF s L) t - 1]? = L[upto L t - 1]? := by
      rw [hu]
      unfold pruneF
      rw [List.getElem?_drop]
      congr 1
      omega
    unfold valAt
    rw [hi, hu]
    cases L[upto L t - 1]? with
    | none => rfl
    | some x => simp [show upto L t - pn L s ≠ 0 by omega, show upto L t ≠ 0 by omega]
theorem pn_prune (L : List Ver) (s : Int) : pn (pruneF s L) s = 0 := by
  have h1 := pn_upto L s
  have hu : upto (pruneF s L) s = upto L s - pn L s := upto_drop L (pn L s) s h1
  by_cases he : upto L s = pn L s
  · have := pn_upto (pruneF s L) s
    omega
  · have hi : (pruneF s L)[upto (pruneF s L) s - 1]? = L[upto L s - 1]? := by
      rw [hu]
      unfold pruneF
      rw [List.getElem?_drop]
      congr 1
      omega
    have hp : pn L s = match L[upto L s - 1]? with | some x => if x.2.2 = true then upto L s else upto L s - 1 | none => 0 := rfl
    show (match (pruneF s L)[upto (pruneF s L) s - 1]? with | some x => if x.2.2 = true then upto (pruneF s L) s else upto (pruneF s L) s - 1 | none => 0) = 0
    rw [hi, hu]
    cases hx : L[upto L s - 1]? with
    | none => rfl
    | some x =>
      rw [hx] at hp
      by_cases hd : x.2.2 = true
      · simp only [hd, if_true] at hp; omega
      · simp only [hd] at hp ⊢; simp at hp ⊢; omega
theorem ord_keys {E : List En} (g : Gd E) (k : Bs) : k ∈ ordE E ↔ lkL E k ≠ [] := by
  rw [(show (ordE E).Perm (E.map (fun e : En => e.key)) from sortB_perm _).mem_iff]
  exact mem_keys g k
theorem ord_srt {E : List En} (g : Gd E) : (ordE E).Pairwise fun a b => lB a b = true := sortB_srt g.keys
theorem ord_sweep {E E' : List En} {f : List Ver → List Ver} (g : Gd E) (g' : Gd E') (f0 : f [] = []) (h : lkL E' = fun k => f (lkL E k)) : ordE E' = (ordE E).filter fun k => !(f (lkL E k)).isEmpty := by
  refine ord_of g' _ (List.Pairwise.sublist List.filter_sublist (ord_srt g)) fun k => ?_
  rw [List.mem_filter, ord_keys g, h]
  constructor
  · rintro ⟨_, h2⟩ h3
    have h3 : f (lkL E k) = [] := h3
    simp [h3] at h2
  · intro h2
    have h2 : f (lkL E k) ≠ [] := h2
    refine ⟨fun e => h2 (by rw [e, f0]), ?_⟩
    cases hf : f (lkL E k) with
    | nil => exact absurd hf h2
    | cons a b => rfl
theorem sum_filter (f : Bs → Nat) (p : Bs → Bool) : ∀ l : List Bs, (∀ x ∈ l, p x = false → f x = 0) → ((l.filter p).map f).sum = (l.map f).sum
  | [], _ => rfl
  | a :: l, h => by
    have ih := sum_filter f p l (fun x hx => h x (List.mem_cons_of_mem _ hx))
    by_cases hp : p a = true
    · rw [List.filter_cons, if_pos hp, List.map_cons, List.map_cons, List.sum_cons, List.sum_cons, ih]
    · rw [List.filter_cons, if_neg hp, List.map_cons, List.sum_cons, ih, h a (List.mem_cons_self ..) (by simpa using hp), Nat.zero_add]
theorem total_sweep {E E' : List En} {f : List Ver → List Ver} (g : Gd E) (g' : Gd E') (f0 : f [] = []) (h : lkL E' = fun k => f (lkL E k)) : total E' = ((ordE E).map fun k => (f (lkL E k)).length).sum := by
  rw [show total E' = _ from sum_ord g' (fun L => L.length), ord_sweep g g' f0 h, h]
  refine sum_filter (fun k => (f (lkL E k)).length) _ _ fun x _ hx => ?_
  have : (f (lkL E x)).isEmpty = true := by simpa using hx
  show (f (lkL E x)).length = 0
  rw [List.isEmpty_iff.1 this]; rfl
theorem sum_part (f a b : Bs → Nat) (h : ∀ x, a x + b x = f x) : ∀ l : List Bs, (l.map a).sum + (l.map b).sum = (l.map f).sum
  | [] => rfl
  | x :: l => by have := sum_part f a b h l; have := h x; simp only [List.map_cons, List.sum_cons]; omega
theorem total_prune {E E' : List En} {s : Int} (g : Gd E) (g' : Gd E') (h : lkL E' = fun k => pruneF s (lkL E k)) : total E' + (E.map fun e => pn e.vs s).sum = total E := by
  rw [total_sweep g g' (prune_nil s) h, sum_ord g (fun L => pn L s), show total E = _ from sum_ord g (fun L => L.length)]
  refine sum_part _ _ _ (fun k => ?_) _
  show (pruneF s (lkL E k)).length + pn (lkL E k) s = (lkL E k).length
  have := pn_le (lkL E k) s
  unfold pruneF
  rw [List.length_drop]
  omega
theorem total_roll {E E' : List En} {s : Int} (g : Gd E) (g' : Gd E') (h : lkL E' = fun k => rollF s (lkL E k)) : total E' + (E.map fun e => e.vs.length - upto e.vs s).sum = total E := by
  rw [total_sweep g g' (roll_nil s) h, sum_ord g (fun L => L.length - upto L s), show total E = _ from sum_ord g (fun L => L.length)]
  refine sum_part _ _ _ (fun k => ?_) _
  show (rollF s (lkL E k)).length + ((lkL E k).length - upto (lkL E k) s) = (lkL E k).length
  have := upto_le (lkL E k) s
  unfold rollF
  rw [List.length_take]
  omega
theorem again_prune {E E' : List En} {s : Int} (g' : Gd E') (h : lkL E' = fun k => pruneF s (lkL E k)) : (E'.map fun e => pn e.vs s).sum = 0 := by
  rw [sum_ord g' (fun L => pn L s), h]
  have : ∀ l : List Bs, (l.map fun k => pn (pruneF s (lkL E k)) s).sum = 0 := fun l => by
    induction l with
    | nil => rfl
    | cons a l ih => simp only [List.map_cons, List.sum_cons, pn_prune, Nat.zero_add]; simpa [pn_prune] using ih
  exact this _
theorem filterMap_same {α β : Type} {f g : α → Option β} : ∀ (l : List α), (∀ x, f x = g x) → l.filterMap f = l.filterMap g := fun l h => by rw [show f = g from funext h]
theorem scan_prune {E E' : List En} {s t : Int} (g : Gd E) (g' : Gd E') (h : lkL E' = fun k => pruneF s (lkL E k)) (ht : s ≤ t) : scanK E' t (scanT E' ⟨#[]⟩ ⟨#[]⟩ false) = scanK E t (scanT E ⟨#[]⟩ ⟨#[]⟩ false) := by
  rw [scanT_all, scanT_all]
  simp only [Bool.false_eq_true, if_false]
  unfold scanK
  rw [ord_sweep g g' (prune_nil s) h, List.filterMap_filter, h]
  refine filterMap_same _ fun k => ?_
  show (if (!(pruneF s (lkL E k)).isEmpty) = true then (valAt (pruneF s (lkL E k)) t).map _ else none) = (valAt (lkL E k) t).map _
  by_cases he : pruneF s (lkL E k) = []
  · have hv := valAt_prune (lkL E k) ht
    rw [he] at hv
    rw [he, ← hv]
    simp [valAt, upto]
  · rw [valAt_prune _ ht, if_pos]
    cases hp : pruneF s (lkL E k) with
    | nil => exact absurd hp he
    | cons => rfl
theorem scan_len {E : List En} (g : Gd E) (t : Int) (lo hi : Bs) (back : Bool) : (scanK E t (scanT E lo hi back)).length ≤ E.length := by
  unfold scanK
  refine Nat.le_trans (List.length_filterMap_le _ _) ?_
  have h1 : ((ordE E).filter (inR lo hi)).length ≤ E.length := by
    refine Nat.le_trans (List.length_filter_le _ _) ?_
    rw [(show (ordE E).Perm (E.map (fun e : En => e.key)) from sortB_perm _).length_eq, List.length_map]
    exact Nat.le_refl _
  unfold scanT
  split
  · rw [List.length_reverse]; exact h1
  · exact h1
end Go.Proofs.Ytpcjmceakelilaa
