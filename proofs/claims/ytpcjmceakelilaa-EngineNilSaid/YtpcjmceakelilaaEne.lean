/- Mvcc: what a call does to what the keys hold (plain). -/
import Derived.Test.YtpcjmceakelilaaEnd
namespace Go.Proofs.Ytpcjmceakelilaa
open Go.ChangeShapes Go.WideShapes Go.ChangeAt Go.RowKit Go.Deep Go.ChangeMaps Go.Shelf Go.Sort
set_option linter.unusedVariables false
set_option linter.unusedSimpArgs false
theorem sum_sub (f : Bs → Nat) : ∀ (l l' : List Bs), l.Nodup → (∀ x ∈ l, f x ≠ 0 → x ∈ l') → (l.map f).sum ≤ (l'.map f).sum
  | [], _, _, _ => Nat.zero_le _
  | a :: l, l', hn, h => by
    obtain ⟨h1, h2⟩ := List.nodup_cons.1 hn
    by_cases h0 : f a = 0
    · have := sum_sub f l l' h2 (fun x hx => h x (List.mem_cons_of_mem _ hx))
      simpa [h0] using this
    · have ha := h a (List.mem_cons_self ..) h0
      obtain ⟨u, v, rfl⟩ := List.append_of_mem ha
      have := sum_sub f l (u ++ v) h2 (fun x hx hx0 => by
        have h3 := h x (List.mem_cons_of_mem _ hx) hx0
        rcases List.mem_append.1 h3 with h3 | h3
        · exact List.mem_append_left _ h3
        · rcases List.mem_cons.1 h3 with h3 | h3
          · exact absurd (by rw [← h3]; exact hx) h1
          · exact List.mem_append_right _ h3)
      simp only [List.map_cons, List.sum_cons, List.map_append, List.sum_append] at this ⊢
      omega
theorem sum_add (f g : Bs → Nat) : ∀ l : List Bs, (l.map fun x => f x + g x).sum = (l.map f).sum + (l.map g).sum
  | [] => rfl
  | a :: l => by simp only [List.map_cons, List.sum_cons, sum_add f g l]; omega
theorem sum_mono (f g : Bs → Nat) (h : ∀ x, f x ≤ g x) : ∀ l : List Bs, (l.map f).sum ≤ (l.map g).sum
  | [] => Nat.le_refl _
  | a :: l => by have := sum_mono f g h l; have := h a; simp only [List.map_cons, List.sum_cons]; omega
theorem sum_ind (k : Bs) : ∀ l : List Bs, l.Nodup → (l.map fun x => if x = k then 1 else 0).sum ≤ 1
  | [], _ => Nat.zero_le _
  | a :: l, hn => by
    obtain ⟨h1, h2⟩ := List.nodup_cons.1 hn
    by_cases h : a = k
    · have : (l.map fun x => if x = k then 1 else 0).sum ≤ (([] : List Bs).map fun x => if x = k then 1 else 0).sum := sum_sub _ l [] h2 (fun x hx hx0 => by
        by_cases e : x = k
        · exact absurd (by rw [h, ← e]; exact hx) h1
        · rw [if_neg e] at hx0; exact absurd rfl hx0)
      simp only [List.map_cons, List.sum_cons, if_pos h, List.map_nil, List.sum_nil] at this ⊢
      omega
    · have := sum_ind k l h2
      simp only [List.map_cons, List.sum_cons, if_neg h] at this ⊢
      omega
theorem total_keys {E : List En} (g : Gd E) : total E = ((E.map (·.key)).map fun k => (lkL E k).length).sum := by
  unfold total
  rw [List.map_map]
  congr 1
  refine List.map_congr_left fun e he => ?_
  show e.vs.length = (lkL E e.key).length
  rw [lkL_of g.keys he]
theorem total_le {E E' : List En} (g : Gd E) (g' : Gd E') (k0 : Bs) (h : ∀ k, (lkL E' k).length ≤ (lkL E k).length + if k = k0 then 1 else 0) : total E' ≤ total E + 1 := by
  rw [total_keys g, total_keys g']
  have h1 := sum_mono _ _ h (E'.map (·.key))
  rw [sum_add (fun k => (lkL E k).length) (fun k => if k = k0 then 1 else 0)] at h1
  have h2 := sum_ind k0 (E'.map (·.key)) g'.keys
  have h3 := sum_sub (fun k => (lkL E k).length) (E'.map (·.key)) (E.map (·.key)) g'.keys (fun x _ hx => (mem_keys g x).2 (fun e => hx (by show (lkL E x).length = 0; rw [e]; rfl)))
  omega
theorem le_total {E : List En} {e : En} (he : e ∈ E) : e.vs.length ≤ total E := by
  unfold total
  obtain ⟨a, b, rfl⟩ := List.append_of_mem he
  simp only [List.map_append, List.map_cons, List.sum_append, List.sum_cons]
  omega
theorem lk_total (E : List En) (k : Bs) : (lkL E k).length ≤ total E := by
  by_cases h : lkL E k = []
  · rw [h]; exact Nat.zero_le _
  · obtain ⟨e, he, _, hv⟩ := lkL_some h
    rw [← hv]; exact le_total he
theorem len_total : ∀ {E : List En}, (∀ e ∈ E, e.vs ≠ []) → E.length ≤ total E
  | [], _ => Nat.zero_le _
  | e :: E, h => by
    have h1 := len_total (E := E) (fun x hx => h x (List.mem_cons_of_mem _ hx))
    have h2 : 0 < e.vs.length := List.length_pos_iff.2 (h e (List.mem_cons_self ..))
    unfold total at h1 ⊢
    simp only [List.map_cons, List.sum_cons, List.length_cons]
    omega
/-- a call -/
structure Opv where
  kind : Int
  key : Bs
  value : Bs
  stamp : Int
  back : Bool
/-- whether a time serves for a key -/
def okT (L : List Ver) (s : Int) : Prop := ¬ s < 1 ∧ ¬ 1099511627776 < s ∧ ¬ s ≤ lastT L
instance (L : List Ver) (s : Int) : Decidable (okT L s) := by unfold okT; exact inferInstance
def addA (A : Bs → List Ver) (k : Bs) (x : Ver) : Bs → List Ver := if okT (A k) x.1 then fun k' => if k' = k then A k ++ [x] else A k' else A
def stepA (A : Bs → List Ver) (x : Opv) : Bs → List Ver :=
  if x.kind = 1 then addA A x.key (x.stamp, x.value, false)
  else if x.kind = 2 then addA A x.key (x.stamp, ⟨#[]⟩, true)
  else if x.kind = 5 then fun k => rollF x.stamp (A k)
  else if x.kind = 6 then fun k => pruneF x.stamp (A k)
  else A
def runA (A : Bs → List Ver) (l : List Opv) : Bs → List Ver := l.foldl stepA A
theorem roll_len (t : Int) (L : List Ver) : (rollF t L).length ≤ L.length := by unfold rollF; rw [List.length_take]; omega
theorem prune_len (t : Int) (L : List Ver) : (pruneF t L).length ≤ L.length := by unfold pruneF; rw [List.length_drop]; omega
theorem addA_len (A : Bs → List Ver) (k : Bs) (x : Ver) (k' : Bs) : (addA A k x k').length ≤ (A k').length + if k' = k then 1 else 0 := by
  unfold addA
  split
  · by_cases h : k' = k
    · subst h; simp
    · simp [h]
  · omega
theorem stepA_len (A : Bs → List Ver) (x : Opv) (k : Bs) : (stepA A x k).length ≤ (A k).length + if k = x.key then 1 else 0 := by
  unfold stepA
  split
  · exact addA_len A x.key _ k
  · split
    · exact addA_len A x.key _ k
    · split
      · exact Nat.le_trans (roll_len _ _) (by omega)
      · split
        · exact Nat.le_trans (prune_len _ _) (by omega)
        · omega
theorem roll_nil (t : Int) : rollF t [] = [] := by simp [rollF]
theorem prune_nil (t : Int) : pruneF t [] = [] := by simp [pruneF]
end Go.Proofs.Ytpcjmceakelilaa
