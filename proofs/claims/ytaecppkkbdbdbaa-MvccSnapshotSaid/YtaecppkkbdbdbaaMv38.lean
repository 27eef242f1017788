/- Mvcc: what is read at a time (plain). -/
import Derived.Test.YtaecppkkbdbdbaaMv34
namespace Go.Proofs.Ytaecppkkbdbdbaa
open Go.ChangeShapes Go.WideShapes Go.ChangeAt Go.RowKit Go.Deep Go.ChangeMaps Go.Shelf Go.Sort
set_option linter.unusedVariables false
set_option linter.unusedSimpArgs false
theorem upto_roll : ∀ (L : List Ver) (t : Int), upto (rollF t L) t = upto L t
  | [], _ => rfl
  | a :: L, t => by
    unfold rollF
    by_cases h : a.1 ≤ t
    · have e : upto (a :: L) t = upto L t + 1 := by show (if a.1 ≤ t then _ else _) = _; rw [if_pos h]
      rw [e, List.take_succ_cons]
      show (if a.1 ≤ t then upto (L.take (upto L t)) t + 1 else 0) = _
      rw [if_pos h]
      have := upto_roll L t
      unfold rollF at this
      rw [this]
    · have e : upto (a :: L) t = 0 := by show (if a.1 ≤ t then _ else _) = _; rw [if_neg h]
      rw [e]
      rfl
theorem valAt_roll (L : List Ver) (t : Int) : valAt (rollF t L) t = valAt L t := by
  unfold valAt
  rw [upto_roll]
  by_cases h : upto L t = 0
  · simp only [h, true_or, if_true]
    cases (rollF t L)[0 - 1]? <;> cases L[0 - 1]? <;> rfl
  · have e : (rollF t L)[upto L t - 1]? = L[upto L t - 1]? := by
      unfold rollF
      rw [List.getElem?_take, if_pos (by omega)]
    rw [e]
theorem valAt_same {L M : List Ver} {t : Int} (h : rollF t L = rollF t M) : valAt L t = valAt M t := by rw [← valAt_roll L, h, valAt_roll]
/-- pairs whose keys ascend -/
def SrtP (L : List (Bs × Bs)) : Prop := L.Pairwise fun a b => lB a.1 b.1 = true
theorem srtP_eq {L M : List (Bs × Bs)} (h1 : SrtP L) (h2 : SrtP M) (h : ∀ p, p ∈ L ↔ p ∈ M) : L = M := by
  have nd : ∀ {K : List (Bs × Bs)}, SrtP K → K.Nodup := fun hk => hk.imp fun {a b} h e => by subst e; rw [lB_irrefl] at h; cases h
  have hp : L.Perm M := (List.perm_ext_iff_of_nodup (nd h1) (nd h2)).2 h
  exact List.Perm.eq_of_pairwise (le := fun (a b : Bs × Bs) => lB a.1 b.1 = true) (fun x y _ _ h1 h2 => by rw [lB_asymm h1] at h2; cases h2) h1 h2 hp
theorem scanT_fwd (E : List En) (lo hi : Bs) : scanT E lo hi false = (ordE E).filter (inR lo hi) := rfl
theorem scanT_rev (E : List En) (lo hi : Bs) : scanT E lo hi true = (scanT E lo hi false).reverse := rfl
theorem scanK_rev (E : List En) (t : Int) (ts : List Bs) : scanK E t ts.reverse = (scanK E t ts).reverse := by
  unfold scanK
  rw [List.filterMap_reverse]
theorem scan_mem {E : List En} (g : Gd E) (t : Int) (lo hi : Bs) (p : Bs × Bs) : p ∈ scanK E t (scanT E lo hi false) ↔ inR lo hi p.1 = true ∧ valAt (lkL E p.1) t = some p.2 := by
  unfold scanK
  rw [List.mem_filterMap, scanT_fwd]
  constructor
  · rintro ⟨k, hk, h⟩
    obtain ⟨h1, h2⟩ := List.mem_filter.1 hk
    cases hv : valAt (lkL E k) t with
    | none => rw [hv] at h; cases h
    | some v =>
      rw [hv] at h
      cases h
      exact ⟨h2, hv⟩
  · rintro ⟨h1, h2⟩
    refine ⟨p.1, List.mem_filter.2 ⟨(ord_keys g _).2 (fun e => ?_), h1⟩, by rw [h2]; rfl⟩
    rw [e] at h2
    cases h2
theorem scan_srt {E : List En} (g : Gd E) (t : Int) (lo hi : Bs) : SrtP (scanK E t (scanT E lo hi false)) := by
  have h : (scanT E lo hi false).Pairwise fun a b => lB a b = true := List.Pairwise.sublist List.filter_sublist (ord_srt g)
  unfold scanK SrtP
  refine List.pairwise_filterMap.2 (h.imp ?_)
  intro a b hab x hx y hy
  cases hv : valAt (lkL E a) t with
  | none => rw [hv] at hx; cases hx
  | some v =>
    cases hw : valAt (lkL E b) t with
    | none => rw [hw] at hy; cases hy
    | some w =>
      rw [hv] at hx
      rw [hw] at hy
      cases hx
      cases hy
      exact hab
theorem scan_later {E E' : List En} (g : Gd E) (g' : Gd E') (t : Int) (lo hi : Bs) (h : ∀ k, valAt (lkL E' k) t = valAt (lkL E k) t) : scanK E' t (scanT E' lo hi false) = scanK E t (scanT E lo hi false) :=
  srtP_eq (scan_srt g' t lo hi) (scan_srt g t lo hi) fun p => by rw [scan_mem g', scan_mem g, h]
theorem scan_part {E : List En} (g : Gd E) (t : Int) (lo hi : Bs) : scanK E t (scanT E lo hi false) = (scanK E t (scanT E ⟨#[]⟩ ⟨#[]⟩ false)).filter fun p => inR lo hi p.1 :=
  srtP_eq (scan_srt g t lo hi) (List.Pairwise.sublist List.filter_sublist (scan_srt g t _ _)) fun p => by
    rw [List.mem_filter, scan_mem g, scan_mem g, inR_all]
    simp [and_comm]
theorem scan_any {E : List En} (g : Gd E) (t : Int) (key : Bs) : ((scanK E t (scanT E ⟨#[]⟩ ⟨#[]⟩ false)).any fun p => decide (p.1 = key)) = (valAt (lkL E key) t).isSome := by
  rw [Bool.eq_iff_iff, List.any_eq_true]
  constructor
  · rintro ⟨p, hp, e⟩
    have e2 : p.1 = key := of_decide_eq_true e
    rw [← e2, ((scan_mem g t _ _ p).1 hp).2]
    rfl
  · intro h
    cases hv : valAt (lkL E key) t with
    | none => rw [hv] at h; cases h
    | some v => exact ⟨(key, v), (scan_mem g t _ _ (key, v)).2 ⟨inR_all key, hv⟩, decide_eq_true rfl⟩
theorem step_late (t : Int) (A : Bs → List Ver) (x : Opv) (h : isW x = true) (ht : t < x.stamp) (k : Bs) : rollF t (stepA A x k) = rollF t (A k) := by
  obtain ⟨y, hy, e⟩ := step_w A x h
  rw [e]
  exact roll_add A x.key y t (by rw [hy]; exact ht) k
end Go.Proofs.Ytaecppkkbdbdbaa
