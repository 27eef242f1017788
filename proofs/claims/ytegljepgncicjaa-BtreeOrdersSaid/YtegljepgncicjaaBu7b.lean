/- Btree: what get, put and remove make of a node's pairs. -/
import Derived.Test.YtegljepgncicjaaBu7
namespace Go.Proofs.Ytegljepgncicjaa
open Go.ChangeShapes Go.WideShapes Go.ChangeAt Go.RowKit Go.Deep
set_option linter.unusedVariables false
set_option linter.unusedSimpArgs false
theorem zip_take (ks vs : List Bs) (i : Nat) : (ks.zip vs).take i = (ks.take i).zip (vs.take i) := by simp [List.zip, List.take_zipWith]
theorem zip_drop (ks vs : List Bs) (i : Nat) : (ks.zip vs).drop i = (ks.drop i).zip (vs.drop i) := by simp [List.zip, List.drop_zipWith]
theorem zip_cut (ks vs : List Bs) (i : Nat) : ks.zip vs = (ks.take i).zip (vs.take i) ++ (ks.drop i).zip (vs.drop i) := by
  rw [← zip_take, ← zip_drop, List.take_append_drop]
theorem mem_zip_fst {ks vs : List Bs} {y : Pr} (h : y ∈ ks.zip vs) : y.1 ∈ ks := by
  obtain ⟨a, b⟩ := y
  exact (List.of_mem_zip h).1
/-- the key is there -/
structure Found (ks vs : List Bs) (key : Bs) (i : Nat) : Prop where
  lt : i < ks.length
  hk : ks.drop i = key :: ks.drop (i + 1)
  hv : vs.drop i = sx vs i :: vs.drop (i + 1)
  gt : ∀ x ∈ ks.drop (i + 1), lB key x = true
  le : ∀ x ∈ ks.take i, lB x key = true
theorem found_of {ks vs : List Bs} {key : Bs} (hs : SrtK ks) (hl : vs.length = ks.length) (hf : bsF ks key = true) : Found ks vs key (bsI ks key) := by
  obtain ⟨i, hi, hb, h1, h2⟩ := find_pos ks key hs
  rw [hb]
  rcases h2 with ⟨_, r, h3, h4⟩ | ⟨h3, _⟩
  · have hlt : i < ks.length := by
      have := congrArg List.length h3
      simp at this
      omega
    have hr : r = ks.drop (i + 1) := by
      rw [List.drop_eq_getElem_cons hlt] at h3
      exact (List.cons.inj h3).2.symm
    subst hr
    refine ⟨hlt, h3, ?_, h4, h1⟩
    rw [List.drop_eq_getElem_cons (i := i) (by omega), sx_get (by omega)]
  · rw [h3] at hf; cases hf
/-- the key is not there -/
structure Gap (ks : List Bs) (key : Bs) (i : Nat) : Prop where
  le : i ≤ ks.length
  lt : ∀ x ∈ ks.take i, lB x key = true
  gt : ∀ x ∈ ks.drop i, lB key x = true
theorem gap_of {ks : List Bs} {key : Bs} (hs : SrtK ks) (hf : bsF ks key = false) : Gap ks key (bsI ks key) := by
  obtain ⟨i, hi, hb, h1, h2⟩ := find_pos ks key hs
  rw [hb]
  rcases h2 with ⟨h3, _⟩ | ⟨_, h3⟩
  · rw [h3] at hf; cases hf
  · exact ⟨hi, h1, h3⟩
theorem bsI_le {ks : List Bs} {key : Bs} (hs : SrtK ks) : bsI ks key ≤ ks.length := by
  obtain ⟨i, hi, hb, _⟩ := find_pos ks key hs
  omega
theorem Found.zip {ks vs : List Bs} {key : Bs} {i : Nat} (h : Found ks vs key i) : (ks.zip vs).drop i = (key, sx vs i) :: (ks.zip vs).drop (i + 1) := by
  rw [zip_drop, h.hk, h.hv, zip_drop]
  rfl
theorem set_zip (ks vs : List Bs) (i : Nat) (val : Bs) (hi : i < vs.length) : ks.zip (vs.set i val) = (ks.zip vs).take i ++ (ks.drop i).zip (val :: vs.drop (i + 1)) := by
  rw [zip_cut ks (vs.set i val) i, zip_take]
  congr 1
  · congr 1
    rw [List.take_set_of_le (Nat.le_refl i)]
  · congr 1
    rw [List.drop_eq_getElem_cons (i := i) (by simpa using hi)]
    congr 1
    · simp
    · rw [List.drop_set_of_lt (by omega)]
theorem Found.set {ks vs : List Bs} {key : Bs} {i : Nat} (h : Found ks vs key i) (hl : vs.length = ks.length) (val : Bs) : ks.zip (vs.set i val) = (ks.zip vs).take i ++ (key, val) :: (ks.zip vs).drop (i + 1) := by
  have := h.lt
  rw [set_zip ks vs i val (by omega), h.hk, zip_drop]
  rfl
theorem Found.split {ks vs : List Bs} {key : Bs} {i : Nat} (h : Found ks vs key i) : ks.zip vs = (ks.zip vs).take i ++ (key, sx vs i) :: (ks.zip vs).drop (i + 1) := by
  rw [← h.zip, List.take_append_drop]
theorem leaf_found {ks vs : List Bs} {key : Bs} {i : Nat} (h : Found ks vs key i) (hl : vs.length = ks.length) (hs : Srt (ks.zip vs)) (val : Bs) :
    getL (ks.zip vs) key = some (sx vs i) ∧ putL (ks.zip vs) key val = ks.zip (vs.set i val) ∧ delL (ks.zip vs) key = (ks.take i ++ ks.drop (i + 1)).zip (vs.take i ++ vs.drop (i + 1)) := by
  have h1 := h.split
  have hs1 := hs
  rw [h1] at hs1
  refine ⟨?_, ?_, ?_⟩
  · rw [h1]; exact getL_mid hs1
  · rw [h.set hl val]
    conv => lhs; rw [h1]
    exact putL_mid hs1
  · conv => lhs; rw [h1]
    rw [delL_mid hs1, List.zip_append (by simp [hl]), zip_take, zip_drop]
theorem leaf_gap {ks vs : List Bs} {key : Bs} {i : Nat} (h : Gap ks key i) (hl : vs.length = ks.length) (val : Bs) :
    getL (ks.zip vs) key = none ∧ putL (ks.zip vs) key val = (ks.take i ++ key :: ks.drop i).zip (vs.take i ++ val :: vs.drop i) ∧ delL (ks.zip vs) key = ks.zip vs := by
  have h1 := zip_cut ks vs i
  have ha : ∀ x ∈ (ks.take i).zip (vs.take i), lB x.1 key = true := fun x hx => h.lt _ (mem_zip_fst hx)
  have hc : ∀ x ∈ (ks.drop i).zip (vs.drop i), lB key x.1 = true := fun x hx => h.gt _ (mem_zip_fst hx)
  refine ⟨?_, ?_, ?_⟩
  · rw [h1]; exact getL_gap ha hc
  · rw [List.zip_append (by simp [hl])]
    conv => lhs; rw [h1]
    exact putL_gap ha hc
  · conv => lhs; rw [h1]
    rw [delL_gap ha hc, ← h1]
theorem inn_found {P x : List Pr} {ks vs : List Bs} {key : Bs} {i : Nat} {L : List Pr} {Cs : List (List Pr)} (h : Found ks vs key i) (hl : vs.length = ks.length) (hC : Cs.length = ks.length - i)
    (hL : L = P ++ (x ++ interR ((ks.zip vs).drop i) Cs)) (hs : Srt L) (val : Bs) :
    ∃ R, L = (P ++ x) ++ (key, sx vs i) :: R ∧ getL L key = some (sx vs i) ∧ putL L key val = P ++ (x ++ interR ((ks.zip (vs.set i val)).drop i) Cs) ∧ delL L key = (P ++ x) ++ R ∧
      ∀ p : Pr, interR (p :: (ks.zip vs).drop (i + 1)) Cs = p :: R := by
  have hlt := h.lt
  cases Cs with
  | nil => simp at hC; omega
  | cons c Cs =>
    have e1 : interR ((ks.zip vs).drop i) (c :: Cs) = (key, sx vs i) :: (c ++ interR ((ks.zip vs).drop (i + 1)) Cs) := by rw [h.zip]; rfl
    have hz : (ks.zip vs).length = ks.length := by rw [List.length_zip, hl, Nat.min_self]
    have e2 : interR ((ks.zip (vs.set i val)).drop i) (c :: Cs) = (key, val) :: (c ++ interR ((ks.zip vs).drop (i + 1)) Cs) := by
      rw [h.set hl val, List.drop_left' (by rw [List.length_take, hz]; omega)]
      rfl
    refine ⟨c ++ interR ((ks.zip vs).drop (i + 1)) Cs, ?_, ?_, ?_, ?_, fun p => rfl⟩
    · rw [hL, e1, List.append_assoc]
    all_goals
      have hL2 : L = (P ++ x) ++ (key, sx vs i) :: (c ++ interR ((ks.zip vs).drop (i + 1)) Cs) := by rw [hL, e1, List.append_assoc]
      rw [hL2] at hs
      rw [hL2]
    · exact getL_mid hs
    · rw [e2, putL_mid hs, List.append_assoc]
    · exact delL_mid hs
theorem inn_gap {As : List (List Pr)} {x : List Pr} {ks vs : List Bs} {key : Bs} {i : Nat} {L : List Pr} {Cs : List (List Pr)} (h : Gap ks key i) (hl : vs.length = ks.length) (hA : As.length = i) (hC : Cs.length = ks.length - i)
    (hL : L = interL As ((ks.zip vs).take i) ++ (x ++ interR ((ks.zip vs).drop i) Cs)) (hs : Srt L) :
    (∀ y ∈ interL As ((ks.zip vs).take i), lB y.1 key = true) ∧ (∀ y ∈ interR ((ks.zip vs).drop i) Cs, lB key y.1 = true) ∧ Srt x ∧
    getL L key = getL x key ∧ (∀ val, putL L key val = interL As ((ks.zip vs).take i) ++ (putL x key val ++ interR ((ks.zip vs).drop i) Cs)) ∧ delL L key = interL As ((ks.zip vs).take i) ++ (delL x key ++ interR ((ks.zip vs).drop i) Cs) := by
  rw [hL] at hs
  have h1 : ∀ y ∈ interL As ((ks.zip vs).take i), lB y.1 key = true := interL_lt _ _ hs.left (fun k hk => by rw [zip_take] at hk; exact h.lt _ (mem_zip_fst hk))
  have h2 : ∀ y ∈ interR ((ks.zip vs).drop i) Cs, lB key y.1 = true := interR_gt _ _ hs.right.right (fun k hk => by rw [zip_drop] at hk; exact h.gt _ (mem_zip_fst hk))
  refine ⟨h1, h2, hs.right.left, ?_, fun val => ?_, ?_⟩
  · rw [hL, getL_left h1, getL_right h2]
  · rw [hL, putL_left h1, putL_right h2]
  · rw [hL, delL_left h1, delL_right h2]
end Go.Proofs.Ytegljepgncicjaa
