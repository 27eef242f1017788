/- Btree: where a key stands among the keys of a node; what calls make of the pairs. -/
import Derived.Test.YtegljepgncicjaaBu6
namespace Go.Proofs.Ytegljepgncicjaa
open Go.ChangeShapes Go.WideShapes Go.ChangeAt Go.RowKit Go.Deep
set_option linter.unusedVariables false
set_option linter.unusedSimpArgs false
theorem bsGo_upto (less : Nat → Bool) (k n : Nat) (h1 : ∀ t, t < k → less t = true) (h2 : ∀ t, k ≤ t → t < n → less t = false) : ∀ (f lo hi : Nat), hi - lo ≤ f → lo ≤ k → k ≤ hi → hi ≤ n → Lib.bsGo less f lo hi = k := by
  intro f
  induction f with
  | zero => intro lo hi hf a b c; simp [Lib.bsGo]; omega
  | succ f ih =>
    intro lo hi hf a b c
    unfold Lib.bsGo
    by_cases h : lo < hi
    · rw [if_pos h]
      by_cases hm : (lo + hi) / 2 < k
      · rw [h1 _ hm, if_pos rfl]; exact ih _ _ (by omega) (by omega) b c
      · rw [h2 _ (by omega) (by omega)]; exact ih _ _ (by omega) a (by omega) (by omega)
    · rw [if_neg h]; omega
def SrtK (ks : List Bs) : Prop := ks.Pairwise fun x y => lB x y = true
theorem sx_get {xs : List Bs} {j : Nat} (h : j < xs.length) : sx xs j = xs[j] := by
  unfold sx
  rw [List.getElem?_eq_getElem h]
  rfl
/-- where a key stands -/
theorem find_pos (ks : List Bs) (key : Bs) (hs : SrtK ks) : ∃ i, i ≤ ks.length ∧ bsI ks key = i ∧ (∀ x ∈ ks.take i, lB x key = true) ∧
    ((bsF ks key = true ∧ ∃ r, ks.drop i = key :: r ∧ ∀ x ∈ r, lB key x = true) ∨ (bsF ks key = false ∧ ∀ x ∈ ks.drop i, lB key x = true)) := by
  obtain ⟨A, C, hAC, hA, hC⟩ : ∃ A C, ks = A ++ C ∧ (∀ x ∈ A, lB x key = true) ∧ (∀ x ∈ C, lB x key = false) := by
    induction ks with
    | nil => exact ⟨[], [], rfl, by simp, by simp⟩
    | cons a r ih =>
      cases ha : lB a key with
      | true =>
        obtain ⟨A, C, h1, h2, h3⟩ := ih (List.pairwise_cons.1 hs).2
        exact ⟨a :: A, C, by rw [h1]; rfl, fun x hx => by rcases List.mem_cons.1 hx with rfl | h; exact ha; exact h2 x h, h3⟩
      | false =>
        refine ⟨[], a :: r, rfl, by simp, fun x hx => ?_⟩
        rcases List.mem_cons.1 hx with rfl | h
        · exact ha
        · cases hx2 : lB x key with
          | false => rfl
          | true => have := lB_trans ((List.pairwise_cons.1 hs).1 x h) hx2; rw [ha] at this; cases this
  subst hAC
  have hget : ∀ t, t < (A ++ C).length → sx (A ++ C) t = (A ++ C)[t]! := fun t ht => by rw [sx_get ht, getElem!_pos _ t ht]
  have hbs : bsI (A ++ C) key = A.length := by
    unfold bsI
    refine bsGo_upto _ A.length (A ++ C).length (fun t ht => ?_) (fun t h1 h2 => ?_) _ _ _ (by omega) (by omega) (by simp) (Nat.le_refl _)
    · rw [sx_get (by simp; omega)]
      have : (A ++ C)[t]'(by simp; omega) = A[t] := List.getElem_append_left ht
      rw [this]
      exact hA _ (List.getElem_mem _)
    · rw [sx_get h2]
      have : (A ++ C)[t] = C[t - A.length]'(by simp at h2; omega) := List.getElem_append_right h1
      rw [this]
      exact hC _ (List.getElem_mem _)
  refine ⟨A.length, by simp, hbs, ?_, ?_⟩
  · rw [List.take_left']
    · exact hA
    · rfl
  · rw [List.drop_left' rfl]
    unfold bsF
    rw [hbs]
    have hsC : SrtK C := (List.pairwise_append.1 hs).2.1
    cases C with
    | nil => exact .inr ⟨by simp, by simp⟩
    | cons c r =>
      have hl : A.length < (A ++ c :: r).length := by simp
      have hc : sx (A ++ c :: r) A.length = c := by rw [sx_get hl]; simp
      rw [hc]
      have hr := (List.pairwise_cons.1 hsC).1
      by_cases hk : c = key
      · subst hk
        exact .inl ⟨by simp, r, rfl, hr⟩
      · refine .inr ⟨by simp [hk], ?_⟩
        have h1 : lB key c = true := by
          cases h2 : lB key c with
          | true => rfl
          | false => exact absurd (lB_tri (hC c (by simp)) h2) hk
        intro x hx
        rcases List.mem_cons.1 hx with rfl | h
        · exact h1
        · exact lB_trans h1 (hr x h)
theorem Srt.mid {A C : List Pr} {p : Pr} (h : Srt (A ++ p :: C)) : (∀ x ∈ A, lB x.1 p.1 = true) ∧ (∀ x ∈ C, lB p.1 x.1 = true) :=
  ⟨fun x hx => (List.pairwise_append.1 h).2.2 x hx p (by simp), (List.pairwise_cons.1 (List.pairwise_append.1 h).2.1).1⟩
theorem getL_mid {A C : List Pr} {k v : Bs} (h : Srt (A ++ (k, v) :: C)) : getL (A ++ (k, v) :: C) k = some v := by
  rw [getL_left h.mid.1, getL, if_neg (by rw [lB_irrefl]; simp), if_pos rfl]
theorem putL_mid {A C : List Pr} {k v u : Bs} (h : Srt (A ++ (k, v) :: C)) : putL (A ++ (k, v) :: C) k u = A ++ (k, u) :: C := by
  rw [putL_left h.mid.1, putL, if_neg (by rw [lB_irrefl]; simp), if_pos rfl]
theorem delL_mid {A C : List Pr} {k v : Bs} (h : Srt (A ++ (k, v) :: C)) : delL (A ++ (k, v) :: C) k = A ++ C := by
  rw [delL_left h.mid.1, delL, if_neg (by rw [lB_irrefl]; simp), if_pos rfl]
theorem getL_gap {A C : List Pr} {k : Bs} (h1 : ∀ x ∈ A, lB x.1 k = true) (h2 : ∀ x ∈ C, lB k x.1 = true) : getL (A ++ C) k = none := by
  rw [getL_left h1]
  have := getL_right (M := []) h2
  rw [List.nil_append] at this
  rw [this]; rfl
theorem putL_gap {A C : List Pr} {k u : Bs} (h1 : ∀ x ∈ A, lB x.1 k = true) (h2 : ∀ x ∈ C, lB k x.1 = true) : putL (A ++ C) k u = A ++ (k, u) :: C := by
  rw [putL_left h1]
  have := putL_right (M := []) (v := u) h2
  rw [List.nil_append] at this
  rw [this]; rfl
theorem delL_gap {A C : List Pr} {k : Bs} (h1 : ∀ x ∈ A, lB x.1 k = true) (h2 : ∀ x ∈ C, lB k x.1 = true) : delL (A ++ C) k = A ++ C := by
  rw [delL_left h1]
  have := delL_right (M := []) h2
  rw [List.nil_append] at this
  rw [this]; rfl
theorem Srt.sub {L M : List Pr} (h : Srt L) (hs : M.Sublist L) : Srt M := List.Pairwise.sublist hs h
theorem Srt.left {A C : List Pr} (h : Srt (A ++ C)) : Srt A := h.sub (List.sublist_append_left A C)
theorem Srt.right {A C : List Pr} (h : Srt (A ++ C)) : Srt C := h.sub (List.sublist_append_right A C)
theorem srtK_of {L : List Pr} (h : Srt L) : SrtK (L.map (·.1)) := List.pairwise_map.2 h
theorem zip_keys (ks vs : List Bs) (h : vs.length = ks.length) : (ks.zip vs).map (·.1) = ks := List.map_fst_zip (by omega)
theorem interL_lt {key : Bs} : ∀ (A : List (List Pr)) (K : List Pr), Srt (interL A K) → (∀ k ∈ K, lB k.1 key = true) → ∀ y ∈ interL A K, lB y.1 key = true
  | [], _, _, _, y, hy => by simp [interL] at hy
  | _ :: _, [], _, _, y, hy => by simp [interL] at hy
  | a :: A, k :: K, hs, hk, y, hy => by
    have hs' : Srt (a ++ k :: interL A K) := hs
    have hy' : y ∈ a ++ k :: interL A K := hy
    rcases List.mem_append.1 hy' with h | h
    · exact lB_trans (hs'.mid.1 y h) (hk k (by simp))
    · rcases List.mem_cons.1 h with rfl | h
      · exact hk _ (by simp)
      · exact interL_lt A K (hs'.right.sub (List.sublist_cons_self _ _)) (fun x hx => hk x (by simp [hx])) y h
theorem interR_gt {key : Bs} : ∀ (K : List Pr) (C : List (List Pr)), Srt (interR K C) → (∀ k ∈ K, lB key k.1 = true) → ∀ y ∈ interR K C, lB key y.1 = true
  | [], _, _, _, y, hy => by simp [interR] at hy
  | _ :: _, [], _, _, y, hy => by simp [interR] at hy
  | k :: K, c :: C, hs, hk, y, hy => by
    have hs' : Srt (k :: (c ++ interR K C)) := hs
    have hy' : y ∈ k :: (c ++ interR K C) := hy
    have h1 := (List.pairwise_cons.1 hs').1
    rcases List.mem_cons.1 hy' with rfl | h
    · exact hk _ (by simp)
    · exact lB_trans (hk k (by simp)) (h1 y h)
theorem interL_keys : ∀ (A : List (List Pr)) (K : List Pr), A.length = K.length → K.Sublist (interL A K)
  | [], [], _ => List.Sublist.refl _
  | a :: A, k :: K, h => by
    show (k :: K).Sublist (a ++ k :: interL A K)
    exact (List.Sublist.cons_cons k (interL_keys A K (by simpa using h))).trans (List.sublist_append_right a _)
  | [], _ :: _, h => by simp at h
  | _ :: _, [], h => by simp at h
theorem interR_keys : ∀ (K : List Pr) (C : List (List Pr)), C.length = K.length → K.Sublist (interR K C)
  | [], [], _ => List.Sublist.refl _
  | k :: K, c :: C, h => by
    show (k :: K).Sublist (k :: (c ++ interR K C))
    exact List.Sublist.cons_cons k ((interR_keys K C (by simpa using h)).trans (List.sublist_append_right c _))
  | [], _ :: _, h => by simp at h
  | _ :: _, [], h => by simp at h
theorem inter_keys (K : List Pr) (C : List (List Pr)) (h : C.length = K.length + 1) : K.Sublist (inter K C) := by
  cases C with
  | nil => simp at h
  | cons c C => exact (interR_keys K C (by simpa using h)).trans (List.sublist_append_right c _)
theorem Inn.keys {σ : Sig} {T : Nat → Nat → Nat → List Pr → (Nat → Prop) → Prop} {N : Nat} {ks vs : List Bs} {cs : List Kid} {L : List Pr} {S : Nat → Prop} (h : Inn σ T N ks vs cs L S) (hs : Srt L) : SrtK ks := by
  have h1 : Srt (ks.zip vs) := by
    rw [h.eL] at hs
    exact hs.sub (inter_keys _ _ (by rw [List.length_map, h.lc, List.length_zip, h.lv, Nat.min_self]))
  have := srtK_of h1
  rwa [zip_keys ks vs h.lv] at this
/-- the kids around the i-th -/
theorem Inn.around {σ : Sig} {T : Nat → Nat → Nat → List Pr → (Nat → Prop) → Prop} {N : Nat} {ks vs : List Bs} {cs : List Kid} {L : List Pr} {S : Nat → Prop} (h : Inn σ T N ks vs cs L S) (i : Nat) (hi : i ≤ ks.length) :
    ∃ A x C, cs = A ++ x :: C ∧ A.length = i ∧ C.length = ks.length - i ∧ L = interL (A.map (·.L)) ((ks.zip vs).take i) ++ (x.L ++ interR ((ks.zip vs).drop i) (C.map (·.L))) := by
  have hlc := h.lc
  have hz : (ks.zip vs).length = ks.length := by rw [List.length_zip, h.lv, Nat.min_self]
  refine ⟨cs.take i, cs[i]'(by omega), cs.drop (i + 1), ?_, by rw [List.length_take]; omega, by rw [List.length_drop]; omega, ?_⟩
  · rw [← List.drop_eq_getElem_cons (by omega), List.take_append_drop]
  · have e : cs.map (·.L) = (cs.take i).map (·.L) ++ (cs[i]'(by omega)).L :: (cs.drop (i + 1)).map (·.L) := by
      conv => lhs; rw [← List.take_append_drop i cs, List.drop_eq_getElem_cons (i := i) (by omega)]
      rw [List.map_append, List.map_cons]
    rw [h.eL, e]
    conv => lhs; rw [← List.take_append_drop i (ks.zip vs)]
    exact inter_mid _ _ _ _ _ (by rw [List.length_map, List.length_take, List.length_take, hz]; omega)
end Go.Proofs.Ytegljepgncicjaa
