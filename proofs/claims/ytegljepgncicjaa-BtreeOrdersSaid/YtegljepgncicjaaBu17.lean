/- Btree: regions with skipped operations and one writing call at the end; where a scan stands in a node (plain). -/
import Derived.Test.YtegljepgncicjaaBu16
namespace Go.Proofs.Ytegljepgncicjaa
open Go.ChangeShapes Go.WideShapes Go.ChangeAt Go.RowKit Go.Deep Go.Shelf
set_option linter.unusedVariables false
set_option linter.unusedSimpArgs false
/-- wpStill in a box of its own: nothing opens it on the way -/
structure StI (P : Program) (ops : Array Oper) (w : World) (Q : Act → Prop) (l : List Oper) (a : Act) : Prop where
  out : wpStill P ops w Q l a
section
variable {P : Program} {ops : Array Oper} {w : World} {Q : Act → Prop} {o : Oper} {rest : List Oper} {a : Act}
theorem stI_go (hw : Region.wanted o (yielded ops a.tmps) = true) (h : ∀ K : Act → Prop, (∀ a, StI P ops w Q rest a → K a) → o.still P a w K) : StI P ops w Q (o :: rest) a :=
  ⟨by unfold wpStill; rw [if_pos hw]; exact h _ (fun a h => h.out)⟩
theorem stI_skip (hw : Region.wanted o (yielded ops a.tmps) = false) (h : ∀ K : Act → Prop, (∀ a, StI P ops w Q rest a → K a) → K (a.put o.dst undef)) : StI P ops w Q (o :: rest) a :=
  ⟨by unfold wpStill; rw [if_neg (by rw [hw]; simp)]; exact h _ (fun a h => h.out)⟩
theorem stI_nil (h : Q a) : StI P ops w Q [] a := ⟨h⟩
theorem wpIn_region_stI {m : Nat} {id : Nat} {Q : Exit → Act → World → Prop} {l : List Oper} (n : Nat) (hm : P.follows .mixedOrders = true) (hB : Region.lexTailB .any l.toArray n = true)
    (h : StI P l.toArray w.drew (fun a' => wpListIn Fence.wide m P l.toArray Q (l.drop n) a' w.drew) (l.take n) a) : (Code.region id l.toArray true).wpIn Fence.wide m P Q a w :=
  wpIn_region_still_tail n hm hB h.out
end
def iv : Value → Nat
  | .int _ n => n.toNat
  | _ => 0
theorem bs_cut (ks : List Bs) (x : Bs) (hs : SrtK ks) : (∀ j, j < bsI ks x → j < ks.length → lB (sx ks j) x = true) ∧ (∀ j, bsI ks x ≤ j → j < ks.length → lB (sx ks j) x = false) := by
  obtain ⟨i, hi, hb, h1, h2⟩ := find_pos ks x hs
  rw [hb]
  refine ⟨fun j hj hl => h1 _ ?_, fun j hj hl => ?_⟩
  · rw [sx_get hl, List.mem_take_iff_getElem]
    exact ⟨j, by omega, rfl⟩
  · have hm : sx ks j ∈ ks.drop i := by
      rw [sx_get hl, List.mem_drop_iff_getElem]
      exact ⟨j - i, by omega, by congr 1; omega⟩
    rcases h2 with ⟨_, r, h3, h4⟩ | ⟨_, h3⟩
    · rw [h3] at hm
      rcases List.mem_cons.1 hm with e | h
      · rw [e]; exact lB_irrefl _
      · exact lB_asymm (h4 _ h)
    · exact lB_asymm (h3 _ hm)
/-- what is still to come upwards, downwards at position j -/
def Vu (ks vs : List Bs) (Cs : List (List Pr)) (j : Nat) : List Pr := inter ((ks.zip vs).drop j) (Cs.drop j)
def cx (Cs : List (List Pr)) (j : Nat) : List Pr := (Cs[j]?).getD []
def Vd (ks vs : List Bs) (Cs : List (List Pr)) (j : Nat) : List Pr := (interL (Cs.take j) ((ks.zip vs).take j) ++ cx Cs j).reverse
theorem cx_get {Cs : List (List Pr)} {j : Nat} (h : j < Cs.length) : cx Cs j = Cs[j] := by
  unfold cx
  rw [List.getElem?_eq_getElem h]
  rfl
theorem zip_at {ks vs : List Bs} {j : Nat} (hl : vs.length = ks.length) (h : j < ks.length) : (ks.zip vs).drop j = (sx ks j, sx vs j) :: (ks.zip vs).drop (j + 1) := by
  rw [List.drop_eq_getElem_cons (by simp [hl]; omega), List.getElem_zip, sx_get h, sx_get (by omega)]
theorem Vu_kid {ks vs : List Bs} {Cs : List (List Pr)} {j : Nat} (hC : Cs.length = ks.length + 1) (h : j ≤ ks.length) : Vu ks vs Cs j = cx Cs j ++ interR ((ks.zip vs).drop j) (Cs.drop (j + 1)) := by
  unfold Vu
  rw [List.drop_eq_getElem_cons (i := j) (l := Cs) (by omega), cx_get (by omega)]
  rfl
theorem Vu_next {ks vs : List Bs} {Cs : List (List Pr)} {j : Nat} (hl : vs.length = ks.length) (hC : Cs.length = ks.length + 1) (h : j < ks.length) : Vu ks vs Cs j = cx Cs j ++ ([(sx ks j, sx vs j)] ++ Vu ks vs Cs (j + 1)) := by
  rw [Vu_kid hC (by omega), zip_at hl h]
  unfold Vu
  rw [List.drop_eq_getElem_cons (i := j + 1) (l := Cs) (by omega)]
  rfl
theorem Vu_last {ks vs : List Bs} {Cs : List (List Pr)} {j : Nat} (hl : vs.length = ks.length) (hC : Cs.length = ks.length + 1) (h : j = ks.length) : Vu ks vs Cs j = cx Cs j ++ [] := by
  rw [Vu_kid hC (by omega), List.drop_eq_nil_of_le (by simp [hl, h])]
  rfl
theorem Vu_start {ks vs : List Bs} {Cs : List (List Pr)} {L : List Pr} {lo : Bs} (hl : vs.length = ks.length) (hC : Cs.length = ks.length + 1) (hL : L = inter (ks.zip vs) Cs) (hs : Srt L) (hk : SrtK ks) :
    bsI ks lo ≤ ks.length ∧ ∃ C, L = C ++ Vu ks vs Cs (bsI ks lo) ∧ ∀ x ∈ C, lB x.1 lo = true := by
  obtain ⟨i, hi, hb, h1, _⟩ := find_pos ks lo hk
  rw [hb]
  have hz : (ks.zip vs).length = ks.length := by simp [hl]
  have e : L = interL (Cs.take i) ((ks.zip vs).take i) ++ Vu ks vs Cs i := by
    rw [hL, Vu_kid hC hi]
    conv => lhs; rw [← List.take_append_drop i (ks.zip vs), ← List.take_append_drop i Cs, List.drop_eq_getElem_cons (i := i) (l := Cs) (by omega)]
    rw [cx_get (by omega)]
    exact inter_mid _ _ _ _ _ (by rw [List.length_take, List.length_take, hz]; omega)
  refine ⟨hi, _, e, ?_⟩
  rw [e] at hs
  refine interL_lt _ _ hs.left (fun k hk => h1 _ ?_)
  rw [zip_take] at hk
  exact mem_zip_fst hk
theorem interL_snoc : ∀ (A : List (List Pr)) (K : List Pr) (c : List Pr) (p : Pr), A.length = K.length → interL (A ++ [c]) (K ++ [p]) = interL A K ++ (c ++ [p])
  | [], [], c, p, _ => rfl
  | a :: A, k :: K, c, p, h => by
    show a ++ k :: interL (A ++ [c]) (K ++ [p]) = (a ++ k :: interL A K) ++ (c ++ [p])
    rw [interL_snoc A K c p (by simpa using h)]
    simp
  | [], _ :: _, _, _, h => by simp at h
  | _ :: _, [], _, _, h => by simp at h
theorem Vd_kid {ks vs : List Bs} {Cs : List (List Pr)} {j : Nat} : Vd ks vs Cs j = (cx Cs j).reverse ++ (interL (Cs.take j) ((ks.zip vs).take j)).reverse := by
  unfold Vd
  rw [List.reverse_append]
theorem Vd_last {ks vs : List Bs} {Cs : List (List Pr)} {j : Nat} (h : j = 0) : Vd ks vs Cs j = (cx Cs j).reverse ++ [] := by
  rw [Vd_kid, h]
  rfl
theorem Vd_next {ks vs : List Bs} {Cs : List (List Pr)} {j : Nat} (hl : vs.length = ks.length) (hC : Cs.length = ks.length + 1) (h0 : 0 < j) (h : j ≤ ks.length) : Vd ks vs Cs j = (cx Cs j).reverse ++ ([(sx ks (j - 1), sx vs (j - 1))] ++ Vd ks vs Cs (j - 1)) := by
  have hz : (ks.zip vs).length = ks.length := by simp [hl]
  obtain ⟨i, rfl⟩ : ∃ i, j = i + 1 := ⟨j - 1, by omega⟩
  rw [Vd_kid, show i + 1 - 1 = i by omega, List.take_succ_eq_append_getElem (by omega : i < (ks.zip vs).length), List.take_succ_eq_append_getElem (by omega : i < Cs.length), interL_snoc _ _ _ _ (by simp [hl]; omega), List.getElem_zip]
  unfold Vd
  rw [List.reverse_append, List.reverse_append, List.reverse_append, sx_get (by omega), sx_get (by omega), cx_get (by omega), cx_get (by omega)]
  simp
theorem interR_ge {hi : Bs}  : ∀ (K : List Pr) (C : List (List Pr)), Srt (interR K C) → (∀ k ∈ K, lB k.1 hi = false) → ∀ y ∈ interR K C, lB y.1 hi = false
  | [], _, _, _, y, hy => by simp [interR] at hy
  | _ :: _, [], _, _, y, hy => by simp [interR] at hy
  | k :: K, c :: C, hs, hk, y, hy => by
    have hs' : Srt (k :: (c ++ interR K C)) := hs
    have hy' : y ∈ k :: (c ++ interR K C) := hy
    have h1 := (List.pairwise_cons.1 hs').1
    rcases List.mem_cons.1 hy' with rfl | h
    · exact hk _ (by simp)
    · cases h2 : lB y.1 hi with
      | false => rfl
      | true => have := lB_trans (h1 y h) h2; rw [hk k (by simp)] at this; cases this
theorem Vd_start {ks vs : List Bs} {Cs : List (List Pr)} {L : List Pr} {hi : Bs} {i : Nat} (hl : vs.length = ks.length) (hC : Cs.length = ks.length + 1) (hL : L = inter (ks.zip vs) Cs) (hs : Srt L) (hi' : i ≤ ks.length) (hk : ∀ k ∈ ks.drop i, lB k hi = false) :
    ∃ C, L.reverse = C ++ Vd ks vs Cs i ∧ ∀ x ∈ C, lB x.1 hi = false := by
  have hz : (ks.zip vs).length = ks.length := by simp [hl]
  have e : L = (interL (Cs.take i) ((ks.zip vs).take i) ++ cx Cs i) ++ interR ((ks.zip vs).drop i) (Cs.drop (i + 1)) := by
    rw [hL, cx_get (by omega)]
    conv => lhs; rw [← List.take_append_drop i (ks.zip vs), ← List.take_append_drop i Cs, List.drop_eq_getElem_cons (i := i) (l := Cs) (by omega)]
    rw [List.append_assoc]
    exact inter_mid _ _ _ _ _ (by rw [List.length_take, List.length_take, hz]; omega)
  refine ⟨(interR ((ks.zip vs).drop i) (Cs.drop (i + 1))).reverse, ?_, fun x hx => ?_⟩
  · conv => lhs; rw [e]
    rw [List.reverse_append]
    rfl
  · rw [List.mem_reverse] at hx
    rw [e] at hs
    exact interR_ge _ _ hs.right (fun k hk' => hk _ (by rw [zip_drop] at hk'; exact mem_zip_fst hk')) x hx
/-- a leaf: its kids hold nothing -/
theorem inter_leaf : ∀ (K : List Pr), inter K (List.replicate (K.length + 1) []) = K
  | [] => rfl
  | k :: K => by
    have := inter_leaf K
    show [] ++ interR (k :: K) (List.replicate (K.length + 1) []) = k :: K
    rw [List.replicate_succ] at this ⊢
    show [] ++ (k :: ([] ++ interR K (List.replicate K.length []))) = k :: K
    have h : ([] : List Pr) ++ interR K (List.replicate K.length []) = K := this
    rw [h]
    rfl
theorem cx_leaf (n j : Nat) : cx (List.replicate n ([] : List Pr)) j = [] := by
  unfold cx
  rw [List.getElem?_replicate]
  split <;> rfl
end Go.Proofs.Ytegljepgncicjaa
