/- Merged texts: Bu35, Bu41, Bu42, Bu43, Bu44, Bu45, Bu46, Bu47, Bu48, Bu16, Bu49, Bu50, Bu51, Bu52, Bu53, Bu67, Bu68, Bu17, Bu18, Bu19, Bu19b, Bu20. -/
import Derived.Test.YtegljepgncicjaaMc2
/- Btree: nodes and their kids, leaves and others alike; two neighbours share anew, or become one (plain). -/
namespace Go.Proofs.Ytegljepgncicjaa
open Go.ChangeShapes Go.WideShapes Go.ChangeAt Go.RowKit Go.Deep
set_option linter.unusedVariables false
set_option linter.unusedSimpArgs false
def flat (ks : List Pr) (cs : List (List Pr)) : List Pr := match cs with
  | [] => ks
  | c :: r => inter ks (c :: r)
theorem flat_inter (ks : List Pr) {cs : List (List Pr)} (h : cs ≠ []) : flat ks cs = inter ks cs := by
  cases cs with
  | nil => exact absurd rfl h
  | cons c r => rfl
theorem flat_join {a b : List Pr} {ca cb : List (List Pr)} {p : Pr} (h : (ca = [] ∧ cb = []) ∨ (ca.length = a.length + 1 ∧ cb.length = b.length + 1)) : flat (a ++ p :: b) (ca ++ cb) = flat a ca ++ p :: flat b cb := by
  rcases h with ⟨rfl, rfl⟩ | ⟨h1, h2⟩
  · rfl
  · have n1 : ca ≠ [] := fun e => by rw [e] at h1; simp at h1
    have n2 : cb ≠ [] := fun e => by rw [e] at h2; simp at h2
    rw [flat_inter _ n1, flat_inter _ n2, flat_inter _ (by simp [n1])]
    have := inter_split a.length (a ++ p :: b) (ca ++ cb) p (by simp; omega) (by simp)
    rw [this, List.take_left', List.take_left' h1, List.drop_left' h1]
    · congr 2
      rw [show a.length + 1 = (a ++ [p]).length by simp, show a ++ p :: b = (a ++ [p]) ++ b by simp, List.drop_left' rfl]
    · rfl
structure NT (σ : Sig) (o h N : Nat) (ks vs : List Bs) (cs : List Kid) (L : List Pr) (S : Nat → Prop) : Prop where
  at_ : σ N = some ⟨ks, vs, cs.map (·.id)⟩
  lv : vs.length = ks.length
  kc : (h = 0 ∧ cs = []) ∨ (h ≠ 0 ∧ cs.length = ks.length + 1)
  eL : L = flat (ks.zip vs) (cs.map (·.L))
  sN : S N
  dom : ∀ k, S k → σ k ≠ none
  kids : ∀ c ∈ cs, IsT σ o (h - 1) (o / 2) o c.id c.L c.S ∧ ∀ k, c.S k → S k ∧ k ≠ N
  apart : cs.Pairwise fun a b => ∀ k, a.S k → ¬ b.S k
theorem isT_nt {σ : Sig} {o : Nat} : ∀ {h lo hi N : Nat} {L : List Pr} {S : Nat → Prop}, IsT σ o h lo hi N L S → ∃ ks vs cs, lo ≤ ks.length ∧ ks.length ≤ hi ∧ NT σ o h N ks vs cs L S
  | 0, lo, hi, N, L, S, ⟨ks, vs, h1, h2, h3, h4, h5, h6, h7⟩ => ⟨ks, vs, [], h3, h4, h1, h2, .inl ⟨rfl, rfl⟩, h5, h6, h7, fun c hc => (by cases hc), List.Pairwise.nil⟩
  | h + 1, lo, hi, N, L, S, ⟨ks, vs, cs, h1, h2, hI, h4⟩ => by
    refine ⟨ks, vs, cs, h1, h2, hI.at_, hI.lv, .inr ⟨by omega, hI.lc⟩, ?_, hI.sN, hI.dom, fun c hc => ⟨?_, (hI.kids c hc).2⟩, hI.apart⟩
    · rw [flat_inter _ (fun e => by have := hI.lc; have := List.map_eq_nil_iff.1 e; simp_all)]
      exact hI.eL
    · have := (hI.kids c hc).1
      rw [(h4 c hc).1, (h4 c hc).2] at this
      exact this
theorem NT.isT {σ : Sig} {o : Nat} {h N : Nat} {ks vs : List Bs} {cs : List Kid} {L : List Pr} {S : Nat → Prop} (hn : NT σ o h N ks vs cs L S) : IsT σ o h ks.length ks.length N L S := by
  cases h with
  | zero =>
    obtain ⟨_, rfl⟩ := hn.kc.resolve_right (fun e => e.1 rfl)
    exact ⟨ks, vs, hn.at_, hn.lv, Nat.le_refl _, Nat.le_refl _, hn.eL, hn.sN, hn.dom⟩
  | succ h =>
    obtain ⟨_, hlc⟩ := hn.kc.resolve_left (fun e => by have := e.1; omega)
    refine ⟨ks, vs, cs.map (fun c => ⟨c.id, c.L, c.S, o / 2, o⟩), Nat.le_refl _, Nat.le_refl _, ⟨?_, hn.lv, by rw [List.length_map]; exact hlc, ?_, hn.sN, hn.dom, ?_, ?_⟩, ?_⟩
    · rw [List.map_map]; exact hn.at_
    · rw [List.map_map]
      rw [hn.eL, flat_inter _ (fun e => by have := List.map_eq_nil_iff.1 e; simp_all)]
      rfl
    · intro c hc
      obtain ⟨d, hd, rfl⟩ := List.mem_map.1 hc
      exact hn.kids d hd
    · rw [List.pairwise_map]
      exact hn.apart
    · intro c hc
      obtain ⟨d, hd, rfl⟩ := List.mem_map.1 hc
      exact ⟨rfl, rfl⟩
/-- a node is made of kids that lie as they lay -/
theorem nt_make {σ σ' : Sig} {o h N : Nat} {ks vs : List Bs} {cs : List Kid} (hat : σ' N = some ⟨ks, vs, cs.map (·.id)⟩) (hlv : vs.length = ks.length) (hkc : (h = 0 ∧ cs = []) ∨ (h ≠ 0 ∧ cs.length = ks.length + 1))
    (hk : ∀ c ∈ cs, IsT σ o (h - 1) (o / 2) o c.id c.L c.S ∧ ∀ k, c.S k → σ' k = σ k ∧ k ≠ N) (hap : cs.Pairwise fun a b => ∀ k, a.S k → ¬ b.S k) : NT σ' o h N ks vs cs (flat (ks.zip vs) (cs.map (·.L))) (UnS N cs) := by
  refine ⟨hat, hlv, hkc, rfl, .inl rfl, ?_, fun c hc => ⟨((hk c hc).1).congr (fun k hk2 => ((hk c hc).2 k hk2).1), fun k hk2 => ⟨.inr ⟨c, hc, hk2⟩, ((hk c hc).2 k hk2).2⟩⟩, hap⟩
  rintro k (rfl | ⟨c, hc, hk2⟩)
  · rw [hat]; simp
  · rw [((hk c hc).2 k hk2).1]
    exact ((hk c hc).1).dom.2 k hk2
theorem zip_app (a b va vb : List Bs) (k v : Bs) (h : va.length = a.length) : (a ++ k :: b).zip (va ++ v :: vb) = a.zip va ++ (k, v) :: b.zip vb := by
  rw [List.zip_append h.symm]
  rfl
section
variable {σ σ' : Sig} {o h X Y : Nat} {xk xv yk yv : List Bs} {xcs ycs : List Kid} {XL YL : List Pr} {XS YS : Nat → Prop}
theorem both_apart (hx : NT σ o h X xk xv xcs XL XS) (hy : NT σ o h Y yk yv ycs YL YS) (hXY : ∀ k, XS k → ¬ YS k) : (xcs ++ ycs).Pairwise fun a b => ∀ k, a.S k → ¬ b.S k :=
  List.pairwise_append.2 ⟨hx.apart, hy.apart, fun a ha b hb k hk hk2 => hXY k ((hx.kids a ha).2 k hk).1 ((hy.kids b hb).2 k hk2).1⟩
theorem both_kids (hx : NT σ o h X xk xv xcs XL XS) (hy : NT σ o h Y yk yv ycs YL YS) (hXY : ∀ k, XS k → ¬ YS k) (hσ : ∀ j, XS j ∨ YS j → j ≠ X → j ≠ Y → σ' j = σ j) :
    ∀ c ∈ xcs ++ ycs, IsT σ o (h - 1) (o / 2) o c.id c.L c.S ∧ ∀ k, c.S k → σ' k = σ k ∧ k ≠ X ∧ k ≠ Y ∧ (XS k ∨ YS k) := fun c hc => by
  rcases List.mem_append.1 hc with hc | hc
  · refine ⟨(hx.kids c hc).1, fun k hk => ?_⟩
    obtain ⟨h1, h2⟩ := (hx.kids c hc).2 k hk
    have h3 : k ≠ Y := fun e => hXY k h1 (by rw [e]; exact hy.sN)
    exact ⟨hσ k (.inl h1) h2 h3, h2, h3, .inl h1⟩
  · refine ⟨(hy.kids c hc).1, fun k hk => ?_⟩
    obtain ⟨h1, h2⟩ := (hy.kids c hc).2 k hk
    have h3 : k ≠ X := fun e => hXY X hx.sN (by rw [← e]; exact h1)
    exact ⟨hσ k (.inr h1) h3 h2, h3, h2, .inr h1⟩
theorem both_len (hx : NT σ o h X xk xv xcs XL XS) (hy : NT σ o h Y yk yv ycs YL YS) : (xcs.map (·.L) = [] ∧ ycs.map (·.L) = []) ∨ ((xcs.map (·.L)).length = (xk.zip xv).length + 1 ∧ (ycs.map (·.L)).length = (yk.zip yv).length + 1) := by
  rcases hx.kc with ⟨h1, rfl⟩ | ⟨h1, h2⟩
  · obtain ⟨_, rfl⟩ := hy.kc.resolve_right (fun e => e.1 h1)
    exact .inl ⟨rfl, rfl⟩
  · obtain ⟨_, h3⟩ := hy.kc.resolve_left (fun e => h1 e.1)
    have := hx.lv
    have := hy.lv
    exact .inr ⟨by simp [List.length_zip]; omega, by simp [List.length_zip]; omega⟩
/-- two neighbours share their keys and kids anew -/
theorem redist (hx : NT σ o h X xk xv xcs XL XS) (hy : NT σ o h Y yk yv ycs YL YS) (hXY : ∀ k, XS k → ¬ YS k) (k v k' v' : Bs) (xk' xv' yk' yv' : List Bs) (xcs' ycs' : List Kid)
    (eK : xk' ++ k' :: yk' = xk ++ k :: yk) (eV : xv' ++ v' :: yv' = xv ++ v :: yv) (eC : xcs' ++ ycs' = xcs ++ ycs) (l1 : xv'.length = xk'.length) (l2 : yv'.length = yk'.length)
    (c1 : (h = 0 ∧ xcs' = []) ∨ (h ≠ 0 ∧ xcs'.length = xk'.length + 1)) (c2 : (h = 0 ∧ ycs' = []) ∨ (h ≠ 0 ∧ ycs'.length = yk'.length + 1))
    (aX : σ' X = some ⟨xk', xv', xcs'.map (·.id)⟩) (aY : σ' Y = some ⟨yk', yv', ycs'.map (·.id)⟩) (hσ : ∀ j, XS j ∨ YS j → j ≠ X → j ≠ Y → σ' j = σ j) :
    ∃ XL' YL' XS' YS', NT σ' o h X xk' xv' xcs' XL' XS' ∧ NT σ' o h Y yk' yv' ycs' YL' YS' ∧ XL' ++ (k', v') :: YL' = XL ++ (k, v) :: YL ∧ (∀ j, XS' j → XS j ∨ YS j) ∧ (∀ j, YS' j → XS j ∨ YS j) ∧ ∀ j, XS' j → ¬ YS' j := by
  have hk := both_kids hx hy hXY hσ
  have ha := both_apart hx hy hXY
  rw [← eC] at hk ha
  obtain ⟨ha1, ha2, ha3⟩ := List.pairwise_append.1 ha
  have n1 := nt_make (σ := σ) (h := h) aX l1 c1 (fun c hc => ⟨(hk c (List.mem_append_left _ hc)).1, fun j hj => ⟨((hk c (List.mem_append_left _ hc)).2 j hj).1, ((hk c (List.mem_append_left _ hc)).2 j hj).2.1⟩⟩) ha1
  have n2 := nt_make (σ := σ) (h := h) aY l2 c2 (fun c hc => ⟨(hk c (List.mem_append_right _ hc)).1, fun j hj => ⟨((hk c (List.mem_append_right _ hc)).2 j hj).1, ((hk c (List.mem_append_right _ hc)).2 j hj).2.2.1⟩⟩) ha2
  refine ⟨_, _, _, _, n1, n2, ?_, ?_, ?_, ?_⟩
  · rw [← flat_join (both_len n1 n2), ← zip_app _ _ _ _ _ _ l1, eK, eV, ← List.map_append, eC, List.map_append, zip_app _ _ _ _ _ _ hx.lv, flat_join (both_len hx hy), ← hx.eL, ← hy.eL]
  · rintro j (rfl | ⟨c, hc, hj⟩)
    · exact .inl hx.sN
    · exact ((hk c (List.mem_append_left _ hc)).2 j hj).2.2.2
  · rintro j (rfl | ⟨c, hc, hj⟩)
    · exact .inr hy.sN
    · exact ((hk c (List.mem_append_right _ hc)).2 j hj).2.2.2
  · rintro j (rfl | ⟨c, hc, hj⟩) (h2 | ⟨d, hd, hj2⟩)
    · exact hXY _ hx.sN (by rw [h2]; exact hy.sN)
    · exact ((hk d (List.mem_append_right _ hd)).2 _ hj2).2.1 rfl
    · exact ((hk c (List.mem_append_left _ hc)).2 _ hj).2.2.1 h2
    · exact ha3 c hc d hd j hj hj2
/-- two neighbours become one -/
theorem joined (hx : NT σ o h X xk xv xcs XL XS) (hy : NT σ o h Y yk yv ycs YL YS) (hXY : ∀ k, XS k → ¬ YS k) (k v : Bs)
    (aX : σ' X = some ⟨xk ++ k :: yk, xv ++ v :: yv, (xcs ++ ycs).map (·.id)⟩) (hσ : ∀ j, XS j ∨ YS j → j ≠ X → j ≠ Y → σ' j = σ j) :
    ∃ XS', NT σ' o h X (xk ++ k :: yk) (xv ++ v :: yv) (xcs ++ ycs) (XL ++ (k, v) :: YL) XS' ∧ ∀ j, XS' j → XS j ∨ YS j := by
  have hk := both_kids hx hy hXY hσ
  have l1 := hx.lv
  have l2 := hy.lv
  have n1 := nt_make (σ := σ) (h := h) aX (by simp [l1, l2]) (by
    rcases hx.kc with ⟨h1, rfl⟩ | ⟨h1, h2⟩
    · obtain ⟨_, rfl⟩ := hy.kc.resolve_right (fun e => e.1 h1)
      exact .inl ⟨h1, rfl⟩
    · obtain ⟨_, h3⟩ := hy.kc.resolve_left (fun e => h1 e.1)
      exact .inr ⟨h1, by simp; omega⟩) (fun c hc => ⟨(hk c hc).1, fun j hj => ⟨((hk c hc).2 j hj).1, ((hk c hc).2 j hj).2.1⟩⟩) (both_apart hx hy hXY)
  refine ⟨UnS X (xcs ++ ycs), ?_, ?_⟩
  · rw [List.map_append, zip_app _ _ _ _ _ _ hx.lv, flat_join (both_len hx hy), ← hx.eL, ← hy.eL] at n1
    exact n1
  · rintro j (rfl | ⟨c, hc, hj⟩)
    · exact .inl hx.sN
    · exact ((hk c hc).2 j hj).2.2.2
end
end Go.Proofs.Ytegljepgncicjaa
/- Btree: what refill makes of a node with kids (plain). -/
namespace Go.Proofs.Ytegljepgncicjaa
open Go.ChangeShapes Go.WideShapes Go.ChangeAt Go.RowKit Go.Deep
set_option linter.unusedVariables false
set_option linter.unusedSimpArgs false
theorem zip_atm (ks vs : List Bs) (j : Nat) (h : j < ks.length) (hl : vs.length = ks.length) : ks.zip vs = (ks.zip vs).take j ++ (sx ks j, sx vs j) :: (ks.zip vs).drop (j + 1) := by
  have hz : j < (ks.zip vs).length := by rw [List.length_zip]; omega
  have e := zip_get ks vs j h hl
  rw [List.getElem?_eq_getElem hz] at e
  conv => lhs; rw [← List.take_append_drop j (ks.zip vs), List.drop_eq_getElem_cons hz]
  rw [Option.some.inj e]
theorem zip_set (ks vs : List Bs) (j : Nat) (k v : Bs) (h : j < ks.length) (hl : vs.length = ks.length) : (ks.set j k).zip (vs.set j v) = (ks.zip vs).take j ++ (k, v) :: (ks.zip vs).drop (j + 1) := by
  rw [List.set_eq_take_append_cons_drop, List.set_eq_take_append_cons_drop, if_pos h, if_pos (by omega), zip_app _ _ _ _ _ _ (by simp [hl]), zip_take, zip_drop]
theorem zip_out (ks vs : List Bs) (j : Nat) (h : j < ks.length) (hl : vs.length = ks.length) : (ks.take j ++ ks.drop (j + 1)).zip (vs.take j ++ vs.drop (j + 1)) = (ks.zip vs).take j ++ (ks.zip vs).drop (j + 1) := by
  rw [List.zip_append (by simp [hl]), zip_take, zip_drop]
section
variable {σ σ' : Sig} {o h N j : Nat} {ks vs : List Bs} {A C : List Kid} {X Y : Kid} {L : List Pr} {S : Nat → Prop} {xk xv yk yv : List Bs} {xcs ycs : List Kid}
theorem inn_nt {T : Nat → Nat → Nat → List Pr → (Nat → Prop) → Prop} {cs : List Kid} (hI : Inn σ T N ks vs cs L S) (hk : ∀ c ∈ cs, IsT σ o h (o / 2) o c.id c.L c.S) : NT σ o (h + 1) N ks vs cs L S :=
  ⟨hI.at_, hI.lv, .inr ⟨by omega, hI.lc⟩, by
    rw [flat_inter _ (fun e => by have := hI.lc; have := List.map_eq_nil_iff.1 e; simp_all)]
    exact hI.eL, hI.sN, hI.dom, fun c hc => ⟨hk c hc, (hI.kids c hc).2⟩, hI.apart⟩
theorem neigh_L (hI : Inn σ (IsT σ o h) N ks vs (A ++ X :: Y :: C) L S) (hA : A.length = j) (hj : j < ks.length) :
    L = interL (A.map (·.L)) ((ks.zip vs).take j) ++ ((X.L ++ (sx ks j, sx vs j) :: Y.L) ++ interR ((ks.zip vs).drop (j + 1)) (C.map (·.L))) := by
  have hz : (ks.zip vs).length = ks.length := by rw [List.length_zip, hI.lv, Nat.min_self]
  rw [hI.eL, zip_atm ks vs j hj hI.lv, List.map_append, List.map_cons, List.map_cons]
  rw [inter_mid (A.map (·.L)) ((ks.zip vs).take j) X.L (Y.L :: C.map (·.L)) ((sx ks j, sx vs j) :: (ks.zip vs).drop (j + 1)) (by rw [List.length_map, hA, List.length_take, hz]; omega)]
  rw [← zip_atm ks vs j hj hI.lv, List.append_assoc]
  rfl
theorem neigh_apart (hI : Inn σ (IsT σ o h) N ks vs (A ++ X :: Y :: C) L S) : (∀ k, X.S k → ¬ Y.S k) ∧ (∀ c ∈ A ++ C, ∀ k, c.S k → ¬ X.S k ∧ ¬ Y.S k) ∧ (A ++ C).Pairwise (fun a b => ∀ k, a.S k → ¬ b.S k) := by
  obtain ⟨pA, pXC, pAX⟩ := List.pairwise_append.1 hI.apart
  obtain ⟨pX, pYC⟩ := List.pairwise_cons.1 pXC
  obtain ⟨pY, pC⟩ := List.pairwise_cons.1 pYC
  refine ⟨pX Y (by simp), fun c hc k hk => ?_, List.pairwise_append.2 ⟨pA, pC, fun a ha c hc => pAX a ha c (by simp [hc])⟩⟩
  rcases List.mem_append.1 hc with hc | hc
  · exact ⟨pAX c hc X (by simp) k hk, pAX c hc Y (by simp) k hk⟩
  · exact ⟨fun h => pX c (by simp [hc]) k h hk, fun h => pY c hc k h hk⟩
/-- two neighbours share anew -/
theorem parent_redist (hI : Inn σ (IsT σ o h) N ks vs (A ++ X :: Y :: C) L S) (hA : A.length = j) (hj : j < ks.length) (ho : ∀ c ∈ A ++ C, c.lo = o / 2 ∧ c.hi = o)
    (hx : NT σ o h X.id xk xv xcs X.L X.S) (hy : NT σ o h Y.id yk yv ycs Y.L Y.S) (k' v' : Bs) (xk' xv' yk' yv' : List Bs) (xcs' ycs' : List Kid)
    (eK : xk' ++ k' :: yk' = xk ++ sx ks j :: yk) (eV : xv' ++ v' :: yv' = xv ++ sx vs j :: yv) (eC : xcs' ++ ycs' = xcs ++ ycs) (l1 : xv'.length = xk'.length) (l2 : yv'.length = yk'.length)
    (c1 : (h = 0 ∧ xcs' = []) ∨ (h ≠ 0 ∧ xcs'.length = xk'.length + 1)) (c2 : (h = 0 ∧ ycs' = []) ∨ (h ≠ 0 ∧ ycs'.length = yk'.length + 1))
    (b1 : o / 2 ≤ xk'.length ∧ xk'.length ≤ o) (b2 : o / 2 ≤ yk'.length ∧ yk'.length ≤ o)
    (aX : σ' X.id = some ⟨xk', xv', xcs'.map (·.id)⟩) (aY : σ' Y.id = some ⟨yk', yv', ycs'.map (·.id)⟩) (aN : σ' N = some ⟨ks.set j k', vs.set j v', (A ++ X :: Y :: C).map (·.id)⟩)
    (hσ : ∀ i, i ≠ N → i ≠ X.id → i ≠ Y.id → σ' i = σ i) : IsT σ' o (h + 1) ks.length ks.length N L S := by
  obtain ⟨hXY, hoth, hAC⟩ := neigh_apart hI
  have hXm : X ∈ A ++ X :: Y :: C := by simp
  have hYm : Y ∈ A ++ X :: Y :: C := by simp
  have hXS := (hI.kids X hXm).2
  have hYS := (hI.kids Y hYm).2
  obtain ⟨XL', YL', XS', YS', n1, n2, eL, s1, s2, s3⟩ := redist (σ' := σ') hx hy hXY (sx ks j) (sx vs j) k' v' xk' xv' yk' yv' xcs' ycs' eK eV eC l1 l2 c1 c2 aX aY (fun i hi h1 h2 => hσ i (fun e => by
    rcases hi with hi | hi
    · exact (hXS i hi).2 e
    · exact (hYS i hi).2 e) h1 h2)
  have hXY2 : ∀ i, XS' i ∨ YS' i → X.S i ∨ Y.S i := fun i hi => hi.elim (s1 i) (s2 i)
  have hSN : ∀ i, X.S i ∨ Y.S i → S i ∧ i ≠ N := fun i hi => hi.elim (hXS i) (hYS i)
  have hoT : ∀ c ∈ A ++ C, IsT σ' o h (o / 2) o c.id c.L c.S ∧ ∀ k, c.S k → S k ∧ k ≠ N := fun c hc => by
    have hm : c ∈ A ++ X :: Y :: C := by rcases List.mem_append.1 hc with h | h <;> simp [h]
    have hk := hI.kids c hm
    refine ⟨?_, hk.2⟩
    have h1 := hk.1
    rw [(ho c hc).1, (ho c hc).2] at h1
    exact h1.congr (fun k hk2 => hσ k (hk.2 k hk2).2 (fun e => (hoth c hc k hk2).1 (by rw [e]; exact hx.sN)) (fun e => (hoth c hc k hk2).2 (by rw [e]; exact hy.sN)))
  have hnt : NT σ' o (h + 1) N (ks.set j k') (vs.set j v') (A ++ ⟨X.id, XL', XS', o / 2, o⟩ :: ⟨Y.id, YL', YS', o / 2, o⟩ :: C) L S := by
    refine ⟨by rw [aN]; simp, by simp [hI.lv], .inr ⟨by omega, by have := hI.lc; simp at this ⊢; omega⟩, ?_, hI.sN, fun i hi => ?_, ?_, ?_⟩
    · rw [flat_inter _ (by simp), zip_set ks vs j k' v' hj hI.lv, List.map_append, List.map_cons, List.map_cons]
      have hz : (ks.zip vs).length = ks.length := by rw [List.length_zip, hI.lv, Nat.min_self]
      rw [inter_mid (A.map (·.L)) ((ks.zip vs).take j) XL' (YL' :: C.map (·.L)) ((k', v') :: (ks.zip vs).drop (j + 1)) (by rw [List.length_map, hA, List.length_take, hz]; omega)]
      rw [neigh_L hI hA hj, ← eL, List.append_assoc]
      rfl
    · by_cases e1 : i = N
      · rw [e1, aN]; simp
      · by_cases e2 : i = X.id
        · rw [e2, aX]; simp
        · by_cases e3 : i = Y.id
          · rw [e3, aY]; simp
          · rw [hσ i e1 e2 e3]; exact hI.dom i hi
    · intro c hc
      rcases List.mem_append.1 hc with hc | hc
      · exact hoT c (List.mem_append_left _ hc)
      · rcases List.mem_cons.1 hc with rfl | hc
        · exact ⟨n1.isT.bounds b1.1 b1.2, fun k hk => hSN k (s1 k hk)⟩
        · rcases List.mem_cons.1 hc with rfl | hc
          · exact ⟨n2.isT.bounds b2.1 b2.2, fun k hk => hSN k (s2 k hk)⟩
          · exact hoT c (List.mem_append_right _ hc)
    · obtain ⟨pA, pC, pAC⟩ := List.pairwise_append.1 hAC
      have no : ∀ c ∈ A ++ C, ∀ k, c.S k → ¬ XS' k ∧ ¬ YS' k := fun c hc k hk => ⟨fun h => ((s1 k h).elim (hoth c hc k hk).1 (hoth c hc k hk).2), fun h => ((s2 k h).elim (hoth c hc k hk).1 (hoth c hc k hk).2)⟩
      refine List.pairwise_append.2 ⟨pA, List.pairwise_cons.2 ⟨fun c hc => ?_, List.pairwise_cons.2 ⟨fun c hc k hk hk2 => (no c (List.mem_append_right _ hc) k hk2).2 hk, pC⟩⟩, fun a ha c hc => ?_⟩
      · rcases List.mem_cons.1 hc with rfl | hc
        · exact s3
        · exact fun k hk hk2 => (no c (List.mem_append_right _ hc) k hk2).1 hk
      · rcases List.mem_cons.1 hc with rfl | hc
        · exact fun k hk => (no a (List.mem_append_left _ ha) k hk).1
        · rcases List.mem_cons.1 hc with rfl | hc
          · exact fun k hk => (no a (List.mem_append_left _ ha) k hk).2
          · exact pAC a ha c hc
  have := hnt.isT
  rw [List.length_set] at this
  exact this
/-- two neighbours become one -/
theorem parent_join (hI : Inn σ (IsT σ o h) N ks vs (A ++ X :: Y :: C) L S) (hA : A.length = j) (hj : j < ks.length) (ho : ∀ c ∈ A ++ C, c.lo = o / 2 ∧ c.hi = o)
    (hx : NT σ o h X.id xk xv xcs X.L X.S) (hy : NT σ o h Y.id yk yv ycs Y.L Y.S) (b : o / 2 ≤ xk.length + yk.length + 1 ∧ xk.length + yk.length + 1 ≤ o)
    (aX : σ' X.id = some ⟨xk ++ sx ks j :: yk, xv ++ sx vs j :: yv, (xcs ++ ycs).map (·.id)⟩)
    (aN : σ' N = some ⟨ks.take j ++ ks.drop (j + 1), vs.take j ++ vs.drop (j + 1), (A ++ X :: C).map (·.id)⟩)
    (hσ : ∀ i, i ≠ N → i ≠ X.id → σ' i = σ i) : IsT σ' o (h + 1) (ks.length - 1) (ks.length - 1) N L S := by
  obtain ⟨hXY, hoth, hAC⟩ := neigh_apart hI
  have hXm : X ∈ A ++ X :: Y :: C := by simp
  have hYm : Y ∈ A ++ X :: Y :: C := by simp
  have hXS := (hI.kids X hXm).2
  have hYS := (hI.kids Y hYm).2
  obtain ⟨XS', n1, s1⟩ := joined (σ' := σ') hx hy hXY (sx ks j) (sx vs j) aX (fun i hi h1 h2 => hσ i (fun e => by
    rcases hi with hi | hi
    · exact (hXS i hi).2 e
    · exact (hYS i hi).2 e) h1)
  have hSN : ∀ i, X.S i ∨ Y.S i → S i ∧ i ≠ N := fun i hi => hi.elim (hXS i) (hYS i)
  have hoT : ∀ c ∈ A ++ C, IsT σ' o h (o / 2) o c.id c.L c.S ∧ ∀ k, c.S k → S k ∧ k ≠ N := fun c hc => by
    have hm : c ∈ A ++ X :: Y :: C := by rcases List.mem_append.1 hc with h | h <;> simp [h]
    have hk := hI.kids c hm
    refine ⟨?_, hk.2⟩
    have h1 := hk.1
    rw [(ho c hc).1, (ho c hc).2] at h1
    exact h1.congr (fun k hk2 => hσ k (hk.2 k hk2).2 (fun e => (hoth c hc k hk2).1 (by rw [e]; exact hx.sN)))
  have hlen : (ks.take j ++ ks.drop (j + 1)).length = ks.length - 1 := by simp; omega
  have hnt : NT σ' o (h + 1) N (ks.take j ++ ks.drop (j + 1)) (vs.take j ++ vs.drop (j + 1)) (A ++ ⟨X.id, X.L ++ (sx ks j, sx vs j) :: Y.L, XS', o / 2, o⟩ :: C) L S := by
    refine ⟨by rw [aN]; simp, by simp [hI.lv], .inr ⟨by omega, by have := hI.lc; rw [hlen]; simp at this ⊢; omega⟩, ?_, hI.sN, fun i hi => ?_, ?_, ?_⟩
    · rw [flat_inter _ (by simp), zip_out ks vs j hj hI.lv, List.map_append, List.map_cons]
      have hz : (ks.zip vs).length = ks.length := by rw [List.length_zip, hI.lv, Nat.min_self]
      rw [inter_mid (A.map (·.L)) ((ks.zip vs).take j) _ (C.map (·.L)) ((ks.zip vs).drop (j + 1)) (by rw [List.length_map, hA, List.length_take, hz]; omega)]
      exact neigh_L hI hA hj
    · by_cases e1 : i = N
      · rw [e1, aN]; simp
      · by_cases e2 : i = X.id
        · rw [e2, aX]; simp
        · rw [hσ i e1 e2]; exact hI.dom i hi
    · intro c hc
      rcases List.mem_append.1 hc with hc | hc
      · exact hoT c (List.mem_append_left _ hc)
      · rcases List.mem_cons.1 hc with rfl | hc
        · exact ⟨n1.isT.bounds (by simp; omega) (by simp; omega), fun k hk => hSN k (s1 k hk)⟩
        · exact hoT c (List.mem_append_right _ hc)
    · obtain ⟨pA, pC, pAC⟩ := List.pairwise_append.1 hAC
      have no : ∀ c ∈ A ++ C, ∀ k, c.S k → ¬ XS' k := fun c hc k hk h => ((s1 k h).elim (hoth c hc k hk).1 (hoth c hc k hk).2)
      refine List.pairwise_append.2 ⟨pA, List.pairwise_cons.2 ⟨fun c hc k hk hk2 => no c (List.mem_append_right _ hc) k hk2 hk, pC⟩, fun a ha c hc => ?_⟩
      rcases List.mem_cons.1 hc with rfl | hc
      · exact fun k hk => no a (List.mem_append_left _ ha) k hk
      · exact pAC a ha c hc
  have := hnt.isT
  rw [hlen] at this
  exact this
end
end Go.Proofs.Ytegljepgncicjaa
/- Btree: refill on any tree. -/
namespace Go.Proofs.Ytegljepgncicjaa
open Go.ChangeShapes Go.WideShapes Go.ChangeAt Go.RowKit Go.Deep
set_option linter.unusedVariables false
set_option linter.unusedSimpArgs false
theorem take_last (l : List Bs) (m : Nat) (h : m + 1 = l.length) : l.take m ++ [sx l m] = l := by
  rw [sx_get (by omega), ← List.take_succ_eq_append_getElem (by omega), List.take_of_length_le (by omega)]
theorem drop_first (l : List Bs) (h : 1 ≤ l.length) : sx l 0 :: l.drop 1 = l := by
  cases l with
  | nil => simp at h
  | cons a l => rfl
theorem ids_at {A C : List Kid} {X : Kid} {j : Nat} (hA : A.length = j) : ((A ++ X :: C).map (·.id))[j]? = some X.id := by
  rw [List.map_append, List.map_cons, List.getElem?_append_right (by rw [List.length_map, hA]; exact Nat.le_refl _), List.length_map, hA, Nat.sub_self]
  rfl
theorem ids_next {A C : List Kid} {X Y : Kid} {j : Nat} (hA : A.length = j) : ((A ++ X :: Y :: C).map (·.id))[j + 1]? = some Y.id := by
  have := ids_at (A := A ++ [X]) (X := Y) (C := C) (j := j + 1) (by simp [hA])
  simpa using this
def RO (B o h N : Nat) (ks : List Bs) (L : List Pr) (S : Nat → Prop) (σ : Sig) (W W' : World) : Prop :=
  ∃ σ', Hp B W' σ' ∧ Below B W W' ∧ Ext σ σ' S ∧ IsT σ' o (h + 1) (ks.length - 1) ks.length N L S
theorem ext3 {σ : Sig} {S : Nat → Prop} {a b c : Nat} (x y z : Nd) (ha : S a) (hb : S b) (hc : S c) : Ext σ (upd (upd (upd σ a x) b y) c z) S :=
  ((Ext.upd x (.inl ha)).trans (Ext.upd y (.inl hb)) (fun _ h _ => h)).trans (Ext.upd z (.inl hc)) (fun _ h _ => h)
section
variable {σ : Sig} {B o h N j : Nat} {ks vs : List Bs} {A C : List Kid} {X Y : Kid} {L : List Pr} {S : Nat → Prop} {xk xv yk yv : List Bs} {xcs ycs : List Kid} {W : World}
theorem kc_ids (hx : NT σ o h X.id xk xv xcs X.L X.S) (hy : NT σ o h Y.id yk yv ycs Y.L Y.S) : (xcs.map (·.id) = [] ∧ ycs.map (·.id) = []) ∨ ((xcs.map (·.id)).length = xk.length + 1 ∧ (ycs.map (·.id)).length = yk.length + 1) := by
  rcases hx.kc with ⟨h1, rfl⟩ | ⟨h1, h2⟩
  · obtain ⟨_, rfl⟩ := hy.kc.resolve_right (fun e => e.1 h1)
    exact .inl ⟨rfl, rfl⟩
  · obtain ⟨_, h3⟩ := hy.kc.resolve_left (fun e => h1 e.1)
    exact .inr ⟨by simpa using h2, by simpa using h3⟩
theorem neigh_ne (hI : Inn σ (IsT σ o h) N ks vs (A ++ X :: Y :: C) L S) (hx : NT σ o h X.id xk xv xcs X.L X.S) (hy : NT σ o h Y.id yk yv ycs Y.L Y.S) : X.id ≠ N ∧ Y.id ≠ N ∧ X.id ≠ Y.id ∧ S X.id ∧ S Y.id :=
  ⟨((hI.kids X (by simp)).2 _ hx.sN).2, ((hI.kids Y (by simp)).2 _ hy.sN).2, fun e => (neigh_apart hI).1 X.id hx.sN (by rw [e]; exact hy.sN), ((hI.kids X (by simp)).2 _ hx.sN).1, ((hI.kids Y (by simp)).2 _ hy.sN).1⟩
theorem c_mr (hp : Hp B W σ) (hB : B ≤ W.heap.size) (ho : 4 ≤ o) (ho2 : o ≤ 256) (hI : Inn σ (IsT σ o h) N ks vs (A ++ X :: Y :: C) L S) (hA : A.length = j) (hj : j < ks.length) (hks : ks.length ≤ 256) (hn : ∀ c ∈ A ++ C, c.lo = o / 2 ∧ c.hi = o)
    (hx : NT σ o h X.id xk xv xcs X.L X.S) (hy : NT σ o h Y.id yk yv ycs Y.L Y.S) (b1 : o / 2 < xk.length) (b2 : xk.length ≤ o) (b3 : o / 2 ≤ yk.length + 1) (b4 : yk.length < o / 2) :
    Calls Try.prog 61 #[.pointer (some ⟨N, 0, none⟩), .int .i64 j] W fun e W' => e = .returned (.tuple #[]) ∧ RO B o h N ks L S σ W W' := by
  obtain ⟨n1, n2, n3, s1, s2⟩ := neigh_ne hI hx hy
  obtain ⟨m, hm⟩ : ∃ m, m + 1 = xk.length := ⟨xk.length - 1, by omega⟩
  have hlx := hx.lv
  have hly := hy.lv
  refine (mr_any B N X.id Y.id j m σ ks vs _ xk xv _ yk yv _ W hp hB hI.at_ hx.at_ hy.at_ n1 n2 n3 (ids_at hA) (ids_next hA) hj hI.lv (by rw [List.length_map]; exact hI.lc) hlx hly hm (by omega) (by omega) (by omega) (kc_ids hx hy)).mono ?_
  rintro e W' ⟨rfl, h1, h2⟩
  refine ⟨rfl, _, h1, h2, ext3 _ _ _ s2 hI.sN s1, ?_⟩
  refine IsT.bounds (parent_redist (xk' := xk.take m) (xv' := xv.take m) (yk' := sx ks j :: yk) (yv' := sx vs j :: yv) (k' := sx xk m) (v' := sx xv m) (xcs' := xcs.take (m + 1)) (ycs' := xcs.drop (m + 1) ++ ycs) hI hA hj hn hx hy ?_ ?_ ?_ (by simp [hlx]) (by simp [hly]) ?_ ?_ (by simp; omega) (by simp; omega) ?_ ?_ ?_ ?_) (by omega) (Nat.le_refl _)
  · have := take_last xk m hm
    conv => rhs; rw [← this]
    simp
  · have := take_last xv m (by omega)
    conv => rhs; rw [← this]
    simp
  · rw [← List.append_assoc, List.take_append_drop]
  · rcases hx.kc with ⟨g1, rfl⟩ | ⟨g1, g2⟩
    · exact .inl ⟨g1, by simp⟩
    · exact .inr ⟨g1, by simp; omega⟩
  · rcases hx.kc with ⟨g1, rfl⟩ | ⟨g1, g2⟩
    · obtain ⟨_, rfl⟩ := hy.kc.resolve_right (fun e => e.1 g1)
      exact .inl ⟨g1, by simp⟩
    · obtain ⟨_, h3⟩ := hy.kc.resolve_left (fun e => g1 e.1)
      exact .inr ⟨g1, by simp; omega⟩
  · rw [upd_same, List.map_take]
  · rw [upd_other _ _ (Ne.symm n3), upd_other _ _ n2, upd_same, List.map_append, List.map_drop]
  · rw [upd_other _ _ (Ne.symm n1), upd_same]
  · intro i e1 e2 e3
    rw [upd_other _ _ e2, upd_other _ _ e1, upd_other _ _ e3]
theorem c_ml (hp : Hp B W σ) (hB : B ≤ W.heap.size) (ho : 4 ≤ o) (ho2 : o ≤ 256) (hI : Inn σ (IsT σ o h) N ks vs (A ++ X :: Y :: C) L S) (hA : A.length = j) (hj : j < ks.length) (hks : ks.length ≤ 256) (hn : ∀ c ∈ A ++ C, c.lo = o / 2 ∧ c.hi = o)
    (hx : NT σ o h X.id xk xv xcs X.L X.S) (hy : NT σ o h Y.id yk yv ycs Y.L Y.S) (b1 : o / 2 < yk.length) (b2 : yk.length ≤ o) (b3 : o / 2 ≤ xk.length + 1) (b4 : xk.length < o / 2) :
    Calls Try.prog 62 #[.pointer (some ⟨N, 0, none⟩), .int .i64 j] W fun e W' => e = .returned (.tuple #[]) ∧ RO B o h N ks L S σ W W' := by
  obtain ⟨n1, n2, n3, s1, s2⟩ := neigh_ne hI hx hy
  have hlx := hx.lv
  have hly := hy.lv
  refine (ml_any B N X.id Y.id j σ ks vs _ xk xv _ yk yv _ W hp hB hI.at_ hx.at_ hy.at_ n1 n2 n3 (ids_at hA) (ids_next hA) hj hI.lv (by rw [List.length_map]; exact hI.lc) hlx hly (by omega) (by omega) (by omega) (by omega) (kc_ids hx hy)).mono ?_
  rintro e W' ⟨rfl, h1, h2⟩
  refine ⟨rfl, _, h1, h2, ext3 _ _ _ s1 hI.sN s2, ?_⟩
  refine IsT.bounds (parent_redist (xk' := xk ++ [sx ks j]) (xv' := xv ++ [sx vs j]) (yk' := yk.drop 1) (yv' := yv.drop 1) (k' := sx yk 0) (v' := sx yv 0) (xcs' := xcs ++ ycs.take 1) (ycs' := ycs.drop 1) hI hA hj hn hx hy ?_ ?_ ?_ (by simp [hlx]) (by simp [hly]) ?_ ?_ (by simp; omega) (by simp; omega) ?_ ?_ ?_ ?_) (by omega) (Nat.le_refl _)
  · have := drop_first yk (by omega)
    conv => rhs; rw [← this]
    simp
  · have := drop_first yv (by omega)
    conv => rhs; rw [← this]
    simp
  · rw [List.append_assoc, List.take_append_drop]
  · rcases hx.kc with ⟨g1, rfl⟩ | ⟨g1, g2⟩
    · obtain ⟨_, rfl⟩ := hy.kc.resolve_right (fun e => e.1 g1)
      exact .inl ⟨g1, by simp⟩
    · obtain ⟨_, h3⟩ := hy.kc.resolve_left (fun e => g1 e.1)
      exact .inr ⟨g1, by simp; omega⟩
  · rcases hy.kc with ⟨g1, rfl⟩ | ⟨g1, g2⟩
    · exact .inl ⟨g1, by simp⟩
    · exact .inr ⟨g1, by simp; omega⟩
  · rw [upd_other _ _ n3, upd_other _ _ n1, upd_same, List.map_append, List.map_take]
  · rw [upd_same, List.map_drop]
  · rw [upd_other _ _ (Ne.symm n2), upd_same]
  · intro i e1 e2 e3
    rw [upd_other _ _ e3, upd_other _ _ e1, upd_other _ _ e2]
theorem c_jn (hp : Hp B W σ) (hB : B ≤ W.heap.size) (ho : 4 ≤ o) (ho2 : o ≤ 256) (hI : Inn σ (IsT σ o h) N ks vs (A ++ X :: Y :: C) L S) (hA : A.length = j) (hj : j < ks.length) (hks : ks.length ≤ 256) (hn : ∀ c ∈ A ++ C, c.lo = o / 2 ∧ c.hi = o)
    (hx : NT σ o h X.id xk xv xcs X.L X.S) (hy : NT σ o h Y.id yk yv ycs Y.L Y.S) (b1 : xk.length ≤ o / 2) (b2 : yk.length ≤ o / 2) (b3 : xk.length + yk.length + 1 ≤ o) (b4 : o / 2 ≤ xk.length + yk.length + 1) :
    Calls Try.prog 63 #[.pointer (some ⟨N, 0, none⟩), .int .i64 j] W fun e W' => e = .returned (.tuple #[]) ∧ RO B o h N ks L S σ W W' := by
  obtain ⟨n1, n2, n3, s1, s2⟩ := neigh_ne hI hx hy
  have hlx := hx.lv
  have hly := hy.lv
  refine (jn_any B N X.id Y.id j σ ks vs _ xk xv _ yk yv _ W hp hB hI.at_ hx.at_ hy.at_ n1 n2 n3 (ids_at hA) (ids_next hA) hj hI.lv (by rw [List.length_map]; exact hI.lc) hlx hly (by omega) (by omega) (by omega) (kc_ids hx hy)).mono ?_
  rintro e W' ⟨rfl, h1, h2⟩
  refine ⟨rfl, _, h1, h2, (Ext.upd _ (.inl s1)).trans (Ext.upd _ (.inl hI.sN)) (fun _ h _ => h), ?_⟩
  refine IsT.bounds (parent_join hI hA hj hn hx hy ⟨b4, b3⟩ ?_ ?_ ?_) (Nat.le_refl _) (Nat.sub_le _ _)
  · rw [upd_other _ _ n1, upd_same, List.map_append]
  · rw [upd_same]
    have hA2 : (A.map (·.id)).length = j := by rw [List.length_map]; exact hA
    have e1 : ((A ++ X :: Y :: C).map (·.id)).take (j + 1) = A.map (·.id) ++ [X.id] := by
      rw [show (A ++ X :: Y :: C).map (·.id) = (A.map (·.id) ++ [X.id]) ++ (Y.id :: C.map (·.id)) by simp]
      exact List.take_left' (by simp [hA])
    have e2 : ((A ++ X :: Y :: C).map (·.id)).drop (j + 2) = C.map (·.id) := by
      rw [show (A ++ X :: Y :: C).map (·.id) = (A.map (·.id) ++ [X.id, Y.id]) ++ (C.map (·.id)) by simp]
      exact List.drop_left' (by simp [hA])
    rw [e1, e2]
    simp
  · intro i e1 e2
    rw [upd_other _ _ e1, upd_other _ _ e2]
end
theorem last_kid {A : List Kid} {i : Nat} (hA : A.length = i) (hi : 0 < i) : ∃ A' y, A = A' ++ [y] ∧ A'.length + 1 = i := by
  rcases List.eq_nil_or_concat A with rfl | ⟨A', y, h⟩
  · simp at hA; omega
  · refine ⟨A', y, by rw [h]; simp, ?_⟩
    rw [h] at hA
    simpa using hA
theorem refill_T (B o h N i : Nat) (ks vs : List Bs) (A C : List Kid) (x : Kid) (L : List Pr) (S : Nat → Prop) (σ : Sig) (W : World) (hp : Hp B W σ) (hB : B ≤ W.heap.size) (ho : 4 ≤ o) (ho2 : o ≤ 256) (hI : Inn σ (IsT σ o h) N ks vs (A ++ x :: C) L S) (hA : A.length = i)
    (hn : ∀ c ∈ A ++ C, c.lo = o / 2 ∧ c.hi = o) (hx1 : o / 2 ≤ x.lo + 1) (hx2 : x.hi ≤ o) (hk1 : 1 ≤ ks.length) (hk2 : ks.length ≤ 256) :
    Calls Try.prog 54 #[.pointer (some ⟨N, 0, none⟩), .int .i64 (o / 2 : Nat), .int .i64 i] W fun e W' => e = .returned (.tuple #[]) ∧ RO B o h N ks L S σ W W' := by
  have hns : ((A ++ x :: C).map (·.id)).length = ks.length + 1 := by rw [List.length_map]; exact hI.lc
  have hlc := hI.lc
  obtain ⟨xk, xv, xcs, bx1, bx2, hx⟩ := isT_nt (hI.kids x (by simp)).1
  have kidT : ∀ c ∈ A ++ C, IsT σ o h (o / 2) o c.id c.L c.S := fun c hc => by
    have := (hI.kids c (by rcases List.mem_append.1 hc with h | h <;> simp [h])).1
    rwa [(hn c hc).1, (hn c hc).2] at this
  by_cases hfull : o / 2 ≤ xk.length
  · refine (rf0 B N i x.id (o / 2) σ ks vs _ xk xv _ W hp hI.at_ hns (by omega) (ids_at hA) hx.at_ hfull).mono ?_
    rintro e W' ⟨rfl, hw⟩
    subst hw
    refine ⟨rfl, σ, hp, Below.refl _ _, Ext.refl _ _, ?_⟩
    refine (inn_nt hI (fun c hc => ?_)).isT.bounds (by omega) (Nat.le_refl _)
    rcases List.mem_append.1 hc with h | h
    · exact kidT c (by simp [h])
    · rcases List.mem_cons.1 h with rfl | h
      · exact hx.isT.bounds hfull (by omega)
      · exact kidT c (by simp [h])
  · have hfull' : xk.length < o / 2 := by omega
    by_cases hi0 : 0 < i
    · obtain ⟨A', y, rfl, hA'⟩ := last_kid hA hi0
      have hyT := kidT y (by simp)
      obtain ⟨yk, yv, ycs, by1, by2, hy⟩ := isT_nt hyT
      obtain ⟨j, hj⟩ : ∃ j, j = A'.length := ⟨_, rfl⟩
      have hij : i = j + 1 := by omega
      have hI2 : Inn σ (IsT σ o h) N ks vs (A' ++ y :: x :: C) L S := by simpa using hI
      have hn2 : ∀ c ∈ A' ++ C, c.lo = o / 2 ∧ c.hi = o := fun c hc => hn c (by rcases List.mem_append.1 hc with h | h <;> simp [h])
      have hjk : j < ks.length := by simp at hlc; omega
      have hyat : ((A' ++ [y] ++ x :: C).map (·.id))[j]? = some y.id := by
        have := ids_at (A := A') (X := y) (C := x :: C) (j := j) hj.symm
        simpa using this
      by_cases hl : o / 2 < yk.length
      · exact rf_mr B N i j x.id y.id 0 (o / 2) σ ks vs _ xk xv _ yk yv _ [] [] [] W _ hp hI.at_ hns (by omega) (by omega) (ids_at hA) hx.at_ hfull' hij hyat hy.at_ hl (c_mr hp hB ho ho2 hI2 hj.symm hjk hk2 hn2 hy hx hl by2 (by omega) hfull')
      · by_cases hik : i < ks.length
        · cases C with
          | nil => simp at hlc; omega
          | cons z C =>
            have hzT := kidT z (by simp)
            obtain ⟨zk, zv, zcs, bz1, bz2, hz⟩ := isT_nt hzT
            have hzat := ids_next (A := A' ++ [y]) (X := x) (Y := z) (C := C) hA
            have hn3 : ∀ c ∈ A' ++ [y] ++ C, c.lo = o / 2 ∧ c.hi = o := fun c hc => hn c (by rcases List.mem_append.1 hc with h | h
                                                                                             · exact List.mem_append_left _ h
                                                                                             · exact List.mem_append_right _ (List.mem_cons_of_mem _ h))
            by_cases hr : o / 2 < zk.length
            · exact rf_ml1 B N i j x.id y.id z.id (o / 2) σ ks vs _ xk xv _ yk yv _ zk zv _ W _ hp hI.at_ hns (by omega) (by omega) (ids_at hA) hx.at_ hfull' hij hyat hy.at_ (by omega) hzat hz.at_ hik hr (c_ml hp hB ho ho2 hI hA hik hk2 hn3 hx hz hr bz2 (by omega) hfull')
            · exact rf_jl1 B N i j x.id y.id z.id (o / 2) σ ks vs _ xk xv _ yk yv _ zk zv _ W _ hp hI.at_ hns (by omega) (by omega) (ids_at hA) hx.at_ hfull' hij hyat hy.at_ (by omega) hzat hz.at_ hik (by omega) (c_jn hp hB ho ho2 hI2 hj.symm hjk hk2 hn2 hy hx (by omega) (by omega) (by omega) (by omega))
        · exact rf_jl2 B N i j x.id y.id 0 (o / 2) σ ks vs _ xk xv _ yk yv _ [] [] [] W _ hp hI.at_ hns (by omega) (by omega) (ids_at hA) hx.at_ hfull' hij hyat hy.at_ (by omega) (by omega) (c_jn hp hB ho ho2 hI2 hj.symm hjk hk2 hn2 hy hx (by omega) (by omega) (by omega) (by omega))
    · have hi : i = 0 := by omega
      have hik : i < ks.length := by omega
      cases C with
      | nil => simp at hlc; omega
      | cons z C =>
        have hzT := kidT z (by simp)
        obtain ⟨zk, zv, zcs, bz1, bz2, hz⟩ := isT_nt hzT
        have hzat := ids_next (A := A) (X := x) (Y := z) (C := C) hA
        have hn3 : ∀ c ∈ A ++ C, c.lo = o / 2 ∧ c.hi = o := fun c hc => hn c (by rcases List.mem_append.1 hc with h | h <;> simp [h])
        by_cases hr : o / 2 < zk.length
        · exact rf_ml0 B N i 0 x.id 0 z.id (o / 2) σ ks vs _ xk xv _ [] [] [] zk zv _ W _ hp hI.at_ hns (by omega) (by omega) (ids_at hA) hx.at_ hfull' hi hzat hz.at_ hik hr (c_ml hp hB ho ho2 hI hA hik hk2 hn3 hx hz hr bz2 (by omega) hfull')
        · exact rf_jr B N i 0 x.id 0 z.id (o / 2) σ ks vs _ xk xv _ [] [] [] zk zv _ W _ hp hI.at_ hns (by omega) (by omega) (ids_at hA) hx.at_ hfull' hi hzat hz.at_ hik (by omega) (c_jn hp hB ho ho2 hI hA hik hk2 hn3 hx hz (by omega) (by omega) (by omega) (by omega))
end Go.Proofs.Ytegljepgncicjaa
/- Btree: takeLast on any tree. -/
namespace Go.Proofs.Ytegljepgncicjaa
open Go.ChangeShapes Go.WideShapes Go.ChangeAt Go.RowKit Go.Deep
set_option linter.unusedVariables false
set_option linter.unusedSimpArgs false
def Taken (k v : Bs) (P : World → Prop) (e : Ending) (W' : World) : Prop := e = .returned (.tuple #[.string k, .string v]) ∧ P W'
set_option maxRecDepth 100000 in
set_option maxHeartbeats 1600000 in
theorem tl_leaf (B N m least : Nat) (σ : Sig) (ks vs : List Bs) (W : World) (hp : Hp B W σ) (hB : B ≤ W.heap.size) (hN : σ N = some ⟨ks, vs, []⟩) (hm : m + 1 = ks.length) (hv : vs.length = ks.length) (hs : ks.length ≤ 260) :
    Calls Try.prog 53 #[.pointer (some ⟨N, 0, none⟩), .int .i64 least] W (Taken (sx ks m) (sx vs m) fun W' => Hp B W' (upd σ N ⟨ks.take m ++ ks.drop (m + 1), vs.take m ++ vs.drop (m + 1), []⟩) ∧ Below B W W') := by
  have HP := Lib.hid hp
  obtain ⟨kg, kc, k0, _, _, _, hkc⟩ := hp.g0 hN (by omega)
  obtain ⟨vg, vc, v0, _, _, _, hvc⟩ := hp.g1 hN (by omega)
  obtain ⟨da, dc, d0, _, _⟩ := hp.f2 hN
  change W.cell? _ = some (.slice da 0 dc) at d0
  have ck := hkc m (by omega)
  have cv := hvc m (by omega)
  have h1 : m < ks.length := by omega
  have h2 : m < vs.length := by omega
  have hw : IntKind.i64.wrap ((ks.length : Int) - 1) = (m : Int) := by rw [IntKind.wrap_i64]; omega
  have HM := Lib.hid (And.intro hm hv)
  have HN := Lib.hid hN
  clear hkc hvc hp hm hv hN
  go_enter Try.func53, Try.ntmps53
  go_wp2_with fail
  go_quiet (fail)
  go_wp2_with fail
  refine (cutN_any B N m σ ks vs [] _ (HP.out.drewN _) hB HN.out h1 HM.out.2 (by omega)).mono ?_
  rintro e W1 ⟨rfl, hp1, hb1⟩
  have HQ := Lib.hid (And.intro hp1 ((below_drewN'' (Below.refl B W) _).trans hb1))
  clear hp1 hb1 HP k0 v0 d0 ck cv
  go_wp2_with fail
  go_ret2
  exact ⟨rfl, HQ.out⟩
set_option maxRecDepth 100000 in
set_option maxHeartbeats 1600000 in
theorem tl_inner (B N M m least : Nat) (σ : Sig) (ks vs : List Bs) (ns : List Nat) (k v : Bs) (P Q : World → Prop) (W : World) (hp : Hp B W σ) (hN : σ N = some ⟨ks, vs, ns⟩) (hm : m + 1 = ks.length) (hns : ns.length = ks.length + 1) (hs : ks.length ≤ 260) (hM : ns[m + 1]? = some M)
    (hrec : Calls Try.prog 53 #[.pointer (some ⟨M, 0, none⟩), .int .i64 least] W (Taken k v P))
    (href : ∀ W', P W' → Calls Try.prog 54 #[.pointer (some ⟨N, 0, none⟩), .int .i64 least, .int .i64 (m + 1 : Nat)] W' (fun e W'' => e = .returned (.tuple #[]) ∧ Q W'')) :
    Calls Try.prog 53 #[.pointer (some ⟨N, 0, none⟩), .int .i64 least] W (Taken k v Q) := by
  have HR := Lib.hid hrec
  have HF := Lib.hid href
  obtain ⟨ka, kc, k0, _, _⟩ := hp.f0 hN
  obtain ⟨ng, nc, n2, _, _, _, hdc⟩ := hp.g2 hN (by omega)
  have ci := hdc (m + 1) M hM
  have hin : m + 1 < ns.length := (List.getElem?_eq_some_iff.1 hM).1
  have hn0 : 0 < ns.length := by omega
  have hi1 : (0 : Int) ≤ (m : Int) + 1 := by omega
  have hi2 : (m : Int) + 1 < (ns.length : Int) := by omega
  have hi3 : ((m : Int) + 1).toNat = m + 1 := by omega
  have hw : IntKind.i64.wrap ((ks.length : Int) - 1) = (m : Int) := by rw [IntKind.wrap_i64]; omega
  have hw2 : IntKind.i64.wrap ((m : Int) + 1) = ((m + 1 : Nat) : Int) := by rw [IntKind.wrap_i64]; omega
  clear hdc hp hm hN hrec href hM hns
  go_enter Try.func53, Try.ntmps53
  go_wp2_with fail
  refine HR.out.mono ?_
  rintro e W1 ⟨rfl, hP⟩
  have H2 := Lib.hid (HF.out W1 hP)
  clear hP HF HR k0 n2 ci
  go_wp2_with fail
  refine H2.out.mono ?_
  rintro e W2 ⟨rfl, hQ⟩
  have HQ := Lib.hid hQ
  clear hQ H2
  go_wp2_with fail
  go_ret2
  exact ⟨rfl, HQ.out⟩
/-- what a call that takes away leaves -/
def Less (B o h lo hi N : Nat) (L' : List Pr) (S : Nat → Prop) (σ : Sig) (W W' : World) : Prop :=
  Below B W W' ∧ ∃ σ', Hp B W' σ' ∧ Ext σ σ' S ∧ IsT σ' o h lo hi N L' (Grow S σ σ')
theorem grow_trans {σ σ1 σ2 : Sig} {S : Nat → Prop} (h1 : Ext σ σ1 S) (h2 : Ext σ1 σ2 (Grow S σ σ1)) : Ext σ σ2 S :=
  h1.trans h2 (fun k hk hn => hk.elim id (fun e => absurd e.1 hn))
theorem isT_grow {σ σ1 σ2 : Sig} {S : Nat → Prop} {o h lo hi N : Nat} {L : List Pr} (h1 : Ext σ σ1 S) (h2 : Ext σ1 σ2 (Grow S σ σ1)) (hd : ∀ k, S k → σ k ≠ none) (hT : IsT σ2 o h lo hi N L (Grow S σ σ1)) : IsT σ2 o h lo hi N L (Grow S σ σ2) :=
  hT.super (fun k hk => hk.elim .inl (fun e => .inr ⟨e.1, h2.keep k e.2⟩)) (grow_dom (grow_trans h1 h2) hd)
/-- a kid has been worked on; refill sets its parent right -/
theorem after_kid {B o h N i : Nat} {ks vs : List Bs} {A C : List Kid} {x : Kid} {L L' Lx : List Pr} {S : Nat → Prop} {σ σ1 : Sig} {W W1 : World} (ho : 4 ≤ o) (ho2 : o ≤ 256) (hI : Inn σ (IsT σ o h) N ks vs (A ++ x :: C) L S) (hA : A.length = i)
    (hn : ∀ c ∈ A ++ x :: C, c.lo = o / 2 ∧ c.hi = o) (hk1 : 1 ≤ ks.length) (hk2 : ks.length ≤ 256) (hp1 : Hp B W1 σ1) (hB : B ≤ W1.heap.size) (he : Ext σ σ1 x.S) (hT : IsT σ1 o h (o / 2 - 1) o x.id Lx (Grow x.S σ σ1))
    (hL : L' = interL (A.map (·.L)) ((ks.zip vs).take i) ++ (Lx ++ interR ((ks.zip vs).drop i) (C.map (·.L)))) (hb : Below B W W1) :
    Calls Try.prog 54 #[.pointer (some ⟨N, 0, none⟩), .int .i64 (o / 2 : Nat), .int .i64 i] W1 fun e W' => e = .returned (.tuple #[]) ∧ Less B o (h + 1) (ks.length - 1) ks.length N L' S σ W W' := by
  have hlc := hI.lc
  have hil : i ≤ ks.length := by simp at hlc; omega
  have hxm : x ∈ A ++ x :: C := by simp
  have heS : Ext σ σ1 S := he.sub (fun k hk _ => ((hI.kids x hxm).2 k hk).1)
  have hrep := inn_replace (lo' := o / 2 - 1) (hi' := o) hI hA hil he hT hL
  refine (refill_T B o h N i ks vs A C _ L' _ σ1 W1 hp1 hB ho ho2 hrep hA (fun c hc => hn c (by
    rcases List.mem_append.1 hc with h | h
    · exact List.mem_append_left _ h
    · exact List.mem_append_right _ (List.mem_cons_of_mem _ h))) (by show o / 2 ≤ o / 2 - 1 + 1; omega) (Nat.le_refl _) hk1 hk2).mono ?_
  rintro e W2 ⟨rfl, σ2, hp2, hb2, he2, hT2⟩
  exact ⟨rfl, hb.trans hb2, σ2, hp2, grow_trans heS he2, isT_grow heS he2 hI.dom hT2⟩
theorem last_nonempty {σ : Sig} {o : Nat} {h lo hi N : Nat} {L : List Pr} {S : Nat → Prop} (hT : IsT σ o h lo hi N L S) (hl : 1 ≤ lo) : L ≠ [] := by
  obtain ⟨ks, vs, cs, h1, h2, hn⟩ := isT_nt hT
  have hlv := hn.lv
  have hz : (ks.zip vs).length = ks.length := by rw [List.length_zip]; omega
  intro e
  have hsub : (ks.zip vs).length ≤ L.length := by
    rw [hn.eL]
    rcases hn.kc with ⟨_, rfl⟩ | ⟨_, hc⟩
    · exact Nat.le_refl _
    · rw [flat_inter _ (fun e => by have := List.map_eq_nil_iff.1 e; simp_all)]
      exact (inter_keys _ _ (by rw [List.length_map, hz]; exact hc)).length_le
  rw [hz, e] at hsub
  have h0 : ks.length ≤ 0 := hsub
  omega
theorem takeLast_T (B o : Nat) (ho : 4 ≤ o) (ho2 : o ≤ 256) : ∀ (h lo hi N : Nat) (L0 : List Pr) (k v : Bs) (S : Nat → Prop) (σ : Sig) (W : World), Hp B W σ → B ≤ W.heap.size → IsT σ o h lo hi N (L0 ++ [(k, v)]) S → 1 ≤ lo → hi ≤ o →
    Calls Try.prog 53 #[.pointer (some ⟨N, 0, none⟩), .int .i64 (o / 2 : Nat)] W (Taken k v (Less B o h (lo - 1) hi N L0 S σ W)) := by
  intro h
  induction h with
  | zero =>
    intro lo hi N L0 k v S σ W hp hB hT hlo hhi
    obtain ⟨ks, vs, h1, h2, h3, h4, h5, h6, h7⟩ := hT
    obtain ⟨m, hm⟩ : ∃ m, m + 1 = ks.length := ⟨ks.length - 1, by omega⟩
    have hz := zip_atm ks vs m (by omega) h2
    have hzl : (ks.zip vs).length = ks.length := by rw [List.length_zip]; omega
    rw [List.drop_eq_nil_of_le (by omega), ← h5] at hz
    obtain ⟨e1, e2⟩ := List.append_inj' hz (by simp)
    have e3 : (k, v) = (sx ks m, sx vs m) := by simpa using e2
    cases e3
    refine (tl_leaf B N m (o / 2) σ ks vs W hp hB h1 hm h2 (by omega)).mono ?_
    rintro e W' ⟨rfl, hp', hb'⟩
    refine ⟨rfl, hb', _, hp', Ext.upd _ (.inl h6), IsT.grow (S := S) ?_ (Ext.upd _ (.inl h6)) h7⟩
    refine ⟨_, _, upd_same _ _ _, by simp [h2], by simp; omega, by simp; omega, ?_, h6, fun k hk => upd_ne (h7 k hk)⟩
    rw [zip_out ks vs m (by omega) h2, List.drop_eq_nil_of_le (by omega), List.append_nil, ← h5]
    exact e1
  | succ h ih =>
    intro lo hi N L0 k v S σ W hp hB hT hlo hhi
    obtain ⟨ks, vs, cs, h1, h2, hI, h4⟩ := hT
    obtain ⟨m, hm⟩ : ∃ m, m + 1 = ks.length := ⟨ks.length - 1, by omega⟩
    obtain ⟨A, x, C, hcs, hA, hC, hL⟩ := hI.around (m + 1) (by omega)
    have hC0 : C = [] := List.eq_nil_of_length_eq_zero (by omega)
    subst hC0
    subst hcs
    have hxm : x ∈ A ++ [x] := by simp
    have hxT := (hI.kids x hxm).1
    rw [(h4 x hxm).1, (h4 x hxm).2] at hxT
    have hne := last_nonempty hxT (by omega)
    obtain ⟨xL0, xp, hxL⟩ : ∃ xL0 xp, x.L = xL0 ++ [xp] := by
      rcases List.eq_nil_or_concat x.L with h | ⟨a, b, h⟩
      · exact absurd h hne
      · exact ⟨a, b, by rw [h]; simp⟩
    have hzl : (ks.zip vs).length = ks.length := by rw [List.length_zip, hI.lv, Nat.min_self]
    have hR : interR ((ks.zip vs).drop (m + 1)) (([] : List Kid).map (·.L)) = [] := by rw [List.drop_eq_nil_of_le (by omega)]; rfl
    rw [hR, List.append_nil, hxL, ← List.append_assoc] at hL
    obtain ⟨e1, e2⟩ := List.append_inj' hL (by simp)
    have e3 : (k, v) = xp := by simpa using e2
    subst e3
    rw [hxL] at hxT
    have hns : ((A ++ [x]).map (·.id)).length = ks.length + 1 := by rw [List.length_map]; exact hI.lc
    refine (tl_inner B N x.id m (o / 2) σ ks vs _ k v (Less B o h (o / 2 - 1) o x.id xL0 x.S σ W) (Less B o (h + 1) (ks.length - 1) ks.length N L0 S σ W) W hp hI.at_ hm hns (by omega) (ids_at (C := []) hA) (ih (o / 2) o x.id xL0 k v x.S σ W hp hB hxT (by omega) (Nat.le_refl _)) (fun W1 hP => ?_)).mono ?_
    · obtain ⟨hb1, σ1, hp1, he1, hT1⟩ := hP
      refine after_kid ho ho2 hI hA h4 (by omega) (by omega) hp1 (Nat.le_trans hB hb1.size) he1 hT1 ?_ hb1
      rw [hR, List.append_nil]
      exact e1
    · rintro e W' ⟨rfl, hb, σ', hp', he', hT'⟩
      exact ⟨rfl, hb, σ', hp', he', hT'.bounds (by omega) h2⟩
end Go.Proofs.Ytegljepgncicjaa
/- Btree: a node is left alone while others are worked on. -/
namespace Go.Proofs.Ytegljepgncicjaa
open Go.ChangeShapes Go.WideShapes Go.ChangeAt Go.RowKit Go.Deep
set_option linter.unusedVariables false
set_option linter.unusedSimpArgs false
/-- the blocks of a node and of its rows -/
def Blk (W : World) (N k : Nat) : Prop := k = N ∨ ∃ j v, j < 3 ∧ W.cell? ⟨N, j, none⟩ = some v ∧ v.ownBlock = some k
def Sig.without (σ : Sig) (W : World) (N : Nat) (P : Nat → Prop) [DecidablePred P] : Sig := ⟨fun k => if k = N then none else σ.f k, fun k => if P k then W.heap[k]? else σ.F k⟩
def Sig.with_ (σ : Sig) (σ0 : Sig) (N : Nat) (nd : Nd) : Sig := ⟨fun k => if k = N then some nd else σ.f k, σ0.F⟩
open Classical in
theorem Hp.hide {B : Nat} {W : World} {σ : Sig} (hp : Hp B W σ) {N : Nat} {nd : Nd} (hN : σ N = some nd) :
    ∃ σh : Sig, (∀ k, k ≠ N → σh k = σ k) ∧ σh N = none ∧ Hp B W σh ∧ ∀ (W1 : World) (σ1 : Sig), Hp B W1 σ1 → σ1.F = σh.F → W.heap.size ≤ W1.heap.size →
      σ1 N = none ∧ Hp B W1 (σ1.with_ σ N nd) ∧ ∀ k, Blk W N k → W1.heap[k]? = W.heap[k]? := by
  obtain ⟨fv, own, h, hF⟩ := hp
  obtain ⟨hb, hB, hown, hr⟩ := h N nd hN
  have hcell : ∀ j, j < 3 → W.cell? ⟨N, j, none⟩ = some (fv N j) := fun j hj => box_j hb (fv N) rfl rfl rfl j hj
  let P : Nat → Prop := fun k => k = N ∨ ∃ j, j < 3 ∧ (fv N j).ownBlock = some k
  have hPN : P N := .inl rfl
  have hPown : ∀ k, P k → own k = (N, 0) ∧ k = N ∨ ∃ j, j < 3 ∧ (fv N j).ownBlock = some k ∧ own k = (N, j + 1) := fun k hk => by
    rcases hk with rfl | ⟨j, hj, e⟩
    · exact .inl ⟨hown, rfl⟩
    · exact .inr ⟨j, hj, e, (hr j hj).2 k e⟩
  have hP9 : ∀ k, P k → own k ≠ (k, 9) := fun k hk e => by
    rcases hPown k hk with ⟨h1, _⟩ | ⟨j, hj, _, h1⟩
    · rw [h1] at e; simp at e
    · rw [h1] at e; simp at e; omega
  have hPlt : ∀ k, P k → k < W.heap.size := fun k hk => by
    rcases hk with rfl | ⟨j, hj, e⟩
    · exact hb.lt
    · exact ((hr j hj).1.lt k e).2
  have hPM : ∀ M md, σ M = some md → M ≠ N → ¬ P M := fun M md hM hMN hP => by
    have hoM := (h M md hM).2.2.1
    rcases hPown M hP with ⟨_, h2⟩ | ⟨j, hj, _, h2⟩
    · exact hMN h2
    · rw [hoM] at h2; simp at h2
  have hPg : ∀ M md, σ M = some md → M ≠ N → ∀ i, i < 3 → ∀ g, (fv M i).ownBlock = some g → ¬ P g := fun M md hM hMN i hi g e hP => by
    have hog := ((h M md hM).2.2.2 i hi).2 g e
    rcases hPown g hP with ⟨h1, _⟩ | ⟨j, hj, _, h2⟩
    · rw [hog] at h1; simp at h1
    · rw [hog] at h2; simp at h2; exact hMN h2.1
  refine ⟨Sig.without σ W N P, fun k hk => if_neg hk, if_pos rfl, ⟨fv, fun k => if P k then (k, 9) else own k, ?_, ?_⟩, ?_⟩
  · intro M md hM
    have hMN : M ≠ N := fun e => by
      have : (if M = N then none else σ.f M) = some md := hM
      rw [if_pos e] at this; cases this
    have hM' : σ M = some md := by
      have : (if M = N then none else σ.f M) = some md := hM
      rw [if_neg hMN] at this; exact this
    obtain ⟨q1, q2, q3, q4⟩ := h M md hM'
    refine ⟨q1, q2, ?_, fun i hi => ⟨(q4 i hi).1, fun g e => ?_⟩⟩
    · show (if P M then (M, 9) else own M) = (M, 0)
      rw [if_neg (hPM M md hM' hMN)]; exact q3
    · show (if P g then (g, 9) else own g) = (M, i + 1)
      rw [if_neg (hPg M md hM' hMN i hi g e)]; exact (q4 i hi).2 g e
  · intro k b hb'
    have hb2 : (if P k then W.heap[k]? else σ.F k) = some b := hb'
    show (if P k then (k, 9) else own k) = (k, 9) ∧ _
    by_cases hk : P k
    · rw [if_pos hk] at hb2 ⊢
      exact ⟨rfl, hb2⟩
    · rw [if_neg hk] at hb2 ⊢
      exact hF k b hb2
  · rintro W1 σ1 ⟨fv1, own1, h1, hF1⟩ hFe hsz
    have hPk : ∀ k, P k → own1 k = (k, 9) ∧ W1.heap[k]? = W.heap[k]? := fun k hk => by
      obtain ⟨b, hb2⟩ : ∃ b, W.heap[k]? = some b := ⟨_, Array.getElem?_eq_getElem (hPlt k hk)⟩
      have : σ1.F k = some b := by
        rw [hFe]
        show (if P k then W.heap[k]? else σ.F k) = some b
        rw [if_pos hk]; exact hb2
      rw [hb2]
      exact hF1 k b this
    have hn : σ1 N = none := by
      cases hs : σ1 N with
      | none => rfl
      | some md =>
        have e1 := (h1 N md hs).2.2.1
        rw [(hPk N hPN).1] at e1
        simp at e1
    have hnot : ∀ M md, σ1 M = some md → ¬ P M ∧ ∀ i, i < 3 → ∀ g, (fv1 M i).ownBlock = some g → ¬ P g := fun M md hM => by
      obtain ⟨_, _, q3, q4⟩ := h1 M md hM
      refine ⟨fun hP => ?_, fun i hi g e hP => ?_⟩
      · have := (hPk M hP).1
        rw [q3] at this; simp at this
      · have e1 := (q4 i hi).2 g e
        have e2 := (hPk g hP).1
        rw [e1] at e2; simp at e2; omega
    refine ⟨hn, ⟨fun M i => if M = N then fv N i else fv1 M i, fun k => if P k then own k else own1 k, ?_, ?_⟩, fun k hk => ?_⟩
    · intro M md hM
      have hM2 : (if M = N then some nd else σ1.f M) = some md := hM
      by_cases hMN : M = N
      · subst hMN
        rw [if_pos rfl] at hM2
        cases hM2
        simp only [if_true]
        refine ⟨hb.heap (hPk M hPN).2 hsz, hB, ?_, fun j hj => ⟨?_, fun g e => ?_⟩⟩
        · show (if P M then own M else own1 M) = (M, 0)
          rw [if_pos hPN]; exact hown
        · have hrow := (hr j hj).1
          rcases hrow with ⟨e1, e2⟩ | ⟨g, c, e1, e2, e3, e4, e5, e6⟩
          · exact .inl ⟨e1, e2⟩
          · have hg : P g := .inr ⟨j, hj, by rw [e1]; rfl⟩
            have he := (hPk g hg).2
            exact .inr ⟨g, c, e1, e2, e3, e4, e5.same he, fun i hi => (World.cell?_of_block (a := ⟨g, i, none⟩) he).trans (e6 i hi)⟩
        · show (if P g then own g else own1 g) = (M, j + 1)
          rw [if_pos (show P g from .inr ⟨j, hj, e⟩)]; exact (hr j hj).2 g e
      · rw [if_neg hMN] at hM2
        obtain ⟨q1, q2, q3, q4⟩ := h1 M md hM2
        simp only [hMN, if_false]
        refine ⟨q1, q2, ?_, fun i hi => ⟨(q4 i hi).1, fun g e => ?_⟩⟩
        · show (if P M then own M else own1 M) = (M, 0)
          rw [if_neg (hnot M md hM2).1]; exact q3
        · show (if P g then own g else own1 g) = (M, i + 1)
          rw [if_neg ((hnot M md hM2).2 i hi g e)]; exact (q4 i hi).2 g e
    · intro k b hb'
      have hFk := hF k b hb'
      have hk : ¬ P k := fun hk => hP9 k hk hFk.1
      show (if P k then own k else own1 k) = (k, 9) ∧ _
      rw [if_neg hk]
      refine hF1 k b ?_
      rw [hFe]
      show (if P k then W.heap[k]? else σ.F k) = some b
      rw [if_neg hk]; exact hb'
    · refine (hPk k ?_).2
      rcases hk with rfl | ⟨j, v, hj, hv, e⟩
      · exact .inl rfl
      · refine .inr ⟨j, hj, ?_⟩
        have := hcell j hj
        rw [hv] at this
        rw [← Option.some.inj this]; exact e
end Go.Proofs.Ytegljepgncicjaa
/- Btree: the walks of remove. -/
namespace Go.Proofs.Ytegljepgncicjaa
open Go.ChangeShapes Go.WideShapes Go.ChangeAt Go.RowKit Go.Deep
set_option linter.unusedVariables false
set_option linter.unusedSimpArgs false
theorem bx {x y : Bool} (h : x = y) : Ending.returned (.bool x) = .returned (.bool y) := by rw [h]
set_option maxRecDepth 100000 in
set_option maxHeartbeats 1600000 in
theorem rm_leaf_yes (B N i least : Nat) (σ : Sig) (ks vs : List Bs) (key : Bs) (W : World) (hp : Hp B W σ) (hB : B ≤ W.heap.size) (hN : σ N = some ⟨ks, vs, []⟩) (hs : ks.length ≤ 260) (hv : vs.length = ks.length) (hi : i = bsI ks key) (hil : i < ks.length) (hf : bsF ks key = true) :
    Calls Try.prog 44 #[.pointer (some ⟨N, 0, none⟩), .int .i64 least, .string key] W fun e W' => e = .returned (.bool true) ∧ Hp B W' (upd σ N ⟨ks.take i ++ ks.drop (i + 1), vs.take i ++ vs.drop (i + 1), []⟩) ∧ Below B W W' := by
  obtain ⟨ka, kc, c0, hbs⟩ := hp.bs hN (by omega) key
  rw [← hi, hf] at hbs
  have HBS := Lib.hid hbs
  have HP := Lib.hid hp
  obtain ⟨da, dc, d0, _, _⟩ := hp.f2 hN
  change W.cell? _ = some (.slice da 0 dc) at d0
  have HN := Lib.hid (And.intro hN hv)
  clear hbs hi hf hp hv hN
  go_enter Try.func44, Try.ntmps44
  go_wp2_with fail
  refine HBS.out.mono ?_
  rintro e W1 ⟨rfl, q, rfl⟩
  clear HBS c0
  go_wp2_with fail
  refine (cutN_any B N i σ ks vs [] _ (HP.out.drewN q) hB HN.out.1 hil HN.out.2 (by omega)).mono ?_
  rintro e W2 ⟨rfl, hp1, hb1⟩
  have HQ := Lib.hid (And.intro hp1 ((below_drewN'' (Below.refl B W) q).trans hb1))
  clear hp1 hb1 HP d0
  go_wp2_with fail
  go_ret
  exact ⟨rfl, HQ.out⟩
set_option maxRecDepth 100000 in
set_option maxHeartbeats 1600000 in
theorem rm_leaf_no (B N i least : Nat) (σ : Sig) (ks vs : List Bs) (key : Bs) (W : World) (hp : Hp B W σ) (hN : σ N = some ⟨ks, vs, []⟩) (hs : ks.length ≤ 260) (hi : i = bsI ks key) (hf : bsF ks key = false) :
    Calls Try.prog 44 #[.pointer (some ⟨N, 0, none⟩), .int .i64 least, .string key] W fun e W' => e = .returned (.bool false) ∧ ∃ q, W' = W.drewN q := by
  obtain ⟨ka, kc, c0, hbs⟩ := hp.bs hN (by omega) key
  rw [← hi, hf] at hbs
  have HBS := Lib.hid hbs
  obtain ⟨da, dc, d0, _, _⟩ := hp.f2 hN
  change W.cell? _ = some (.slice da 0 dc) at d0
  clear hbs hi hf hp hN
  go_enter Try.func44, Try.ntmps44
  go_wp2_with fail
  refine HBS.out.mono ?_
  rintro e W1 ⟨rfl, q, rfl⟩
  clear HBS c0
  go_wp2_with fail
  go_ret
  exact ⟨rfl, q, rfl⟩
set_option maxRecDepth 100000 in
set_option maxHeartbeats 1600000 in
theorem rm_no_inner (B N M i least : Nat) (b : Bool) (σ : Sig) (ks vs : List Bs) (ns : List Nat) (key : Bs) (P Q : World → Prop) (W : World) (hp : Hp B W σ) (hN : σ N = some ⟨ks, vs, ns⟩) (hs : ks.length ≤ 260) (hns : ns.length = ks.length + 1) (hi : i = bsI ks key) (hf : bsF ks key = false) (hM : ns[i]? = some M)
    (hrec : ∀ q, Calls Try.prog 44 #[.pointer (some ⟨M, 0, none⟩), .int .i64 least, .string key] (W.drewN q) fun e W' => e = .returned (.bool b) ∧ P W')
    (hno : b = false → ∀ W', P W' → Q W')
    (href : b = true → ∀ W', P W' → Calls Try.prog 54 #[.pointer (some ⟨N, 0, none⟩), .int .i64 least, .int .i64 i] W' (fun e W'' => e = .returned (.tuple #[]) ∧ Q W'')) :
    Calls Try.prog 44 #[.pointer (some ⟨N, 0, none⟩), .int .i64 least, .string key] W fun e W' => e = .returned (.bool b) ∧ Q W' := by
  obtain ⟨ka, kc, c0, hbs⟩ := hp.bs hN (by omega) key
  rw [← hi, hf] at hbs
  have HBS := Lib.hid hbs
  obtain ⟨ng, nc, n2, _, _, _, hdc⟩ := hp.g2 hN (by omega)
  have ci := hdc i M hM
  have hin : i < ns.length := (List.getElem?_eq_some_iff.1 hM).1
  have hn0 : 0 < ns.length := by omega
  have HR := Lib.hid hrec
  have HF := Lib.hid href
  have HO := Lib.hid hno
  clear hbs hi hf hp hN hdc hM hns hrec href hno
  go_enter Try.func44, Try.ntmps44
  go_wp2_with fail
  refine HBS.out.mono ?_
  rintro e W1 ⟨rfl, q, rfl⟩
  clear HBS c0
  go_wp2_with fail
  refine (HR.out q).mono ?_
  rintro e W2 ⟨rfl, hP⟩
  have HP := Lib.hid hP
  clear hP HR n2 ci
  cases b with
  | false =>
    have HQ := Lib.hid (HO.out rfl W2 HP.out)
    go_wp2_with fail
    go_ret
    exact ⟨rfl, HQ.out⟩
  | true =>
    have H2 := Lib.hid (HF.out rfl W2 HP.out)
    clear HF HO HP
    go_wp2_with fail
    refine H2.out.mono ?_
    rintro e W3 ⟨rfl, hQ⟩
    have HQ := Lib.hid hQ
    clear hQ H2
    go_wp2_with fail
    go_ret
    exact ⟨rfl, HQ.out⟩
set_option maxRecDepth 100000 in
set_option maxHeartbeats 3200000 in
theorem rm_yes_inner (B N M i least : Nat) (σ : Sig) (ks vs : List Bs) (ns : List Nat) (key k v : Bs) (F : Sig → Prop) (Q : World → Prop) (W : World) (hp : Hp B W σ) (hB : B ≤ W.heap.size) (hN : σ N = some ⟨ks, vs, ns⟩) (hs : ks.length ≤ 260) (hv : vs.length = ks.length) (hns : ns.length = ks.length + 1) (hi : i = bsI ks key) (hil : i < ks.length) (hf : bsF ks key = true) (hM : ns[i]? = some M)
    (hrec : ∀ q, Calls Try.prog 53 #[.pointer (some ⟨M, 0, none⟩), .int .i64 least] (W.drewN q) (Taken k v fun W1 => ∃ σ1, F σ1 ∧ σ1 N = some ⟨ks, vs, ns⟩ ∧ Hp B W1 σ1 ∧ Below B W W1 ∧ ∀ b, Blk W N b → W1.heap[b]? = W.heap[b]?))
    (href : ∀ σ1 W', F σ1 → Hp B W' (upd σ1 N ⟨ks.set i k, vs.set i v, ns⟩) → Below B W W' → Calls Try.prog 54 #[.pointer (some ⟨N, 0, none⟩), .int .i64 least, .int .i64 i] W' (fun e W'' => e = .returned (.tuple #[]) ∧ Q W'')) :
    Calls Try.prog 44 #[.pointer (some ⟨N, 0, none⟩), .int .i64 least, .string key] W fun e W' => e = .returned (.bool true) ∧ Q W' := by
  obtain ⟨kg, kc, c0, _, _, _, _⟩ := hp.g0 hN (by omega)
  obtain ⟨ka', kc', c0', hbs⟩ := hp.bs hN (by omega) key
  rw [c0] at c0'
  cases c0'
  rw [← hi, hf] at hbs
  have HBS := Lib.hid hbs
  obtain ⟨vg, vc, c1, _, _, _, _⟩ := hp.g1 hN (by omega)
  obtain ⟨ng, nc, c2, _, _, _, hdc⟩ := hp.g2 hN (by omega)
  have ci := hdc i M hM
  have hin : i < ns.length := (List.getElem?_eq_some_iff.1 hM).1
  have hn0 : 0 < ns.length := by omega
  have hiv : i < vs.length := by omega
  have HR := Lib.hid hrec
  have HF := Lib.hid href
  clear hbs hi hf hp hN hdc hM hns hrec href hv
  go_enter Try.func44, Try.ntmps44
  go_wp2_with fail
  refine HBS.out.mono ?_
  rintro e W1 ⟨rfl, q, rfl⟩
  clear HBS
  go_wp2_with fail
  refine wp_region_ordW 26 25 [(0, 0), (1, 0), (2, 0), (3, 1), (4, 0), (5, 0), (6, 0), (7, 0), (8, 1), (9, 0), (10, 0), (11, 0), (12, 0), (13, 1), (14, 0), (15, 0), (16, 1), (17, 0), (18, 2), (19, 0), (20, 0), (21, 0), (22, 0), (23, 2), (24, 0), (25, 3)] (fun X => X.cell? ⟨N, 0, none⟩ = some (.slice (some ⟨kg, 0, none⟩) ks.length kc) ∧ X.cell? ⟨N, 1, none⟩ = some (.slice (some ⟨vg, 0, none⟩) vs.length vc) ∧ X.cell? ⟨N, 2, none⟩ = some (.slice (some ⟨ng, 0, none⟩) ns.length nc) ∧ X.cell? ⟨ng, i, none⟩ = some (.pointer (some ⟨M, 0, none⟩))) (by kernel_rfl) (by kernel_rfl) ⟨c0, c1, c2, ci⟩ (fun c a d v w h => by cases d <;> exact h) ?_
  apply wpOrd_read0
  case hi => rfl
  case hw => rfl
  case hy => (intro w; go_simp; try rfl)
  intro K hK; go_simp; refine hK _ _ ?_; clear hK K
  apply wpOrd_read0
  case hi => rfl
  case hw => rfl
  case hy => (intro w; go_simp; try rfl)
  intro K hK; go_simp; refine hK _ _ ?_; clear hK K
  apply wpOrd_read0
  case hi => rfl
  case hw => rfl
  case hy => (intro w; go_simp; try rfl)
  intro K hK; go_simp; refine hK _ _ ?_; clear hK K
  apply wpOrd_read1
  case hi => rfl
  case hw => rfl
  case hy => (intro w hw; obtain ⟨h1, h2, h3, h4⟩ := hw; go_simp; try rfl)
  intro K hK; go_simp; refine hK _ _ ?_; clear hK K
  apply wpOrd_read0
  case hi => rfl
  case hw => rfl
  case hy => (intro w; go_simp; try rfl)
  intro K hK; go_simp; refine hK _ _ ?_; clear hK K
  apply wpOrd_read0
  case hi => rfl
  case hw => rfl
  case hy => (intro w; go_simp; try rfl)
  intro K hK; go_simp; refine hK _ _ ?_; clear hK K
  apply wpOrd_read0
  case hi => rfl
  case hw => rfl
  case hy => (intro w; go_simp; try rfl)
  intro K hK; go_simp; refine hK _ _ ?_; clear hK K
  apply wpOrd_read0
  case hi => rfl
  case hw => rfl
  case hy => (intro w; go_simp; try rfl)
  intro K hK; go_simp; refine hK _ _ ?_; clear hK K
  apply wpOrd_read1
  case hi => rfl
  case hw => rfl
  case hy => (intro w hw; obtain ⟨h1, h2, h3, h4⟩ := hw; go_simp; try rfl)
  intro K hK; go_simp; refine hK _ _ ?_; clear hK K
  apply wpOrd_read0
  case hi => rfl
  case hw => rfl
  case hy => (intro w; go_simp; try rfl)
  intro K hK; go_simp; refine hK _ _ ?_; clear hK K
  apply wpOrd_read0
  case hi => rfl
  case hw => rfl
  case hy => (intro w; go_simp; try rfl)
  intro K hK; go_simp; refine hK _ _ ?_; clear hK K
  apply wpOrd_read0
  case hi => rfl
  case hw => rfl
  case hy => (intro w; go_simp; try rfl)
  intro K hK; go_simp; refine hK _ _ ?_; clear hK K
  apply wpOrd_read0
  case hi => rfl
  case hw => rfl
  case hy => (intro w; go_simp; try rfl)
  intro K hK; go_simp; refine hK _ _ ?_; clear hK K
  apply wpOrd_read1
  case hi => rfl
  case hw => rfl
  case hy => (intro w hw; obtain ⟨h1, h2, h3, h4⟩ := hw; go_simp; try rfl)
  intro K hK; go_simp; refine hK _ _ ?_; clear hK K
  apply wpOrd_read0
  case hi => rfl
  case hw => rfl
  case hy => (intro w; go_simp; try rfl)
  intro K hK; go_simp; refine hK _ _ ?_; clear hK K
  apply wpOrd_read0
  case hi => rfl
  case hw => rfl
  case hy => (intro w; go_simp; try rfl)
  intro K hK; go_simp; refine hK _ _ ?_; clear hK K
  apply wpOrd_read1
  case hi => rfl
  case hw => rfl
  case hy => (intro w hw; obtain ⟨h1, h2, h3, h4⟩ := hw; go_simp; try rfl)
  intro K hK; go_simp; refine hK _ _ ?_; clear hK K
  apply wpOrd_read0
  case hi => rfl
  case hw => rfl
  case hy => (intro w; go_simp; try rfl)
  intro K hK; go_simp; refine hK _ _ ?_; clear hK K
  apply wpOrd_eff2
  case hi => rfl
  case hw => rfl
  intro K hK
  go_simp
  refine (HR.out (q + 1)).mono ?_
  rintro e W2 ⟨rfl, σ1, hF1, hN1, hp1, hb1, hB1⟩
  have g0 := (World.cell?_of_block (a := ⟨N, 0, none⟩) (hB1 N (.inl rfl))).trans c0
  have g1 := (World.cell?_of_block (a := ⟨N, 1, none⟩) (hB1 N (.inl rfl))).trans c1
  have g2 := (World.cell?_of_block (a := ⟨N, 2, none⟩) (hB1 N (.inl rfl))).trans c2
  have g3 := (World.cell?_of_block (a := ⟨ng, i, none⟩) (hB1 ng (.inr ⟨2, _, by decide, c2, rfl⟩))).trans ci
  have hsz1 := Nat.le_trans hB hb1.size
  obtain ⟨⟨e0, he0⟩, hf0, hpE, hbE⟩ := hp1.set0 hsz1 hN1 (i := i) g0 k hil
  obtain ⟨⟨e2, he2⟩, hf2, _, _⟩ := hp1.set1 hsz1 hN1 (i := i) g1 v hiv
  have nNkg : N ≠ kg := hp1.row_node hN1 hN1 0 (by decide) g0 rfl
  have nvg : vg ≠ kg := hp1.rows_ne hN1 hN1 1 0 (by decide) (by decide) (.inr (by decide)) g1 g0 rfl rfl
  have nng : ng ≠ kg := hp1.rows_ne hN1 hN1 2 0 (by decide) (by decide) (.inr (by decide)) g2 g0 rfl rfl
  have nvg2 : kg ≠ vg := fun e => nvg e.symm
  obtain ⟨_, _, hpF, hbF⟩ := hpE.set1 (Nat.le_trans hsz1 hbE.size) (upd_same _ _ _) (i := i) (cell_other g1 nNkg) v hiv
  rw [upd_upd] at hpF
  have HX := Lib.hid (And.intro hF1 (And.intro hpF ((hb1.trans hbE).trans hbF)))
  clear hp1 hb1 hB1 hF1 hpE hbE hpF hbF hN1 HR c0 c1 c2 ci
  refine hK _ _ ⟨g0, g1, g2, g3⟩ ?_
  clear hK K
  apply wpOrd_read0
  case hi => rfl
  case hw => rfl
  case hy => (intro w; go_simp; try rfl)
  intro K hK; go_simp; refine hK _ _ ?_; clear hK K
  apply wpOrd_read0
  case hi => rfl
  case hw => rfl
  case hy => (intro w; go_simp; try rfl)
  intro K hK; go_simp; refine hK _ _ ?_; clear hK K
  apply wpOrd_read0
  case hi => rfl
  case hw => rfl
  case hy => (intro w; go_simp; try rfl)
  intro K hK; go_simp; refine hK _ _ ?_; clear hK K
  apply wpOrd_read0
  case hi => rfl
  case hw => rfl
  case hy => (intro w; go_simp; try rfl)
  intro K hK; go_simp; refine hK _ _ ?_; clear hK K
  apply wpOrd_eff2
  case hi => rfl
  case hw => rfl
  intro K hK
  go_simp
  refine hK _ _ ⟨cell_other g0 nNkg, cell_other g1 nNkg, cell_other g2 nNkg, cell_other g3 nng⟩ ?_
  clear hK K
  apply wpOrd_read0
  case hi => rfl
  case hw => rfl
  case hy => (intro w; go_simp; try rfl)
  intro K hK; go_simp; refine hK _ _ ?_; clear hK K
  apply wpOrd_eff3
  case hi => rfl
  case hw => rfl
  intro K hK
  go_simp
  refine hK _ _ (wpOrd_nil ?_)
  clear hK K he0 hf0 he2 hf2 g0 g1 g2 g3 nNkg nvg nng nvg2
  go_wp2_with fail
  refine (HF.out σ1 _ HX.out.1 HX.out.2.1 HX.out.2.2).mono ?_
  rintro e W3 ⟨rfl, hQ⟩
  have HQ := Lib.hid hQ
  clear hQ HX HF
  go_wp2_with fail
  go_ret
  exact ⟨rfl, HQ.out⟩
end Go.Proofs.Ytegljepgncicjaa
/- Btree: node.remove on any tree. -/
namespace Go.Proofs.Ytegljepgncicjaa
open Go.ChangeShapes Go.WideShapes Go.ChangeAt Go.RowKit Go.Deep
set_option linter.unusedVariables false
set_option linter.unusedSimpArgs false
theorem inn_setkv {σ : Sig} {o h N i : Nat} {ks vs : List Bs} {A C : List Kid} {x : Kid} {L L' : List Pr} {S : Nat → Prop} (k v : Bs) (hI : Inn σ (IsT σ o h) N ks vs (A ++ x :: C) L S) (hA : A.length = i) (hil : i < ks.length)
    (hL : L' = interL (A.map (·.L)) ((ks.zip vs).take i) ++ (x.L ++ interR ((k, v) :: (ks.zip vs).drop (i + 1)) (C.map (·.L)))) :
    Inn (upd σ N ⟨ks.set i k, vs.set i v, (A ++ x :: C).map (·.id)⟩) (IsT (upd σ N ⟨ks.set i k, vs.set i v, (A ++ x :: C).map (·.id)⟩) o h) N (ks.set i k) (vs.set i v) (A ++ x :: C) L' S := by
  have hz : (ks.zip vs).length = ks.length := by rw [List.length_zip, hI.lv, Nat.min_self]
  refine ⟨upd_same _ _ _, by simp [hI.lv], by rw [List.length_set]; exact hI.lc, ?_, hI.sN, fun j hj => upd_ne (hI.dom j hj), fun c hc => ⟨((hI.kids c hc).1).congr (fun j hj => upd_other _ _ ((hI.kids c hc).2 j hj).2), (hI.kids c hc).2⟩, hI.apart⟩
  rw [hL, zip_set ks vs i k v hil hI.lv, List.map_append, List.map_cons]
  exact (inter_mid (A.map (·.L)) ((ks.zip vs).take i) x.L (C.map (·.L)) ((k, v) :: (ks.zip vs).drop (i + 1)) (by rw [List.length_map, hA, List.length_take, hz]; omega)).symm
theorem with_at (σ1 σ : Sig) (N : Nat) (nd : Nd) (k : Nat) : (σ1.with_ σ N nd) k = if k = N then some nd else σ1 k := rfl
theorem remove_T (B o : Nat) (key : Bs) (ho : 4 ≤ o) (ho2 : o ≤ 256) : ∀ (h lo hi N : Nat) (L : List Pr) (S : Nat → Prop) (σ : Sig) (W : World), Hp B W σ → B ≤ W.heap.size → IsT σ o h lo hi N L S → Srt L → hi ≤ o → (h ≠ 0 → 1 ≤ lo) →
    Calls Try.prog 44 #[.pointer (some ⟨N, 0, none⟩), .int .i64 (o / 2 : Nat), .string key] W fun e W' => e = .returned (.bool (getL L key).isSome) ∧ Less B o h (lo - if (getL L key).isSome then 1 else 0) hi N (delL L key) S σ W W' := by
  intro h
  induction h with
  | zero =>
    intro lo hi N L S σ W hp hB hT hs hhi _
    have hk := fun nd hN => hT.srtK (nd := nd) hs hN
    have hT' := hT
    obtain ⟨ks, vs, h1, h2, h3, h4, h5, h6, h7⟩ := hT
    have hk : SrtK ks := hk _ h1
    cases hf : bsF ks key with
    | true =>
      have hF := found_of hk h2 hf
      rw [h5] at hs
      have hl := leaf_found hF h2 hs ByteArray.empty
      have hlt := hF.lt
      refine (rm_leaf_yes B N (bsI ks key) (o / 2) σ ks vs key W hp hB h1 (by omega) h2 rfl hlt hf).mono ?_
      rintro e W' ⟨rfl, hp', hb'⟩
      rw [show (getL L key).isSome = true by rw [h5, hl.1]; rfl]
      refine ⟨rfl, hb', _, hp', Ext.upd _ (.inl h6), IsT.grow (S := S) ?_ (Ext.upd _ (.inl h6)) h7⟩
      rw [if_pos rfl]
      exact ⟨_, _, upd_same _ _ _, by simp [h2], by simp; omega, by simp; omega, by rw [h5]; exact hl.2.2, h6, fun k hk => upd_ne (h7 k hk)⟩
    | false =>
      have hG := gap_of hk hf
      have hl := leaf_gap hG h2 ByteArray.empty
      refine (rm_leaf_no B N (bsI ks key) (o / 2) σ ks vs key W hp h1 (by omega) rfl hf).mono ?_
      rintro e W' ⟨rfl, q, rfl⟩
      rw [show (getL L key).isSome = false by rw [h5, hl.1]; rfl]
      refine ⟨rfl, below_drewN'' (Below.refl B W) q, σ, hp.drewN q, Ext.refl _ _, ?_⟩
      rw [show delL L key = L by rw [h5]; exact hl.2.2]
      exact (hT'.bounds (Nat.sub_le _ _) (Nat.le_refl _)).grow (Ext.refl _ _) h7
  | succ h ih =>
    intro lo hi N L S σ W hp hB hT hs hhi hlo
    have hlo := hlo (by omega)
    have hk := fun nd hN => hT.srtK (nd := nd) hs hN
    obtain ⟨ks, vs, cs, h1, h2, hI, h4⟩ := hT
    have hk : SrtK ks := hk _ hI.at_
    have hdom := hI.dom
    cases hf : bsF ks key with
    | false =>
      have hG := gap_of hk hf
      obtain ⟨A, x, C, hcs, hA, hC, hL⟩ := hI.around _ hG.le
      obtain ⟨_, _, hsx, hgx, _, hdx⟩ := inn_gap hG hI.lv (by rw [List.length_map]; exact hA) (by rw [List.length_map]; exact hC) hL hs
      subst hcs
      have hxm : x ∈ A ++ x :: C := by simp
      have hxT := (hI.kids x hxm).1
      rw [(h4 x hxm).1, (h4 x hxm).2] at hxT
      have hns : ((A ++ x :: C).map (·.id)).length = ks.length + 1 := by rw [List.length_map]; exact hI.lc
      refine (rm_no_inner B N x.id (bsI ks key) (o / 2) (getL L key).isSome σ ks vs _ key (Less B o h (o / 2 - if (getL x.L key).isSome then 1 else 0) o x.id (delL x.L key) x.S σ W) (Less B o (h + 1) (lo - if (getL L key).isSome then 1 else 0) hi N (delL L key) S σ W) W hp hI.at_ (by omega) hns rfl hf (ids_at hA) (fun q => ?_) (fun hno W1 hP => ?_) (fun hyes W1 hP => ?_))
      · refine (ih (o / 2) o x.id x.L x.S σ (W.drewN q) (hp.drewN q) hB hxT hsx (Nat.le_refl _) (fun _ => by omega)).mono ?_
        rintro e W' ⟨rfl, hb, hr⟩
        exact ⟨by rw [hgx], (below_drewN'' (Below.refl B W) q).trans hb, hr⟩
      · obtain ⟨hb1, σ1, hp1, he1, hT1⟩ := hP
        rw [← hgx, hno] at hT1
        have hil := hG.le
        have heS : Ext σ σ1 S := he1.sub (fun k hk _ => ((hI.kids x hxm).2 k hk).1)
        have hrep := inn_replace (lo' := o / 2) (hi' := o) hI hA hil he1 hT1 hdx
        refine ⟨hb1, σ1, hp1, heS, ?_⟩
        refine (inn_nt hrep (fun c hc => ?_)).isT.bounds (by omega) h2
        have hck := (hrep.kids c hc).1
        have hc2 : c.lo = o / 2 ∧ c.hi = o := by
          rcases List.mem_append.1 hc with h | h
          · exact h4 c (List.mem_append_left _ h)
          · rcases List.mem_cons.1 h with rfl | h
            · exact ⟨rfl, rfl⟩
            · exact h4 c (List.mem_append_right _ (List.mem_cons_of_mem _ h))
        rw [hc2.1, hc2.2] at hck
        exact hck
      · obtain ⟨hb1, σ1, hp1, he1, hT1⟩ := hP
        rw [← hgx, hyes] at hT1
        refine (after_kid ho ho2 hI hA h4 (by omega) (by omega) hp1 (Nat.le_trans hB hb1.size) he1 hT1 hdx hb1).mono ?_
        rintro e W' ⟨rfl, hb, σ', hp', he', hT'⟩
        refine ⟨rfl, hb, σ', hp', he', hT'.bounds ?_ h2⟩
        rw [hyes]
        simp
        omega
    | true =>
      have hF := found_of hk hI.lv hf
      have hlt := hF.lt
      obtain ⟨A, x, C, hcs, hA, hC, hL⟩ := hI.around _ (Nat.le_of_lt hlt)
      obtain ⟨R, hLR, hg, _, hdel, hRp⟩ := inn_found hF hI.lv (by rw [List.length_map]; exact hC) hL hs ByteArray.empty
      subst hcs
      have hxm : x ∈ A ++ x :: C := by simp
      have hxT := (hI.kids x hxm).1
      rw [(h4 x hxm).1, (h4 x hxm).2] at hxT
      obtain ⟨hxid, hxdom, hxS⟩ := hI.mem hxm
      have hne := last_nonempty hxT (by omega)
      obtain ⟨xL0, k, v, hxL⟩ : ∃ xL0 k v, x.L = xL0 ++ [(k, v)] := by
        rcases List.eq_nil_or_concat x.L with h | ⟨a, b, h⟩
        · exact absurd h hne
        · exact ⟨a, b.1, b.2, by rw [h]; simp⟩
      rw [hxL] at hxT
      have hns : ((A ++ x :: C).map (·.id)).length = ks.length + 1 := by rw [List.length_map]; exact hI.lc
      have hil := Nat.le_of_lt hlt
      have hNx : ¬ x.S N := fun h => (hxS N h).2 rfl
      rw [show (getL L key).isSome = true by rw [hg]; rfl]
      obtain ⟨σh, hsame, hhN, hph, hun⟩ := hp.hide hI.at_
      have hxTh : IsT σh o h (o / 2) o x.id (xL0 ++ [(k, v)]) x.S := hxT.congr (fun j hj => hsame j (fun e => hNx (by rw [← e]; exact hj)))
      refine (rm_yes_inner B N x.id (bsI ks key) (o / 2) σ ks vs _ key k v (fun σ1 => Ext σ σ1 x.S ∧ IsT σ1 o h (o / 2 - 1) o x.id xL0 (Grow x.S σ σ1)) (Less B o (h + 1) (lo - if true then 1 else 0) hi N (delL L key) S σ W) W hp hB hI.at_ (by omega) hI.lv hns rfl hlt hf (ids_at hA) (fun q => ?_) (fun σ1 W1 hF1 hp1 hb1 => ?_))
      · refine (takeLast_T B o ho ho2 h (o / 2) o x.id xL0 k v x.S σh (W.drewN q) (hph.drewN q) hB hxTh (by omega) (Nat.le_refl _)).mono ?_
        rintro e W1 ⟨rfl, hb, σ1, hp1, he1, hT1⟩
        have hbW : Below B W W1 := (below_drewN'' (Below.refl B W) q).trans hb
        obtain ⟨hn1, hpw, hblk⟩ := hun W1 σ1 hp1 he1.frn hbW.size
        have hw : ∀ j, j ≠ N → (σ1.with_ σ N ⟨ks, vs, (A ++ x :: C).map (·.id)⟩) j = σ1 j := fun j hj => by rw [with_at, if_neg hj]
        have hwN : (σ1.with_ σ N ⟨ks, vs, (A ++ x :: C).map (·.id)⟩) N = some ⟨ks, vs, (A ++ x :: C).map (·.id)⟩ := by rw [with_at, if_pos rfl]
        have hEx : Ext σ (σ1.with_ σ N ⟨ks, vs, (A ++ x :: C).map (·.id)⟩) x.S := by
          refine ⟨fun j hj hn => ?_, fun j hn => ?_, rfl⟩
          · by_cases e : j = N
            · rw [e, hwN]; exact hI.at_.symm
            · rw [hw j e, he1.same j hj (by rw [hsame j e]; exact hn), hsame j e]
          · by_cases e : j = N
            · rw [e, hwN]; simp
            · rw [hw j e]; exact he1.keep j (by rw [hsame j e]; exact hn)
        refine ⟨rfl, _, ⟨hEx, ?_⟩, hwN, hpw, hbW, hblk⟩
        have hgN : ∀ j, Grow x.S σh σ1 j → j ≠ N := fun j hj e => by
          rcases hj with hj | hj
          · exact hNx (by rw [← e]; exact hj)
          · exact hj.2 (by rw [e]; exact hn1)
        refine (hT1.congr (fun j hj => hw j (hgN j hj))).super (fun j hj => ?_) (grow_dom hEx hxdom)
        have hjN := hgN j hj
        rcases hj with hj | hj
        · exact .inl hj
        · exact .inr ⟨by rw [← hsame j hjN]; exact hj.1, by rw [hw j hjN]; exact hj.2⟩
      · obtain ⟨he1, hT1⟩ := hF1
        have heS : Ext σ σ1 S := he1.sub (fun k hk _ => (hxS k hk).1)
        have hrep := inn_replace (lo' := o / 2 - 1) (hi' := o) hI hA hil he1 hT1 rfl
        have hIn := inn_setkv (L' := delL L key) k v hrep hA hlt (by
          rw [hRp (k, v), hdel, hxL]
          simp)
        have hids : (A ++ (⟨x.id, xL0, Grow x.S σ σ1, o / 2 - 1, o⟩ : Kid) :: C).map (·.id) = (A ++ x :: C).map (·.id) := by simp
        rw [hids] at hIn
        refine (refill_T B o h N (bsI ks key) _ _ A C _ (delL L key) _ _ W1 hp1 (Nat.le_trans hB hb1.size) ho ho2 hIn hA (fun c hc => h4 c (by
          rcases List.mem_append.1 hc with h | h
          · exact List.mem_append_left _ h
          · exact List.mem_append_right _ (List.mem_cons_of_mem _ h))) (by show o / 2 ≤ o / 2 - 1 + 1; omega) (Nat.le_refl _) (by rw [List.length_set]; omega) (by rw [List.length_set]; omega)).mono ?_
        rintro e W2 ⟨rfl, σ3, hp3, hb3, he3, hT3⟩
        rw [List.length_set] at hT3
        have hE : Ext σ1 σ3 (Grow S σ σ1) := (Ext.upd _ (.inl (.inl hI.sN))).trans he3 (fun _ h _ => h)
        exact ⟨rfl, hb1.trans hb3, σ3, hp3, grow_trans heS hE, (isT_grow heS hE hdom hT3).bounds (by simp; omega) h2⟩
end Go.Proofs.Ytegljepgncicjaa
/- Btree: tree.remove, Delete on any tree. -/
namespace Go.Proofs.Ytegljepgncicjaa
open Go.ChangeShapes Go.WideShapes Go.ChangeAt Go.RowKit Go.Deep
set_option linter.unusedVariables false
set_option linter.unusedSimpArgs false
theorem TB.drew {W : World} {T : Nat} {vs : List Value} {σ : Sig} (h : TB W T vs σ) : TB W.drew T vs σ := h.drewN 1
def DelO (W : World) (T o : Nat) (L : List Pr) (Y : Nat → Prop) (key : Bs) (e : Ending) (W' : World) : Prop :=
  e = .returned (.bool (getL L key).isSome) ∧ Tr W' T o (delL L key) (GrowY Y W W') ∧ Kept Y W W'
theorem delL_len (L : List Pr) (k : Bs) : (delL L k).length + (if (getL L k).isSome then 1 else 0) = L.length := by
  induction L with
  | nil => rfl
  | cons a L ih =>
    obtain ⟨a, b⟩ := a
    unfold delL getL
    split
    · simp only [List.length_cons]; omega
    · split <;> simp
theorem delL_sub (L : List Pr) (k : Bs) : (delL L k).Sublist L := by
  induction L with
  | nil => exact List.Sublist.refl _
  | cons a L ih =>
    obtain ⟨a, b⟩ := a
    unfold delL
    split
    · exact List.Sublist.cons_cons _ ih
    · split
      · exact List.sublist_cons_self _ _
      · exact List.Sublist.refl _
theorem TB.ne {W : World} {T : Nat} {vs : List Value} {σ : Sig} (h : TB W T vs σ) {N : Nat} {nd : Nd} (hN : σ N = some nd) : N ≠ T := by
  obtain ⟨b, hb⟩ := heap_some h.box.lt
  obtain ⟨fv, own, hw, hfr⟩ := h.hp
  have h1 := (hfr T b (by rw [h.fr, hb])).1
  have h2 := (hw N nd hN).2.2.1
  rintro rfl
  rw [h1] at h2
  simp at h2
theorem TB.row_ne {W : World} {T : Nat} {vs : List Value} {σ : Sig} (h : TB W T vs σ) {N : Nat} {nd : Nd} (hN : σ N = some nd) (j : Nat) (hj : j < 3) {v : Value} (hv : W.cell? ⟨N, j, none⟩ = some v) {g : Nat} (e : v.ownBlock = some g) : g ≠ T := by
  obtain ⟨b, hb⟩ := heap_some h.box.lt
  obtain ⟨fv, own, hw, hfr⟩ := h.hp
  have h1 := (hfr T b (by rw [h.fr, hb])).1
  have h2 := ((hw N nd hN).2.2.2 j hj).2 g (by rw [Hp.cellv hw hN j hj hv]; exact e)
  rintro rfl
  rw [h1] at h2
  simp at h2
  omega
theorem root_gone {σ : Sig} {o h lo hi N : Nat} {L : List Pr} {S : Nat → Prop} {lk lv : List Bs} {ln : List Nat} (hT : IsT σ o h lo hi N L S) (hN : σ N = some ⟨lk, lv, ln⟩) (hl : lk.length = 0) : (ln = [] ∧ L = []) ∨ ∃ M h' S', ln = [M] ∧ IsT σ o h' (o / 2) o M L S' := by
  obtain ⟨ks, vs, cs, _, _, hn⟩ := isT_nt hT
  have e := hn.at_
  rw [hN] at e
  cases e
  have hk : lk = [] := List.eq_nil_of_length_eq_zero hl
  subst hk
  have hL := hn.eL
  rcases hn.kc with ⟨_, rfl⟩ | ⟨_, hc⟩
  · exact .inl ⟨rfl, hL⟩
  · match cs, hc with
    | [c], _ =>
      refine .inr ⟨c.id, h - 1, c.S, rfl, ?_⟩
      have := (hn.kids c (by simp)).1
      have e2 : L = c.L := by
        rw [hL]
        show c.L ++ interR _ [] = c.L
        cases hz : (([] : List Bs).zip lv) with
        | nil => simp [interR]
        | cons a b => simp at hz
      rw [e2]
      exact this
set_option maxRecDepth 100000 in
set_option maxHeartbeats 3200000 in
theorem trem_some (W0 : World) (T o N hx sz : Nat) (b : Bool) (L L' : List Pr) (Y S : Nat → Prop) (σ : Sig) (key : Bs) (hb : b = (getL L key).isSome) (hsz : sz = L.length) (hsz2 : sz ≤ 5000) (hL' : L' = delL L key) (ht : TB W0 T [.int .i64 o, .int .i64 sz, .pointer (some ⟨N, 0, none⟩)] σ) (hr : Rest W0 T Y σ) (hY : Y T) (hYl : ∀ k, Y k → k < W0.heap.size) (hs : Srt L) (h4 : 4 ≤ o) (h6 : o ≤ 256)
    (hrem : ∀ W', Hp 0 W' σ → Calls Try.prog 44 #[.pointer (some ⟨N, 0, none⟩), .int .i64 (o / 2 : Nat), .string key] W' (fun e W'' => e = .returned (.bool b) ∧ Less 0 o hx (1 - if b then 1 else 0) o N L' S σ W' W'')) :
    Calls Try.prog 32 #[.pointer (some ⟨T, 0, none⟩), .string key] W0 (DelO W0 T o L Y key) := by
  have HREM := Lib.hid hrem
  have HT := Lib.hid ht
  have HR := Lib.hid hr
  have HY := Lib.hid (And.intro hY (And.intro hYl hs))
  have HZ := Lib.hid (And.intro hsz hL')
  have HBb := Lib.hid hb
  have HTl := Lib.hid ht.box.lt
  have a0 : W0.cell? ⟨T, 0, none⟩ = some (.int .i64 o) := ht.box.cell 0 _ rfl
  have a2 : W0.cell? ⟨T, 2, none⟩ = some (.pointer (some ⟨N, 0, none⟩)) := ht.box.cell 2 _ rfl
  have hw0 : IntKind.i64.wrap ((o : Int) / 2) = ((o / 2 : Nat) : Int) := by rw [IntKind.wrap_i64]; omega
  clear hrem ht hr hY hYl hs hsz hL' hb
  go_enter Try.func32, Try.ntmps32
  go_wp2_with fail
  refine wp_region_ordW 19 16 [(0, 0), (1, 0), (2, 0), (3, 1), (4, 0), (5, 0), (6, 0), (7, 0), (8, 0), (9, 1), (10, 0), (11, 0), (12, 0), (13, 1), (14, 0), (15, 0), (16, 3), (17, 0), (18, 0)] (fun X => X.cell? ⟨T, 0, none⟩ = some (.int .i64 o) ∧ X.cell? ⟨T, 2, none⟩ = some (.pointer (some ⟨N, 0, none⟩))) (by kernel_rfl) (by kernel_rfl) ⟨a0, a2⟩ (fun c a d v w h => by cases d <;> exact h) ?_
  apply wpOrd_read0
  case hi => rfl
  case hw => rfl
  case hy => (intro w; go_simp; try rfl)
  intro K hK; go_simp; refine hK _ _ ?_; clear hK K
  apply wpOrd_read0
  case hi => rfl
  case hw => rfl
  case hy => (intro w; go_simp; try rfl)
  intro K hK; go_simp; refine hK _ _ ?_; clear hK K
  apply wpOrd_read0
  case hi => rfl
  case hw => rfl
  case hy => (intro w; go_simp; try rfl)
  intro K hK; go_simp; refine hK _ _ ?_; clear hK K
  apply wpOrd_read1
  case hi => rfl
  case hw => rfl
  case hy => (intro w hw; obtain ⟨h1, h2⟩ := hw; go_simp; try rfl)
  intro K hK; go_simp; refine hK _ _ ?_; clear hK K
  apply wpOrd_read0
  case hi => rfl
  case hw => rfl
  case hy => (intro w; go_simp; try rfl)
  intro K hK; go_simp; refine hK _ _ ?_; clear hK K
  apply wpOrd_read0
  case hi => rfl
  case hw => rfl
  case hy => (intro w; go_simp; try rfl)
  intro K hK; go_simp; refine hK _ _ ?_; clear hK K
  apply wpOrd_read0
  case hi => rfl
  case hw => rfl
  case hy => (intro w; go_simp; try rfl)
  intro K hK; go_simp; refine hK _ _ ?_; clear hK K
  apply wpOrd_read0
  case hi => rfl
  case hw => rfl
  case hy => (intro w; go_simp; try rfl)
  intro K hK; go_simp; refine hK _ _ ?_; clear hK K
  apply wpOrd_read0
  case hi => rfl
  case hw => rfl
  case hy => (intro w; go_simp; try rfl)
  intro K hK; go_simp; refine hK _ _ ?_; clear hK K
  apply wpOrd_read1
  case hi => rfl
  case hw => rfl
  case hy => (intro w hw; obtain ⟨h1, h2⟩ := hw; go_simp; try rfl)
  intro K hK; go_simp; refine hK _ _ ?_; clear hK K
  apply wpOrd_read0
  case hi => rfl
  case hw => rfl
  case hy => (intro w; go_simp; try rfl)
  intro K hK; go_simp; refine hK _ _ ?_; clear hK K
  apply wpOrd_read0
  case hi => rfl
  case hw => rfl
  case hy => (intro w; go_simp; try rfl)
  intro K hK; go_simp; refine hK _ _ ?_; clear hK K
  apply wpOrd_read0
  case hi => rfl
  case hw => rfl
  case hy => (intro w; go_simp; try rfl)
  intro K hK; go_simp; refine hK _ _ ?_; clear hK K
  apply wpOrd_read1
  case hi => rfl
  case hw => rfl
  case hy => (intro w hw; obtain ⟨h1, h2⟩ := hw; go_simp; try rfl)
  intro K hK; go_simp; refine hK _ _ ?_; clear hK K
  apply wpOrd_read0
  case hi => rfl
  case hw => rfl
  case hy => (intro w; go_simp; try rfl)
  intro K hK; go_simp; refine hK _ _ ?_; clear hK K
  apply wpOrd_read0
  case hi => rfl
  case hw => rfl
  case hy => (intro w; go_simp; try rfl)
  intro K hK; go_simp; refine hK _ _ ?_; clear hK K
  apply wpOrd_eff3
  case hi => rfl
  case hw => rfl
  intro K hK
  go_simp
  refine (HREM.out _ HT.out.hp.drew).mono ?_
  rintro e W1 ⟨rfl, hb1, σ1, hp1, he1, hT1⟩
  have HT1 := Lib.hid (HT.out.drew.call hp1 he1.frn hb1.size)
  have HB1 := Lib.hid ((Below.drew (Below.refl 0 W0)).trans hb1)
  have HI1 := Lib.hid hT1
  have HR1 : Hid (Rest W0 T Y σ1) := Lib.hid (fun k h1 h2 h3 => by rw [he1.frn]; exact HR.out k h1 h2 h3)
  clear hp1 he1 hT1 hb1 HT HREM HR a0 a2
  refine hK _ _ ?_
  clear hK K
  apply wpOrd_read0
  case hi => rfl
  case hw => rfl
  case hy => (intro w; go_simp; try rfl)
  intro K hK; go_simp; refine hK _ _ ?_; clear hK K
  apply wpOrd_read0
  case hi => rfl
  case hw => rfl
  case hy => (intro w; go_simp; try rfl)
  intro K hK; go_simp; refine hK _ _ ?_; clear hK K
  refine wpOrd_nil ?_
  have HLEN := Lib.hid (delL_len L key)
  have HCL := Lib.hid (HZ.out.2)
  cases b with
  | false =>
    go_wp2_with fail
    go_ret
    have e1 := HBb.out
    have e2 := delL_len L key
    rw [← e1] at e2
    simp only [Bool.false_eq_true, if_false, Nat.add_zero] at e2
    have hI := HI1.out
    have hc := Tr.close (W0 := W0) (W := W1) (L := L') (r := some N) (by rw [HZ.out.2, e2, ← HZ.out.1]; exact HT1.out) HR1.out ⟨hx, _, hI⟩ HY.out.1 HTl.out (by rw [HZ.out.2]; exact HY.out.2.2.sub (delL_sub L key)) h4 h6 HB1.out HY.out.2.1
    exact ⟨ret_b e1, by rw [← HZ.out.2]; exact hc.1, hc.2⟩
  | true =>
    have e2 := delL_len L key
    rw [← HBb.out, if_pos rfl, ← HZ.out.2, ← HZ.out.1] at e2
    have hw : IntKind.i64.wrap ((sz : Int) - 1) = (L'.length : Int) := by rw [IntKind.wrap_i64]; omega
    clear e2
    have a1 : W1.cell? ⟨T, 1, none⟩ = some (.int .i64 sz) := HT1.out.box.cell 1 _ rfl
    have f1 : W1.frozen? ⟨T, 1, none⟩ = false := HT1.out.box.free 1
    have hTB2 := HT1.out.set 1 (.int .i64 L'.length) (by simp)
    have HX := Lib.hid (show ∃ σ2, TB (W1.setCell ⟨T, 1, none⟩ (.int .i64 L'.length)) T [.int .i64 o, .int .i64 L'.length, .pointer (some ⟨N, 0, none⟩)] σ2 ∧ (∀ k, σ2 k = σ1 k) ∧ Rest W0 T Y σ2 ∧ Below 0 W0 (W1.setCell ⟨T, 1, none⟩ (.int .i64 L'.length)) from ⟨_, hTB2, fun _ => rfl, fun k h1 h2 h3 => (if_neg h1).trans (HR1.out k h1 h2 h3), HB1.out.setCell (p := ⟨T, 1, none⟩) (Nat.zero_le _) _⟩)
    obtain ⟨nd, hN1, hk1, hk2, hv1, _, _, hn0, hn1⟩ := HI1.out.node
    obtain ⟨lk, lv, ln⟩ := nd
    have HN1 := Lib.hid (show σ1 N = some ⟨lk, lv, ln⟩ from hN1)
    have hk3 : lk.length ≤ 256 := Nat.le_trans hk2 h6
    have b2 := HT1.out.box.cell 2 _ rfl
    have fb2 := HT1.out.box.free 2
    have nTN : N ≠ T := HT1.out.ne hN1
    have nTN2 : T ≠ N := fun e => nTN e.symm
    have hex := HI1.out.exact hN1
    have HEX := Lib.hid hex
    obtain ⟨ka, kc, n0, _, _⟩ := HT1.out.hp.f0 hN1
    by_cases hl0 : lk.length = 0
    · have hgone := root_gone HI1.out hN1 hl0
      rw [hl0] at n0
      rcases hgone with ⟨rfl, hLn⟩ | ⟨M, h', S', rfl, hTM⟩
      · obtain ⟨da, dc, n2, _, _⟩ := HT1.out.hp.f2 hN1
        change W1.cell? _ = some (.slice da 0 dc) at n2
        have HX2 := Lib.hid (show ∃ σ3, TB ((W1.setCell ⟨T, 1, none⟩ (.int .i64 L'.length)).setCell ⟨T, 2, none⟩ (.pointer none)) T [.int .i64 o, .int .i64 L'.length, rp none] σ3 ∧ Rest W0 T Y σ3 ∧ RootT σ3 o L' none ∧ Below 0 W0 ((W1.setCell ⟨T, 1, none⟩ (.int .i64 L'.length)).setCell ⟨T, 2, none⟩ (.pointer none)) by
          obtain ⟨σ2, h1, h2, h3, h4⟩ := HX.out
          exact ⟨_, h1.set 2 (.pointer none) (by simp), fun k e1 e2 e3 => (if_neg e1).trans (h3 k e1 e2 e3), hLn, h4.setCell (p := ⟨T, 2, none⟩) (Nat.zero_le _) _⟩)
        clear hTB2 hN1 hk1 hk2 hv1 hn0 hn1 HT1 HB1 HR1 HX hLn hex
        go_wp2_with fail
        go_ret
        obtain ⟨σ3, g1, g2, g3, g4⟩ := HX2.out
        have hc := Tr.close (W0 := W0) (L := L') (r := none) g1 g2 g3 HY.out.1 HTl.out (by rw [HZ.out.2]; exact HY.out.2.2.sub (delL_sub L key)) h4 h6 g4 HY.out.2.1
        exact ⟨ret_b HBb.out, by rw [← HZ.out.2]; exact hc.1, hc.2⟩
      · obtain ⟨ng, nc, n2, _, _, _, hdc⟩ := HT1.out.hp.g2 hN1 (by simp)
        change W1.cell? _ = some (.slice (some ⟨ng, 0, none⟩) 1 nc) at n2
        have ci := hdc 0 M rfl
        have nTg : ng ≠ T := HT1.out.row_ne hN1 2 (by decide) n2 rfl
        have nTg2 : T ≠ ng := fun e => nTg e.symm
        have HX2 := Lib.hid (show ∃ σ3, TB ((W1.setCell ⟨T, 1, none⟩ (.int .i64 L'.length)).setCell ⟨T, 2, none⟩ (.pointer (some ⟨M, 0, none⟩))) T [.int .i64 o, .int .i64 L'.length, rp (some M)] σ3 ∧ Rest W0 T Y σ3 ∧ RootT σ3 o L' (some M) ∧ Below 0 W0 ((W1.setCell ⟨T, 1, none⟩ (.int .i64 L'.length)).setCell ⟨T, 2, none⟩ (.pointer (some ⟨M, 0, none⟩))) by
          obtain ⟨σ2, h1, h2, h3, h4'⟩ := HX.out
          exact ⟨_, h1.set 2 (.pointer (some ⟨M, 0, none⟩)) (by simp), fun k e1 e2 e3 => (if_neg e1).trans (h3 k e1 e2 e3), ⟨h', S', (hTM.bounds (by omega) (Nat.le_refl _)).congr (fun k _ => h2 k)⟩, h4'.setCell (p := ⟨T, 2, none⟩) (Nat.zero_le _) _⟩)
        clear hTB2 hN1 hk1 hk2 hv1 hn0 hn1 HT1 HB1 HR1 HX hTM hdc hex
        go_wp2_with fail
        go_ret
        obtain ⟨σ3, g1, g2, g3, g4⟩ := HX2.out
        have hc := Tr.close (W0 := W0) (L := L') (r := some M) g1 g2 g3 HY.out.1 HTl.out (by rw [HZ.out.2]; exact HY.out.2.2.sub (delL_sub L key)) h4 h6 g4 HY.out.2.1
        exact ⟨ret_b HBb.out, by rw [← HZ.out.2]; exact hc.1, hc.2⟩
    · have hl1 : 0 < lk.length := by omega
      have HX2 := Lib.hid (show ∃ σ3, TB (W1.setCell ⟨T, 1, none⟩ (.int .i64 L'.length)) T [.int .i64 o, .int .i64 L'.length, rp (some N)] σ3 ∧ Rest W0 T Y σ3 ∧ RootT σ3 o L' (some N) ∧ Below 0 W0 (W1.setCell ⟨T, 1, none⟩ (.int .i64 L'.length)) by
        obtain ⟨σ2, h1, h2, h3, h4'⟩ := HX.out
        exact ⟨_, h1, h3, ⟨hx, _, (hex.bounds hl1 hk2).congr (fun k _ => h2 k)⟩, h4'⟩)
      clear hTB2 hN1 hk1 hk2 hv1 hn0 hn1 HT1 HB1 HR1 HX hex
      go_wp2_with fail
      go_ret
      obtain ⟨σ3, g1, g2, g3, g4⟩ := HX2.out
      have hc := Tr.close (W0 := W0) (L := L') (r := some N) g1 g2 g3 HY.out.1 HTl.out (by rw [HZ.out.2]; exact HY.out.2.2.sub (delL_sub L key)) h4 h6 g4 HY.out.2.1
      exact ⟨ret_b HBb.out, by rw [← HZ.out.2]; exact hc.1, hc.2⟩
set_option maxRecDepth 100000 in
set_option maxHeartbeats 1600000 in
theorem trem_none (W0 : World) (T : Nat) (o : Int) (key : Bs) (a2 : W0.cell? ⟨T, 2, none⟩ = some (.pointer none)) :
    Calls Try.prog 32 #[.pointer (some ⟨T, 0, none⟩), .string key] W0 (fun e W' => e = .returned (.bool false) ∧ ∃ q, W' = W0.drewN q) := by
  go_enter Try.func32, Try.ntmps32
  go_wp2_with fail
  go_quiet (fail)
  go_wp2_with fail
  go_ret
  exact ⟨rfl, _, rfl⟩
end Go.Proofs.Ytegljepgncicjaa
/- Btree: Delete on any tree. -/
namespace Go.Proofs.Ytegljepgncicjaa
open Go.ChangeShapes Go.WideShapes Go.ChangeAt Go.RowKit Go.Deep
set_option linter.unusedVariables false
set_option linter.unusedSimpArgs false
theorem trem_T (W : World) (T o : Nat) (L : List Pr) (Y : Nat → Prop) (key : Bs) (h : Tr W T o L Y) (hl : L.length ≤ 5000) :
    Calls Try.prog 32 #[.pointer (some ⟨T, 0, none⟩), .string key] W (DelO W T o L Y key) := by
  have hYl := h.yl
  have h0 := h
  obtain ⟨r, σ, ht, hr, hR, hY, hs, h4, h6⟩ := h.open
  cases r with
  | none =>
    have hL : L = [] := hR
    refine (trem_none W T o key (ht.box.cell 2 _ rfl)).mono ?_
    rintro e W' ⟨rfl, q, rfl⟩
    have hG : GrowY Y W (W.drewN q) = Y := funext fun k => propext ⟨fun hk => hk.elim id (fun e => by have h1 := e.1; have h2 : k < W.heap.size := e.2; omega), .inl⟩
    have hk : Kept (fun _ => False) W (W.drewN q) := (Kept.refl _ W).drewN q
    refine ⟨by rw [hL]; rfl, ?_, ⟨hk.os, hk.tape, hk.output, hk.size, fun k h1 _ => hk.block k h1 (fun h => h)⟩⟩
    rw [hG, show delL L key = L by rw [hL]; rfl]
    exact h0.kept hk (fun _ _ h => h)
  | some N =>
    obtain ⟨hh, S, hT⟩ := hR
    exact trem_some W T o N hh L.length _ L _ Y S σ key rfl rfl hl rfl ht hr hY hYl hs h4 h6 (fun W' hp => remove_T 0 o key h4 h6 hh 1 o N L S σ W' hp (Nat.zero_le _) hT hs (Nat.le_refl _) (fun _ => Nat.le_refl _))
theorem Del_T (W : World) (T o : Nat) (L : List Pr) (Y : Nat → Prop) (key : Bs) (h : Tr W T o L Y) (hl : L.length ≤ 5000) :
    Calls Try.prog 22 #[.pointer (some ⟨T, 0, none⟩), .string key] W (DelO W T o L Y key) := by
  have H := Lib.hid (trem_T W T o L Y key h hl)
  clear h
  go_enter Try.func22, Try.ntmps22
  go_wp2_with fail
  refine H.out.mono ?_
  rintro e W1 ⟨rfl, h2⟩
  have H2 := Lib.hid h2
  clear h2 H
  go_wp2_with fail
  go_ret
  exact ⟨rfl, H2.out⟩
end Go.Proofs.Ytegljepgncicjaa
/- Btree: Len and Get on any tree; what a scan yields (plain). -/
namespace Go.Proofs.Ytegljepgncicjaa
open Go.ChangeShapes Go.WideShapes Go.ChangeAt Go.RowKit Go.Deep Go.Shelf
set_option linter.unusedVariables false
set_option linter.unusedSimpArgs false
theorem Len_T (W : World) (T o : Nat) (L : List Pr) (Y : Nat → Prop) (h : Tr W T o L Y) :
    Calls Try.prog 13 #[.pointer (some ⟨T, 0, none⟩)] W fun e W' => e = .returned (.int .i64 L.length) ∧ W' = W := by
  obtain ⟨r, σ, fv, own, h⟩ := h
  have a1 : W.cell? ⟨T, 1, none⟩ = some (.int .i64 L.length) := h.box.cell 1 _ rfl
  clear h
  go_enter Try.func13, Try.ntmps13
  go_wp2_with fail
  go_ret
  exact ⟨rfl, rfl⟩
set_option maxRecDepth 100000 in
theorem get_none (W : World) (T : Nat) (o sz : Int) (key : Bs) (hb : Box W T [.int .i64 o, .int .i64 sz, .pointer none]) :
    Calls Try.prog 34 #[.pointer (some ⟨T, 0, none⟩), .string key] W (GetOut key [] W) := by
  have a2 : W.cell? ⟨T, 2, none⟩ = some (.pointer none) := hb.cell 2 _ rfl
  clear hb
  go_enter Try.func34, Try.ntmps34
  go_wp2_with fail
  refine wp_loop_rounds 1 ?_
  rw [rounds_succ]
  go_wp2_with fail
  go_ret2
  exact ⟨rfl, 0, rfl⟩
theorem Get_T (W : World) (T o : Nat) (L : List Pr) (Y : Nat → Prop) (key : Bs) (h : Tr W T o L Y) :
    Calls Try.prog 24 #[.pointer (some ⟨T, 0, none⟩), .string key] W (GetOut key L W) := by
  have H : Calls Try.prog 34 #[.pointer (some ⟨T, 0, none⟩), .string key] W (GetOut key L W) := by
    obtain ⟨r, σ, ht, hr, hR, hY, hs, h4, h6⟩ := h.open
    cases r with
    | none =>
      have hL : L = [] := hR
      subst hL
      exact get_none W T o _ key ht.box
    | some N =>
      obtain ⟨hh, S, hT⟩ := hR
      exact get_any 0 T N o hh 1 o L.length σ L S key W ht.hp ht.box hT hs h6 h6
  have H := Lib.hid H
  clear h
  go_enter Try.func24, Try.ntmps24
  go_wp2_with fail
  refine H.out.mono ?_
  rintro e W1 ⟨rfl, q, rfl⟩
  go_wp2_with fail
  go_ret2
  exact ⟨rfl, q, rfl⟩
/-- a store whose blocks all lie below n₀ -/
def Hq (n₀ : Nat) (W : World) (σ : Sig) : Prop := ∃ fv own, HpW 0 W σ fv own ∧ FrW W σ own ∧ (∀ k, Takes σ fv k → k < n₀) ∧ ∀ k b, σ.F k = some b → k < n₀
theorem Hq.hp {n₀ : Nat} {W : World} {σ : Sig} (h : Hq n₀ W σ) : Hp 0 W σ := by
  obtain ⟨fv, own, h1, h2, _⟩ := h
  exact ⟨fv, own, h1, h2⟩
theorem Hq.below {n₀ : Nat} {W W' : World} {σ : Sig} (h : Hq n₀ W σ) (hb : Below n₀ W W') : Hq n₀ W' σ := by
  obtain ⟨fv, own, h1, h2, h3, h4⟩ := h
  have hk : Kept (fun k => n₀ ≤ k) W W' := ⟨hb.os, hb.tape, hb.output, hb.size, fun k hk hs => hb.block k (by omega)⟩
  refine ⟨fv, own, h1.kept hk (fun k hk => Nat.not_le.2 (h3 k hk)), fun k b hb' => ?_, h3, h4⟩
  exact ⟨(h2 k b hb').1, (hk.block k (h2.lt hb') (Nat.not_le.2 (h4 k b hb'))).trans (h2 k b hb').2⟩
theorem Hq.drewN {n₀ : Nat} {W : World} {σ : Sig} (h : Hq n₀ W σ) (q : Nat) : Hq n₀ (W.drewN q) σ := h.below ⟨rfl, rfl, rfl, Nat.le_refl _, fun _ _ => rfl⟩
theorem Tr.hq {W : World} {T o : Nat} {L : List Pr} {Y : Nat → Prop} (h : Tr W T o L Y) : ∃ r σ, Box W T [.int .i64 o, .int .i64 L.length, rp r] ∧ Hq W.heap.size W σ ∧ RootT σ o L r ∧ Srt L ∧ 4 ≤ o ∧ o ≤ 256 := by
  obtain ⟨r, σ, fv, own, h⟩ := h
  have hF : FrW W ⟨σ.f, fun _ => none⟩ own := fun k b hb => (by cases hb)
  refine ⟨r, ⟨σ.f, fun _ => none⟩, h.box, ⟨fv, own, h.hp, hF, fun k hk => ?_, fun k b hb => (by cases hb)⟩, h.root.congr (fun _ => rfl), h.srt, h.o4, h.o256⟩
  obtain ⟨N, nd, hN, hk⟩ := hk
  exact (takes_lt h.hp ⟨N, nd, hN, hk⟩).2
/-- which pairs are yielded, which end a scan -/
def inU (lo hi : Bs) (bd : Bool) (p : Pr) : Bool := !lB p.1 lo && (!bd || lB p.1 hi)
def ovU (lo hi : Bs) (bd : Bool) (p : Pr) : Bool := !lB p.1 lo && (bd && !lB p.1 hi)
def ovD (lo hi : Bs) (bd : Bool) (p : Pr) : Bool := (!bd || lB p.1 hi) && lB p.1 lo
/-- what ends a scan leaves nothing behind it -/
def Mono (f g : Pr → Bool) (V : List Pr) : Prop := V.Pairwise fun x y => g x = true → f y = false
theorem Mono.left {f g : Pr → Bool} {A B : List Pr} (h : Mono f g (A ++ B)) : Mono f g A := (List.pairwise_append.1 h).1
theorem Mono.right {f g : Pr → Bool} {A B : List Pr} (h : Mono f g (A ++ B)) : Mono f g B := (List.pairwise_append.1 h).2.1
theorem Mono.cut {f g : Pr → Bool} {A B : List Pr} (h : Mono f g (A ++ B)) (hA : A.any g = true) : B.filter f = [] := by
  obtain ⟨x, hx, hg⟩ := List.any_eq_true.1 hA
  refine List.filter_eq_nil_iff.2 fun y hy => ?_
  rw [(List.pairwise_append.1 h).2.2 x hx y hy hg]
  simp
theorem mono_up {lo hi : Bs} {bd : Bool} {L : List Pr} (h : Srt L) : Mono (inU lo hi bd) (ovU lo hi bd) L := by
  refine List.Pairwise.imp (fun {x y} hxy hx => ?_) h
  unfold ovU at hx
  unfold inU
  simp only [Bool.and_eq_true, Bool.not_eq_true', Bool.and_eq_false_iff, Bool.or_eq_false_iff, Bool.not_eq_false'] at hx ⊢
  refine .inr ⟨hx.2.1, ?_⟩
  cases hy : lB y.1 hi with
  | false => rfl
  | true => have := lB_trans hxy hy; rw [hx.2.2] at this; cases this
theorem mono_down {lo hi : Bs} {bd : Bool} {L : List Pr} (h : Srt L) : Mono (inU lo hi bd) (ovD lo hi bd) L.reverse := by
  refine List.pairwise_reverse.2 (List.Pairwise.imp (fun {x y} hxy hy => ?_) h)
  unfold ovD at hy
  unfold inU
  simp only [Bool.and_eq_true, Bool.and_eq_false_iff, Bool.not_eq_false'] at hy ⊢
  exact .inl (lB_trans hxy hy.2)
/-- what comes out of a scan of Y, stopped or not -/
def SOut (n₀ : Nat) (J Jx : List Pr → World → Prop) (acc Y : List Pr) (stop : Bool) (W : World) (e : Ending) (W' : World) : Prop :=
  (stop = false ∧ e = .returned (.bool true) ∧ J (acc ++ Y) W' ∧ Below n₀ W W') ∨ (stop = true ∧ e = .returned (.bool false) ∧ J (acc ++ Y) W' ∧ Below n₀ W W') ∨
  (e = .returned (.bool false) ∧ ∃ pre, pre <+: acc ++ Y ∧ Jx pre W')
/-- the caller's round -/
def Yields (l n₀ K : Nat) (J Jx : List Pr → World → Prop) : Prop :=
  (∀ m pre (x : Pr) W, J pre W → pre.length < K → YieldAt Fence.wide m Try.prog l (encP x) W fun e W' =>
      (e = .returned (.bool true) ∧ J (pre ++ [x]) W' ∧ Below n₀ W W') ∨ (e = .returned (.bool false) ∧ Jx (pre ++ [x]) W')) ∧
  ∀ pre W q, J pre W → J pre (W.drewN q)
/-- where a scan stands: V is still to come -/
structure Sc (f g : Pr → Bool) (n₀ K : Nat) (J : List Pr → World → Prop) (acc0 V0 : List Pr) (W0 : World) (acc V : List Pr) (W : World) : Prop where
  j : J acc W
  b : Below n₀ W0 W
  eq : acc ++ V.filter f = acc0 ++ V0.filter f
  an : V.any g = V0.any g
  mo : Mono f g V
  k : acc.length + (V.filter f).length ≤ K
section
variable {f g : Pr → Bool} {n₀ K : Nat} {J Jx : List Pr → World → Prop} {acc0 V0 acc V C : List Pr} {W0 W W' : World} {p : Pr}
theorem Sc.skip (h : Sc f g n₀ K J acc0 V0 W0 acc (C ++ V) W) (h1 : ∀ x ∈ C, f x = false) (h2 : ∀ x ∈ C, g x = false) : Sc f g n₀ K J acc0 V0 W0 acc V W := by
  have e : (C ++ V).filter f = V.filter f := by
    rw [List.filter_append, List.filter_eq_nil_iff.2 (fun x hx => by rw [h1 x hx]; simp), List.nil_append]
  have e2 : (C ++ V).any g = V.any g := by
    rw [List.any_append, List.any_eq_false.2 (fun x hx => by rw [h2 x hx]; simp), Bool.false_or]
  exact ⟨h.j, h.b, by rw [← e]; exact h.eq, by rw [← e2]; exact h.an, h.mo.right, by rw [← e]; exact h.k⟩
/-- a part has been scanned, and did not end the scan -/
theorem Sc.part (h : Sc f g n₀ K J acc0 V0 W0 acc (C ++ V) W) (hC : C.any g = false) (hj : J (acc ++ C.filter f) W') (hb : Below n₀ W W') : Sc f g n₀ K J acc0 V0 W0 (acc ++ C.filter f) V W' := by
  have e := h.eq
  have k := h.k
  have an := h.an
  rw [List.filter_append] at e k
  rw [List.length_append] at k
  rw [List.any_append, hC, Bool.false_or] at an
  exact ⟨hj, h.b.trans hb, by rw [List.append_assoc]; exact e, an, h.mo.right, by rw [List.length_append]; omega⟩
/-- a part has been scanned, and ended the scan -/
theorem Sc.stopped (h : Sc f g n₀ K J acc0 V0 W0 acc (C ++ V) W) (hC : C.any g = true) (hj : J (acc ++ C.filter f) W') (hb : Below n₀ W W') : SOut n₀ J Jx acc0 (V0.filter f) (V0.any g) W0 (.returned (.bool false)) W' := by
  have e := h.eq
  rw [List.filter_append, h.mo.cut hC, List.append_nil] at e
  refine .inr (.inl ⟨?_, rfl, ?_, h.b.trans hb⟩)
  · rw [← h.an, List.any_append, hC, Bool.true_or]
  · rw [← e]; exact hj
theorem Sc.done (h : Sc f g n₀ K J acc0 V0 W0 acc [] W) : SOut n₀ J Jx acc0 (V0.filter f) (V0.any g) W0 (.returned (.bool true)) W := by
  have e := h.eq
  rw [List.filter_nil, List.append_nil] at e
  exact .inl ⟨h.an.symm, rfl, by rw [← e]; exact h.j, h.b⟩
theorem Sc.left (h : Sc f g n₀ K J acc0 V0 W0 acc (C ++ V) W) {pre : List Pr} (hp : pre <+: acc ++ C.filter f) (hx : Jx pre W') : SOut n₀ J Jx acc0 (V0.filter f) (V0.any g) W0 (.returned (.bool false)) W' := by
  have e := h.eq
  rw [List.filter_append, ← List.append_assoc] at e
  exact .inr (.inr ⟨rfl, pre, by rw [← e]; exact hp.trans (List.prefix_append _ _), hx⟩)
end
end Go.Proofs.Ytegljepgncicjaa
/- Btree: height, node.sound on any tree. -/
namespace Go.Proofs.Ytegljepgncicjaa
open Go.ChangeShapes Go.WideShapes Go.ChangeAt Go.RowKit Go.Deep
set_option linter.unusedVariables false
set_option linter.unusedSimpArgs false
set_option maxRecDepth 100000 in
set_option maxHeartbeats 1600000 in
theorem height_T (B T N o h lo hi : Nat) (sz : Int) (σ : Sig) (L : List Pr) (S : Nat → Prop) (W : World) (hp : Hp B W σ) (hb : Box W T [.int .i64 o, .int .i64 sz, .pointer (some ⟨N, 0, none⟩)]) (hT : IsT σ o h lo hi N L S) (hh : h ≤ 5000) (hhi : hi ≤ 256) (ho : o ≤ 256) :
    Calls Try.prog 33 #[.pointer (some ⟨T, 0, none⟩)] W fun e W' => e = .returned (.int .i64 (h + 1 : Nat)) ∧ W' = W := by
  have HP := Lib.hid hp
  have a2 : W.cell? ⟨T, 2, none⟩ = some (.pointer (some ⟨N, 0, none⟩)) := hb.cell 2 _ rfl
  clear hp hb
  go_enter Try.func33, Try.ntmps33
  go_wp2_with fail
  clear a2
  go_loopw [3, 4] (fun i n wr => ∃ (j k lo hi N : Nat) (L' : List Pr) (S : Nat → Prop), i = .int .i64 j ∧ n = ptr N ∧ IsT σ o k lo hi N L' S ∧ hi ≤ 256 ∧ j + k = h ∧ wr = W) (fun i n wr => hgt σ o n)
  case atStart => exact ⟨0, h, lo, hi, N, L, S, rfl, rfl, hT, hhi, by omega, rfl⟩
  case round =>
    clear hT hhi
    obtain ⟨j, k, lo, hi, N, L', S, rfl, rfl, hT, hhi, hjk, rfl⟩ := hrel
    have hm := hgt_eq hT
    obtain ⟨nd, hN, hlo, hhk, hlv, _, _, hn0, hn1⟩ := hT.node
    obtain ⟨nk, nv, nn⟩ := nd
    dsimp only at hlo hhk hlv hn0 hn1
    cases k with
    | zero =>
      obtain ⟨da, dc, d2, _, _⟩ := HP.out.f2 hN
      rw [hn0 rfl] at d2
      change wr.cell? _ = some (.slice da 0 dc) at d2
      have hw : IntKind.i64.wrap ((j : Int) + 1) = ((h + 1 : Nat) : Int) := by rw [IntKind.wrap_i64]; omega
      clear hN hT hn0 hn1 hm hlv
      simp only [ptr]
      go_wp2_with fail
      go_ret
      exact ⟨rfl, rfl⟩
    | succ k =>
      have hnl := hn1 (by omega)
      have hT0 := hT
      obtain ⟨ks, vs, cs, _, _, hI, h4⟩ := hT
      have e := hI.at_
      rw [hN] at e
      cases e
      match cs, hI.lc with
      | c :: cs, _ =>
        have hxT := (hI.kids c (by simp)).1
        rw [(h4 c (by simp)).1, (h4 c (by simp)).2] at hxT
        have hmx := hgt_eq hxT
        obtain ⟨dg, dc, d2, _, _, _, hdc⟩ := HP.out.g2 hN (by simp)
        have ci := hdc 0 c.id rfl
        have hl0 : 0 < (List.map (fun x => x.id) (c :: cs)).length := by simp
        have hl1 : (List.map (fun x => x.id) (c :: cs)).length ≤ 300 := by have := hI.lc; rw [List.length_map]; omega
        have HR := Lib.hid hxT
        have HM := Lib.hid (And.intro hm hmx)
        have hw : IntKind.i64.wrap ((j : Int) + 1) = ((j + 1 : Nat) : Int) := by rw [IntKind.wrap_i64]; omega
        clear hN hT0 hn0 hn1 hm hmx hlv hdc hI h4 hxT hnl
        generalize (List.map (fun x => x.id) (c :: cs)).length = n at *
        simp only [ptr]
        go_wp2_with fail
        go_roundw
        case rel => exact ⟨j + 1, k, o / 2, o, c.id, _, _, rfl, rfl, HR.out, ho, by omega, by first | rfl | trivial⟩
        case measure =>
          have h1 := HM.out.1
          have h2 := HM.out.2
          unfold ptr at h1 h2
          rw [h1, h2]
          exact Nat.lt_succ_self k
set_option maxRecDepth 100000 in
set_option maxHeartbeats 1600000 in
theorem sound_leaf (B N o least : Nat) (σ : Sig) (ks vs : List Bs) (W : World) (hp : Hp B W σ) (hN : σ N = some ⟨ks, vs, []⟩) (hv : vs.length = ks.length) (h1 : least ≤ ks.length) (h2 : ks.length ≤ o) (ho : o ≤ 256) :
    Calls Try.prog 37 #[.pointer (some ⟨N, 0, none⟩), .int .i64 least, .int .i64 o, .int .i64 1] W fun e W' => e = .returned (.bool true) ∧ ∃ q, W' = W.drewN q := by
  obtain ⟨ka, kc, k0, _, _⟩ := hp.f0 hN
  obtain ⟨va, vc, v0, _, _⟩ := hp.f1 hN
  obtain ⟨da, dc, d0, _, _⟩ := hp.f2 hN
  change W.cell? _ = some (.slice da 0 dc) at d0
  rw [hv] at v0
  have e1 : decide ((ks.length : Int) < (least : Int)) = false := decide_eq_false (by omega)
  have e2 : ¬ (ks.length < least) := by omega
  have e3 : decide ((o : Int) < (ks.length : Int)) = false := decide_eq_false (by omega)
  have e4 : ¬ (o < ks.length) := by omega
  clear hp hN hv
  go_enter Try.func37, Try.ntmps37
  go_wp2_with fail
  go_quiet (fail)
  go_wp2_with fail
  go_ret
  exact ⟨rfl, _, rfl⟩
set_option maxRecDepth 100000 in
set_option maxHeartbeats 1600000 in
theorem sound_inner (B N o h least : Nat) (σ : Sig) (ks vs : List Bs) (ns : List Nat) (W : World) (hp : Hp B W σ) (hN : σ N = some ⟨ks, vs, ns⟩) (hv : vs.length = ks.length) (hn : ns.length = ks.length + 1) (h1 : least ≤ ks.length) (h2 : ks.length ≤ o) (ho : o ≤ 256) (hh : h ≤ 5000)
    (hkid : ∀ (j M q : Nat), ns[j]? = some M → Calls Try.prog 37 #[.pointer (some ⟨M, 0, none⟩), .int .i64 (o / 2 : Nat), .int .i64 o, .int .i64 (h + 1 : Nat)] (W.drewN q) fun e W' => e = .returned (.bool true) ∧ ∃ q', W' = (W.drewN q).drewN q') :
    Calls Try.prog 37 #[.pointer (some ⟨N, 0, none⟩), .int .i64 least, .int .i64 o, .int .i64 (h + 2 : Nat)] W fun e W' => e = .returned (.bool true) ∧ ∃ q, W' = W.drewN q := by
  have HK := Lib.hid hkid
  obtain ⟨ka, kc, k0, _, _⟩ := hp.f0 hN
  obtain ⟨va, vc, v0, _, _⟩ := hp.f1 hN
  obtain ⟨ng, nc, d0, _, _, _, hdc⟩ := hp.g2 hN (by omega)
  have HD := Lib.hid hdc
  rw [hv] at v0
  have HN := Lib.hid hn
  have e1 : decide ((ks.length : Int) < (least : Int)) = false := decide_eq_false (by omega)
  have e2 : ¬ (ks.length < least) := by omega
  have e3 : decide ((o : Int) < (ks.length : Int)) = false := decide_eq_false (by omega)
  have e4 : ¬ (o < ks.length) := by omega
  obtain ⟨lv, hlv⟩ : ∃ lv, lv = h + 2 := ⟨_, rfl⟩
  rw [← hlv]
  have e5 : decide ((lv : Int) ≤ 1) = false := decide_eq_false (by omega)
  have e6 : ¬ (lv ≤ 1) := by omega
  have hw1 : IntKind.i64.wrap ((ks.length : Int) + 1) = (ns.length : Int) := by rw [IntKind.wrap_i64]; omega
  have hw2 : IntKind.i64.wrap ((o : Int) / 2) = ((o / 2 : Nat) : Int) := by rw [IntKind.wrap_i64]; omega
  have hw3 : IntKind.i64.wrap ((lv : Int) - 1) = ((h + 1 : Nat) : Int) := by rw [IntKind.wrap_i64]; omega
  have hnl : ns.length ≤ 300 := by omega
  clear hp hN hv hdc hkid hlv hn
  go_enter Try.func37, Try.ntmps37
  go_wp2_with fail
  go_quiet (fail)
  go_wp2_with fail
  go_quiet (fail)
  go_wp2_with fail
  go_loopw [65] (fun i wr => ∃ k q : Nat, k ≤ ns.length ∧ i = .int .i64 k ∧ wr = W.drewN q) (fun i _ => ns.length - (intOf i).toNat)
  case atStart => exact ⟨0, _, Nat.zero_le _, rfl, rfl⟩
  case round =>
    obtain ⟨k, q, hk, rfl, rfl⟩ := hrel
    by_cases hlt : k < ns.length
    · obtain ⟨M, hM⟩ : ∃ M, ns[k]? = some M := ⟨_, List.getElem?_eq_getElem hlt⟩
      have ci := HD.out k M hM
      have HM := Lib.hid (HK.out k M q hM)
      clear hM
      go_wp2_with fail
      refine HM.out.mono ?_
      rintro e W2 ⟨rfl, q2, rfl⟩
      clear HM ci
      go_wp2_with fail
      go_roundw
      case rel => exact ⟨k + 1, q + q2, hlt, by go_num, by simp [World.drewN_drewN]⟩
      case measure => simp [intOf]; omega
    · have hkn : k = ns.length := by omega
      subst hkn
      go_wp2_with fail
      go_ret
      exact ⟨rfl, _, rfl⟩
theorem sound_T (B o : Nat) (ho : o ≤ 256) (σ : Sig) : ∀ (h lo hi N least : Nat) (L : List Pr) (S : Nat → Prop) (W : World), Hp B W σ → IsT σ o h lo hi N L S → least ≤ lo → hi ≤ o → h ≤ 5000 →
    Calls Try.prog 37 #[.pointer (some ⟨N, 0, none⟩), .int .i64 least, .int .i64 o, .int .i64 (h + 1 : Nat)] W fun e W' => e = .returned (.bool true) ∧ ∃ q, W' = W.drewN q := by
  intro h
  induction h with
  | zero =>
    intro lo hi N least L S W hp hT hl hh _
    obtain ⟨ks, vs, h1, h2, h3, h4, _⟩ := hT
    exact sound_leaf B N o least σ ks vs W hp h1 h2 (by omega) (by omega) ho
  | succ h ih =>
    intro lo hi N least L S W hp hT hl hh h5
    obtain ⟨ks, vs, cs, h1, h2, hI, h4⟩ := hT
    refine sound_inner B N o h least σ ks vs _ W hp hI.at_ hI.lv (by rw [List.length_map]; exact hI.lc) (by omega) (by omega) ho (by omega) (fun j M q hM => ?_)
    rw [List.getElem?_map] at hM
    obtain ⟨c, hc, rfl⟩ := Option.map_eq_some_iff.1 hM
    have hcm := List.mem_of_getElem? hc
    have hcT := (hI.kids c hcm).1
    rw [(h4 c hcm).1, (h4 c hcm).2] at hcT
    exact ih (o / 2) o c.id (o / 2) c.L c.S (W.drewN q) (hp.drewN q) hcT (Nat.le_refl _) (Nat.le_refl _) (by omega)
end Go.Proofs.Ytegljepgncicjaa
/- Btree: node.all on any tree. -/
namespace Go.Proofs.Ytegljepgncicjaa
open Go.ChangeShapes Go.WideShapes Go.ChangeAt Go.RowKit Go.Deep
set_option linter.unusedVariables false
set_option linter.unusedSimpArgs false
theorem run_app_big {T t : Nat} (i : TypeInfo) (z : Value) (bytes : Nat) (ht : Try.prog.underlying t = some (.slice T)) (hi : Try.prog.info? T = some i) (hz : i.zero = some z) (hsize : i.size = 1) (hby : i.bytes = bytes) (hzs : z.cells.size = 1) (hb : bytes ≤ 1000)
    (B : Nat) (W : World) (v sv : Value) (us news : List Value) (h : RowV T B W v us) (hs : us.length ≤ 100000) (hB : B ≤ W.heap.size) (hm : news.length ≤ 100000) (hsrc : RSrc W sv news) (h1 : ∀ u ∈ news, u.oneCell' = true) :
    ∃ v' W', (Builtin.append_ #[t, t] t #[v, sv]).run Try.prog W = .ok v' W' ∧ RowV T B W' v' (us ++ news) ∧ Kept (fun k => v.ownBlock = some k) W W' ∧ (∀ k, v'.ownBlock = some k → v.ownBlock = some k ∨ W.heap.size ≤ k) := by
  have hbm : (us.length + news.length) * bytes ≤ 140737488355328 := by
    have : (us.length + news.length) * bytes ≤ 200000 * 1000 := Nat.mul_le_mul (by omega) hb
    omega
  rcases hsrc with ⟨c, rfl, rfl⟩ | ⟨a, c, rfl, hnews⟩
  · refine ⟨v, W, ?_, by rw [List.append_nil]; exact h, Kept.refl _ W, fun k hk => .inl hk⟩
    rcases h with ⟨rfl, rfl⟩ | ⟨g, cc, rfl, _, hnc, _⟩
    · simp [Builtin.append_, run_underlying ht, sizeOf, typeInfo, hi, Builtin.lenOf, Builtin.firstCells]
    · simp [Builtin.append_, run_underlying ht, sizeOf, typeInfo, hi, Builtin.lenOf, Builtin.firstCells, hnc, storeCells]
  · rcases h with ⟨rfl, rfl⟩ | ⟨g, cc, rfl, hBg, hnc, hc63, hR, hc⟩
    · obtain ⟨v', w', hr, h2, h3, _, h5⟩ := run_append_own_at (P := Try.prog) W W.heap.size t t T i z 1 bytes ht hi hz hsize hby hzs (by decide) (.slice none 0 0) 0 [] (World.ownsRow_nil _ _ _ _) a news.length c news (by omega) hnews h1 (by unfold maxLen; omega) (by simpa using hbm) (Nat.le_refl _)
      rw [Nat.zero_add, List.nil_append] at h2
      refine ⟨v', w', hr, (rowV_of_own rfl h2).base hB, ⟨h3.os, h3.tape, h3.output, h3.size, fun k hk hs => h3.block k hk (by simp [Value.ownBlock])⟩, fun k hk => .inr ?_⟩
      exact (h2.lt k hk).1
    · by_cases hroom : us.length + news.length ≤ cc
      · have hr := run_append_room_cells (P := Try.prog) (w := W) t t T i ht hi g 0 us.length cc a news.length c news (by rw [hsize, Nat.mul_one]) hnews h1 hroom (fun j hj => hR.th _ (by rw [hsize]; omega)) (fun j hj => hR.fr _)
        rw [hsize, Nat.mul_one, Nat.zero_add] at hr
        refine ⟨_, _, hr, .inr ⟨g, cc, by rw [List.length_append], hBg, by rw [List.length_append]; exact hroom, hc63, hR.set _ _, fun j hj => ?_⟩, (Kept.refl _ W).setCells g _ _ (.inl rfl), fun k hk => .inl hk⟩
        rw [hR.at _ _ hroom]
        rw [List.length_append] at hj
        by_cases hju : us.length ≤ j
        · rw [if_pos ⟨hju, hj⟩, List.getElem?_append_right hju]
        · rw [if_neg (fun h => hju h.1), List.getElem?_append_left (by omega)]
          exact hc j (by omega)
      · obtain ⟨v', w', hr, h2, h3⟩ := run_append_arg_grows (P := Try.prog) (w := W) t t T i z 1 bytes ht hi hz hsize hby hzs (by decide) ⟨g, 0, none⟩ us.length cc us (by omega) (fun j u hj => by
          have e : (⟨g, 0, none⟩ : Addr).add j = ⟨g, j, none⟩ := by by_cases hj : j = 0 <;> simp [Addr.add, hj]
          rw [e, hc j (List.getElem?_eq_some_iff.1 hj).1, hj]) a news.length c news (by omega) hnews (by omega) (by unfold maxLen; omega) hbm
        rw [← List.length_append] at h2
        refine ⟨v', w', hr, (rowV_of_own rfl h2).base hB, ⟨h3.os, h3.tape, h3.output, h3.size, fun k hk hs => h3.block k hk (by simp)⟩, fun k hk => .inr (h2.lt k hk).1⟩
theorem wpList_app9 {ops : Array Oper} {rest : List Oper} {Q : Exit → Act → World → Prop} (x y B : Nat) (v sv : Value) (us news : List Value) (d : Option Nat) (pos : String) (af) (a : Act) (W : World)
    (h : RowV 9 B W v us) (hs : us.length ≤ 100000) (hB : B ≤ W.heap.size) (hm : news.length ≤ 100000) (hsrc : RSrc W sv news) (h1 : ∀ u ∈ news, u.oneCell' = true) (hside : ASide a x y v sv)
    (hK : ∀ v' W', AppOut 9 B v (us ++ news) W v' W' → wpList Try.prog ops Q rest (a.put d v') W') :
    wpList Try.prog ops Q ({ dst := d, op := Op.call { callee := .builtin .append, args := #[.tmp x, .tmp y], argTypes := #[40, 40] }, type := 40, pos := pos, after := af, guard := none } :: rest) a W := by
  obtain ⟨hx, hy⟩ := hside
  obtain ⟨i9, hi9, hz0, hz1, hz2⟩ := info_parts info9b
  obtain ⟨v', w', hr, h2⟩ := run_app_big (T := 9) (t := 40) i9 (.string ⟨#[]⟩) 16 Try.underlying40 hi9 hz0 hz1 hz2 rfl (by decide) B W v sv us news h hs hB hm hsrc h1
  refine wpList_plain rfl fun K hKK => ?_
  unfold Oper.wp execOp
  simp only [resolve, invoke, builtin, Sem.run_bind, Sem.run_pure, Result.andThen_ok, List.map_toArray, List.map_cons, List.map_nil, hx, hy, hr]
  exact hKK _ _ (hK _ _ h2)
theorem AppOut.below {T B : Nat} {v v' : Value} {us0 us : List Value} {W W' : World} (h : AppOut T B v us W v' W') (hr : RowV T B W v us0) (hB : B ≤ W.heap.size) : Below B W W' :=
  h.2.1.below hB (fun k hk => (hr.lt k hk).1)
theorem AppOut.refl {T B : Nat} {v : Value} {us : List Value} {W : World} (hr : RowV T B W v us) : AppOut T B v us W v W := ⟨hr, Kept.refl _ W, fun k hk => .inl hk⟩
def AllOut (n₀ : Nat) (l : Value) (ys : List Bs) (W : World) (e : Ending) (W' : World) : Prop := ∃ v', e = .returned v' ∧ AppOut 9 n₀ l (strv ys) W v' W'
set_option maxRecDepth 100000 in
set_option maxHeartbeats 1600000 in
theorem all_leafT (n₀ N : Nat) (σ : Sig) (ks vs : List Bs) (l : Value) (xs : List Bs) (W : World) (hp : Hp 0 W σ) (hN : σ N = some ⟨ks, vs, []⟩) (hr : RowV 9 n₀ W l (strv xs)) (hn : n₀ ≤ W.heap.size) (h1 : ks.length ≤ 300) (h2 : xs.length ≤ 90000) :
    Calls Try.prog 38 #[.pointer (some ⟨N, 0, none⟩), l] W (AllOut n₀ l (xs ++ ks) W) := by
  have HP := Lib.hid hp
  have HR := Lib.hid hr
  have HN := Lib.hid hN
  obtain ⟨ka, kc, k0, _, _⟩ := hp.f0 hN
  obtain ⟨da, dc, d0, _, _⟩ := hp.f2 hN
  change W.cell? _ = some (.slice da 0 dc) at d0
  have HSRC : Hid (RSrc W (.slice ka ks.length kc) (strv ks)) := Lib.hid (rowV_src (hp.rowat hN 0 (by decide) k0))
  clear hp hr hN
  go_enter Try.func38, Try.ntmps38
  go_wp2_with (with_reducible refine wpList_app9 13 17 n₀ l (.slice ka ks.length kc) (strv xs) (strv ks) _ _ _ _ _ HR.out ?_ hn ?_ HSRC.out ?_ ?_ ?_)
  · rw [strv_len]; omega
  · rw [strv_len]; omega
  · exact strv_one ks
  · exact ⟨rfl, rfl⟩
  intro v' W' ho
  rw [strv_app] at ho
  have HO := Lib.hid ho
  clear ho k0 d0 HSRC
  go_wp2_with fail
  go_ret
  exact ⟨_, rfl, HO.out⟩
end Go.Proofs.Ytegljepgncicjaa
/- Btree: node.all on any tree. -/
namespace Go.Proofs.Ytegljepgncicjaa
open Go.ChangeShapes Go.WideShapes Go.ChangeAt Go.RowKit Go.Deep
set_option linter.unusedVariables false
set_option linter.unusedSimpArgs false
/-- the keys that have been taken before the k-th kid -/
def preK (ks : List Pr) (cs : List (List Pr)) (k : Nat) : List Pr := if k ≤ ks.length then interL (cs.take k) (ks.take k) else inter ks cs
theorem interL_snocM : ∀ (A : List (List Pr)) (K : List Pr) (a : List Pr) (p : Pr), A.length = K.length → interL (A ++ [a]) (K ++ [p]) = interL A K ++ (a ++ [p])
  | [], [], a, p, _ => by show a ++ p :: interL [] [] = _; simp [interL]
  | b :: A, q :: K, a, p, h => by
    have ih := interL_snocM A K a p (by simpa using h)
    show b ++ q :: interL (A ++ [a]) (K ++ [p]) = (b ++ q :: interL A K) ++ (a ++ [p])
    rw [ih]
    simp
  | [], _ :: _, _, _, h => by simp at h
  | _ :: _, [], _, _, h => by simp at h
theorem preK_step {ks : List Pr} {cs : List (List Pr)} {k : Nat} (hc : cs.length = ks.length + 1) (hk : k < ks.length) (x : List Pr) (p : Pr) (hx : cs[k]? = some x) (hp : ks[k]? = some p) : preK ks cs (k + 1) = preK ks cs k ++ (x ++ [p]) := by
  obtain ⟨h1, h2⟩ := List.getElem?_eq_some_iff.1 hx
  obtain ⟨h3, h4⟩ := List.getElem?_eq_some_iff.1 hp
  unfold preK
  rw [if_pos (by omega), if_pos (by omega), List.take_succ_eq_append_getElem h1, List.take_succ_eq_append_getElem h3, h2, h4]
  exact interL_snocM _ _ _ _ (by simp; omega)
theorem preK_last {ks : List Pr} {cs : List (List Pr)} {k : Nat} (hc : cs.length = ks.length + 1) (hk : k = ks.length) (x : List Pr) (hx : cs[k]? = some x) : preK ks cs (k + 1) = preK ks cs k ++ x := by
  obtain ⟨h1, h2⟩ := List.getElem?_eq_some_iff.1 hx
  unfold preK
  rw [if_neg (by omega), if_pos (by omega)]
  have e : cs = cs.take k ++ x :: [] := by
    conv => lhs; rw [← List.take_append_drop k cs, List.drop_eq_getElem_cons h1, h2, List.drop_eq_nil_of_le (by omega)]
  have e2 : ks = ks.take k ++ [] := by rw [List.append_nil, List.take_of_length_le (by omega)]
  conv => lhs; rw [e, e2]
  rw [inter_mid _ _ _ _ _ (by simp; omega)]
  simp [interR]
theorem Hq.row_lt {n₀ : Nat} {W : World} {σ : Sig} (h : Hq n₀ W σ) {N : Nat} {nd : Nd} (hN : σ N = some nd) (j : Nat) (hj : j < 3) {v : Value} (hv : W.cell? ⟨N, j, none⟩ = some v) {g : Nat} (e : v.ownBlock = some g) : g < n₀ := by
  obtain ⟨fv, own, h1, _, h3, _⟩ := h
  exact h3 g ⟨N, nd, hN, .inr ⟨j, hj, by rw [Hp.cellv h1 hN j hj hv]; exact e⟩⟩
theorem AppOut.alloc {T B : Nat} {v v' : Value} {us : List Value} {W W' : World} (h : AppOut T B v us W v' W') (ob : Obj) : AppOut T B v us W v' (W'.alloc ob) :=
  ⟨h.1.kept ((Kept.refl (fun _ => False) W').alloc ob) (fun _ _ h => h), h.2.1.alloc ob, h.2.2⟩
def keysOf (L : List Pr) : List Bs := L.map (·.1)
theorem keysOf_app (a b : List Pr) : keysOf (a ++ b) = keysOf a ++ keysOf b := List.map_append
set_option maxRecDepth 100000 in
set_option maxHeartbeats 3200000 in
theorem all_inner (n₀ N : Nat) (σ : Sig) (ks vs : List Bs) (ns : List Nat) (Cs : List (List Pr)) (l : Value) (xs : List Bs) (W : World) (hq : Hq n₀ W σ) (hN : σ N = some ⟨ks, vs, ns⟩) (hv : vs.length = ks.length) (hn : ns.length = ks.length + 1) (hC : Cs.length = ks.length + 1) (h1 : ks.length ≤ 256) (h2 : xs.length ≤ 40000) (h3 : (inter (ks.zip vs) Cs).length ≤ 40000)
    (hpre : ∀ k, k ≤ ks.length + 1 → (preK (ks.zip vs) Cs k).length ≤ 40000)
    (hr : RowV 9 n₀ W l (strv xs)) (hn0 : n₀ ≤ W.heap.size)
    (hkid : ∀ (k M : Nat) (x : List Pr) (l' : Value) (ys : List Bs) (W' : World), ns[k]? = some M → Cs[k]? = some x → Hq n₀ W' σ → n₀ ≤ W'.heap.size → RowV 9 n₀ W' l' (strv ys) → ys = xs ++ keysOf (preK (ks.zip vs) Cs k) → Calls Try.prog 38 #[.pointer (some ⟨M, 0, none⟩), l'] W' (AllOut n₀ l' (ys ++ keysOf x) W')) :
    Calls Try.prog 38 #[.pointer (some ⟨N, 0, none⟩), l] W (AllOut n₀ l (xs ++ keysOf (inter (ks.zip vs) Cs)) W) := by
  have HK := Lib.hid hkid
  have HQ := Lib.hid hq
  have HR := Lib.hid hr
  have HN := Lib.hid hN
  have HC := Lib.hid (And.intro hC (And.intro hn hv))
  have HP := Lib.hid hpre
  obtain ⟨ng, nc, d0, _, _, _, hdc⟩ := hq.hp.g2 hN (by omega)
  have hngl := hq.row_lt hN 2 (by decide) d0 (g := ng) rfl
  have HD := Lib.hid hdc
  have hnl : ns.length ≤ 300 := by omega
  have hnl0 : 0 < ns.length := by omega
  have hnl1 : ((ns.length : Int) == 0) = false := by simpa using (by omega : ns.length ≠ 0)
  have hnk : ks.length < ns.length := by omega
  have hnk2 : ns.length ≤ ks.length + 1 := by omega
  clear hq hr hN hdc hkid hn hC hv hpre
  go_enter Try.func38, Try.ntmps38
  go_wp2_with fail
  clear d0
  go_loopw [1, 5, 6, 24] (fun v _ _ i wr => ∃ k : Nat, k ≤ ns.length ∧ i = .int .i64 k ∧ AppOut 9 n₀ l (strv (xs ++ keysOf (preK (ks.zip vs) Cs k))) W v wr) (fun _ _ _ i _ => ns.length - (intOf i).toNat)
  case atStart =>
    refine ⟨0, Nat.zero_le _, rfl, ?_⟩
    have e : preK (ks.zip vs) Cs 0 = [] := by unfold preK; rw [if_pos (Nat.zero_le _)]; rfl
    rw [e]
    show AppOut 9 n₀ l (strv (xs ++ [])) W l W
    rw [List.append_nil]
    exact AppOut.refl HR.out
  case round =>
    obtain ⟨k, hk, rfl, ho⟩ := hrel
    have HO := Lib.hid ho
    have hbw := ho.below HR.out hn0
    have HQ1 := Lib.hid (HQ.out.below hbw)
    have hn1 := Nat.le_trans hn0 hbw.size
    have HB1 := Lib.hid hbw
    clear ho hbw
    by_cases hlt : k < ns.length
    · obtain ⟨M, hM⟩ : ∃ M, ns[k]? = some M := ⟨_, List.getElem?_eq_getElem hlt⟩
      have ci := (HB1.out.cell (p := ⟨ng, k, none⟩) hngl).trans (HD.out k M hM)
      obtain ⟨x, hx⟩ : ∃ x, Cs[k]? = some x := ⟨_, List.getElem?_eq_getElem (by have := HC.out.1; omega)⟩
      have HLx := Lib.hid (HP.out k (by omega))
      have HCALL := Lib.hid (HK.out k M x u1 (xs ++ keysOf (preK (ks.zip vs) Cs k)) wr hM hx HQ1.out hn1 HO.out.1 rfl)
      have HX := Lib.hid hx
      clear hx hM
      go_wp2_with fail
      refine HCALL.out.mono ?_
      rintro e W2 ⟨v2, rfl, ho2⟩
      have hb2 := ho2.below HO.out.1 hn1
      have HO2 := Lib.hid (HO.out.trans ho2)
      have HQ2 := Lib.hid (HQ1.out.below hb2)
      have hn2 := Nat.le_trans hn1 hb2.size
      clear ho2 hb2 HCALL ci HO HQ1 HB1
      by_cases hkl : k < ks.length
      · obtain ⟨kg, kc, k0, _, _, hkg, hkc⟩ := HQ2.out.hp.g0 HN.out (by omega)
        have ck := hkc k hkl
        have hd1 : decide ((k : Int) < (ks.length : Int)) = true := decide_eq_true (by omega)
        have hz := zip_get ks vs k hkl HC.out.2.2
        have HST := Lib.hid (preK_step (ks := ks.zip vs) (by rw [List.length_zip]; have := HC.out; omega) (by rw [List.length_zip]; have := HC.out.2.2; omega) x _ HX.out hz)
        have HNX := Lib.hid (HP.out (k + 1) (by omega))
        have HLL := Lib.hid (show (xs ++ keysOf (preK (ks.zip vs) Cs k) ++ keysOf x).length ≤ 90000 by
          have e1 := HNX.out
          rw [HST.out] at e1
          simp only [List.length_append, List.length_cons, List.length_nil] at e1
          unfold keysOf
          simp only [List.length_append, List.length_map]
          omega)
        have hkgn : kg ≠ W2.heap.size := Nat.ne_of_lt hkg
        clear hkc hz
        obtain ⟨zs, hzs⟩ : ∃ zs, zs = xs ++ keysOf (preK (ks.zip vs) Cs k) ++ keysOf x := ⟨_, rfl⟩
        rw [← hzs] at HO2 HLL
        have HZS := Lib.hid hzs.symm
        clear hzs
        go_wp2_with (with_reducible refine wpList_app9 39 47 n₀ v2 (.slice (some ⟨W2.heap.size, 0, none⟩) 1 1) (strv zs) [.string (sx ks k)] _ _ _ _ _ ?_ ?_ ?_ ?_ ?_ ?_ ?_ ?_)
        · exact (HO2.out.alloc _).1
        · rw [strv_len]; have := HLL.out; omega
        · exact Nat.le_trans hn2 (by simp)
        · simp
        · exact rsrc_new W2 _ _
        · intro u hu; simp at hu; subst hu; rfl
        · exact ⟨rfl, rfl⟩
        intro v3 W3 ho3
        have HO3 := Lib.hid ((HO2.out.alloc _).trans ho3)
        clear ho3 k0 ck
        go_wp2_with fail
        go_roundw
        case rel =>
          refine ⟨k + 1, by omega, by go_num, ?_⟩
          have h9 := HO3.out
          rw [show strv zs ++ [Value.string (sx ks k)] = strv (zs ++ [sx ks k]) by simp [strv]] at h9
          rw [HST.out, keysOf_app, keysOf_app]
          have h10 := HZS.out
          rw [← h10] at h9
          simpa [keysOf] using h9
        case measure => simp [intOf]; omega
      · have hd1 : decide ((k : Int) < (ks.length : Int)) = false := decide_eq_false (by omega)
        obtain ⟨ka, kc, k0, _, _⟩ := HQ2.out.hp.f0 HN.out
        have HST := Lib.hid (preK_last (ks := ks.zip vs) (by rw [List.length_zip]; have := HC.out; omega) (by rw [List.length_zip]; have := HC.out.2.2; omega) x HX.out)
        go_wp2_with fail
        go_roundw
        case rel =>
          refine ⟨k + 1, by omega, by go_num, ?_⟩
          have h9 := HO2.out
          rw [HST.out, keysOf_app]
          simpa using h9
        case measure => simp [intOf]; omega
    · have hkn : k = ns.length := by omega
      subst hkn
      have e : preK (ks.zip vs) Cs ns.length = inter (ks.zip vs) Cs := by
        unfold preK
        have hz : (ks.zip vs).length = ks.length := by rw [List.length_zip]; have := HC.out.2.2; omega
        rw [if_neg (by omega)]
      have HE := Lib.hid e
      go_wp2_with fail
      go_ret
      refine ⟨_, rfl, ?_⟩
      have := HO.out
      rw [HE.out] at this
      exact this
theorem preK_len {ks : List Pr} {cs : List (List Pr)} (hc : cs.length = ks.length + 1) : ∀ (d k : Nat), k + d = ks.length + 1 → (preK ks cs k).length ≤ (inter ks cs).length
  | 0, k, h => by unfold preK; rw [if_neg (by omega)]; exact Nat.le_refl _
  | d + 1, k, h => by
    have ih := preK_len hc d (k + 1) (by omega)
    have hx : cs[k]? = some (cs[k]'(by omega)) := List.getElem?_eq_getElem (by omega)
    by_cases hk : k < ks.length
    · rw [preK_step hc hk _ _ hx (List.getElem?_eq_getElem hk)] at ih
      simp only [List.length_append] at ih
      omega
    · rw [preK_last hc (by omega) _ hx] at ih
      simp only [List.length_append] at ih
      omega
theorem preK_kid {ks : List Pr} {cs : List (List Pr)} (hc : cs.length = ks.length + 1) {k : Nat} {x : List Pr} (hx : cs[k]? = some x) : (preK ks cs k).length + x.length ≤ (inter ks cs).length := by
  have hk1 : k < cs.length := (List.getElem?_eq_some_iff.1 hx).1
  have ih := preK_len hc (ks.length - k) (k + 1) (by omega)
  by_cases hk : k < ks.length
  · rw [preK_step hc hk _ _ hx (List.getElem?_eq_getElem hk)] at ih
    simp only [List.length_append] at ih
    omega
  · rw [preK_last hc (by omega) _ hx] at ih
    simp only [List.length_append] at ih
    omega
theorem all_T (n₀ o : Nat) (ho : o ≤ 256) (σ : Sig) : ∀ (h lo hi N : Nat) (L : List Pr) (S : Nat → Prop) (l : Value) (xs : List Bs) (W : World), Hq n₀ W σ → IsT σ o h lo hi N L S → hi ≤ 256 → xs.length + L.length ≤ 40000 → RowV 9 n₀ W l (strv xs) → n₀ ≤ W.heap.size →
    Calls Try.prog 38 #[.pointer (some ⟨N, 0, none⟩), l] W (AllOut n₀ l (xs ++ keysOf L) W) := by
  intro h
  induction h with
  | zero =>
    intro lo hi N L S l xs W hq hT hhi hle hr hn
    obtain ⟨ks, vs, h1, h2, h3, h4, h5, _⟩ := hT
    have e : keysOf L = ks := by rw [h5]; exact zip_keys ks vs h2
    rw [e]
    exact all_leafT n₀ N σ ks vs l xs W hq.hp h1 hr hn (by omega) (by omega)
  | succ h ih =>
    intro lo hi N L S l xs W hq hT hhi hle hr hn
    obtain ⟨ks, vs, cs, h1, h2, hI, h4⟩ := hT
    have hz : (ks.zip vs).length = ks.length := by rw [List.length_zip, hI.lv, Nat.min_self]
    have hc : (cs.map (·.L)).length = (ks.zip vs).length + 1 := by rw [List.length_map, hz]; exact hI.lc
    have hL := hI.eL
    rw [hL] at hle ⊢
    refine all_inner n₀ N σ ks vs _ (cs.map (·.L)) l xs W hq hI.at_ hI.lv (by rw [List.length_map]; exact hI.lc) (by rw [hc, hz]) (by omega) (by omega) (by omega) (fun k hk => ?_) hr hn (fun k M x l' ys W' hM hx hq' hn' hr' hys => ?_)
    · have := preK_len hc (ks.length + 1 - k) k (by omega)
      omega
    · rw [List.getElem?_map] at hM hx
      obtain ⟨c, hcc, rfl⟩ := Option.map_eq_some_iff.1 hM
      rw [hcc] at hx
      have hx2 : x = c.L := by simpa using hx.symm
      subst hx2
      have hcm := List.mem_of_getElem? hcc
      have hcT := (hI.kids c hcm).1
      rw [(h4 c hcm).1, (h4 c hcm).2] at hcT
      have hkk := preK_kid hc (k := k) (x := c.L) (by rw [List.getElem?_map, hcc]; rfl)
      exact ih (o / 2) o c.id c.L c.S l' ys W' hq' hcT ho (by rw [hys, List.length_append]; unfold keysOf; rw [List.length_map]; omega) hr' hn'
end Go.Proofs.Ytegljepgncicjaa
/- Btree: tree.sound, Check on any tree. -/
namespace Go.Proofs.Ytegljepgncicjaa
open Go.ChangeShapes Go.WideShapes Go.ChangeAt Go.RowKit Go.Deep
set_option linter.unusedVariables false
set_option linter.unusedSimpArgs false
theorem h_le {σ : Sig} {o : Nat} (ho : 4 ≤ o) : ∀ {h lo hi N : Nat} {L : List Pr} {S : Nat → Prop}, IsT σ o h lo hi N L S → 1 ≤ lo → h + 1 ≤ L.length
  | 0, _, _, _, L, _, hT, hl => by
    have := last_nonempty hT hl
    cases L with
    | nil => exact absurd rfl this
    | cons a L => simp
  | h + 1, _, _, _, L, _, ⟨ks, vs, cs, h1, h2, hI, h4⟩, hl => by
    have hz : (ks.zip vs).length = ks.length := by rw [List.length_zip, hI.lv, Nat.min_self]
    have hL := hI.eL
    match cs, hI.lc with
    | c :: d :: cs, hc =>
      have hcT := (hI.kids c (by simp)).1
      rw [(h4 c (by simp)).1] at hcT
      have ih := h_le ho hcT (by omega)
      have hst := preK_step (ks := ks.zip vs) (cs := (c :: d :: cs).map (·.L)) (k := 0) (by rw [List.length_map, hz]; exact hc) (by simp at hc; omega) c.L _ rfl (List.getElem?_eq_getElem (by simp at hc; omega))
      have hle := preK_len (ks := ks.zip vs) (cs := (c :: d :: cs).map (·.L)) (by rw [List.length_map, hz]; exact hc) ks.length 1 (by omega)
      rw [hst] at hle
      rw [hL]
      simp only [List.length_append, List.length_cons, List.length_nil] at hle
      omega
    | [c], hc =>
      have hc' : 1 = ks.length + 1 := hc
      omega
def CheckOut (W : World) (e : Ending) (W' : World) : Prop := e = .returned (.bool true) ∧ Below W.heap.size W W'
set_option maxRecDepth 100000 in
set_option maxHeartbeats 3200000 in
theorem tsound_some (n₀ T N o sz : Nat) (L : List Pr) (W : World) (hb : Box W T [.int .i64 o, .int .i64 sz, .pointer (some ⟨N, 0, none⟩)]) (hn : n₀ = W.heap.size) (hsz : sz = L.length) (hl : L.length ≤ 5000) (hl0 : 1 ≤ L.length) (hs : Srt L) (hgt : Int) 
    (h1 : ∀ q, Calls Try.prog 33 #[.pointer (some ⟨T, 0, none⟩)] (W.drewN q) fun e W' => e = .returned (.int .i64 hgt) ∧ W' = W.drewN q)
    (h2 : ∀ q, Calls Try.prog 37 #[.pointer (some ⟨N, 0, none⟩), .int .i64 1, .int .i64 o, .int .i64 hgt] (W.drewN q) fun e W' => e = .returned (.bool true) ∧ ∃ q', W' = (W.drewN q).drewN q')
    (h3 : ∀ q, Calls Try.prog 38 #[.pointer (some ⟨N, 0, none⟩), .slice none 0 0] (W.drewN q) (AllOut n₀ (.slice none 0 0) (keysOf L) (W.drewN q))) :
    Calls Try.prog 29 #[.pointer (some ⟨T, 0, none⟩)] W (CheckOut W) := by
  have HH := Lib.hid (And.intro h1 h2)
  have HA := Lib.hid h3
  have HB := Lib.hid hb
  have HS := Lib.hid (And.intro hs (And.intro hn hsz))
  have a0 : W.drew.cell? ⟨T, 0, none⟩ = some (.int .i64 o) := hb.cell 0 _ rfl
  have a2 : W.drew.cell? ⟨T, 2, none⟩ = some (.pointer (some ⟨N, 0, none⟩)) := hb.cell 2 _ rfl
  have b2 : W.cell? ⟨T, 2, none⟩ = some (.pointer (some ⟨N, 0, none⟩)) := hb.cell 2 _ rfl
  clear hb h1 h2 h3 hs hn hsz
  go_enter Try.func29, Try.ntmps29
  go_wp2_with fail
  refine wp_region_ordW 12 10 [(0, 0), (1, 0), (2, 0), (3, 1), (4, 0), (5, 0), (6, 0), (7, 1), (8, 0), (9, 2), (10, 3), (11, 0)] (fun X => X.cell? ⟨T, 0, none⟩ = some (.int .i64 o) ∧ X.cell? ⟨T, 2, none⟩ = some (.pointer (some ⟨N, 0, none⟩))) (by kernel_rfl) (by kernel_rfl) ⟨a0, a2⟩ (fun c a d v w h => by cases d <;> exact h) ?_
  apply wpOrd_read0
  case hi => rfl
  case hw => rfl
  case hy => (intro w; go_simp; try rfl)
  intro K hK; go_simp; refine hK _ _ ?_; clear hK K
  apply wpOrd_read0
  case hi => rfl
  case hw => rfl
  case hy => (intro w; go_simp; try rfl)
  intro K hK; go_simp; refine hK _ _ ?_; clear hK K
  apply wpOrd_read0
  case hi => rfl
  case hw => rfl
  case hy => (intro w; go_simp; try rfl)
  intro K hK; go_simp; refine hK _ _ ?_; clear hK K
  apply wpOrd_read1
  case hi => rfl
  case hw => rfl
  case hy => (intro w hw; obtain ⟨h1, h2⟩ := hw; go_simp; try rfl)
  intro K hK; go_simp; refine hK _ _ ?_; clear hK K
  apply wpOrd_read0
  case hi => rfl
  case hw => rfl
  case hy => (intro w; go_simp; try rfl)
  intro K hK; go_simp; refine hK _ _ ?_; clear hK K
  apply wpOrd_read0
  case hi => rfl
  case hw => rfl
  case hy => (intro w; go_simp; try rfl)
  intro K hK; go_simp; refine hK _ _ ?_; clear hK K
  apply wpOrd_read0
  case hi => rfl
  case hw => rfl
  case hy => (intro w; go_simp; try rfl)
  intro K hK; go_simp; refine hK _ _ ?_; clear hK K
  apply wpOrd_read1
  case hi => rfl
  case hw => rfl
  case hy => (intro w hw; obtain ⟨h1, h2⟩ := hw; go_simp; try rfl)
  intro K hK; go_simp; refine hK _ _ ?_; clear hK K
  apply wpOrd_read0
  case hi => rfl
  case hw => rfl
  case hy => (intro w; go_simp; try rfl)
  intro K hK; go_simp; refine hK _ _ ?_; clear hK K
  apply wpOrd_eff2
  case hi => rfl
  case hw => rfl
  intro K hK
  go_simp
  refine (HH.out.1 1).mono ?_
  rintro e W1 ⟨rfl, hw1⟩
  subst hw1
  refine hK _ _ ⟨a0, a2⟩ ?_
  clear hK K
  apply wpOrd_eff3
  case hi => rfl
  case hw => rfl
  intro K hK
  go_simp
  refine (HH.out.2 1).mono ?_
  rintro e W1 ⟨rfl, q1, rfl⟩
  refine hK _ _ ?_
  clear hK K
  apply wpOrd_read0
  case hi => rfl
  case hw => rfl
  case hy => (intro w; go_simp; try rfl)
  intro K hK; go_simp; refine hK _ _ ?_; clear hK K
  refine wpOrd_nil ?_
  clear a0 a2
  go_wp2_with fail
  clear HH
  refine (HA.out (1 + q1)).mono ?_
  rintro e W3 ⟨v', rfl, ho⟩
  have hbw : Below n₀ W W3 := (show Below n₀ W (W.drewN (1 + q1)) from ⟨rfl, rfl, rfl, Nat.le_refl _, fun _ _ => rfl⟩).trans (ho.below (us0 := []) (.inl ⟨rfl, rfl⟩) (by rw [HS.out.2.1]; exact Nat.le_refl _))
  have HW := Lib.hid hbw
  have hlen : (keysOf L).length = L.length := List.length_map _
  obtain ⟨g, c, hv, _, _, _, hcell⟩ := rowk ho.1 (by omega)
  subst hv
  rw [hlen] at hcell ⊢
  have a1 : W3.cell? ⟨T, 1, none⟩ = some (.int .i64 sz) := (HB.out.far hbw (by rw [HS.out.2.1]; exact HB.out.lt)).cell 1 _ rfl
  have hord : ∀ k, k + 1 < L.length → Op.bytesLess (ByteArray.toList (sx (keysOf L) k)) (ByteArray.toList (sx (keysOf L) (k + 1))) = true := fun k hk => by
    rw [sx_get (by omega), sx_get (by omega)]
    simp only [keysOf, List.getElem_map]
    exact List.pairwise_iff_getElem.1 HS.out.1 k (k + 1) (by omega) hk (by omega)
  have HC := Lib.hid (And.intro hcell hord)
  have HL := Lib.hid (And.intro hlen hl)
  have hl1 : L.length ≤ 5000 := hl
  clear hcell hord hlen ho HA hbw b2 hl
  go_wp2_with fail
  go_loopw [4] (fun i wr => ∃ k q : Nat, k + 1 ≤ L.length ∧ i = .int .i64 ((k + 1 : Nat) : Int) ∧ wr = W3.drewN q) (fun i _ => L.length - (intOf i).toNat)
  case atStart => exact ⟨0, 0, hl0, rfl, rfl⟩
  case round =>
    obtain ⟨k, q, hk, rfl, rfl⟩ := hrel
    by_cases hlt : k + 1 < L.length
    · have c0 : W3.cell? ⟨g, k, none⟩ = some (.string (sx (keysOf L) k)) := HC.out.1 k (by omega)
      have c1 : W3.cell? ⟨g, k + 1, none⟩ = some (.string (sx (keysOf L) (k + 1))) := HC.out.1 (k + 1) hlt
      have hyx := HC.out.2 k hlt
      have hw3 : IntKind.i64.wrap (((k + 1 : Nat) : Int) - 1) = (k : Int) := by rw [IntKind.wrap_i64]; omega
      have hk1 : k < L.length := by omega
      generalize sx (keysOf L) (k + 1) = x at *
      generalize sx (keysOf L) k = y at *
      obtain ⟨i, hi⟩ : ∃ i, i = k + 1 := ⟨_, rfl⟩
      rw [← hi] at c1 hw3 hlt
      rw [← hi]
      have HI := Lib.hid hi
      clear hi hk
      go_wp2_with fail
      go_quiet (fail)
      go_wp2_with fail
      go_roundw
      case rel => exact ⟨i, q + nq, hlt, by go_num, by simp [World.drewN_drewN]⟩
      case measure => simp [intOf]; omega
    · have hkl : L.length = k + 1 := by omega
      have a1' : (W3.drewN q).cell? ⟨T, 1, none⟩ = some (.int .i64 sz) := a1
      have hsz := HS.out.2.2
      rw [hkl] at hsz
      subst hsz
      rw [hkl]
      go_wp2_with fail
      go_ret
      exact ⟨rfl, (by have := HS.out.2.1; rw [← this]; exact HW.out.trans ⟨rfl, rfl, rfl, Nat.le_refl _, fun _ _ => rfl⟩)⟩
end Go.Proofs.Ytegljepgncicjaa
/- Btree: Check on any tree. -/
namespace Go.Proofs.Ytegljepgncicjaa
open Go.ChangeShapes Go.WideShapes Go.ChangeAt Go.RowKit Go.Deep
set_option linter.unusedVariables false
set_option linter.unusedSimpArgs false
set_option maxRecDepth 100000 in
set_option maxHeartbeats 1600000 in
theorem tsound_none (T o sz : Nat) (W : World) (hb : Box W T [.int .i64 o, .int .i64 sz, .pointer none]) (hz : sz = 0) :
    Calls Try.prog 29 #[.pointer (some ⟨T, 0, none⟩)] W (CheckOut W) := by
  subst hz
  have a1 : W.cell? ⟨T, 1, none⟩ = some (.int .i64 0) := hb.cell 1 _ rfl
  have a2 : W.cell? ⟨T, 2, none⟩ = some (.pointer none) := hb.cell 2 _ rfl
  clear hb
  go_enter Try.func29, Try.ntmps29
  go_wp2_with fail
  go_ret
  exact ⟨rfl, Below.refl _ _⟩
theorem tsound_T (W : World) (T o : Nat) (L : List Pr) (Y : Nat → Prop) (h : Tr W T o L Y) (hl : L.length ≤ 5000) :
    Calls Try.prog 29 #[.pointer (some ⟨T, 0, none⟩)] W (CheckOut W) := by
  obtain ⟨r, σ, hb, hq, hR, hs, h4, h6⟩ := h.hq
  cases r with
  | none =>
    have hL : L = [] := hR
    exact tsound_none T o L.length W hb (by rw [hL]; rfl)
  | some N =>
    obtain ⟨hh, S, hT⟩ := hR
    have hle := h_le h4 hT (Nat.le_refl _)
    exact tsound_some W.heap.size T N o L.length L W hb rfl rfl hl (by omega) hs ((hh + 1 : Nat) : Int)
      (fun q => height_T 0 T N o hh 1 o _ σ L S _ (hq.drewN q).hp (hb.drewN q) hT (by omega) h6 h6)
      (fun q => sound_T 0 o h6 σ hh 1 o N 1 L S _ (hq.drewN q).hp hT (Nat.le_refl _) (Nat.le_refl _) (by omega))
      (fun q => all_T W.heap.size o h6 σ hh 1 o N L S _ [] _ (hq.drewN q) hT h6 (by simp; omega) (.inl ⟨rfl, rfl⟩) (Nat.le_refl _))
theorem Check_T (W : World) (T o : Nat) (L : List Pr) (Y : Nat → Prop) (h : Tr W T o L Y) (hl : L.length ≤ 5000) :
    Calls Try.prog 15 #[.pointer (some ⟨T, 0, none⟩)] W (CheckOut W) := by
  have H := Lib.hid (tsound_T W T o L Y h hl)
  clear h
  go_enter Try.func15, Try.ntmps15
  go_wp2_with fail
  refine H.out.mono ?_
  rintro e W1 ⟨rfl, h2⟩
  have H2 := Lib.hid h2
  clear h2 H
  go_wp2_with fail
  go_ret
  exact ⟨rfl, H2.out⟩
end Go.Proofs.Ytegljepgncicjaa
/- Btree: the walk of node.clone. -/
namespace Go.Proofs.Ytegljepgncicjaa
open Go.ChangeShapes Go.WideShapes Go.ChangeAt Go.RowKit Go.Deep
set_option linter.unusedVariables false
set_option linter.unusedSimpArgs false
def CNode (B2 : Nat) (P : Nat → Nat → Sig → List Nat → Prop) (n : Nat) (w0 : World) (e : Ending) (W' : World) : Prop :=
  ∃ c τ' ids, e = .returned (ptr c) ∧ Hp B2 W' τ' ∧ Below w0.heap.size w0 W' ∧ w0.heap.size ≤ c ∧ P c n τ' ids
def CKid (B2 : Nat) (P : Nat → Sig → List Nat → Prop) (c : Nat) (ks vs : List Bs) (ids : List Nat) (j : Nat) (X : World) (e : Ending) (X' : World) : Prop :=
  ∃ M τ2, e = .returned (ptr M) ∧ Hp B2 X' τ2 ∧ Below X.heap.size X X' ∧ τ2 c = some ⟨ks, vs, ids⟩ ∧ P (j + 1) (upd τ2 c ⟨ks, vs, ids ++ [M]⟩) (ids ++ [M])
set_option maxRecDepth 100000 in
set_option maxHeartbeats 3200000 in
theorem clone_walk (B B2 N : Nat) (ks vs : List Bs) (ns : List Nat) (σ τ : Sig) (P : Nat → Nat → Sig → List Nat → Prop) (w0 : World) (hp : Hp B w0 σ) (hτ : Hp B2 w0 τ) (hB : B2 ≤ w0.heap.size) (hN : σ N = some ⟨ks, vs, ns⟩)
    (hks : 0 < ks.length) (hk3 : ks.length ≤ 300) (hvs : vs.length = ks.length) (hns : ns.length ≤ 301)
    (hP0 : ∀ c, τ c = none → w0.heap.size ≤ c → P c 0 (upd τ c ⟨ks, vs, []⟩) [])
    (hPc : ∀ c j τj ids, P c j τj ids → τj c = some ⟨ks, vs, ids⟩ ∧ ids.length = j)
    (hstep : ∀ c, w0.heap.size ≤ c → ∀ j τj ids X (hj : j < ns.length), P c j τj ids → Hp B X σ → Hp B2 X τj → Calls Try.prog 35 #[ptr ns[j]] X (CKid B2 (P c) c ks vs ids j X)) :
    Calls Try.prog 35 #[ptr N] w0 (CNode B2 P ns.length w0) := by
  obtain ⟨kg, kc, c0, hkn, hkx, hkgl, hkcell⟩ := hp.g0 hN hks
  obtain ⟨vg, vc, c1, hvn, hvx, hvgl, hvcell⟩ := hp.g1 hN (by omega)
  have hkc2 : ∀ j u, (strv ks)[j]? = some u → w0.drew.cell? ⟨kg, j, none⟩ = some u := fun j u hj => by
    have hjl : j < ks.length := by have := (List.getElem?_eq_some_iff.1 hj).1; rwa [strv_len] at this
    have := hkcell j hjl
    rw [strv_at, sx_cell hjl] at hj
    rw [← hj]
    exact this
  have hvc2 : ∀ j u, (strv vs)[j]? = some u → w0.drew.cell? ⟨vg, j, none⟩ = some u := fun j u hj => by
    have hjl : j < vs.length := by have := (List.getElem?_eq_some_iff.1 hj).1; rwa [strv_len] at this
    have := hvcell j hjl
    rw [strv_at, sx_cell hjl] at hj
    rw [← hj]
    exact this
  obtain ⟨da, dc, c2, hdown, hNl⟩ := hp.f2 hN
  have HSR := Lib.hid (show ∀ X, Below w0.heap.size w0 X → Hp B X σ from fun X hb => hp.kept (kept_below hb))
  have HD := Lib.hid (show ∀ X, Below w0.heap.size w0 X → X.cell? ⟨N, 2, none⟩ = some (.slice da ns.length dc) ∧ ∀ (h0 : 0 < ns.length), ∃ dg, da = some ⟨dg, 0, none⟩ ∧ ∀ j (hj : j < ns.length), X.cell? ⟨dg, j, none⟩ = some (.pointer (some ⟨ns[j], 0, none⟩)) from fun X hb => by
    have e2 := (hb.cell (p := ⟨N, 2, none⟩) hNl).trans c2
    refine ⟨e2, fun h0 => ?_⟩
    obtain ⟨dg, dc', d2, _, _, hdl, hdc⟩ := hp.g2 hN h0
    rw [c2] at d2
    cases d2
    exact ⟨dg, rfl, fun j hj => (hb.cell (p := ⟨dg, j, none⟩) hdl).trans (hdc j _ (List.getElem?_eq_getElem hj))⟩)
  have HT := Lib.hid hτ
  have HST := Lib.hid hstep
  have HP0 := Lib.hid (And.intro hP0 hPc)
  have HVS := Lib.hid hvs
  have hvl : vs.length ≤ 300 := by omega
  clear hkcell hvcell hdown hp hτ hstep hP0 hPc hN hvs c2
  have c0 : w0.drew.cell? ⟨N, 0, none⟩ = _ := c0
  have c1 : w0.drew.cell? ⟨N, 1, none⟩ = _ := c1
  have hNl : N < w0.drew.heap.size := hNl
  have hvgl : vg < w0.drew.heap.size := hvgl
  simp only [ptr]
  go_enter Try.func35, Try.ntmps35
  go_wp2_with fail
  refine wp_region_ordW 13 11 [(0, 0), (1, 0), (2, 0), (3, 1), (5, 0), (6, 0), (7, 0), (8, 1), (4, 2), (9, 2), (10, 0), (11, 3), (12, 0)] (fun X => X.cell? ⟨N, 0, none⟩ = some (.slice (some ⟨kg, 0, none⟩) ks.length kc) ∧ X.cell? ⟨N, 1, none⟩ = some (.slice (some ⟨vg, 0, none⟩) vs.length vc)) (by kernel_rfl) (by kernel_rfl) ⟨c0, c1⟩ (fun c a d v w h => by cases d <;> exact h) ?_
  apply wpOrd_read0
  case hi => rfl
  case hw => rfl
  case hy => (intro w; go_simp; try rfl)
  intro K hK; go_simp; refine hK _ _ ?_; clear hK K
  apply wpOrd_read0
  case hi => rfl
  case hw => rfl
  case hy => (intro w; go_simp; try rfl)
  intro K hK; go_simp; refine hK _ _ ?_; clear hK K
  apply wpOrd_read0
  case hi => rfl
  case hw => rfl
  case hy => (intro w; go_simp; try rfl)
  intro K hK; go_simp; refine hK _ _ ?_; clear hK K
  apply wpOrd_read1
  case hi => rfl
  case hw => rfl
  case hy => (intro w hw; obtain ⟨h1, h2⟩ := hw; go_simp; try rfl)
  intro K hK; go_simp; refine hK _ _ ?_; clear hK K
  apply wpOrd_read0
  case hi => rfl
  case hw => rfl
  case hy => (intro w; go_simp; try rfl)
  intro K hK; go_simp; refine hK _ _ ?_; clear hK K
  apply wpOrd_read0
  case hi => rfl
  case hw => rfl
  case hy => (intro w; go_simp; try rfl)
  intro K hK; go_simp; refine hK _ _ ?_; clear hK K
  apply wpOrd_read0
  case hi => rfl
  case hw => rfl
  case hy => (intro w; go_simp; try rfl)
  intro K hK; go_simp; refine hK _ _ ?_; clear hK K
  apply wpOrd_read1
  case hi => rfl
  case hw => rfl
  case hy => (intro w hw; obtain ⟨h1, h2⟩ := hw; go_simp; try rfl)
  intro K hK; go_simp; refine hK _ _ ?_; clear hK K
  apply wpOrd_eff2
  case hi => rfl
  case hw => rfl
  intro K hK
  go_simp
  refine (clone_str kg 0 ks.length kc (strv ks) _ (strv_len ks) (by omega) (fun j u hj => by rw [Nat.zero_add]; exact hkc2 j u hj) (strv_one ks)).mono ?_
  rintro e w1 ⟨v1, rfl, hr1, hk1⟩
  obtain ⟨a1, b1, rfl⟩ := hr1.len
  rw [strv_len] at hr1 ⊢
  have d0 := cell_kept' hk1 hNl c0
  have d1 := cell_kept' hk1 hNl c1
  refine hK _ _ ⟨d0, d1⟩ ?_
  clear hK K
  apply wpOrd_eff2
  case hi => rfl
  case hw => rfl
  intro K hK
  go_simp
  refine (clone_str vg 0 vs.length vc (strv vs) _ (strv_len vs) (by omega) (fun j u hj => by rw [Nat.zero_add]; exact cell_kept' hk1 hvgl (hvc2 j u hj)) (strv_one vs)).mono ?_
  rintro e w2 ⟨v2, rfl, hr2, hk2⟩
  obtain ⟨a2, b2, rfl⟩ := hr2.len
  rw [strv_len] at hr2 ⊢
  have d2 := cell_kept' hk2 (Nat.lt_of_lt_of_le hNl hk1.size) d0
  have d3 := cell_kept' hk2 (Nat.lt_of_lt_of_le hNl hk1.size) d1
  refine hK _ _ ⟨d2, d3⟩ ?_
  clear hK K
  apply wpOrd_read0
  case hi => rfl
  case hw => rfl
  case hy => (intro w; go_simp; try rfl)
  intro K hK; go_simp; refine hK _ _ ?_; clear hK K
  apply wpOrd_eff3
  case hi => rfl
  case hw => rfl
  intro K hK
  go_simp
  refine hK _ _ ?_
  clear hK K
  apply wpOrd_read0
  case hi => rfl
  case hw => rfl
  case hy => (intro w; go_simp; try rfl)
  intro K hK; go_simp; refine hK _ _ ?_; clear hK K

  refine wpOrd_nil ?_
  have HN := HT.out.drew.new (W2 := w2) hB (Kept.both hk1 hk2) ⟨ks, vs, []⟩ (.slice a1 ks.length b1) (.slice a2 vs.length b2) (.slice none 0 0) 85
    ((hr1.kept hk2 (fun _ _ h => h)).base hB) (hr2.base (Nat.le_trans hB hk1.size)) (.inl ⟨rfl, rfl⟩)
    (fun g e => (hr1.lt g e).1) (fun g e => Nat.le_trans hk1.size (hr2.lt g e).1) (fun g e => by simp [Value.ownBlock] at e) (fun g e e2 => by have := (hr1.lt g e).2; have := (hr2.lt g e2).1; omega) (fun g e e2 => by simp [Value.ownBlock] at e2) (fun g e e2 => by simp [Value.ownBlock] at e2)
  have hcg : w0.heap.size ≤ w2.heap.size := Nat.le_trans (show w0.heap.size ≤ w1.heap.size from hk1.size) hk2.size
  have hbx := Box.new w2 [.slice a1 ks.length b1, .slice a2 vs.length b2, .slice none 0 0] 85
  have hc2 := hbx.cell 2 _ rfl
  have hW3 : Below w0.heap.size w0 (w2.alloc (.cells #[.slice a1 ks.length b1, .slice a2 vs.length b2, .slice none 0 0] 85)) := by
    have := HN.2.2.below (S := fun _ => False) (B := w0.heap.size) (Nat.le_refl _) (fun _ h => h.elim)
    exact (Below.refl _ w0).drew.trans this
  have hst := HP0.out.1 w2.heap.size HN.2.1 hcg
  have hH3 := HN.1
  clear HN hbx hr1 hr2 d0 d1 d2 d3
  generalize w2.alloc (.cells #[.slice a1 ks.length b1, .slice a2 vs.length b2, .slice none 0 0] 85) = W3 at *
  generalize w2.heap.size = c at *
  clear hk1 hk2 c0 c1 hkc2 hvc2 hkgl hvgl
  have HW3 := Lib.hid (And.intro hst (And.intro hH3 (And.intro hW3 hc2)))
  obtain ⟨n2, hds⟩ := HD.out W3 hW3
  have hn3 : (ns.length : Int) ≤ 301 := by omega
  clear hst hH3 hW3 hc2 hds HT
  go_wp2_with fail
  clear n2
  go_loopw [25] (fun i wr => ∃ (j : Nat) (τj : Sig) (ids : List Nat) (xa : Option Addr) (xc : Nat), j ≤ ns.length ∧ i = .int .i64 j ∧ Hp B2 wr τj ∧ P c j τj ids ∧ Below w0.heap.size w0 wr ∧ wr.cell? ⟨c, 2, none⟩ = some (.slice xa ids.length xc) ∧ ∀ g, (Value.slice xa ids.length xc).ownBlock = some g → w0.heap.size ≤ g) (fun i _ => ns.length - (intOf i).toNat)
  case atStart => exact ⟨0, _, [], none, 0, Nat.zero_le _, rfl, HW3.out.2.1, HW3.out.1, HW3.out.2.2.1, HW3.out.2.2.2, fun g hg => by simp [Value.ownBlock] at hg⟩
  case round =>
    clear HW3
    obtain ⟨j, τj, ids, xa, xc, hj, rfl, hh, hPj, hbj, cc, hown⟩ := hrel
    by_cases hlt : j < ns.length
    · have hidl := (HP0.out.2 c j τj ids hPj).2
      have hids : ids.length ≤ 301 := by omega
      have hcl : c < wr.heap.size := by
        have := (hh.lt (HP0.out.2 c j τj ids hPj).1).2
        exact this
      have HL := Lib.hid (And.intro hh (And.intro hidl hbj))
      have hP := (⟨trivial, hPj⟩ : True ∧ P c j τj ids)
      have HPj := Lib.hid hPj
      obtain ⟨_, hds⟩ := HD.out wr hbj
      obtain ⟨dg, rfl, hdg⟩ := hds (by omega)
      have ci := hdg j hlt
      have HST2 := Lib.hid (HST.out c hcg j τj ids wr.drew hlt hPj (HSR.out wr.drew hbj.drew) hh.drew)
      have HOW := Lib.hid hown
      clear hh hidl hbj hPj hP hdg hown
      generalize ns[j] = kid at *
      go_wp2_with fail
      clear ci
      have cc : wr.drew.cell? ⟨c, 2, none⟩ = some (.slice xa ids.length xc) := cc
      refine wp_region_ordW 12 8 [(0, 0), (1, 0), (2, 0), (3, 0), (4, 1), (5, 0), (6, 2), (7, 2), (8, 3), (9, 0), (10, 0), (11, 3)] (fun X => X.cell? ⟨c, 2, none⟩ = some (.slice xa ids.length xc)) (by kernel_rfl) (by kernel_rfl) cc (fun c a d v w h => by cases d <;> exact h) ?_
      apply wpOrd_read0
      case hi => rfl
      case hw => rfl
      case hy => (intro w; go_simp; try rfl)
      intro K hK; go_simp; refine hK _ _ ?_; clear hK K
      apply wpOrd_read0
      case hi => rfl
      case hw => rfl
      case hy => (intro w; go_simp; try rfl)
      intro K hK; go_simp; refine hK _ _ ?_; clear hK K
      apply wpOrd_read0
      case hi => rfl
      case hw => rfl
      case hy => (intro w; go_simp; try rfl)
      intro K hK; go_simp; refine hK _ _ ?_; clear hK K
      apply wpOrd_read0
      case hi => rfl
      case hw => rfl
      case hy => (intro w; go_simp; try rfl)
      intro K hK; go_simp; refine hK _ _ ?_; clear hK K
      apply wpOrd_read1
      case hi => rfl
      case hw => rfl
      case hy => (intro w hw; obtain h1 := hw; go_simp; try rfl)
      intro K hK; go_simp; refine hK _ _ ?_; clear hK K
      apply wpOrd_read0
      case hi => rfl
      case hw => rfl
      case hy => (intro w; go_simp; try rfl)
      intro K hK; go_simp; refine hK _ _ ?_; clear hK K
      apply wpOrd_eff2
      case hi => rfl
      case hw => rfl
      intro K hK
      go_simp
      refine HST2.out.mono ?_
      rintro e X2 ⟨M, τ2, rfl, hh2, hb2, hc2, hP2⟩
      have e0 := hb2.cell (p := ⟨c, 2, none⟩) hcl
      have c2 : X2.cell? ⟨c, 2, none⟩ = some (.slice xa ids.length xc) := e0.trans cc
      refine hK _ _ c2 ?_
      clear hK K e0
      apply wpOrd_eff2
      case hi => rfl
      case hw => rfl
      intro K hK
      go_simp
      have c3 := ca (W := X2) (ob := .cells #[.pointer (some ⟨M, 0, none⟩)] 64) (Nat.lt_of_lt_of_le hcl hb2.size) c2
      refine hK _ _ c3 ?_
      clear hK K
      apply wpOrd_eff3
      case hi => rfl
      case hw => rfl
      intro K hK
      have hal : Hp B2 (X2.alloc (.cells #[.pointer (some ⟨M, 0, none⟩)] 64)) τ2 := hh2.kept ((Kept.refl (fun _ => False) X2).alloc _)
      have hB3 : B2 ≤ (X2.alloc (.cells #[.pointer (some ⟨M, 0, none⟩)] 64)).heap.size := Nat.le_trans hB (Nat.le_trans HL.out.2.2.size (Nat.le_trans hb2.size (by simp)))
      refine wp_app64 33 36 B2 (.slice xa ids.length xc) (.slice (some ⟨X2.heap.size, 0, none⟩) 1 1) (ptrv ids) [.pointer (some ⟨M, 0, none⟩)] _ _ _ _ _ (hal.rowat hc2 2 (by decide) c3) (by rw [ptrv_len]; omega) hB3 (by simp) (rsrc_new X2 _ _) (fun u hu => by simp at hu; subst hu; rfl) ⟨rfl, rfl⟩ ?_
      intro v4 w4 ho
      have ho2 : AppOut 64 B2 (.slice xa ids.length xc) (ptrv (ids ++ [M])) (X2.alloc (.cells #[.pointer (some ⟨M, 0, none⟩)] 64)) v4 w4 := by rw [← ptrv_app]; exact ho
      obtain ⟨⟨u4, hu4⟩, hf4, HH4, HB4⟩ := hal.app (j := 2) (nd' := ⟨ks, vs, ids ++ [M]⟩) hB3 hc2 (by decide) c3 ho2 (fun k h1 h2 => by match k, h1 with | 0, _ => rfl | 1, _ => rfl | 2, _ => exact absurd rfl h2)
      obtain ⟨a4, c4, rfl⟩ := ho2.1.len
      have hown4 : ∀ g, (Value.slice a4 (ptrv (ids ++ [M])).length c4).ownBlock = some g → w0.heap.size ≤ g := fun g hg => by
        rcases ho2.2.2 g hg with h | h
        · exact HOW.out g h
        · have h1 := HL.out.2.2.size
          have h2 := hb2.size
          have h3 : wr.heap.size + 1 ≤ g := by
            have h4 : X2.heap.size + 1 ≤ g := by simpa using h
            have h5 : wr.heap.size ≤ X2.heap.size := h2
            omega
          omega
      have hbe : Below w0.heap.size w0 (w4.setCell ⟨c, 2, none⟩ (.slice a4 (ptrv (ids ++ [M])).length c4)) := by
        have q1 : Below w0.heap.size w0 wr.drew := HL.out.2.2.drew
        have q2 : Below w0.heap.size w0 X2 := q1.trans (hb2.mono q1.size)
        have q3 := q2.alloc (Nat.le_trans q2.size (Nat.le_refl _)) (.cells #[.pointer (some ⟨M, 0, none⟩)] 64)
        have q4 := ho2.2.1.below (B := w0.heap.size) q3.size (fun k hk => HOW.out k hk)
        exact (q3.trans q4).setCell (p := ⟨c, 2, none⟩) hcg _
      have HX := Lib.hid (And.intro HH4 hbe)
      have HO4 := Lib.hid hown4
      clear HH4 HB4 hal hB3 ho ho2 c2 c3 hb2 hh2 hbe hown4
      have hl4 : (ptrv (ids ++ [M])).length = ids.length + 1 := by rw [ptrv_len]; simp
      have HL4 := Lib.hid hl4
      clear hl4
      generalize (ptrv (ids ++ [M])).length = n4 at *
      refine hK _ _ ?_
      clear hK K
      apply wpOrd_read0
      case hi => rfl
      case hw => rfl
      case hy => (intro w; go_simp; try rfl)
      intro K hK; go_simp; refine hK _ _ ?_; clear hK K
      apply wpOrd_read0
      case hi => rfl
      case hw => rfl
      case hy => (intro w; go_simp; try rfl)
      intro K hK; go_simp; refine hK _ _ ?_; clear hK K
      apply wpOrd_eff3
      case hi => rfl
      case hw => rfl
      intro K hK
      go_simp
      refine hK _ _ (wpOrd_nil ?_)
      clear hK K

      have hl5 := HL4.out
      have HR := Lib.hid (And.intro HX.out (And.intro HO4.out hP2))
      have hn4 : n4 = (ids ++ [M]).length := by rw [hl5]; simp
      have hcx : (w4.setCell ⟨c, 2, none⟩ (.slice a4 n4 c4)).cell? ⟨c, 2, none⟩ = some (.slice a4 (ids ++ [M]).length c4) := by rw [← hn4]; simp [go_sem, hu4]
      have hox : ∀ g, (Value.slice a4 (ids ++ [M]).length c4).ownBlock = some g → w0.heap.size ≤ g := by rw [← hn4]; exact HO4.out
      clear hn4 hl5
      have HCX := Lib.hid (And.intro hcx hox)
      clear hcx hox
      clear HX HO4
      go_wp2_with fail
      have hj1 : j + 1 ≤ ns.length := hlt
      go_roundw
      case rel => exact ⟨j + 1, _, ids ++ [M], a4, c4, hj1, by go_num, HR.out.1.1, HR.out.2.2, HR.out.1.2, HCX.out.1, HCX.out.2⟩
      case measure => simp [intOf]; omega
    · have hjn : j = ns.length := by omega
      subst hjn
      have HE := Lib.hid (And.intro hh (And.intro hPj hbj))
      clear hh hPj hbj cc hown
      go_wp2_with fail
      go_ret
      exact ⟨c, τj, ids, rfl, HE.out.1, HE.out.2.2, hcg, HE.out.2.1⟩
end Go.Proofs.Ytegljepgncicjaa
/- Btree: node.clone on any tree; Clone. -/
namespace Go.Proofs.Ytegljepgncicjaa
open Go.ChangeShapes Go.WideShapes Go.ChangeAt Go.RowKit Go.Deep
set_option linter.unusedVariables false
set_option linter.unusedSimpArgs false
def CloneOut (B2 o h lo hi : Nat) (L : List Pr) (τ : Sig) (W : World) (e : Ending) (W' : World) : Prop :=
  ∃ M τ' S', e = .returned (ptr M) ∧ Hp B2 W' τ' ∧ Below W.heap.size W W' ∧ (∀ k, τ k ≠ none → τ' k = τ k) ∧ IsT τ' o h lo hi M L S' ∧ (∀ k, S' k → τ k = none)
structure CP (o h : Nat) (τ : Sig) (ks vs : List Bs) (cs : List Kid) (c j : Nat) (τj : Sig) (ids : List Nat) (ds : List Kid) : Prop where
  tc : τ c = none
  ext : ∀ k, τ k ≠ none → τj k = τ k
  at_ : τj c = some ⟨ks, vs, ids⟩
  len : ids.length = j
  eid : ids = ds.map (·.id)
  eL : ds.map (·.L) = (cs.take j).map (·.L)
  kids : ∀ d ∈ ds, d.lo = o / 2 ∧ d.hi = o ∧ IsT τj o h d.lo d.hi d.id d.L d.S ∧ ∀ k, d.S k → τ k = none ∧ k ≠ c
  apart : ds.Pairwise fun a b => ∀ k, a.S k → ¬ b.S k
theorem CP.next {o h : Nat} {τ : Sig} {ks vs : List Bs} {cs : List Kid} {c j : Nat} {τj : Sig} {ids : List Nat} {ds : List Kid} (hp : CP o h τ ks vs cs c j τj ids ds) {M : Nat} {τ2 : Sig} {S2 : Nat → Prop} (hj : j < cs.length)
    (he : ∀ k, τj k ≠ none → τ2 k = τj k) (hT : IsT τ2 o h (o / 2) o M cs[j].L S2) (hS : ∀ k, S2 k → τj k = none) :
    CP o h τ ks vs cs c (j + 1) (upd τ2 c ⟨ks, vs, ids ++ [M]⟩) (ids ++ [M]) (ds ++ [⟨M, cs[j].L, S2, o / 2, o⟩]) := by
  have hcn : τj c ≠ none := by rw [hp.at_]; simp
  have hne2 : ∀ k, S2 k → k ≠ c := fun k hk e => by rw [e] at hk; exact hcn (hS c hk)
  refine ⟨hp.tc, fun k hk => ?_, upd_same _ _ _, by rw [List.length_append, hp.len]; rfl, by rw [hp.eid]; simp, ?_, fun d hd => ?_, ?_⟩
  · have hkc : k ≠ c := fun e => by rw [e] at hk; exact hk hp.tc
    have h1 := hp.ext k hk
    rw [upd_other _ _ hkc, he k (by rw [h1]; exact hk), h1]
  · rw [List.map_append, hp.eL, List.take_succ_eq_append_getElem hj, List.map_append]; rfl
  · rcases List.mem_append.1 hd with hd | hd
    · obtain ⟨h1, h2, h3, h4⟩ := hp.kids d hd
      refine ⟨h1, h2, h3.congr (fun k hk => ?_), h4⟩
      rw [upd_other _ _ (h4 k hk).2, he k (h3.dom.2 k hk)]
    · obtain rfl := List.mem_singleton.1 hd
      refine ⟨rfl, rfl, hT.congr (fun k hk => upd_other _ _ (hne2 k hk)), fun k hk => ⟨?_, hne2 k hk⟩⟩
      cases ht : τ k with
      | none => rfl
      | some nd =>
        have h1 := hp.ext k (by rw [ht]; simp)
        rw [hS k hk, ht] at h1
        cases h1
  · rw [List.pairwise_append]
    refine ⟨hp.apart, List.pairwise_singleton _ _, fun a ha b hb k hk hk2 => ?_⟩
    obtain rfl := List.mem_singleton.1 hb
    exact ((hp.kids a ha).2.2.1.dom.2 k hk) (hS k hk2)
theorem clone_T (B B2 o : Nat) (ho4 : 4 ≤ o) (ho : o ≤ 256) : ∀ (h lo hi N : Nat) (L : List Pr) (S : Nat → Prop) (σ τ : Sig) (W : World), Hp B W σ → Hp B2 W τ → B2 ≤ W.heap.size → IsT σ o h lo hi N L S → 1 ≤ lo → hi ≤ 256 →
    Calls Try.prog 35 #[ptr N] W (CloneOut B2 o h lo hi L τ W)
  | 0, lo, hi, N, L, S, σ, τ, W, hp, hτ, hB, ⟨ks, vs, hN, hlv, hlo, hhi, hL, _⟩, h1, h2 => by
    refine (clone_walk B B2 N ks vs [] σ τ (fun c j τj ids => τ c = none ∧ τj = upd τ c ⟨ks, vs, []⟩ ∧ ids = [] ∧ j = 0) W hp hτ hB hN (by omega) (by omega) hlv (by simp) (fun c hc _ => ⟨hc, rfl, rfl, rfl⟩) (fun c j τj ids hP => by
      obtain ⟨_, rfl, rfl, rfl⟩ := hP
      exact ⟨upd_same _ _ _, rfl⟩) (fun c _ j τj ids X hj => absurd hj (by simp))).mono ?_
    rintro e W' ⟨c, τ', ids, rfl, hh, hb, hc, htc, rfl, rfl, _⟩
    exact ⟨c, _, fun k => k = c, rfl, hh, hb, fun k hk => upd_other _ _ (fun e => by rw [e] at hk; exact hk htc), ⟨ks, vs, upd_same _ _ _, hlv, hlo, hhi, hL, rfl, fun k hk => by rw [hk, upd_same]; simp⟩, fun k hk => by rw [hk]; exact htc⟩
  | h + 1, lo, hi, N, L, S, σ, τ, W, hp, hτ, hB, ⟨ks, vs, cs, hlo, hhi, hI, h4⟩, h1, h2 => by
    have hlc := hI.lc
    refine (clone_walk B B2 N ks vs (cs.map (·.id)) σ τ (fun c j τj ids => ∃ ds, CP o h τ ks vs cs c j τj ids ds) W hp hτ hB hI.at_ (by omega) (by omega) hI.lv (by rw [List.length_map]; omega)
      (fun c hc _ => ⟨[], ⟨hc, fun k hk => upd_other _ _ (fun e => by rw [e] at hk; exact hk hc), upd_same _ _ _, rfl, rfl, by simp, (fun d hd => by cases hd), List.Pairwise.nil⟩⟩)
      (fun c j τj ids ⟨ds, hP⟩ => ⟨hP.at_, hP.len⟩) (fun c _ j τj ids X hj ⟨ds, hP⟩ hpX hτX => ?_)).mono ?_
    · have hjc : j < cs.length := by simpa using hj
      have hk := hI.kids cs[j] (List.getElem_mem hjc)
      have hk1 := hk.1
      rw [(h4 _ (List.getElem_mem hjc)).1, (h4 _ (List.getElem_mem hjc)).2] at hk1
      rw [List.getElem_map]
      have hBX : B2 ≤ X.heap.size := by
        have := hτX.lt hP.at_
        omega
      refine (clone_T B B2 o ho4 ho h (o / 2) o cs[j].id cs[j].L cs[j].S σ τj X hpX hτX hBX hk1 (by omega) ho).mono ?_
      rintro e X' ⟨M, τ2, S2, rfl, hh, hb, he, hT, hS⟩
      exact ⟨M, τ2, rfl, hh, hb, by rw [he c (by rw [hP.at_]; simp)]; exact hP.at_, ⟨_, hP.next hjc he hT hS⟩⟩
    · rintro e W' ⟨c, τ', ids, rfl, hh, hb, hc, ds, hP⟩
      have hdl : ds.length = cs.length := by
        have h5 := hP.len
        rw [hP.eid] at h5
        simpa using h5
      refine ⟨c, τ', fun k => τ' k ≠ none ∧ τ k = none, rfl, hh, hb, hP.ext, ⟨ks, vs, ds, hlo, hhi, ⟨by rw [hP.at_, hP.eid], hI.lv, by omega, ?_, ⟨by rw [hP.at_]; simp, hP.tc⟩, fun k hk => hk.1, fun d hd => ⟨(hP.kids d hd).2.2.1, fun k hk => ⟨⟨(hP.kids d hd).2.2.1.dom.2 k hk, ((hP.kids d hd).2.2.2 k hk).1⟩, ((hP.kids d hd).2.2.2 k hk).2⟩⟩, hP.apart⟩, fun d hd => ⟨(hP.kids d hd).1, (hP.kids d hd).2.1⟩⟩, fun k hk => hk.2⟩
      rw [hP.eL, List.length_map, List.take_length]
      exact hI.eL
end Go.Proofs.Ytegljepgncicjaa
/- Btree: regions with skipped operations and one writing call at the end; where a scan stands in a node (plain). -/
namespace Go.Proofs.Ytegljepgncicjaa
open Go.ChangeShapes Go.WideShapes Go.ChangeAt Go.RowKit Go.Deep Go.Shelf
set_option linter.unusedVariables false
set_option linter.unusedSimpArgs false
/-- wpStill in a box of its own: nothing opens it on the way -/
structure StI (P : Program) (ops : Array Oper) (w : World) (Q : Act → Prop) (l : List Oper) (a : Act) : Prop where
  out : wpStill P ops w Q l a
section
variable {P : Program} {ops : Array Oper} {w : World} {Q : Act → Prop} {o : Oper} {rest : List Oper} {a : Act}
theorem stI_go (hw : Region.wanted o (yielded ops a.tmps) = true) (h : ∀ K : Act → Prop, (∀ a, StI P ops w Q rest a → K a) → o.still P a w K) : StI P ops w Q (o :: rest) a :=
  ⟨by unfold wpStill; rw [if_pos hw]; exact h _ (fun a h => h.out)⟩
theorem stI_skip (hw : Region.wanted o (yielded ops a.tmps) = false) (h : ∀ K : Act → Prop, (∀ a, StI P ops w Q rest a → K a) → K (a.put o.dst undef)) : StI P ops w Q (o :: rest) a :=
  ⟨by unfold wpStill; rw [if_neg (by rw [hw]; simp)]; exact h _ (fun a h => h.out)⟩
theorem stI_nil (h : Q a) : StI P ops w Q [] a := ⟨h⟩
theorem wpIn_region_stI {m : Nat} {id : Nat} {Q : Exit → Act → World → Prop} {l : List Oper} (n : Nat) (hm : P.follows .mixedOrders = true) (hB : Region.lexTailB .any l.toArray n = true)
    (h : StI P l.toArray w.drew (fun a' => wpListIn Fence.wide m P l.toArray Q (l.drop n) a' w.drew) (l.take n) a) : (Code.region id l.toArray true).wpIn Fence.wide m P Q a w :=
  wpIn_region_still_tail n hm hB h.out
end
def iv : Value → Nat
  | .int _ n => n.toNat
  | _ => 0
theorem bs_cut (ks : List Bs) (x : Bs) (hs : SrtK ks) : (∀ j, j < bsI ks x → j < ks.length → lB (sx ks j) x = true) ∧ (∀ j, bsI ks x ≤ j → j < ks.length → lB (sx ks j) x = false) := by
  obtain ⟨i, hi, hb, h1, h2⟩ := find_pos ks x hs
  rw [hb]
  refine ⟨fun j hj hl => h1 _ ?_, fun j hj hl => ?_⟩
  · rw [sx_get hl, List.mem_take_iff_getElem]
    exact ⟨j, by omega, rfl⟩
  · have hm : sx ks j ∈ ks.drop i := by
      rw [sx_get hl, List.mem_drop_iff_getElem]
      exact ⟨j - i, by omega, by congr 1; omega⟩
    rcases h2 with ⟨_, r, h3, h4⟩ | ⟨_, h3⟩
    · rw [h3] at hm
      rcases List.mem_cons.1 hm with e | h
      · rw [e]; exact lB_irrefl _
      · exact lB_asymm (h4 _ h)
    · exact lB_asymm (h3 _ hm)
/-- what is still to come upwards, downwards at position j -/
def Vu (ks vs : List Bs) (Cs : List (List Pr)) (j : Nat) : List Pr := inter ((ks.zip vs).drop j) (Cs.drop j)
def cx (Cs : List (List Pr)) (j : Nat) : List Pr := (Cs[j]?).getD []
def Vd (ks vs : List Bs) (Cs : List (List Pr)) (j : Nat) : List Pr := (interL (Cs.take j) ((ks.zip vs).take j) ++ cx Cs j).reverse
theorem cx_get {Cs : List (List Pr)} {j : Nat} (h : j < Cs.length) : cx Cs j = Cs[j] := by
  unfold cx
  rw [List.getElem?_eq_getElem h]
  rfl
theorem zip_at {ks vs : List Bs} {j : Nat} (hl : vs.length = ks.length) (h : j < ks.length) : (ks.zip vs).drop j = (sx ks j, sx vs j) :: (ks.zip vs).drop (j + 1) := by
  rw [List.drop_eq_getElem_cons (by simp [hl]; omega), List.getElem_zip, sx_get h, sx_get (by omega)]
theorem Vu_kid {ks vs : List Bs} {Cs : List (List Pr)} {j : Nat} (hC : Cs.length = ks.length + 1) (h : j ≤ ks.length) : Vu ks vs Cs j = cx Cs j ++ interR ((ks.zip vs).drop j) (Cs.drop (j + 1)) := by
  unfold Vu
  rw [List.drop_eq_getElem_cons (i := j) (l := Cs) (by omega), cx_get (by omega)]
  rfl
theorem Vu_next {ks vs : List Bs} {Cs : List (List Pr)} {j : Nat} (hl : vs.length = ks.length) (hC : Cs.length = ks.length + 1) (h : j < ks.length) : Vu ks vs Cs j = cx Cs j ++ ([(sx ks j, sx vs j)] ++ Vu ks vs Cs (j + 1)) := by
  rw [Vu_kid hC (by omega), zip_at hl h]
  unfold Vu
  rw [List.drop_eq_getElem_cons (i := j + 1) (l := Cs) (by omega)]
  rfl
theorem Vu_last {ks vs : List Bs} {Cs : List (List Pr)} {j : Nat} (hl : vs.length = ks.length) (hC : Cs.length = ks.length + 1) (h : j = ks.length) : Vu ks vs Cs j = cx Cs j ++ [] := by
  rw [Vu_kid hC (by omega), List.drop_eq_nil_of_le (by simp [hl, h])]
  rfl
theorem Vu_start {ks vs : List Bs} {Cs : List (List Pr)} {L : List Pr} {lo : Bs} (hl : vs.length = ks.length) (hC : Cs.length = ks.length + 1) (hL : L = inter (ks.zip vs) Cs) (hs : Srt L) (hk : SrtK ks) :
    bsI ks lo ≤ ks.length ∧ ∃ C, L = C ++ Vu ks vs Cs (bsI ks lo) ∧ ∀ x ∈ C, lB x.1 lo = true := by
  obtain ⟨i, hi, hb, h1, _⟩ := find_pos ks lo hk
  rw [hb]
  have hz : (ks.zip vs).length = ks.length := by simp [hl]
  have e : L = interL (Cs.take i) ((ks.zip vs).take i) ++ Vu ks vs Cs i := by
    rw [hL, Vu_kid hC hi]
    conv => lhs; rw [← List.take_append_drop i (ks.zip vs), ← List.take_append_drop i Cs, List.drop_eq_getElem_cons (i := i) (l := Cs) (by omega)]
    rw [cx_get (by omega)]
    exact inter_mid _ _ _ _ _ (by rw [List.length_take, List.length_take, hz]; omega)
  refine ⟨hi, _, e, ?_⟩
  rw [e] at hs
  refine interL_lt _ _ hs.left (fun k hk => h1 _ ?_)
  rw [zip_take] at hk
  exact mem_zip_fst hk
theorem interL_snoc : ∀ (A : List (List Pr)) (K : List Pr) (c : List Pr) (p : Pr), A.length = K.length → interL (A ++ [c]) (K ++ [p]) = interL A K ++ (c ++ [p])
  | [], [], c, p, _ => rfl
  | a :: A, k :: K, c, p, h => by
    show a ++ k :: interL (A ++ [c]) (K ++ [p]) = (a ++ k :: interL A K) ++ (c ++ [p])
    rw [interL_snoc A K c p (by simpa using h)]
    simp
  | [], _ :: _, _, _, h => by simp at h
  | _ :: _, [], _, _, h => by simp at h
theorem Vd_kid {ks vs : List Bs} {Cs : List (List Pr)} {j : Nat} : Vd ks vs Cs j = (cx Cs j).reverse ++ (interL (Cs.take j) ((ks.zip vs).take j)).reverse := by
  unfold Vd
  rw [List.reverse_append]
theorem Vd_last {ks vs : List Bs} {Cs : List (List Pr)} {j : Nat} (h : j = 0) : Vd ks vs Cs j = (cx Cs j).reverse ++ [] := by
  rw [Vd_kid, h]
  rfl
theorem Vd_next {ks vs : List Bs} {Cs : List (List Pr)} {j : Nat} (hl : vs.length = ks.length) (hC : Cs.length = ks.length + 1) (h0 : 0 < j) (h : j ≤ ks.length) : Vd ks vs Cs j = (cx Cs j).reverse ++ ([(sx ks (j - 1), sx vs (j - 1))] ++ Vd ks vs Cs (j - 1)) := by
  have hz : (ks.zip vs).length = ks.length := by simp [hl]
  obtain ⟨i, rfl⟩ : ∃ i, j = i + 1 := ⟨j - 1, by omega⟩
  rw [Vd_kid, show i + 1 - 1 = i by omega, List.take_succ_eq_append_getElem (by omega : i < (ks.zip vs).length), List.take_succ_eq_append_getElem (by omega : i < Cs.length), interL_snoc _ _ _ _ (by simp [hl]; omega), List.getElem_zip]
  unfold Vd
  rw [List.reverse_append, List.reverse_append, List.reverse_append, sx_get (by omega), sx_get (by omega), cx_get (by omega), cx_get (by omega)]
  simp
theorem interR_ge {hi : Bs}  : ∀ (K : List Pr) (C : List (List Pr)), Srt (interR K C) → (∀ k ∈ K, lB k.1 hi = false) → ∀ y ∈ interR K C, lB y.1 hi = false
  | [], _, _, _, y, hy => by simp [interR] at hy
  | _ :: _, [], _, _, y, hy => by simp [interR] at hy
  | k :: K, c :: C, hs, hk, y, hy => by
    have hs' : Srt (k :: (c ++ interR K C)) := hs
    have hy' : y ∈ k :: (c ++ interR K C) := hy
    have h1 := (List.pairwise_cons.1 hs').1
    rcases List.mem_cons.1 hy' with rfl | h
    · exact hk _ (by simp)
    · cases h2 : lB y.1 hi with
      | false => rfl
      | true => have := lB_trans (h1 y h) h2; rw [hk k (by simp)] at this; cases this
theorem Vd_start {ks vs : List Bs} {Cs : List (List Pr)} {L : List Pr} {hi : Bs} {i : Nat} (hl : vs.length = ks.length) (hC : Cs.length = ks.length + 1) (hL : L = inter (ks.zip vs) Cs) (hs : Srt L) (hi' : i ≤ ks.length) (hk : ∀ k ∈ ks.drop i, lB k hi = false) :
    ∃ C, L.reverse = C ++ Vd ks vs Cs i ∧ ∀ x ∈ C, lB x.1 hi = false := by
  have hz : (ks.zip vs).length = ks.length := by simp [hl]
  have e : L = (interL (Cs.take i) ((ks.zip vs).take i) ++ cx Cs i) ++ interR ((ks.zip vs).drop i) (Cs.drop (i + 1)) := by
    rw [hL, cx_get (by omega)]
    conv => lhs; rw [← List.take_append_drop i (ks.zip vs), ← List.take_append_drop i Cs, List.drop_eq_getElem_cons (i := i) (l := Cs) (by omega)]
    rw [List.append_assoc]
    exact inter_mid _ _ _ _ _ (by rw [List.length_take, List.length_take, hz]; omega)
  refine ⟨(interR ((ks.zip vs).drop i) (Cs.drop (i + 1))).reverse, ?_, fun x hx => ?_⟩
  · conv => lhs; rw [e]
    rw [List.reverse_append]
    rfl
  · rw [List.mem_reverse] at hx
    rw [e] at hs
    exact interR_ge _ _ hs.right (fun k hk' => hk _ (by rw [zip_drop] at hk'; exact mem_zip_fst hk')) x hx
/-- a leaf: its kids hold nothing -/
theorem inter_leaf : ∀ (K : List Pr), inter K (List.replicate (K.length + 1) []) = K
  | [] => rfl
  | k :: K => by
    have := inter_leaf K
    show [] ++ interR (k :: K) (List.replicate (K.length + 1) []) = k :: K
    rw [List.replicate_succ] at this ⊢
    show [] ++ (k :: ([] ++ interR K (List.replicate K.length []))) = k :: K
    have h : ([] : List Pr) ++ interR K (List.replicate K.length []) = K := this
    rw [h]
    rfl
theorem cx_leaf (n j : Nat) : cx (List.replicate n ([] : List Pr)) j = [] := by
  unfold cx
  rw [List.getElem?_replicate]
  split <;> rfl
end Go.Proofs.Ytegljepgncicjaa
/- Btree: node.up at one node. -/
namespace Go.Proofs.Ytegljepgncicjaa
open Go.ChangeShapes Go.WideShapes Go.ChangeAt Go.RowKit Go.Deep Go.Shelf
set_option linter.unusedVariables false
set_option linter.unusedSimpArgs false
attribute [local go_sem] Oper.semAt_some
attribute [local go_sem, local simp] wide_fn
abbrev upArgs (N l : Nat) (lo hi : Bs) (bd : Bool) : Array Value := #[.pointer (some ⟨N, 0, none⟩), .string lo, .string hi, .bool bd, .func (.yield l) #[] #[]]
theorem wrap_small (j : Nat) (h : j ≤ 100000) : IntKind.i64.wrap ((j : Int) + 1) = (j : Int) + 1 := by
  rw [IntKind.wrap_i64]; omega
set_option maxRecDepth 100000 in
set_option maxHeartbeats 1600000 in
theorem up_leaf (m l n₀ K N : Nat) (lo hi : Bs) (bd : Bool) (J Jx : List Pr → World → Prop) (hY : Yields l n₀ K J Jx) (σ : Sig) (ks vs : List Bs) (ns : List Nat) (Cs : List (List Pr)) (L : List Pr)
    (hN : σ N = some ⟨ks, vs, ns⟩) (hl : vs.length = ks.length) (hk : ks.length ≤ 256) (hC : Cs.length = ks.length + 1) (hL : L = inter (ks.zip vs) Cs) (hs : Srt L) (hsk : SrtK ks)
    (hns : ns = []) (hCs : Cs = List.replicate (ks.length + 1) [])
    (acc0 : List Pr) (W0 : World) (hq : Hq n₀ W0 σ) (hj : J acc0 W0) (hK : acc0.length + (L.filter (inU lo hi bd)).length ≤ K) :
    CallsIn Fence.wide m Try.prog 41 (upArgs N l lo hi bd) W0 (SOut n₀ J Jx acc0 (L.filter (inU lo hi bd)) (L.any (ovU lo hi bd)) W0) := by
  obtain ⟨ka, kc, c0, hbs⟩ := hq.hp.bs hN (by omega) lo
  have HBS := Lib.hid hbs
  obtain ⟨hi0, C0, hC0, hC1⟩ := Vu_start (lo := lo) hl hC hL hs hsk
  have hb0 := bs_cut ks lo hsk
  have HS0 : Hid (∀ q, Sc (inU lo hi bd) (ovU lo hi bd) n₀ K J acc0 L W0 acc0 (Vu ks vs Cs (bsI ks lo)) (W0.drewN q)) := Lib.hid (fun q => by
    have h : Sc (inU lo hi bd) (ovU lo hi bd) n₀ K J acc0 L W0 acc0 (C0 ++ Vu ks vs Cs (bsI ks lo)) (W0.drewN q) := by
      rw [← hC0]
      exact ⟨hY.2 _ _ _ hj, ⟨rfl, rfl, rfl, Nat.le_refl _, fun _ _ => rfl⟩, rfl, rfl, mono_up hs, hK⟩
    exact h.skip (fun x hx => by unfold inU; rw [hC1 x hx]; rfl) (fun x hx => by unfold ovU; rw [hC1 x hx]; rfl))
  have HQ := Lib.hid hq
  have HN := Lib.hid (And.intro hN (And.intro hl (And.intro hC hb0.2)))
  have HY := Lib.hid hY
  obtain ⟨i0, hi0'⟩ : ∃ i0, i0 = bsI ks lo := ⟨_, rfl⟩
  have HI := Lib.hid hi0'
  rw [← hi0'] at hi0 HS0 hbs
  have HBS := Lib.hid hbs
  have HCs := Lib.hid hCs
  clear hCs
  clear hbs hC0 hC1 hb0 hq hj hK hY hs hsk hL hN hl hC hi0'
  refine callsIn_of_wp Try.func41 rfl trivial ?_ rfl
  simp only [Try.ntmps41, List.size_toArray, List.length_cons, List.length_nil, Nat.reduceAdd, Nat.reduceSub, Array.replicate_succ, Array.replicate_zero, List.push_toArray, List.append_toArray, List.nil_append, List.cons_append]
  gi_wp2
  refine ⟨fun h => (by cases h), (callsIn_wide.2 HBS.out).mono ?_⟩
  rintro e W1 ⟨rfl, q0, rfl⟩
  clear c0 HBS
  gi_wp2
  gi_loopw [11] (fun i wr => ∃ (j : Nat) (acc : List Pr), i = .int .i64 j ∧ j ≤ ks.length ∧ Hid (i0 ≤ j ∧ Sc (inU lo hi bd) (ovU lo hi bd) n₀ K J acc0 L W0 acc (Vu ks vs Cs j) wr)) (fun i wr => ks.length - iv i)
  case atStart => exact ⟨i0, acc0, rfl, hi0, Lib.hid ⟨Nat.le_refl _, HS0.out q0⟩⟩
  case round =>
    clear HS0
    obtain ⟨j, acc, rfl, hj, HS⟩ := hrel
    obtain ⟨da, dc, c2, _, _⟩ := (HQ.out.below HS.out.2.b).hp.f2 HN.out.1
    rw [show ns.length = 0 by rw [hns]; rfl] at c2
    by_cases hlast : j = ks.length
    · have hV := Vu_last HN.out.2.1 HN.out.2.2.1 hlast
      obtain ⟨ka, kc, c0, _, _⟩ := (HQ.out.below HS.out.2.b |>.hp).f0 HN.out.1
      have hd : decide (j = ks.length) = true := decide_eq_true hlast
      have hd2 : ((j : Int) == (ks.length : Int)) = true := by rw [hlast]; exact beq_self_eq_true _
      have HF : Hid (Sc (inU lo hi bd) (ovU lo hi bd) n₀ K J acc0 L W0 acc ([]) wr) := Lib.hid (by
        have := HS.out.2
        have e : cx Cs j = [] := by rw [HCs.out]; exact cx_leaf _ _
        rw [hV, e, List.nil_append] at this
        exact this)
      clear hV
      gi_wp2
      go_ret
      exact HF.out.done
    · have hjl : j < ks.length := by omega
      have hV := Vu_next HN.out.2.1 HN.out.2.2.1 hjl
      have hd : decide (j = ks.length) = false := decide_eq_false hlast
      have hd2 : ((j : Int) == (ks.length : Int)) = false := by rw [beq_eq_false_iff_ne]; omega
      have HS1 : Hid (Sc (inU lo hi bd) (ovU lo hi bd) n₀ K J acc0 L W0 acc ([(sx ks j, sx vs j)] ++ Vu ks vs Cs (j + 1)) wr) := Lib.hid (by
        have := HS.out.2
        have e : cx Cs j = [] := by rw [HCs.out]; exact cx_leaf _ _
        rw [hV, e, List.nil_append] at this
        exact this)
      clear hV
      obtain ⟨kg, kc, k0, hk1, hk2, hkg, hkc⟩ := (HQ.out.below HS1.out.b).hp.g0 HN.out.1 (by omega)
      obtain ⟨vg, vc, v0, hv1, hv2, hvg, hvc⟩ := (HQ.out.below HS1.out.b).hp.g1 HN.out.1 (by have := HN.out.2.1; omega)
      have ek := hkc j hjl
      have ev := hvc j (by have := HN.out.2.1; omega)
      have hvl : j < vs.length := by have := HN.out.2.1; omega
      have hlo : lB (sx ks j) lo = false := HN.out.2.2.2 j (by rw [← HI.out]; exact HS.out.1) hjl
      have hlo2 := Lib.hid hlo
      clear hkc hvc hlast
      by_cases hov : bd = true ∧ lB (sx ks j) hi = false
      · obtain ⟨rfl, hhi⟩ := hov
        have hg : Op.bytesLess (sx ks j).toList hi.toList = false := hhi
        have HG := Lib.hid hhi
        clear hhi hlo
        gi_wp2_with (refine ⟨trivial, ?_⟩)
        gi_quiet (fail)
        gi_wp2
        go_ret
        have e1 : (inU lo hi true) (sx ks j, sx vs j) = false := by unfold inU; rw [show (sx ks j, sx vs j).1 = sx ks j from rfl, HG.out]; simp
        have e2 : (ovU lo hi true) (sx ks j, sx vs j) = true := by unfold ovU; rw [show (sx ks j, sx vs j).1 = sx ks j from rfl, HG.out, hlo2.out]; rfl
        exact HS1.out.stopped (by rw [List.any_cons, e2]; rfl) (by rw [List.filter_cons, e1]; exact HY.out.2 _ _ nq (by simpa using HS1.out.j)) ⟨rfl, rfl, rfl, Nat.le_refl _, fun _ _ => rfl⟩
      · have e1 : (inU lo hi bd) (sx ks j, sx vs j) = true := by
          unfold inU
          rw [show (sx ks j, sx vs j).1 = sx ks j from rfl, hlo]
          cases bd with
          | false => rfl
          | true => cases hh : lB (sx ks j) hi with
            | false => exact absurd ⟨rfl, hh⟩ hov
            | true => rfl
        have e2 : (ovU lo hi bd) (sx ks j, sx vs j) = false := by
          unfold inU at e1
          unfold ovU
          rw [show (sx ks j, sx vs j).1 = sx ks j from rfl] at e1 ⊢
          cases bd with
          | false => simp
          | true => rw [hlo] at e1 ⊢; simpa using e1
        have hf : [(sx ks j, sx vs j)].filter (inU lo hi bd) = [(sx ks j, sx vs j)] := by rw [List.filter_cons, e1]; rfl
        have HF := Lib.hid (And.intro hf (show [(sx ks j, sx vs j)].any (ovU lo hi bd) = false by rw [List.any_cons, e2]; rfl))
        have hkk := HS1.out.k
        rw [List.filter_append, hf] at hkk
        have hlen : acc.length < K := by simp only [List.length_append, List.length_cons, List.length_nil] at hkk ⊢; omega
        obtain ⟨f1, t1, a1, b1, hy1, hR1⟩ := HY.out.1 (m - 1) acc (sx ks j, sx vs j) wr.drew (HY.out.2 _ _ 1 HS1.out.j) hlen
        have hy : (Instr.yield l #[.string (sx ks j), .string (sx vs j)]).run Try.prog wr.drew = .ok (.round l f1 t1 a1 b1) wr.drew := hy1
        have HR1 := Lib.hid hR1
        clear hkk hf hlo hR1 hy1 hlen e2
        gi_wp2_with (refine ⟨trivial, ?_⟩)
        refine wpIn_region_stI 28 (by kernel_rfl) (by kernel_rfl) ?_
        simp only [List.take_succ_cons, List.take_zero, List.drop_succ_cons, List.drop_zero]
        cases bd with
        | false =>
          refine stI_go (by kernel_rfl) (fun K hK => ?_)
          go_simp
          refine hK _ ?_
          clear hK K
          refine stI_go (by kernel_rfl) (fun K hK => ?_)
          go_simp
          refine hK _ ?_
          clear hK K
          refine stI_skip (by kernel_rfl) (fun K hK => ?_)
          go_simp
          refine hK _ ?_
          clear hK K
          refine stI_skip (by kernel_rfl) (fun K hK => ?_)
          go_simp
          refine hK _ ?_
          clear hK K
          refine stI_skip (by kernel_rfl) (fun K hK => ?_)
          go_simp
          refine hK _ ?_
          clear hK K
          refine stI_skip (by kernel_rfl) (fun K hK => ?_)
          go_simp
          refine hK _ ?_
          clear hK K
          refine stI_skip (by kernel_rfl) (fun K hK => ?_)
          go_simp
          refine hK _ ?_
          clear hK K
          refine stI_skip (by kernel_rfl) (fun K hK => ?_)
          go_simp
          refine hK _ ?_
          clear hK K
          refine stI_skip (by kernel_rfl) (fun K hK => ?_)
          go_simp
          refine hK _ ?_
          clear hK K
          refine stI_skip (by kernel_rfl) (fun K hK => ?_)
          go_simp
          refine hK _ ?_
          clear hK K
          refine stI_skip (by kernel_rfl) (fun K hK => ?_)
          go_simp
          refine hK _ ?_
          clear hK K
          refine stI_go (by kernel_rfl) (fun K hK => ?_)
          go_simp
          refine hK _ ?_
          clear hK K
          refine stI_go (by kernel_rfl) (fun K hK => ?_)
          go_simp
          refine hK _ ?_
          clear hK K
          refine stI_go (by kernel_rfl) (fun K hK => ?_)
          go_simp
          refine hK _ ?_
          clear hK K
          refine stI_go (by kernel_rfl) (fun K hK => ?_)
          go_simp
          refine hK _ ?_
          clear hK K
          refine stI_go (by kernel_rfl) (fun K hK => ?_)
          go_simp
          refine hK _ ?_
          clear hK K
          refine stI_go (by kernel_rfl) (fun K hK => ?_)
          go_simp
          refine hK _ ?_
          clear hK K
          refine stI_go (by kernel_rfl) (fun K hK => ?_)
          go_simp
          refine hK _ ?_
          clear hK K
          refine stI_go (by kernel_rfl) (fun K hK => ?_)
          go_simp
          refine hK _ ?_
          clear hK K
          refine stI_go (by kernel_rfl) (fun K hK => ?_)
          go_simp
          refine hK _ ?_
          clear hK K
          refine stI_go (by kernel_rfl) (fun K hK => ?_)
          go_simp
          refine hK _ ?_
          clear hK K
          refine stI_go (by kernel_rfl) (fun K hK => ?_)
          go_simp
          refine hK _ ?_
          clear hK K
          refine stI_go (by kernel_rfl) (fun K hK => ?_)
          go_simp
          refine hK _ ?_
          clear hK K
          refine stI_go (by kernel_rfl) (fun K hK => ?_)
          go_simp
          refine hK _ ?_
          clear hK K
          refine stI_go (by kernel_rfl) (fun K hK => ?_)
          go_simp
          refine hK _ ?_
          clear hK K
          refine stI_go (by kernel_rfl) (fun K hK => ?_)
          go_simp
          refine hK _ ?_
          clear hK K
          refine stI_go (by kernel_rfl) (fun K hK => ?_)
          go_simp
          refine hK _ ?_
          clear hK K
          refine stI_go (by kernel_rfl) (fun K hK => ?_)
          go_simp
          refine hK _ ?_
          clear hK K
          refine stI_nil ?_
          clear k0 v0 ek ev
          gi_wp2
          refine ⟨fun h => (by cases h), HR1.out.mono ?_⟩
          clear HR1 hy
          rintro e W2 (⟨rfl, hJ2, hk2⟩ | ⟨rfl, hx2⟩)
          · have HS2 := Lib.hid (HS1.out.part HF.out.2 (by rw [HF.out.1]; exact hJ2) ((show Below n₀ wr wr.drew from ⟨rfl, rfl, rfl, Nat.le_refl _, fun _ _ => rfl⟩).trans hk2))
            have hw1 : IntKind.i64.wrap ((j : Int) + 1) = (j : Int) + 1 := wrap_small j (by omega)
            clear hJ2 hk2
            gi_wp2
            go_roundw
            case rel => exact ⟨j + 1, _, by push_cast; rfl, hjl, Lib.hid ⟨by have := HS.out.1; omega, HS2.out⟩⟩
            case measure => show ks.length - (((j : Int) + 1).toNat) < ks.length - ((j : Int)).toNat; omega
          · gi_wp2
            go_ret
            exact HS1.out.left (by rw [HF.out.1]; exact List.prefix_rfl) hx2
        | true =>
          have hg : Op.bytesLess (sx ks j).toList hi.toList = true := by
            unfold inU at e1
            rw [show (sx ks j, sx vs j).1 = sx ks j from rfl] at e1
            simp only [Bool.and_eq_true, Bool.not_true, Bool.false_or] at e1
            exact e1.2
          clear e1
          refine stI_go (by kernel_rfl) (fun K hK => ?_)
          go_simp
          refine hK _ ?_
          clear hK K
          refine stI_go (by kernel_rfl) (fun K hK => ?_)
          go_simp
          refine hK _ ?_
          clear hK K
          refine stI_go (by kernel_rfl) (fun K hK => ?_)
          go_simp
          refine hK _ ?_
          clear hK K
          refine stI_go (by kernel_rfl) (fun K hK => ?_)
          go_simp
          refine hK _ ?_
          clear hK K
          refine stI_go (by kernel_rfl) (fun K hK => ?_)
          go_simp
          refine hK _ ?_
          clear hK K
          refine stI_go (by kernel_rfl) (fun K hK => ?_)
          go_simp
          refine hK _ ?_
          clear hK K
          refine stI_go (by kernel_rfl) (fun K hK => ?_)
          go_simp
          refine hK _ ?_
          clear hK K
          refine stI_go (by kernel_rfl) (fun K hK => ?_)
          go_simp
          refine hK _ ?_
          clear hK K
          refine stI_go (by kernel_rfl) (fun K hK => ?_)
          go_simp
          refine hK _ ?_
          clear hK K
          refine stI_go (by kernel_rfl) (fun K hK => ?_)
          go_simp
          refine hK _ ?_
          clear hK K
          refine stI_go (by kernel_rfl) (fun K hK => ?_)
          go_simp
          refine hK _ ?_
          clear hK K
          refine stI_go (by kernel_rfl) (fun K hK => ?_)
          go_simp
          refine hK _ ?_
          clear hK K
          refine stI_go (by kernel_rfl) (fun K hK => ?_)
          go_simp
          refine hK _ ?_
          clear hK K
          refine stI_go (by kernel_rfl) (fun K hK => ?_)
          go_simp
          refine hK _ ?_
          clear hK K
          refine stI_go (by kernel_rfl) (fun K hK => ?_)
          go_simp
          refine hK _ ?_
          clear hK K
          refine stI_go (by kernel_rfl) (fun K hK => ?_)
          go_simp
          refine hK _ ?_
          clear hK K
          refine stI_go (by kernel_rfl) (fun K hK => ?_)
          go_simp
          refine hK _ ?_
          clear hK K
          refine stI_go (by kernel_rfl) (fun K hK => ?_)
          go_simp
          refine hK _ ?_
          clear hK K
          refine stI_go (by kernel_rfl) (fun K hK => ?_)
          go_simp
          refine hK _ ?_
          clear hK K
          refine stI_go (by kernel_rfl) (fun K hK => ?_)
          go_simp
          refine hK _ ?_
          clear hK K
          refine stI_go (by kernel_rfl) (fun K hK => ?_)
          go_simp
          refine hK _ ?_
          clear hK K
          refine stI_go (by kernel_rfl) (fun K hK => ?_)
          go_simp
          refine hK _ ?_
          clear hK K
          refine stI_go (by kernel_rfl) (fun K hK => ?_)
          go_simp
          refine hK _ ?_
          clear hK K
          refine stI_go (by kernel_rfl) (fun K hK => ?_)
          go_simp
          refine hK _ ?_
          clear hK K
          refine stI_go (by kernel_rfl) (fun K hK => ?_)
          go_simp
          refine hK _ ?_
          clear hK K
          refine stI_go (by kernel_rfl) (fun K hK => ?_)
          go_simp
          refine hK _ ?_
          clear hK K
          refine stI_go (by kernel_rfl) (fun K hK => ?_)
          go_simp
          refine hK _ ?_
          clear hK K
          refine stI_go (by kernel_rfl) (fun K hK => ?_)
          go_simp
          refine hK _ ?_
          clear hK K
          refine stI_nil ?_
          clear k0 v0 ek ev
          gi_wp2
          refine ⟨fun h => (by cases h), HR1.out.mono ?_⟩
          clear HR1 hy
          rintro e W2 (⟨rfl, hJ2, hk2⟩ | ⟨rfl, hx2⟩)
          · have HS2 := Lib.hid (HS1.out.part HF.out.2 (by rw [HF.out.1]; exact hJ2) ((show Below n₀ wr wr.drew from ⟨rfl, rfl, rfl, Nat.le_refl _, fun _ _ => rfl⟩).trans hk2))
            have hw1 : IntKind.i64.wrap ((j : Int) + 1) = (j : Int) + 1 := wrap_small j (by omega)
            clear hJ2 hk2
            gi_wp2
            go_roundw
            case rel => exact ⟨j + 1, _, by push_cast; rfl, hjl, Lib.hid ⟨by have := HS.out.1; omega, HS2.out⟩⟩
            case measure => show ks.length - (((j : Int) + 1).toNat) < ks.length - ((j : Int)).toNat; omega
          · gi_wp2
            go_ret
            exact HS1.out.left (by rw [HF.out.1]; exact List.prefix_rfl) hx2

set_option maxRecDepth 100000 in
set_option maxHeartbeats 1600000 in
theorem up_inner (m l n₀ K N : Nat) (lo hi : Bs) (bd : Bool) (J Jx : List Pr → World → Prop) (hY : Yields l n₀ K J Jx) (σ : Sig) (ks vs : List Bs) (ns : List Nat) (Cs : List (List Pr)) (L : List Pr)
    (hN : σ N = some ⟨ks, vs, ns⟩) (hl : vs.length = ks.length) (hk : ks.length ≤ 256) (hC : Cs.length = ks.length + 1) (hL : L = inter (ks.zip vs) Cs) (hs : Srt L) (hsk : SrtK ks)
    (hns : ns.length = ks.length + 1) (hkid : ∀ j, j ≤ ks.length → ∃ M, ns[j]? = some M ∧ ∀ m acc W, Hq n₀ W σ → J acc W → acc.length + ((cx Cs j).filter (inU lo hi bd)).length ≤ K →
      CallsIn Fence.wide m Try.prog 41 (upArgs M l lo hi bd) W (SOut n₀ J Jx acc ((cx Cs j).filter (inU lo hi bd)) ((cx Cs j).any (ovU lo hi bd)) W))
    (acc0 : List Pr) (W0 : World) (hq : Hq n₀ W0 σ) (hj : J acc0 W0) (hK : acc0.length + (L.filter (inU lo hi bd)).length ≤ K) :
    CallsIn Fence.wide m Try.prog 41 (upArgs N l lo hi bd) W0 (SOut n₀ J Jx acc0 (L.filter (inU lo hi bd)) (L.any (ovU lo hi bd)) W0) := by
  obtain ⟨ka, kc, c0, hbs⟩ := hq.hp.bs hN (by omega) lo
  have HBS := Lib.hid hbs
  obtain ⟨hi0, C0, hC0, hC1⟩ := Vu_start (lo := lo) hl hC hL hs hsk
  have hb0 := bs_cut ks lo hsk
  have HS0 : Hid (∀ q, Sc (inU lo hi bd) (ovU lo hi bd) n₀ K J acc0 L W0 acc0 (Vu ks vs Cs (bsI ks lo)) (W0.drewN q)) := Lib.hid (fun q => by
    have h : Sc (inU lo hi bd) (ovU lo hi bd) n₀ K J acc0 L W0 acc0 (C0 ++ Vu ks vs Cs (bsI ks lo)) (W0.drewN q) := by
      rw [← hC0]
      exact ⟨hY.2 _ _ _ hj, ⟨rfl, rfl, rfl, Nat.le_refl _, fun _ _ => rfl⟩, rfl, rfl, mono_up hs, hK⟩
    exact h.skip (fun x hx => by unfold inU; rw [hC1 x hx]; rfl) (fun x hx => by unfold ovU; rw [hC1 x hx]; rfl))
  have HQ := Lib.hid hq
  have HN := Lib.hid (And.intro hN (And.intro hl (And.intro hC hb0.2)))
  have HY := Lib.hid hY
  obtain ⟨i0, hi0'⟩ : ∃ i0, i0 = bsI ks lo := ⟨_, rfl⟩
  have HI := Lib.hid hi0'
  rw [← hi0'] at hi0 HS0 hbs
  have HBS := Lib.hid hbs
  have HNS := Lib.hid (And.intro hns hkid)
  clear hns hkid
  clear hbs hC0 hC1 hb0 hq hj hK hY hs hsk hL hN hl hC hi0'
  refine callsIn_of_wp Try.func41 rfl trivial ?_ rfl
  simp only [Try.ntmps41, List.size_toArray, List.length_cons, List.length_nil, Nat.reduceAdd, Nat.reduceSub, Array.replicate_succ, Array.replicate_zero, List.push_toArray, List.append_toArray, List.nil_append, List.cons_append]
  gi_wp2
  refine ⟨fun h => (by cases h), (callsIn_wide.2 HBS.out).mono ?_⟩
  rintro e W1 ⟨rfl, q0, rfl⟩
  clear c0 HBS
  gi_wp2
  gi_loopw [11] (fun i wr => ∃ (j : Nat) (acc : List Pr), i = .int .i64 j ∧ j ≤ ks.length ∧ Hid (i0 ≤ j ∧ Sc (inU lo hi bd) (ovU lo hi bd) n₀ K J acc0 L W0 acc (Vu ks vs Cs j) wr)) (fun i wr => ks.length - iv i)
  case atStart => exact ⟨i0, acc0, rfl, hi0, Lib.hid ⟨Nat.le_refl _, HS0.out q0⟩⟩
  case round =>
    clear HS0
    obtain ⟨j, acc, rfl, hj, HS⟩ := hrel
    have hp := (HQ.out.below HS.out.2.b).hp
    obtain ⟨dg, dc, c2, hd1, hd2, hdg, hdc⟩ := hp.g2 HN.out.1 (by rw [HNS.out.1]; omega)
    obtain ⟨M, hM, hkid⟩ := HNS.out.2 j hj
    have ck := hdc j M hM
    have hn0 : 0 < ns.length := by rw [HNS.out.1]; omega
    have hnj : j < ns.length := by rw [HNS.out.1]; omega
    have HV := Lib.hid HS.out.2
    have hkk := HS.out.2.k
    have hVK := Vu_kid (vs := vs) HN.out.2.2.1 hj
    rw [hVK] at hkk HV
    have HC := Lib.hid (hkid (m - 1) acc wr (HQ.out.below HS.out.2.b) HS.out.2.j (by rw [List.filter_append, List.length_append] at hkk; omega))
    clear hkk hdc hkid hM hp hVK
    gi_wp2
    refine ⟨fun h => (by cases h), HC.out.mono ?_⟩
    clear HC
    rintro e W2 (⟨hst, rfl, hj2, hb2⟩ | ⟨hst, rfl, hj2, hb2⟩ | ⟨rfl, pre, hpre, hx⟩)
    · have HH := Lib.hid (And.intro hst (And.intro hj2 hb2))
      have HH3 := Lib.hid (HS.out.2.b.trans hb2)
      clear hst hj2 hb2 HV c2 ck
      by_cases hlast : j = ks.length
      · have hV := Vu_last HN.out.2.1 HN.out.2.2.1 hlast
        obtain ⟨ka, kc, c0, _, _⟩ := (HQ.out.below HH3.out |>.hp).f0 HN.out.1
        have hd : decide (j = ks.length) = true := decide_eq_true hlast
        have hd2 : ((j : Int) == (ks.length : Int)) = true := by rw [hlast]; exact beq_self_eq_true _
        have HF : Hid (Sc (inU lo hi bd) (ovU lo hi bd) n₀ K J acc0 L W0 (acc ++ (cx Cs j).filter (inU lo hi bd)) ([]) W2) := Lib.hid (by
          have := HS.out.2
          rw [hV] at this
          exact this.part HH.out.1 HH.out.2.1 HH.out.2.2)
        clear hV
        gi_wp2
        go_ret
        exact HF.out.done
      · have hjl : j < ks.length := by omega
        have hV := Vu_next HN.out.2.1 HN.out.2.2.1 hjl
        have hd : decide (j = ks.length) = false := decide_eq_false hlast
        have hd2 : ((j : Int) == (ks.length : Int)) = false := by rw [beq_eq_false_iff_ne]; omega
        have HS1 : Hid (Sc (inU lo hi bd) (ovU lo hi bd) n₀ K J acc0 L W0 (acc ++ (cx Cs j).filter (inU lo hi bd)) ([(sx ks j, sx vs j)] ++ Vu ks vs Cs (j + 1)) W2) := Lib.hid (by
          have := HS.out.2
          rw [hV] at this
          exact this.part HH.out.1 HH.out.2.1 HH.out.2.2)
        clear hV
        obtain ⟨kg, kc, k0, hk1, hk2, hkg, hkc⟩ := (HQ.out.below HS1.out.b).hp.g0 HN.out.1 (by omega)
        obtain ⟨vg, vc, v0, hv1, hv2, hvg, hvc⟩ := (HQ.out.below HS1.out.b).hp.g1 HN.out.1 (by have := HN.out.2.1; omega)
        have ek := hkc j hjl
        have ev := hvc j (by have := HN.out.2.1; omega)
        have hvl : j < vs.length := by have := HN.out.2.1; omega
        have hlo : lB (sx ks j) lo = false := HN.out.2.2.2 j (by rw [← HI.out]; exact HS.out.1) hjl
        have hlo2 := Lib.hid hlo
        clear hkc hvc hlast
        by_cases hov : bd = true ∧ lB (sx ks j) hi = false
        · obtain ⟨rfl, hhi⟩ := hov
          have hg : Op.bytesLess (sx ks j).toList hi.toList = false := hhi
          have HG := Lib.hid hhi
          clear hhi hlo
          gi_wp2_with (refine ⟨trivial, ?_⟩)
          gi_quiet (fail)
          gi_wp2
          go_ret
          have e1 : (inU lo hi true) (sx ks j, sx vs j) = false := by unfold inU; rw [show (sx ks j, sx vs j).1 = sx ks j from rfl, HG.out]; simp
          have e2 : (ovU lo hi true) (sx ks j, sx vs j) = true := by unfold ovU; rw [show (sx ks j, sx vs j).1 = sx ks j from rfl, HG.out, hlo2.out]; rfl
          exact HS1.out.stopped (by rw [List.any_cons, e2]; rfl) (by rw [List.filter_cons, e1]; exact HY.out.2 _ _ nq (by simpa using HS1.out.j)) ⟨rfl, rfl, rfl, Nat.le_refl _, fun _ _ => rfl⟩
        · have e1 : (inU lo hi bd) (sx ks j, sx vs j) = true := by
            unfold inU
            rw [show (sx ks j, sx vs j).1 = sx ks j from rfl, hlo]
            cases bd with
            | false => rfl
            | true => cases hh : lB (sx ks j) hi with
              | false => exact absurd ⟨rfl, hh⟩ hov
              | true => rfl
          have e2 : (ovU lo hi bd) (sx ks j, sx vs j) = false := by
            unfold inU at e1
            unfold ovU
            rw [show (sx ks j, sx vs j).1 = sx ks j from rfl] at e1 ⊢
            cases bd with
            | false => simp
            | true => rw [hlo] at e1 ⊢; simpa using e1
          have hf : [(sx ks j, sx vs j)].filter (inU lo hi bd) = [(sx ks j, sx vs j)] := by rw [List.filter_cons, e1]; rfl
          have HF := Lib.hid (And.intro hf (show [(sx ks j, sx vs j)].any (ovU lo hi bd) = false by rw [List.any_cons, e2]; rfl))
          have hkk := HS1.out.k
          rw [List.filter_append, hf] at hkk
          have hlen : (acc ++ (cx Cs j).filter (inU lo hi bd)).length < K := by simp only [List.length_append, List.length_cons, List.length_nil] at hkk ⊢; omega
          obtain ⟨f1, t1, a1, b1, hy1, hR1⟩ := HY.out.1 (m - 1) (acc ++ (cx Cs j).filter (inU lo hi bd)) (sx ks j, sx vs j) W2.drew (HY.out.2 _ _ 1 HS1.out.j) hlen
          have hy : (Instr.yield l #[.string (sx ks j), .string (sx vs j)]).run Try.prog W2.drew = .ok (.round l f1 t1 a1 b1) W2.drew := hy1
          have HR1 := Lib.hid hR1
          clear hkk hf hlo hR1 hy1 hlen e2
          gi_wp2_with (refine ⟨trivial, ?_⟩)
          refine wpIn_region_stI 28 (by kernel_rfl) (by kernel_rfl) ?_
          simp only [List.take_succ_cons, List.take_zero, List.drop_succ_cons, List.drop_zero]
          cases bd with
          | false =>
            refine stI_go (by kernel_rfl) (fun K hK => ?_)
            go_simp
            refine hK _ ?_
            clear hK K
            refine stI_go (by kernel_rfl) (fun K hK => ?_)
            go_simp
            refine hK _ ?_
            clear hK K
            refine stI_skip (by kernel_rfl) (fun K hK => ?_)
            go_simp
            refine hK _ ?_
            clear hK K
            refine stI_skip (by kernel_rfl) (fun K hK => ?_)
            go_simp
            refine hK _ ?_
            clear hK K
            refine stI_skip (by kernel_rfl) (fun K hK => ?_)
            go_simp
            refine hK _ ?_
            clear hK K
            refine stI_skip (by kernel_rfl) (fun K hK => ?_)
            go_simp
            refine hK _ ?_
            clear hK K
            refine stI_skip (by kernel_rfl) (fun K hK => ?_)
            go_simp
            refine hK _ ?_
            clear hK K
            refine stI_skip (by kernel_rfl) (fun K hK => ?_)
            go_simp
            refine hK _ ?_
            clear hK K
            refine stI_skip (by kernel_rfl) (fun K hK => ?_)
            go_simp
            refine hK _ ?_
            clear hK K
            refine stI_skip (by kernel_rfl) (fun K hK => ?_)
            go_simp
            refine hK _ ?_
            clear hK K
            refine stI_skip (by kernel_rfl) (fun K hK => ?_)
            go_simp
            refine hK _ ?_
            clear hK K
            refine stI_go (by kernel_rfl) (fun K hK => ?_)
            go_simp
            refine hK _ ?_
            clear hK K
            refine stI_go (by kernel_rfl) (fun K hK => ?_)
            go_simp
            refine hK _ ?_
            clear hK K
            refine stI_go (by kernel_rfl) (fun K hK => ?_)
            go_simp
            refine hK _ ?_
            clear hK K
            refine stI_go (by kernel_rfl) (fun K hK => ?_)
            go_simp
            refine hK _ ?_
            clear hK K
            refine stI_go (by kernel_rfl) (fun K hK => ?_)
            go_simp
            refine hK _ ?_
            clear hK K
            refine stI_go (by kernel_rfl) (fun K hK => ?_)
            go_simp
            refine hK _ ?_
            clear hK K
            refine stI_go (by kernel_rfl) (fun K hK => ?_)
            go_simp
            refine hK _ ?_
            clear hK K
            refine stI_go (by kernel_rfl) (fun K hK => ?_)
            go_simp
            refine hK _ ?_
            clear hK K
            refine stI_go (by kernel_rfl) (fun K hK => ?_)
            go_simp
            refine hK _ ?_
            clear hK K
            refine stI_go (by kernel_rfl) (fun K hK => ?_)
            go_simp
            refine hK _ ?_
            clear hK K
            refine stI_go (by kernel_rfl) (fun K hK => ?_)
            go_simp
            refine hK _ ?_
            clear hK K
            refine stI_go (by kernel_rfl) (fun K hK => ?_)
            go_simp
            refine hK _ ?_
            clear hK K
            refine stI_go (by kernel_rfl) (fun K hK => ?_)
            go_simp
            refine hK _ ?_
            clear hK K
            refine stI_go (by kernel_rfl) (fun K hK => ?_)
            go_simp
            refine hK _ ?_
            clear hK K
            refine stI_go (by kernel_rfl) (fun K hK => ?_)
            go_simp
            refine hK _ ?_
            clear hK K
            refine stI_go (by kernel_rfl) (fun K hK => ?_)
            go_simp
            refine hK _ ?_
            clear hK K
            refine stI_go (by kernel_rfl) (fun K hK => ?_)
            go_simp
            refine hK _ ?_
            clear hK K
            refine stI_nil ?_
            clear k0 v0 ek ev
            gi_wp2
            refine ⟨fun h => (by cases h), HR1.out.mono ?_⟩
            clear HR1 hy
            rintro e W3 (⟨rfl, hJ2, hk2⟩ | ⟨rfl, hx2⟩)
            · have HS2 := Lib.hid (HS1.out.part HF.out.2 (by rw [HF.out.1]; exact hJ2) ((show Below n₀ W2 W2.drew from ⟨rfl, rfl, rfl, Nat.le_refl _, fun _ _ => rfl⟩).trans hk2))
              have hw1 : IntKind.i64.wrap ((j : Int) + 1) = (j : Int) + 1 := wrap_small j (by omega)
              clear hJ2 hk2
              gi_wp2
              go_roundw
              case rel => exact ⟨j + 1, _, by push_cast; rfl, hjl, Lib.hid ⟨by have := HS.out.1; omega, HS2.out⟩⟩
              case measure => show ks.length - (((j : Int) + 1).toNat) < ks.length - ((j : Int)).toNat; omega
            · gi_wp2
              go_ret
              exact HS1.out.left (by rw [HF.out.1]; exact List.prefix_rfl) hx2
          | true =>
            have hg : Op.bytesLess (sx ks j).toList hi.toList = true := by
              unfold inU at e1
              rw [show (sx ks j, sx vs j).1 = sx ks j from rfl] at e1
              simp only [Bool.and_eq_true, Bool.not_true, Bool.false_or] at e1
              exact e1.2
            clear e1
            refine stI_go (by kernel_rfl) (fun K hK => ?_)
            go_simp
            refine hK _ ?_
            clear hK K
            refine stI_go (by kernel_rfl) (fun K hK => ?_)
            go_simp
            refine hK _ ?_
            clear hK K
            refine stI_go (by kernel_rfl) (fun K hK => ?_)
            go_simp
            refine hK _ ?_
            clear hK K
            refine stI_go (by kernel_rfl) (fun K hK => ?_)
            go_simp
            refine hK _ ?_
            clear hK K
            refine stI_go (by kernel_rfl) (fun K hK => ?_)
            go_simp
            refine hK _ ?_
            clear hK K
            refine stI_go (by kernel_rfl) (fun K hK => ?_)
            go_simp
            refine hK _ ?_
            clear hK K
            refine stI_go (by kernel_rfl) (fun K hK => ?_)
            go_simp
            refine hK _ ?_
            clear hK K
            refine stI_go (by kernel_rfl) (fun K hK => ?_)
            go_simp
            refine hK _ ?_
            clear hK K
            refine stI_go (by kernel_rfl) (fun K hK => ?_)
            go_simp
            refine hK _ ?_
            clear hK K
            refine stI_go (by kernel_rfl) (fun K hK => ?_)
            go_simp
            refine hK _ ?_
            clear hK K
            refine stI_go (by kernel_rfl) (fun K hK => ?_)
            go_simp
            refine hK _ ?_
            clear hK K
            refine stI_go (by kernel_rfl) (fun K hK => ?_)
            go_simp
            refine hK _ ?_
            clear hK K
            refine stI_go (by kernel_rfl) (fun K hK => ?_)
            go_simp
            refine hK _ ?_
            clear hK K
            refine stI_go (by kernel_rfl) (fun K hK => ?_)
            go_simp
            refine hK _ ?_
            clear hK K
            refine stI_go (by kernel_rfl) (fun K hK => ?_)
            go_simp
            refine hK _ ?_
            clear hK K
            refine stI_go (by kernel_rfl) (fun K hK => ?_)
            go_simp
            refine hK _ ?_
            clear hK K
            refine stI_go (by kernel_rfl) (fun K hK => ?_)
            go_simp
            refine hK _ ?_
            clear hK K
            refine stI_go (by kernel_rfl) (fun K hK => ?_)
            go_simp
            refine hK _ ?_
            clear hK K
            refine stI_go (by kernel_rfl) (fun K hK => ?_)
            go_simp
            refine hK _ ?_
            clear hK K
            refine stI_go (by kernel_rfl) (fun K hK => ?_)
            go_simp
            refine hK _ ?_
            clear hK K
            refine stI_go (by kernel_rfl) (fun K hK => ?_)
            go_simp
            refine hK _ ?_
            clear hK K
            refine stI_go (by kernel_rfl) (fun K hK => ?_)
            go_simp
            refine hK _ ?_
            clear hK K
            refine stI_go (by kernel_rfl) (fun K hK => ?_)
            go_simp
            refine hK _ ?_
            clear hK K
            refine stI_go (by kernel_rfl) (fun K hK => ?_)
            go_simp
            refine hK _ ?_
            clear hK K
            refine stI_go (by kernel_rfl) (fun K hK => ?_)
            go_simp
            refine hK _ ?_
            clear hK K
            refine stI_go (by kernel_rfl) (fun K hK => ?_)
            go_simp
            refine hK _ ?_
            clear hK K
            refine stI_go (by kernel_rfl) (fun K hK => ?_)
            go_simp
            refine hK _ ?_
            clear hK K
            refine stI_go (by kernel_rfl) (fun K hK => ?_)
            go_simp
            refine hK _ ?_
            clear hK K
            refine stI_nil ?_
            clear k0 v0 ek ev
            gi_wp2
            refine ⟨fun h => (by cases h), HR1.out.mono ?_⟩
            clear HR1 hy
            rintro e W3 (⟨rfl, hJ2, hk2⟩ | ⟨rfl, hx2⟩)
            · have HS2 := Lib.hid (HS1.out.part HF.out.2 (by rw [HF.out.1]; exact hJ2) ((show Below n₀ W2 W2.drew from ⟨rfl, rfl, rfl, Nat.le_refl _, fun _ _ => rfl⟩).trans hk2))
              have hw1 : IntKind.i64.wrap ((j : Int) + 1) = (j : Int) + 1 := wrap_small j (by omega)
              clear hJ2 hk2
              gi_wp2
              go_roundw
              case rel => exact ⟨j + 1, _, by push_cast; rfl, hjl, Lib.hid ⟨by have := HS.out.1; omega, HS2.out⟩⟩
              case measure => show ks.length - (((j : Int) + 1).toNat) < ks.length - ((j : Int)).toNat; omega
            · gi_wp2
              go_ret
              exact HS1.out.left (by rw [HF.out.1]; exact List.prefix_rfl) hx2
    · have HH := Lib.hid (HV.out.stopped (Jx := Jx) hst hj2 hb2)
      clear hst hj2 hb2 HV c2 ck
      gi_wp2
      go_ret
      exact HH.out
    · have HH := Lib.hid (HV.out.left hpre hx)
      clear hpre hx HV c2 ck
      gi_wp2
      go_ret
      exact HH.out
end Go.Proofs.Ytegljepgncicjaa
/- Btree: node.down at one node. -/
namespace Go.Proofs.Ytegljepgncicjaa
open Go.ChangeShapes Go.WideShapes Go.ChangeAt Go.RowKit Go.Deep Go.Shelf
set_option linter.unusedVariables false
set_option linter.unusedSimpArgs false
attribute [local go_sem] Oper.semAt_some
attribute [local go_sem, local simp] wide_fn
theorem Vd_all {ks vs : List Bs} {Cs : List (List Pr)} {L : List Pr} (hl : vs.length = ks.length) (hC : Cs.length = ks.length + 1) (hL : L = inter (ks.zip vs) Cs) : L.reverse = Vd ks vs Cs ks.length := by
  have hz : (ks.zip vs).length = ks.length := by simp [hl]
  unfold Vd
  congr 1
  rw [hL, cx_get (by omega)]
  conv => lhs; rw [← List.take_append_drop ks.length (ks.zip vs), ← List.take_append_drop ks.length Cs, List.drop_eq_getElem_cons (i := ks.length) (l := Cs) (by omega)]
  rw [inter_mid _ _ _ _ _ (by rw [List.length_take, List.length_take, hz]; omega), List.drop_eq_nil_of_le (by omega)]
  simp [interR]
theorem wrap_less (j i : Nat) (h0 : 0 < j) (h : j ≤ 100000) (hi : i = j - 1) : IntKind.i64.wrap ((j : Int) - 1) = (i : Int) := by
  rw [IntKind.wrap_i64]; omega
set_option maxRecDepth 100000 in
set_option maxHeartbeats 1600000 in
theorem down_leaf_false (m l n₀ K N : Nat) (lo hi : Bs) (J Jx : List Pr → World → Prop) (hY : Yields l n₀ K J Jx) (σ : Sig) (ks vs : List Bs) (ns : List Nat) (Cs : List (List Pr)) (L : List Pr)
    (hN : σ N = some ⟨ks, vs, ns⟩) (hl : vs.length = ks.length) (hk : ks.length ≤ 256) (hC : Cs.length = ks.length + 1) (hL : L = inter (ks.zip vs) Cs) (hs : Srt L) (hsk : SrtK ks)
    (hns : ns = []) (hCs : Cs = List.replicate (ks.length + 1) [])
    (acc0 : List Pr) (W0 : World) (hq : Hq n₀ W0 σ) (hj : J acc0 W0) (hK : acc0.length + (L.reverse.filter (inU lo hi false)).length ≤ K) :
    CallsIn Fence.wide m Try.prog 40 (upArgs N l lo hi false) W0 (SOut n₀ J Jx acc0 (L.reverse.filter (inU lo hi false)) (L.reverse.any (ovD lo hi false)) W0) := by
  obtain ⟨ka, kc, c0, hbs⟩ := hq.hp.bs hN (by omega) hi
  obtain ⟨i0, hi0'⟩ : ∃ i0, i0 = ks.length := ⟨_, rfl⟩
  have HI : Hid (∀ j, j < i0 → j < ks.length → True) := Lib.hid (fun _ _ _ => trivial)
  have hi0 : i0 ≤ ks.length := by omega
  have HS0 : Hid (∀ q, Sc (inU lo hi false) (ovD lo hi false) n₀ K J acc0 L.reverse W0 acc0 (Vd ks vs Cs i0) (W0.drewN q)) := Lib.hid (fun q => by
    rw [hi0', ← Vd_all hl hC hL]
    exact ⟨hY.2 _ _ _ hj, ⟨rfl, rfl, rfl, Nat.le_refl _, fun _ _ => rfl⟩, rfl, rfl, mono_down hs, hK⟩)
  have HI0 := Lib.hid hi0'
  clear hi0'
  have HQ := Lib.hid hq
  have HN := Lib.hid (And.intro hN (And.intro hl hC))
  have HY := Lib.hid hY
  have HCs := Lib.hid hCs
  clear hCs
  clear hbs hq hj hK hY hs hsk hL hN hl hC
  refine callsIn_of_wp Try.func40 rfl trivial ?_ rfl
  simp only [Try.ntmps40, List.size_toArray, List.length_cons, List.length_nil, Nat.reduceAdd, Nat.reduceSub, Array.replicate_succ, Array.replicate_zero, List.push_toArray, List.append_toArray, List.nil_append, List.cons_append]
  gi_wp2
  clear c0
  gi_loopw [11] (fun i wr => ∃ (j : Nat) (acc : List Pr), i = .int .i64 j ∧ j ≤ ks.length ∧ Hid (j ≤ i0 ∧ Sc (inU lo hi false) (ovD lo hi false) n₀ K J acc0 L.reverse W0 acc (Vd ks vs Cs j) wr)) (fun i wr => iv i)
  case atStart => exact ⟨ks.length, acc0, rfl, Nat.le_refl _, Lib.hid ⟨Nat.le_of_eq HI0.out.symm, by have := HS0.out 0; rw [HI0.out] at this; exact this⟩⟩
  case round =>
    clear HS0
    obtain ⟨j, acc, rfl, hj, HS⟩ := hrel
    obtain ⟨da, dc, c2, _, _⟩ := (HQ.out.below HS.out.2.b).hp.f2 HN.out.1
    rw [show ns.length = 0 by rw [hns]; rfl] at c2
    by_cases hlast : j = 0
    · have hV := Vd_last (ks := ks) (vs := vs) (Cs := Cs) hlast
      have HF : Hid (Sc (inU lo hi false) (ovD lo hi false) n₀ K J acc0 L.reverse W0 acc ([]) wr) := Lib.hid (by
        have := HS.out.2
        have e : cx Cs j = [] := by rw [HCs.out]; exact cx_leaf _ _
        rw [hV, e, List.reverse_nil, List.nil_append] at this
        exact this)
      clear hV
      subst hlast
      gi_wp2
      go_ret
      exact HF.out.done
    · obtain ⟨i, hij⟩ : ∃ i, i = j - 1 := ⟨_, rfl⟩
      have hV := Vd_next (Cs := Cs) HN.out.2.1 HN.out.2.2 (by omega) hj
      rw [← hij] at hV
      have hil : i < ks.length := by omega
      have hd : decide (j = 0) = false := decide_eq_false hlast
      have hd2 : ((j : Int) == 0) = false := by rw [beq_eq_false_iff_ne]; omega
      have hd3 : (j == 0) = false := by rw [beq_eq_false_iff_ne]; omega
      have hw := wrap_less j i (by omega) (by omega) hij
      have HIJ := Lib.hid hij
      clear hij
      have HS1 : Hid (Sc (inU lo hi false) (ovD lo hi false) n₀ K J acc0 L.reverse W0 acc ([(sx ks i, sx vs i)] ++ Vd ks vs Cs i) wr) := Lib.hid (by
        have := HS.out.2
        have e : cx Cs j = [] := by rw [HCs.out]; exact cx_leaf _ _
        rw [hV, e, List.reverse_nil, List.nil_append] at this
        exact this)
      clear hV
      obtain ⟨kg, kc, k0, hk1, hk2, hkg, hkc⟩ := (HQ.out.below HS1.out.b).hp.g0 HN.out.1 (by omega)
      obtain ⟨vg, vc, v0, hv1, hv2, hvg, hvc⟩ := (HQ.out.below HS1.out.b).hp.g1 HN.out.1 (by have := HN.out.2.1; omega)
      have ek := hkc i hil
      have ev := hvc i (by have := HN.out.2.1; omega)
      have hvl : i < vs.length := by have := HN.out.2.1; omega
      have HH1 := Lib.hid (HI.out i (by have := HS.out.1; have := HIJ.out; omega) hil)
      clear hkc hvc
      by_cases hov : lB (sx ks i) lo = true
      · have hg : Op.bytesLess (sx ks i).toList lo.toList = true := hov
        have HG := Lib.hid hov
        clear hov
        gi_wp2_with (refine ⟨trivial, ?_⟩)
        gi_quiet (fail)
        gi_wp2
        go_ret
        have e1 : (inU lo hi false) (sx ks i, sx vs i) = false := by unfold inU; rw [show (sx ks i, sx vs i).1 = sx ks i from rfl, HG.out]; rfl
        have e2 : (ovD lo hi false) (sx ks i, sx vs i) = true := by unfold ovD; rw [show (sx ks i, sx vs i).1 = sx ks i from rfl, HG.out]; rfl
        exact HS1.out.stopped (by rw [List.any_cons, e2]; rfl) (by rw [List.filter_cons, e1]; exact HY.out.2 _ _ nq (by simpa using HS1.out.j)) ⟨rfl, rfl, rfl, Nat.le_refl _, fun _ _ => rfl⟩
      · have hov' : lB (sx ks i) lo = false := by simpa using hov
        have hg : Op.bytesLess (sx ks i).toList lo.toList = false := hov'
        have e1 : (inU lo hi false) (sx ks i, sx vs i) = true := by unfold inU; rw [show (sx ks i, sx vs i).1 = sx ks i from rfl, hov']; rfl
        have e2 : (ovD lo hi false) (sx ks i, sx vs i) = false := by unfold ovD; rw [show (sx ks i, sx vs i).1 = sx ks i from rfl, hov']; rfl
        have hf : [(sx ks i, sx vs i)].filter (inU lo hi false) = [(sx ks i, sx vs i)] := by rw [List.filter_cons, e1]; rfl
        have HF := Lib.hid (And.intro hf (show [(sx ks i, sx vs i)].any (ovD lo hi false) = false by rw [List.any_cons, e2]; rfl))
        have hkk := HS1.out.k
        rw [List.filter_append, hf] at hkk
        have hlen : acc.length < K := by simp only [List.length_append, List.length_cons, List.length_nil] at hkk ⊢; omega
        obtain ⟨f1, t1, a1, b1, hy1, hR1⟩ := HY.out.1 (m - 1) acc (sx ks i, sx vs i) wr.drew (HY.out.2 _ _ 1 HS1.out.j) hlen
        have hy : (Instr.yield l #[.string (sx ks i), .string (sx vs i)]).run Try.prog wr.drew = .ok (.round l f1 t1 a1 b1) wr.drew := hy1
        have HR1 := Lib.hid hR1
        clear hkk hf hR1 hy1 hlen e2 e1 hov hov'
        gi_wp2_with (refine ⟨trivial, ?_⟩)
        refine wpIn_region_stI 28 (by kernel_rfl) (by kernel_rfl) ?_
        simp only [List.take_succ_cons, List.take_zero, List.drop_succ_cons, List.drop_zero]
        refine stI_go (by kernel_rfl) (fun K hK => ?_)
        go_simp
        refine hK _ ?_
        clear hK K
        refine stI_go (by kernel_rfl) (fun K hK => ?_)
        go_simp
        refine hK _ ?_
        clear hK K
        refine stI_go (by kernel_rfl) (fun K hK => ?_)
        go_simp
        refine hK _ ?_
        clear hK K
        refine stI_go (by kernel_rfl) (fun K hK => ?_)
        go_simp
        refine hK _ ?_
        clear hK K
        refine stI_go (by kernel_rfl) (fun K hK => ?_)
        go_simp
        refine hK _ ?_
        clear hK K
        refine stI_go (by kernel_rfl) (fun K hK => ?_)
        go_simp
        refine hK _ ?_
        clear hK K
        refine stI_go (by kernel_rfl) (fun K hK => ?_)
        go_simp
        refine hK _ ?_
        clear hK K
        refine stI_go (by kernel_rfl) (fun K hK => ?_)
        go_simp
        refine hK _ ?_
        clear hK K
        refine stI_go (by kernel_rfl) (fun K hK => ?_)
        go_simp
        refine hK _ ?_
        clear hK K
        refine stI_go (by kernel_rfl) (fun K hK => ?_)
        go_simp
        refine hK _ ?_
        clear hK K
        refine stI_go (by kernel_rfl) (fun K hK => ?_)
        go_simp
        refine hK _ ?_
        clear hK K
        refine stI_go (by kernel_rfl) (fun K hK => ?_)
        go_simp
        refine hK _ ?_
        clear hK K
        refine stI_go (by kernel_rfl) (fun K hK => ?_)
        go_simp
        refine hK _ ?_
        clear hK K
        refine stI_go (by kernel_rfl) (fun K hK => ?_)
        go_simp
        refine hK _ ?_
        clear hK K
        refine stI_go (by kernel_rfl) (fun K hK => ?_)
        go_simp
        refine hK _ ?_
        clear hK K
        refine stI_go (by kernel_rfl) (fun K hK => ?_)
        go_simp
        refine hK _ ?_
        clear hK K
        refine stI_go (by kernel_rfl) (fun K hK => ?_)
        go_simp
        refine hK _ ?_
        clear hK K
        refine stI_go (by kernel_rfl) (fun K hK => ?_)
        go_simp
        refine hK _ ?_
        clear hK K
        refine stI_go (by kernel_rfl) (fun K hK => ?_)
        go_simp
        refine hK _ ?_
        clear hK K
        refine stI_go (by kernel_rfl) (fun K hK => ?_)
        go_simp
        refine hK _ ?_
        clear hK K
        refine stI_go (by kernel_rfl) (fun K hK => ?_)
        go_simp
        refine hK _ ?_
        clear hK K
        refine stI_go (by kernel_rfl) (fun K hK => ?_)
        go_simp
        refine hK _ ?_
        clear hK K
        refine stI_go (by kernel_rfl) (fun K hK => ?_)
        go_simp
        refine hK _ ?_
        clear hK K
        refine stI_go (by kernel_rfl) (fun K hK => ?_)
        go_simp
        refine hK _ ?_
        clear hK K
        refine stI_go (by kernel_rfl) (fun K hK => ?_)
        go_simp
        refine hK _ ?_
        clear hK K
        refine stI_go (by kernel_rfl) (fun K hK => ?_)
        go_simp
        refine hK _ ?_
        clear hK K
        refine stI_go (by kernel_rfl) (fun K hK => ?_)
        go_simp
        refine hK _ ?_
        clear hK K
        refine stI_go (by kernel_rfl) (fun K hK => ?_)
        go_simp
        refine hK _ ?_
        clear hK K
        refine stI_nil ?_
        clear k0 v0 ek ev
        gi_wp2
        refine ⟨fun h => (by cases h), HR1.out.mono ?_⟩
        clear HR1 hy
        rintro e W2 (⟨rfl, hJ2, hk2⟩ | ⟨rfl, hx2⟩)
        · have HS2 := Lib.hid (HS1.out.part HF.out.2 (by rw [HF.out.1]; exact hJ2) ((show Below n₀ wr wr.drew from ⟨rfl, rfl, rfl, Nat.le_refl _, fun _ _ => rfl⟩).trans hk2))
          clear hJ2 hk2
          gi_wp2
          go_roundw
          case rel => exact ⟨i, _, rfl, Nat.le_of_lt hil, Lib.hid ⟨by have := HS.out.1; have := HIJ.out; omega, HS2.out⟩⟩
          case measure => show ((i : Int).toNat) < ((j : Int).toNat); have := HIJ.out; omega
        · gi_wp2
          go_ret
          exact HS1.out.left (by rw [HF.out.1]; exact List.prefix_rfl) hx2

set_option maxRecDepth 100000 in
set_option maxHeartbeats 1600000 in
theorem down_leaf_true (m l n₀ K N : Nat) (lo hi : Bs) (J Jx : List Pr → World → Prop) (hY : Yields l n₀ K J Jx) (σ : Sig) (ks vs : List Bs) (ns : List Nat) (Cs : List (List Pr)) (L : List Pr)
    (hN : σ N = some ⟨ks, vs, ns⟩) (hl : vs.length = ks.length) (hk : ks.length ≤ 256) (hC : Cs.length = ks.length + 1) (hL : L = inter (ks.zip vs) Cs) (hs : Srt L) (hsk : SrtK ks)
    (hns : ns = []) (hCs : Cs = List.replicate (ks.length + 1) [])
    (acc0 : List Pr) (W0 : World) (hq : Hq n₀ W0 σ) (hj : J acc0 W0) (hK : acc0.length + (L.reverse.filter (inU lo hi true)).length ≤ K) :
    CallsIn Fence.wide m Try.prog 40 (upArgs N l lo hi true) W0 (SOut n₀ J Jx acc0 (L.reverse.filter (inU lo hi true)) (L.reverse.any (ovD lo hi true)) W0) := by
  obtain ⟨ka, kc, c0, hbs⟩ := hq.hp.bs hN (by omega) hi
  have hb0 := bs_cut ks hi hsk
  have hble : bsI ks hi ≤ ks.length := bsI_le hsk
  obtain ⟨C0, hC0, hC1⟩ := Vd_start (hi := hi) hl hC hL hs hble (fun k hk' => by
    obtain ⟨j, hj', e⟩ := List.mem_drop_iff_getElem.1 hk'
    have := hb0.2 (bsI ks hi + j) (by omega) (by omega)
    rw [sx_get (by omega)] at this
    rw [← e]
    exact this)
  obtain ⟨i0, hi0'⟩ : ∃ i0, i0 = bsI ks hi := ⟨_, rfl⟩
  have HI : Hid (∀ j, j < i0 → j < ks.length → lB (sx ks j) hi = true) := Lib.hid (fun j h1 h2 => hb0.1 j (by omega) h2)
  have hi0 : i0 ≤ ks.length := by omega
  have HS0 : Hid (∀ q, Sc (inU lo hi true) (ovD lo hi true) n₀ K J acc0 L.reverse W0 acc0 (Vd ks vs Cs i0) (W0.drewN q)) := Lib.hid (fun q => by
    have h : Sc (inU lo hi true) (ovD lo hi true) n₀ K J acc0 L.reverse W0 acc0 (C0 ++ Vd ks vs Cs i0) (W0.drewN q) := by
      rw [hi0', ← hC0]
      exact ⟨hY.2 _ _ _ hj, ⟨rfl, rfl, rfl, Nat.le_refl _, fun _ _ => rfl⟩, rfl, rfl, mono_down hs, hK⟩
    exact h.skip (fun x hx => by unfold inU; rw [hC1 x hx]; simp) (fun x hx => by unfold ovD; rw [hC1 x hx]; rfl))
  rw [← hi0'] at hbs
  have HBS := Lib.hid hbs
  clear hb0 hble hC0 hC1 hi0'
  have HQ := Lib.hid hq
  have HN := Lib.hid (And.intro hN (And.intro hl hC))
  have HY := Lib.hid hY
  have HCs := Lib.hid hCs
  clear hCs
  clear hbs hq hj hK hY hs hsk hL hN hl hC
  refine callsIn_of_wp Try.func40 rfl trivial ?_ rfl
  simp only [Try.ntmps40, List.size_toArray, List.length_cons, List.length_nil, Nat.reduceAdd, Nat.reduceSub, Array.replicate_succ, Array.replicate_zero, List.push_toArray, List.append_toArray, List.nil_append, List.cons_append]
  gi_wp2
  refine ⟨fun h => (by cases h), (callsIn_wide.2 HBS.out).mono ?_⟩
  rintro e W1 ⟨rfl, q0, rfl⟩
  clear c0 HBS
  gi_wp2
  gi_loopw [11] (fun i wr => ∃ (j : Nat) (acc : List Pr), i = .int .i64 j ∧ j ≤ ks.length ∧ Hid (j ≤ i0 ∧ Sc (inU lo hi true) (ovD lo hi true) n₀ K J acc0 L.reverse W0 acc (Vd ks vs Cs j) wr)) (fun i wr => iv i)
  case atStart => exact ⟨i0, acc0, rfl, hi0, Lib.hid ⟨Nat.le_refl _, HS0.out q0⟩⟩
  case round =>
    clear HS0
    obtain ⟨j, acc, rfl, hj, HS⟩ := hrel
    obtain ⟨da, dc, c2, _, _⟩ := (HQ.out.below HS.out.2.b).hp.f2 HN.out.1
    rw [show ns.length = 0 by rw [hns]; rfl] at c2
    by_cases hlast : j = 0
    · have hV := Vd_last (ks := ks) (vs := vs) (Cs := Cs) hlast
      have HF : Hid (Sc (inU lo hi true) (ovD lo hi true) n₀ K J acc0 L.reverse W0 acc ([]) wr) := Lib.hid (by
        have := HS.out.2
        have e : cx Cs j = [] := by rw [HCs.out]; exact cx_leaf _ _
        rw [hV, e, List.reverse_nil, List.nil_append] at this
        exact this)
      clear hV
      subst hlast
      gi_wp2
      go_ret
      exact HF.out.done
    · obtain ⟨i, hij⟩ : ∃ i, i = j - 1 := ⟨_, rfl⟩
      have hV := Vd_next (Cs := Cs) HN.out.2.1 HN.out.2.2 (by omega) hj
      rw [← hij] at hV
      have hil : i < ks.length := by omega
      have hd : decide (j = 0) = false := decide_eq_false hlast
      have hd2 : ((j : Int) == 0) = false := by rw [beq_eq_false_iff_ne]; omega
      have hd3 : (j == 0) = false := by rw [beq_eq_false_iff_ne]; omega
      have hw := wrap_less j i (by omega) (by omega) hij
      have HIJ := Lib.hid hij
      clear hij
      have HS1 : Hid (Sc (inU lo hi true) (ovD lo hi true) n₀ K J acc0 L.reverse W0 acc ([(sx ks i, sx vs i)] ++ Vd ks vs Cs i) wr) := Lib.hid (by
        have := HS.out.2
        have e : cx Cs j = [] := by rw [HCs.out]; exact cx_leaf _ _
        rw [hV, e, List.reverse_nil, List.nil_append] at this
        exact this)
      clear hV
      obtain ⟨kg, kc, k0, hk1, hk2, hkg, hkc⟩ := (HQ.out.below HS1.out.b).hp.g0 HN.out.1 (by omega)
      obtain ⟨vg, vc, v0, hv1, hv2, hvg, hvc⟩ := (HQ.out.below HS1.out.b).hp.g1 HN.out.1 (by have := HN.out.2.1; omega)
      have ek := hkc i hil
      have ev := hvc i (by have := HN.out.2.1; omega)
      have hvl : i < vs.length := by have := HN.out.2.1; omega
      have HH1 := Lib.hid (HI.out i (by have := HS.out.1; have := HIJ.out; omega) hil)
      clear hkc hvc
      by_cases hov : lB (sx ks i) lo = true
      · have hg : Op.bytesLess (sx ks i).toList lo.toList = true := hov
        have HG := Lib.hid hov
        clear hov
        gi_wp2_with (refine ⟨trivial, ?_⟩)
        gi_quiet (fail)
        gi_wp2
        go_ret
        have e1 : (inU lo hi true) (sx ks i, sx vs i) = false := by unfold inU; rw [show (sx ks i, sx vs i).1 = sx ks i from rfl, HG.out]; rfl
        have e2 : (ovD lo hi true) (sx ks i, sx vs i) = true := by unfold ovD; rw [show (sx ks i, sx vs i).1 = sx ks i from rfl, HG.out, HH1.out]; rfl
        exact HS1.out.stopped (by rw [List.any_cons, e2]; rfl) (by rw [List.filter_cons, e1]; exact HY.out.2 _ _ nq (by simpa using HS1.out.j)) ⟨rfl, rfl, rfl, Nat.le_refl _, fun _ _ => rfl⟩
      · have hov' : lB (sx ks i) lo = false := by simpa using hov
        have hg : Op.bytesLess (sx ks i).toList lo.toList = false := hov'
        have e1 : (inU lo hi true) (sx ks i, sx vs i) = true := by unfold inU; rw [show (sx ks i, sx vs i).1 = sx ks i from rfl, hov', HH1.out]; rfl
        have e2 : (ovD lo hi true) (sx ks i, sx vs i) = false := by unfold ovD; rw [show (sx ks i, sx vs i).1 = sx ks i from rfl, hov', HH1.out]; rfl
        have hf : [(sx ks i, sx vs i)].filter (inU lo hi true) = [(sx ks i, sx vs i)] := by rw [List.filter_cons, e1]; rfl
        have HF := Lib.hid (And.intro hf (show [(sx ks i, sx vs i)].any (ovD lo hi true) = false by rw [List.any_cons, e2]; rfl))
        have hkk := HS1.out.k
        rw [List.filter_append, hf] at hkk
        have hlen : acc.length < K := by simp only [List.length_append, List.length_cons, List.length_nil] at hkk ⊢; omega
        obtain ⟨f1, t1, a1, b1, hy1, hR1⟩ := HY.out.1 (m - 1) acc (sx ks i, sx vs i) wr.drew (HY.out.2 _ _ 1 HS1.out.j) hlen
        have hy : (Instr.yield l #[.string (sx ks i), .string (sx vs i)]).run Try.prog wr.drew = .ok (.round l f1 t1 a1 b1) wr.drew := hy1
        have HR1 := Lib.hid hR1
        clear hkk hf hR1 hy1 hlen e2 e1 hov hov'
        gi_wp2_with (refine ⟨trivial, ?_⟩)
        refine wpIn_region_stI 28 (by kernel_rfl) (by kernel_rfl) ?_
        simp only [List.take_succ_cons, List.take_zero, List.drop_succ_cons, List.drop_zero]
        refine stI_go (by kernel_rfl) (fun K hK => ?_)
        go_simp
        refine hK _ ?_
        clear hK K
        refine stI_go (by kernel_rfl) (fun K hK => ?_)
        go_simp
        refine hK _ ?_
        clear hK K
        refine stI_go (by kernel_rfl) (fun K hK => ?_)
        go_simp
        refine hK _ ?_
        clear hK K
        refine stI_go (by kernel_rfl) (fun K hK => ?_)
        go_simp
        refine hK _ ?_
        clear hK K
        refine stI_go (by kernel_rfl) (fun K hK => ?_)
        go_simp
        refine hK _ ?_
        clear hK K
        refine stI_go (by kernel_rfl) (fun K hK => ?_)
        go_simp
        refine hK _ ?_
        clear hK K
        refine stI_go (by kernel_rfl) (fun K hK => ?_)
        go_simp
        refine hK _ ?_
        clear hK K
        refine stI_go (by kernel_rfl) (fun K hK => ?_)
        go_simp
        refine hK _ ?_
        clear hK K
        refine stI_go (by kernel_rfl) (fun K hK => ?_)
        go_simp
        refine hK _ ?_
        clear hK K
        refine stI_go (by kernel_rfl) (fun K hK => ?_)
        go_simp
        refine hK _ ?_
        clear hK K
        refine stI_go (by kernel_rfl) (fun K hK => ?_)
        go_simp
        refine hK _ ?_
        clear hK K
        refine stI_go (by kernel_rfl) (fun K hK => ?_)
        go_simp
        refine hK _ ?_
        clear hK K
        refine stI_go (by kernel_rfl) (fun K hK => ?_)
        go_simp
        refine hK _ ?_
        clear hK K
        refine stI_go (by kernel_rfl) (fun K hK => ?_)
        go_simp
        refine hK _ ?_
        clear hK K
        refine stI_go (by kernel_rfl) (fun K hK => ?_)
        go_simp
        refine hK _ ?_
        clear hK K
        refine stI_go (by kernel_rfl) (fun K hK => ?_)
        go_simp
        refine hK _ ?_
        clear hK K
        refine stI_go (by kernel_rfl) (fun K hK => ?_)
        go_simp
        refine hK _ ?_
        clear hK K
        refine stI_go (by kernel_rfl) (fun K hK => ?_)
        go_simp
        refine hK _ ?_
        clear hK K
        refine stI_go (by kernel_rfl) (fun K hK => ?_)
        go_simp
        refine hK _ ?_
        clear hK K
        refine stI_go (by kernel_rfl) (fun K hK => ?_)
        go_simp
        refine hK _ ?_
        clear hK K
        refine stI_go (by kernel_rfl) (fun K hK => ?_)
        go_simp
        refine hK _ ?_
        clear hK K
        refine stI_go (by kernel_rfl) (fun K hK => ?_)
        go_simp
        refine hK _ ?_
        clear hK K
        refine stI_go (by kernel_rfl) (fun K hK => ?_)
        go_simp
        refine hK _ ?_
        clear hK K
        refine stI_go (by kernel_rfl) (fun K hK => ?_)
        go_simp
        refine hK _ ?_
        clear hK K
        refine stI_go (by kernel_rfl) (fun K hK => ?_)
        go_simp
        refine hK _ ?_
        clear hK K
        refine stI_go (by kernel_rfl) (fun K hK => ?_)
        go_simp
        refine hK _ ?_
        clear hK K
        refine stI_go (by kernel_rfl) (fun K hK => ?_)
        go_simp
        refine hK _ ?_
        clear hK K
        refine stI_go (by kernel_rfl) (fun K hK => ?_)
        go_simp
        refine hK _ ?_
        clear hK K
        refine stI_nil ?_
        clear k0 v0 ek ev
        gi_wp2
        refine ⟨fun h => (by cases h), HR1.out.mono ?_⟩
        clear HR1 hy
        rintro e W2 (⟨rfl, hJ2, hk2⟩ | ⟨rfl, hx2⟩)
        · have HS2 := Lib.hid (HS1.out.part HF.out.2 (by rw [HF.out.1]; exact hJ2) ((show Below n₀ wr wr.drew from ⟨rfl, rfl, rfl, Nat.le_refl _, fun _ _ => rfl⟩).trans hk2))
          clear hJ2 hk2
          gi_wp2
          go_roundw
          case rel => exact ⟨i, _, rfl, Nat.le_of_lt hil, Lib.hid ⟨by have := HS.out.1; have := HIJ.out; omega, HS2.out⟩⟩
          case measure => show ((i : Int).toNat) < ((j : Int).toNat); have := HIJ.out; omega
        · gi_wp2
          go_ret
          exact HS1.out.left (by rw [HF.out.1]; exact List.prefix_rfl) hx2

end Go.Proofs.Ytegljepgncicjaa
/- Btree: node.down at one node. -/
namespace Go.Proofs.Ytegljepgncicjaa
open Go.ChangeShapes Go.WideShapes Go.ChangeAt Go.RowKit Go.Deep Go.Shelf
set_option linter.unusedVariables false
set_option linter.unusedSimpArgs false
attribute [local go_sem] Oper.semAt_some
attribute [local go_sem, local simp] wide_fn
set_option maxRecDepth 100000 in
set_option maxHeartbeats 1600000 in
theorem down_inner_false (m l n₀ K N : Nat) (lo hi : Bs) (J Jx : List Pr → World → Prop) (hY : Yields l n₀ K J Jx) (σ : Sig) (ks vs : List Bs) (ns : List Nat) (Cs : List (List Pr)) (L : List Pr)
    (hN : σ N = some ⟨ks, vs, ns⟩) (hl : vs.length = ks.length) (hk : ks.length ≤ 256) (hC : Cs.length = ks.length + 1) (hL : L = inter (ks.zip vs) Cs) (hs : Srt L) (hsk : SrtK ks)
    (hns : ns.length = ks.length + 1) (hkid : ∀ j, j ≤ ks.length → ∃ M, ns[j]? = some M ∧ ∀ m acc W, Hq n₀ W σ → J acc W → acc.length + ((cx Cs j).reverse.filter (inU lo hi false)).length ≤ K →
      CallsIn Fence.wide m Try.prog 40 (upArgs M l lo hi false) W (SOut n₀ J Jx acc ((cx Cs j).reverse.filter (inU lo hi false)) ((cx Cs j).reverse.any (ovD lo hi false)) W))
    (acc0 : List Pr) (W0 : World) (hq : Hq n₀ W0 σ) (hj : J acc0 W0) (hK : acc0.length + (L.reverse.filter (inU lo hi false)).length ≤ K) :
    CallsIn Fence.wide m Try.prog 40 (upArgs N l lo hi false) W0 (SOut n₀ J Jx acc0 (L.reverse.filter (inU lo hi false)) (L.reverse.any (ovD lo hi false)) W0) := by
  obtain ⟨ka, kc, c0, hbs⟩ := hq.hp.bs hN (by omega) hi
  obtain ⟨i0, hi0'⟩ : ∃ i0, i0 = ks.length := ⟨_, rfl⟩
  have HI : Hid (∀ j, j < i0 → j < ks.length → True) := Lib.hid (fun _ _ _ => trivial)
  have hi0 : i0 ≤ ks.length := by omega
  have HS0 : Hid (∀ q, Sc (inU lo hi false) (ovD lo hi false) n₀ K J acc0 L.reverse W0 acc0 (Vd ks vs Cs i0) (W0.drewN q)) := Lib.hid (fun q => by
    rw [hi0', ← Vd_all hl hC hL]
    exact ⟨hY.2 _ _ _ hj, ⟨rfl, rfl, rfl, Nat.le_refl _, fun _ _ => rfl⟩, rfl, rfl, mono_down hs, hK⟩)
  have HI0 := Lib.hid hi0'
  clear hi0'
  have HQ := Lib.hid hq
  have HN := Lib.hid (And.intro hN (And.intro hl hC))
  have HY := Lib.hid hY
  have HNS := Lib.hid (And.intro hns hkid)
  clear hns hkid
  clear hbs hq hj hK hY hs hsk hL hN hl hC
  refine callsIn_of_wp Try.func40 rfl trivial ?_ rfl
  simp only [Try.ntmps40, List.size_toArray, List.length_cons, List.length_nil, Nat.reduceAdd, Nat.reduceSub, Array.replicate_succ, Array.replicate_zero, List.push_toArray, List.append_toArray, List.nil_append, List.cons_append]
  gi_wp2
  clear c0
  gi_loopw [11] (fun i wr => ∃ (j : Nat) (acc : List Pr), i = .int .i64 j ∧ j ≤ ks.length ∧ Hid (j ≤ i0 ∧ Sc (inU lo hi false) (ovD lo hi false) n₀ K J acc0 L.reverse W0 acc (Vd ks vs Cs j) wr)) (fun i wr => iv i)
  case atStart => exact ⟨ks.length, acc0, rfl, Nat.le_refl _, Lib.hid ⟨Nat.le_of_eq HI0.out.symm, by have := HS0.out 0; rw [HI0.out] at this; exact this⟩⟩
  case round =>
    clear HS0
    obtain ⟨j, acc, rfl, hj, HS⟩ := hrel
    have hp := (HQ.out.below HS.out.2.b).hp
    obtain ⟨dg, dc, c2, hd1, hd2, hdg, hdc⟩ := hp.g2 HN.out.1 (by rw [HNS.out.1]; omega)
    obtain ⟨M, hM, hkid⟩ := HNS.out.2 j hj
    have ck := hdc j M hM
    have hn0 : 0 < ns.length := by rw [HNS.out.1]; omega
    have hnj : j < ns.length := by rw [HNS.out.1]; omega
    have HV := Lib.hid HS.out.2
    have hkk := HS.out.2.k
    have hVK := Vd_kid (ks := ks) (vs := vs) (Cs := Cs) (j := j)
    rw [hVK] at hkk HV
    have HC := Lib.hid (hkid (m - 1) acc wr (HQ.out.below HS.out.2.b) HS.out.2.j (by rw [List.filter_append, List.length_append] at hkk; omega))
    clear hkk hdc hkid hM hp hVK
    gi_wp2
    refine ⟨fun h => (by cases h), HC.out.mono ?_⟩
    clear HC
    rintro e W2 (⟨hst, rfl, hj2, hb2⟩ | ⟨hst, rfl, hj2, hb2⟩ | ⟨rfl, pre, hpre, hx⟩)
    · have HH := Lib.hid (And.intro hst (And.intro hj2 hb2))
      clear hst hj2 hb2 HV c2 ck
      by_cases hlast : j = 0
      · have hV := Vd_last (ks := ks) (vs := vs) (Cs := Cs) hlast
        have HF : Hid (Sc (inU lo hi false) (ovD lo hi false) n₀ K J acc0 L.reverse W0 (acc ++ (cx Cs j).reverse.filter (inU lo hi false)) ([]) W2) := Lib.hid (by
          have := HS.out.2
          rw [hV] at this
          exact this.part HH.out.1 HH.out.2.1 HH.out.2.2)
        clear hV
        subst hlast
        gi_wp2
        go_ret
        exact HF.out.done
      · obtain ⟨i, hij⟩ : ∃ i, i = j - 1 := ⟨_, rfl⟩
        have hV := Vd_next (Cs := Cs) HN.out.2.1 HN.out.2.2 (by omega) hj
        rw [← hij] at hV
        have hil : i < ks.length := by omega
        have hd : decide (j = 0) = false := decide_eq_false hlast
        have hd2 : ((j : Int) == 0) = false := by rw [beq_eq_false_iff_ne]; omega
        have hd3 : (j == 0) = false := by rw [beq_eq_false_iff_ne]; omega
        have hw := wrap_less j i (by omega) (by omega) hij
        have HIJ := Lib.hid hij
        clear hij
        have HS1 : Hid (Sc (inU lo hi false) (ovD lo hi false) n₀ K J acc0 L.reverse W0 (acc ++ (cx Cs j).reverse.filter (inU lo hi false)) ([(sx ks i, sx vs i)] ++ Vd ks vs Cs i) W2) := Lib.hid (by
          have := HS.out.2
          rw [hV] at this
          exact this.part HH.out.1 HH.out.2.1 HH.out.2.2)
        clear hV
        obtain ⟨kg, kc, k0, hk1, hk2, hkg, hkc⟩ := (HQ.out.below HS1.out.b).hp.g0 HN.out.1 (by omega)
        obtain ⟨vg, vc, v0, hv1, hv2, hvg, hvc⟩ := (HQ.out.below HS1.out.b).hp.g1 HN.out.1 (by have := HN.out.2.1; omega)
        have ek := hkc i hil
        have ev := hvc i (by have := HN.out.2.1; omega)
        have hvl : i < vs.length := by have := HN.out.2.1; omega
        have HH1 := Lib.hid (HI.out i (by have := HS.out.1; have := HIJ.out; omega) hil)
        clear hkc hvc
        by_cases hov : lB (sx ks i) lo = true
        · have hg : Op.bytesLess (sx ks i).toList lo.toList = true := hov
          have HG := Lib.hid hov
          clear hov
          gi_wp2_with (refine ⟨trivial, ?_⟩)
          gi_quiet (fail)
          gi_wp2
          go_ret
          have e1 : (inU lo hi false) (sx ks i, sx vs i) = false := by unfold inU; rw [show (sx ks i, sx vs i).1 = sx ks i from rfl, HG.out]; rfl
          have e2 : (ovD lo hi false) (sx ks i, sx vs i) = true := by unfold ovD; rw [show (sx ks i, sx vs i).1 = sx ks i from rfl, HG.out]; rfl
          exact HS1.out.stopped (by rw [List.any_cons, e2]; rfl) (by rw [List.filter_cons, e1]; exact HY.out.2 _ _ nq (by simpa using HS1.out.j)) ⟨rfl, rfl, rfl, Nat.le_refl _, fun _ _ => rfl⟩
        · have hov' : lB (sx ks i) lo = false := by simpa using hov
          have hg : Op.bytesLess (sx ks i).toList lo.toList = false := hov'
          have e1 : (inU lo hi false) (sx ks i, sx vs i) = true := by unfold inU; rw [show (sx ks i, sx vs i).1 = sx ks i from rfl, hov']; rfl
          have e2 : (ovD lo hi false) (sx ks i, sx vs i) = false := by unfold ovD; rw [show (sx ks i, sx vs i).1 = sx ks i from rfl, hov']; rfl
          have hf : [(sx ks i, sx vs i)].filter (inU lo hi false) = [(sx ks i, sx vs i)] := by rw [List.filter_cons, e1]; rfl
          have HF := Lib.hid (And.intro hf (show [(sx ks i, sx vs i)].any (ovD lo hi false) = false by rw [List.any_cons, e2]; rfl))
          have hkk := HS1.out.k
          rw [List.filter_append, hf] at hkk
          have hlen : (acc ++ (cx Cs j).reverse.filter (inU lo hi false)).length < K := by simp only [List.length_append, List.length_cons, List.length_nil] at hkk ⊢; omega
          obtain ⟨f1, t1, a1, b1, hy1, hR1⟩ := HY.out.1 (m - 1) (acc ++ (cx Cs j).reverse.filter (inU lo hi false)) (sx ks i, sx vs i) W2.drew (HY.out.2 _ _ 1 HS1.out.j) hlen
          have hy : (Instr.yield l #[.string (sx ks i), .string (sx vs i)]).run Try.prog W2.drew = .ok (.round l f1 t1 a1 b1) W2.drew := hy1
          have HR1 := Lib.hid hR1
          clear hkk hf hR1 hy1 hlen e2 e1 hov hov'
          gi_wp2_with (refine ⟨trivial, ?_⟩)
          refine wpIn_region_stI 28 (by kernel_rfl) (by kernel_rfl) ?_
          simp only [List.take_succ_cons, List.take_zero, List.drop_succ_cons, List.drop_zero]
          refine stI_go (by kernel_rfl) (fun K hK => ?_)
          go_simp
          refine hK _ ?_
          clear hK K
          refine stI_go (by kernel_rfl) (fun K hK => ?_)
          go_simp
          refine hK _ ?_
          clear hK K
          refine stI_go (by kernel_rfl) (fun K hK => ?_)
          go_simp
          refine hK _ ?_
          clear hK K
          refine stI_go (by kernel_rfl) (fun K hK => ?_)
          go_simp
          refine hK _ ?_
          clear hK K
          refine stI_go (by kernel_rfl) (fun K hK => ?_)
          go_simp
          refine hK _ ?_
          clear hK K
          refine stI_go (by kernel_rfl) (fun K hK => ?_)
          go_simp
          refine hK _ ?_
          clear hK K
          refine stI_go (by kernel_rfl) (fun K hK => ?_)
          go_simp
          refine hK _ ?_
          clear hK K
          refine stI_go (by kernel_rfl) (fun K hK => ?_)
          go_simp
          refine hK _ ?_
          clear hK K
          refine stI_go (by kernel_rfl) (fun K hK => ?_)
          go_simp
          refine hK _ ?_
          clear hK K
          refine stI_go (by kernel_rfl) (fun K hK => ?_)
          go_simp
          refine hK _ ?_
          clear hK K
          refine stI_go (by kernel_rfl) (fun K hK => ?_)
          go_simp
          refine hK _ ?_
          clear hK K
          refine stI_go (by kernel_rfl) (fun K hK => ?_)
          go_simp
          refine hK _ ?_
          clear hK K
          refine stI_go (by kernel_rfl) (fun K hK => ?_)
          go_simp
          refine hK _ ?_
          clear hK K
          refine stI_go (by kernel_rfl) (fun K hK => ?_)
          go_simp
          refine hK _ ?_
          clear hK K
          refine stI_go (by kernel_rfl) (fun K hK => ?_)
          go_simp
          refine hK _ ?_
          clear hK K
          refine stI_go (by kernel_rfl) (fun K hK => ?_)
          go_simp
          refine hK _ ?_
          clear hK K
          refine stI_go (by kernel_rfl) (fun K hK => ?_)
          go_simp
          refine hK _ ?_
          clear hK K
          refine stI_go (by kernel_rfl) (fun K hK => ?_)
          go_simp
          refine hK _ ?_
          clear hK K
          refine stI_go (by kernel_rfl) (fun K hK => ?_)
          go_simp
          refine hK _ ?_
          clear hK K
          refine stI_go (by kernel_rfl) (fun K hK => ?_)
          go_simp
          refine hK _ ?_
          clear hK K
          refine stI_go (by kernel_rfl) (fun K hK => ?_)
          go_simp
          refine hK _ ?_
          clear hK K
          refine stI_go (by kernel_rfl) (fun K hK => ?_)
          go_simp
          refine hK _ ?_
          clear hK K
          refine stI_go (by kernel_rfl) (fun K hK => ?_)
          go_simp
          refine hK _ ?_
          clear hK K
          refine stI_go (by kernel_rfl) (fun K hK => ?_)
          go_simp
          refine hK _ ?_
          clear hK K
          refine stI_go (by kernel_rfl) (fun K hK => ?_)
          go_simp
          refine hK _ ?_
          clear hK K
          refine stI_go (by kernel_rfl) (fun K hK => ?_)
          go_simp
          refine hK _ ?_
          clear hK K
          refine stI_go (by kernel_rfl) (fun K hK => ?_)
          go_simp
          refine hK _ ?_
          clear hK K
          refine stI_go (by kernel_rfl) (fun K hK => ?_)
          go_simp
          refine hK _ ?_
          clear hK K
          refine stI_nil ?_
          clear k0 v0 ek ev
          gi_wp2
          refine ⟨fun h => (by cases h), HR1.out.mono ?_⟩
          clear HR1 hy
          rintro e W3 (⟨rfl, hJ2, hk2⟩ | ⟨rfl, hx2⟩)
          · have HS2 := Lib.hid (HS1.out.part HF.out.2 (by rw [HF.out.1]; exact hJ2) ((show Below n₀ W2 W2.drew from ⟨rfl, rfl, rfl, Nat.le_refl _, fun _ _ => rfl⟩).trans hk2))
            clear hJ2 hk2
            gi_wp2
            go_roundw
            case rel => exact ⟨i, _, rfl, Nat.le_of_lt hil, Lib.hid ⟨by have := HS.out.1; have := HIJ.out; omega, HS2.out⟩⟩
            case measure => show ((i : Int).toNat) < ((j : Int).toNat); have := HIJ.out; omega
          · gi_wp2
            go_ret
            exact HS1.out.left (by rw [HF.out.1]; exact List.prefix_rfl) hx2
    · have HH := Lib.hid (HV.out.stopped (Jx := Jx) hst hj2 hb2)
      clear hst hj2 hb2 HV c2 ck
      gi_wp2
      go_ret
      exact HH.out
    · have HH := Lib.hid (HV.out.left hpre hx)
      clear hpre hx HV c2 ck
      gi_wp2
      go_ret
      exact HH.out
set_option maxRecDepth 100000 in
set_option maxHeartbeats 1600000 in
theorem down_inner_true (m l n₀ K N : Nat) (lo hi : Bs) (J Jx : List Pr → World → Prop) (hY : Yields l n₀ K J Jx) (σ : Sig) (ks vs : List Bs) (ns : List Nat) (Cs : List (List Pr)) (L : List Pr)
    (hN : σ N = some ⟨ks, vs, ns⟩) (hl : vs.length = ks.length) (hk : ks.length ≤ 256) (hC : Cs.length = ks.length + 1) (hL : L = inter (ks.zip vs) Cs) (hs : Srt L) (hsk : SrtK ks)
    (hns : ns.length = ks.length + 1) (hkid : ∀ j, j ≤ ks.length → ∃ M, ns[j]? = some M ∧ ∀ m acc W, Hq n₀ W σ → J acc W → acc.length + ((cx Cs j).reverse.filter (inU lo hi true)).length ≤ K →
      CallsIn Fence.wide m Try.prog 40 (upArgs M l lo hi true) W (SOut n₀ J Jx acc ((cx Cs j).reverse.filter (inU lo hi true)) ((cx Cs j).reverse.any (ovD lo hi true)) W))
    (acc0 : List Pr) (W0 : World) (hq : Hq n₀ W0 σ) (hj : J acc0 W0) (hK : acc0.length + (L.reverse.filter (inU lo hi true)).length ≤ K) :
    CallsIn Fence.wide m Try.prog 40 (upArgs N l lo hi true) W0 (SOut n₀ J Jx acc0 (L.reverse.filter (inU lo hi true)) (L.reverse.any (ovD lo hi true)) W0) := by
  obtain ⟨ka, kc, c0, hbs⟩ := hq.hp.bs hN (by omega) hi
  have hb0 := bs_cut ks hi hsk
  have hble : bsI ks hi ≤ ks.length := bsI_le hsk
  obtain ⟨C0, hC0, hC1⟩ := Vd_start (hi := hi) hl hC hL hs hble (fun k hk' => by
    obtain ⟨j, hj', e⟩ := List.mem_drop_iff_getElem.1 hk'
    have := hb0.2 (bsI ks hi + j) (by omega) (by omega)
    rw [sx_get (by omega)] at this
    rw [← e]
    exact this)
  obtain ⟨i0, hi0'⟩ : ∃ i0, i0 = bsI ks hi := ⟨_, rfl⟩
  have HI : Hid (∀ j, j < i0 → j < ks.length → lB (sx ks j) hi = true) := Lib.hid (fun j h1 h2 => hb0.1 j (by omega) h2)
  have hi0 : i0 ≤ ks.length := by omega
  have HS0 : Hid (∀ q, Sc (inU lo hi true) (ovD lo hi true) n₀ K J acc0 L.reverse W0 acc0 (Vd ks vs Cs i0) (W0.drewN q)) := Lib.hid (fun q => by
    have h : Sc (inU lo hi true) (ovD lo hi true) n₀ K J acc0 L.reverse W0 acc0 (C0 ++ Vd ks vs Cs i0) (W0.drewN q) := by
      rw [hi0', ← hC0]
      exact ⟨hY.2 _ _ _ hj, ⟨rfl, rfl, rfl, Nat.le_refl _, fun _ _ => rfl⟩, rfl, rfl, mono_down hs, hK⟩
    exact h.skip (fun x hx => by unfold inU; rw [hC1 x hx]; simp) (fun x hx => by unfold ovD; rw [hC1 x hx]; rfl))
  rw [← hi0'] at hbs
  have HBS := Lib.hid hbs
  clear hb0 hble hC0 hC1 hi0'
  have HQ := Lib.hid hq
  have HN := Lib.hid (And.intro hN (And.intro hl hC))
  have HY := Lib.hid hY
  have HNS := Lib.hid (And.intro hns hkid)
  clear hns hkid
  clear hbs hq hj hK hY hs hsk hL hN hl hC
  refine callsIn_of_wp Try.func40 rfl trivial ?_ rfl
  simp only [Try.ntmps40, List.size_toArray, List.length_cons, List.length_nil, Nat.reduceAdd, Nat.reduceSub, Array.replicate_succ, Array.replicate_zero, List.push_toArray, List.append_toArray, List.nil_append, List.cons_append]
  gi_wp2
  refine ⟨fun h => (by cases h), (callsIn_wide.2 HBS.out).mono ?_⟩
  rintro e W1 ⟨rfl, q0, rfl⟩
  clear c0 HBS
  gi_wp2
  gi_loopw [11] (fun i wr => ∃ (j : Nat) (acc : List Pr), i = .int .i64 j ∧ j ≤ ks.length ∧ Hid (j ≤ i0 ∧ Sc (inU lo hi true) (ovD lo hi true) n₀ K J acc0 L.reverse W0 acc (Vd ks vs Cs j) wr)) (fun i wr => iv i)
  case atStart => exact ⟨i0, acc0, rfl, hi0, Lib.hid ⟨Nat.le_refl _, HS0.out q0⟩⟩
  case round =>
    clear HS0
    obtain ⟨j, acc, rfl, hj, HS⟩ := hrel
    have hp := (HQ.out.below HS.out.2.b).hp
    obtain ⟨dg, dc, c2, hd1, hd2, hdg, hdc⟩ := hp.g2 HN.out.1 (by rw [HNS.out.1]; omega)
    obtain ⟨M, hM, hkid⟩ := HNS.out.2 j hj
    have ck := hdc j M hM
    have hn0 : 0 < ns.length := by rw [HNS.out.1]; omega
    have hnj : j < ns.length := by rw [HNS.out.1]; omega
    have HV := Lib.hid HS.out.2
    have hkk := HS.out.2.k
    have hVK := Vd_kid (ks := ks) (vs := vs) (Cs := Cs) (j := j)
    rw [hVK] at hkk HV
    have HC := Lib.hid (hkid (m - 1) acc wr (HQ.out.below HS.out.2.b) HS.out.2.j (by rw [List.filter_append, List.length_append] at hkk; omega))
    clear hkk hdc hkid hM hp hVK
    gi_wp2
    refine ⟨fun h => (by cases h), HC.out.mono ?_⟩
    clear HC
    rintro e W2 (⟨hst, rfl, hj2, hb2⟩ | ⟨hst, rfl, hj2, hb2⟩ | ⟨rfl, pre, hpre, hx⟩)
    · have HH := Lib.hid (And.intro hst (And.intro hj2 hb2))
      clear hst hj2 hb2 HV c2 ck
      by_cases hlast : j = 0
      · have hV := Vd_last (ks := ks) (vs := vs) (Cs := Cs) hlast
        have HF : Hid (Sc (inU lo hi true) (ovD lo hi true) n₀ K J acc0 L.reverse W0 (acc ++ (cx Cs j).reverse.filter (inU lo hi true)) ([]) W2) := Lib.hid (by
          have := HS.out.2
          rw [hV] at this
          exact this.part HH.out.1 HH.out.2.1 HH.out.2.2)
        clear hV
        subst hlast
        gi_wp2
        go_ret
        exact HF.out.done
      · obtain ⟨i, hij⟩ : ∃ i, i = j - 1 := ⟨_, rfl⟩
        have hV := Vd_next (Cs := Cs) HN.out.2.1 HN.out.2.2 (by omega) hj
        rw [← hij] at hV
        have hil : i < ks.length := by omega
        have hd : decide (j = 0) = false := decide_eq_false hlast
        have hd2 : ((j : Int) == 0) = false := by rw [beq_eq_false_iff_ne]; omega
        have hd3 : (j == 0) = false := by rw [beq_eq_false_iff_ne]; omega
        have hw := wrap_less j i (by omega) (by omega) hij
        have HIJ := Lib.hid hij
        clear hij
        have HS1 : Hid (Sc (inU lo hi true) (ovD lo hi true) n₀ K J acc0 L.reverse W0 (acc ++ (cx Cs j).reverse.filter (inU lo hi true)) ([(sx ks i, sx vs i)] ++ Vd ks vs Cs i) W2) := Lib.hid (by
          have := HS.out.2
          rw [hV] at this
          exact this.part HH.out.1 HH.out.2.1 HH.out.2.2)
        clear hV
        obtain ⟨kg, kc, k0, hk1, hk2, hkg, hkc⟩ := (HQ.out.below HS1.out.b).hp.g0 HN.out.1 (by omega)
        obtain ⟨vg, vc, v0, hv1, hv2, hvg, hvc⟩ := (HQ.out.below HS1.out.b).hp.g1 HN.out.1 (by have := HN.out.2.1; omega)
        have ek := hkc i hil
        have ev := hvc i (by have := HN.out.2.1; omega)
        have hvl : i < vs.length := by have := HN.out.2.1; omega
        have HH1 := Lib.hid (HI.out i (by have := HS.out.1; have := HIJ.out; omega) hil)
        clear hkc hvc
        by_cases hov : lB (sx ks i) lo = true
        · have hg : Op.bytesLess (sx ks i).toList lo.toList = true := hov
          have HG := Lib.hid hov
          clear hov
          gi_wp2_with (refine ⟨trivial, ?_⟩)
          gi_quiet (fail)
          gi_wp2
          go_ret
          have e1 : (inU lo hi true) (sx ks i, sx vs i) = false := by unfold inU; rw [show (sx ks i, sx vs i).1 = sx ks i from rfl, HG.out]; rfl
          have e2 : (ovD lo hi true) (sx ks i, sx vs i) = true := by unfold ovD; rw [show (sx ks i, sx vs i).1 = sx ks i from rfl, HG.out, HH1.out]; rfl
          exact HS1.out.stopped (by rw [List.any_cons, e2]; rfl) (by rw [List.filter_cons, e1]; exact HY.out.2 _ _ nq (by simpa using HS1.out.j)) ⟨rfl, rfl, rfl, Nat.le_refl _, fun _ _ => rfl⟩
        · have hov' : lB (sx ks i) lo = false := by simpa using hov
          have hg : Op.bytesLess (sx ks i).toList lo.toList = false := hov'
          have e1 : (inU lo hi true) (sx ks i, sx vs i) = true := by unfold inU; rw [show (sx ks i, sx vs i).1 = sx ks i from rfl, hov', HH1.out]; rfl
          have e2 : (ovD lo hi true) (sx ks i, sx vs i) = false := by unfold ovD; rw [show (sx ks i, sx vs i).1 = sx ks i from rfl, hov', HH1.out]; rfl
          have hf : [(sx ks i, sx vs i)].filter (inU lo hi true) = [(sx ks i, sx vs i)] := by rw [List.filter_cons, e1]; rfl
          have HF := Lib.hid (And.intro hf (show [(sx ks i, sx vs i)].any (ovD lo hi true) = false by rw [List.any_cons, e2]; rfl))
          have hkk := HS1.out.k
          rw [List.filter_append, hf] at hkk
          have hlen : (acc ++ (cx Cs j).reverse.filter (inU lo hi true)).length < K := by simp only [List.length_append, List.length_cons, List.length_nil] at hkk ⊢; omega
          obtain ⟨f1, t1, a1, b1, hy1, hR1⟩ := HY.out.1 (m - 1) (acc ++ (cx Cs j).reverse.filter (inU lo hi true)) (sx ks i, sx vs i) W2.drew (HY.out.2 _ _ 1 HS1.out.j) hlen
          have hy : (Instr.yield l #[.string (sx ks i), .string (sx vs i)]).run Try.prog W2.drew = .ok (.round l f1 t1 a1 b1) W2.drew := hy1
          have HR1 := Lib.hid hR1
          clear hkk hf hR1 hy1 hlen e2 e1 hov hov'
          gi_wp2_with (refine ⟨trivial, ?_⟩)
          refine wpIn_region_stI 28 (by kernel_rfl) (by kernel_rfl) ?_
          simp only [List.take_succ_cons, List.take_zero, List.drop_succ_cons, List.drop_zero]
          refine stI_go (by kernel_rfl) (fun K hK => ?_)
          go_simp
          refine hK _ ?_
          clear hK K
          refine stI_go (by kernel_rfl) (fun K hK => ?_)
          go_simp
          refine hK _ ?_
          clear hK K
          refine stI_go (by kernel_rfl) (fun K hK => ?_)
          go_simp
          refine hK _ ?_
          clear hK K
          refine stI_go (by kernel_rfl) (fun K hK => ?_)
          go_simp
          refine hK _ ?_
          clear hK K
          refine stI_go (by kernel_rfl) (fun K hK => ?_)
          go_simp
          refine hK _ ?_
          clear hK K
          refine stI_go (by kernel_rfl) (fun K hK => ?_)
          go_simp
          refine hK _ ?_
          clear hK K
          refine stI_go (by kernel_rfl) (fun K hK => ?_)
          go_simp
          refine hK _ ?_
          clear hK K
          refine stI_go (by kernel_rfl) (fun K hK => ?_)
          go_simp
          refine hK _ ?_
          clear hK K
          refine stI_go (by kernel_rfl) (fun K hK => ?_)
          go_simp
          refine hK _ ?_
          clear hK K
          refine stI_go (by kernel_rfl) (fun K hK => ?_)
          go_simp
          refine hK _ ?_
          clear hK K
          refine stI_go (by kernel_rfl) (fun K hK => ?_)
          go_simp
          refine hK _ ?_
          clear hK K
          refine stI_go (by kernel_rfl) (fun K hK => ?_)
          go_simp
          refine hK _ ?_
          clear hK K
          refine stI_go (by kernel_rfl) (fun K hK => ?_)
          go_simp
          refine hK _ ?_
          clear hK K
          refine stI_go (by kernel_rfl) (fun K hK => ?_)
          go_simp
          refine hK _ ?_
          clear hK K
          refine stI_go (by kernel_rfl) (fun K hK => ?_)
          go_simp
          refine hK _ ?_
          clear hK K
          refine stI_go (by kernel_rfl) (fun K hK => ?_)
          go_simp
          refine hK _ ?_
          clear hK K
          refine stI_go (by kernel_rfl) (fun K hK => ?_)
          go_simp
          refine hK _ ?_
          clear hK K
          refine stI_go (by kernel_rfl) (fun K hK => ?_)
          go_simp
          refine hK _ ?_
          clear hK K
          refine stI_go (by kernel_rfl) (fun K hK => ?_)
          go_simp
          refine hK _ ?_
          clear hK K
          refine stI_go (by kernel_rfl) (fun K hK => ?_)
          go_simp
          refine hK _ ?_
          clear hK K
          refine stI_go (by kernel_rfl) (fun K hK => ?_)
          go_simp
          refine hK _ ?_
          clear hK K
          refine stI_go (by kernel_rfl) (fun K hK => ?_)
          go_simp
          refine hK _ ?_
          clear hK K
          refine stI_go (by kernel_rfl) (fun K hK => ?_)
          go_simp
          refine hK _ ?_
          clear hK K
          refine stI_go (by kernel_rfl) (fun K hK => ?_)
          go_simp
          refine hK _ ?_
          clear hK K
          refine stI_go (by kernel_rfl) (fun K hK => ?_)
          go_simp
          refine hK _ ?_
          clear hK K
          refine stI_go (by kernel_rfl) (fun K hK => ?_)
          go_simp
          refine hK _ ?_
          clear hK K
          refine stI_go (by kernel_rfl) (fun K hK => ?_)
          go_simp
          refine hK _ ?_
          clear hK K
          refine stI_go (by kernel_rfl) (fun K hK => ?_)
          go_simp
          refine hK _ ?_
          clear hK K
          refine stI_nil ?_
          clear k0 v0 ek ev
          gi_wp2
          refine ⟨fun h => (by cases h), HR1.out.mono ?_⟩
          clear HR1 hy
          rintro e W3 (⟨rfl, hJ2, hk2⟩ | ⟨rfl, hx2⟩)
          · have HS2 := Lib.hid (HS1.out.part HF.out.2 (by rw [HF.out.1]; exact hJ2) ((show Below n₀ W2 W2.drew from ⟨rfl, rfl, rfl, Nat.le_refl _, fun _ _ => rfl⟩).trans hk2))
            clear hJ2 hk2
            gi_wp2
            go_roundw
            case rel => exact ⟨i, _, rfl, Nat.le_of_lt hil, Lib.hid ⟨by have := HS.out.1; have := HIJ.out; omega, HS2.out⟩⟩
            case measure => show ((i : Int).toNat) < ((j : Int).toNat); have := HIJ.out; omega
          · gi_wp2
            go_ret
            exact HS1.out.left (by rw [HF.out.1]; exact List.prefix_rfl) hx2
    · have HH := Lib.hid (HV.out.stopped (Jx := Jx) hst hj2 hb2)
      clear hst hj2 hb2 HV c2 ck
      gi_wp2
      go_ret
      exact HH.out
    · have HH := Lib.hid (HV.out.left hpre hx)
      clear hpre hx HV c2 ck
      gi_wp2
      go_ret
      exact HH.out
end Go.Proofs.Ytegljepgncicjaa
/- Btree: up and down on any tree. -/
namespace Go.Proofs.Ytegljepgncicjaa
open Go.ChangeShapes Go.WideShapes Go.ChangeAt Go.RowKit Go.Deep Go.Shelf
set_option linter.unusedVariables false
set_option linter.unusedSimpArgs false
theorem kid_at {σ : Sig} {T : Nat → Nat → Nat → List Pr → (Nat → Prop) → Prop} {N : Nat} {ks vs : List Bs} {cs : List Kid} {L : List Pr} {S : Nat → Prop} (h : Inn σ T N ks vs cs L S) (hs : Srt L) {j : Nat} (hj : j ≤ ks.length) :
    ∃ c, c ∈ cs ∧ (cs.map (·.id))[j]? = some c.id ∧ cx (cs.map (·.L)) j = c.L ∧ Srt c.L := by
  obtain ⟨A, x, C, hcs, hA, hC, hL⟩ := h.around j hj
  refine ⟨x, by rw [hcs]; simp, ?_, ?_, ?_⟩
  · rw [hcs, List.map_append, List.map_cons, List.getElem?_append_right (by rw [List.length_map, hA]; exact Nat.le_refl _), List.length_map, hA, Nat.sub_self]
    rfl
  · unfold cx
    rw [hcs, List.map_append, List.map_cons, List.getElem?_append_right (by rw [List.length_map, hA]; exact Nat.le_refl _), List.length_map, hA, Nat.sub_self]
    rfl
  · rw [hL] at hs
    exact hs.right.left
theorem up_T (l n₀ K o : Nat) (lo hi : Bs) (bd : Bool) (J Jx : List Pr → World → Prop) (hY : Yields l n₀ K J Jx) (σ : Sig) (ho : o ≤ 256) :
    ∀ (h lo' hi' N : Nat) (L : List Pr) (S : Nat → Prop), IsT σ o h lo' hi' N L S → hi' ≤ 256 → Srt L → ∀ (m : Nat) (acc : List Pr) (W : World), Hq n₀ W σ → J acc W → acc.length + (L.filter (inU lo hi bd)).length ≤ K →
    CallsIn Fence.wide m Try.prog 41 (upArgs N l lo hi bd) W (SOut n₀ J Jx acc (L.filter (inU lo hi bd)) (L.any (ovU lo hi bd)) W) := by
  intro h
  induction h with
  | zero =>
    intro lo' hi' N L S hT hh hs m acc W hq hj hK
    have hsk := fun nd hN => hT.srtK (nd := nd) hs hN
    obtain ⟨ks, vs, h1, h2, h3, h4, h5, h6, h7⟩ := hT
    have hz : (ks.zip vs).length = ks.length := by simp [h2]
    exact up_leaf m l n₀ K N lo hi bd J Jx hY σ ks vs [] (List.replicate (ks.length + 1) []) L h1 h2 (by omega) (by simp) (by rw [h5]; have := inter_leaf (ks.zip vs); rw [hz] at this; exact this.symm) hs (hsk _ h1) rfl rfl acc W hq hj hK
  | succ h ih =>
    intro lo' hi' N L S hT hh hs m acc W hq hj hK
    have hsk := fun nd hN => hT.srtK (nd := nd) hs hN
    obtain ⟨ks, vs, cs, h1, h2, h3, h4⟩ := hT
    refine up_inner m l n₀ K N lo hi bd J Jx hY σ ks vs (cs.map (·.id)) (cs.map (·.L)) L h3.at_ h3.lv (by omega) (by rw [List.length_map, h3.lc]) h3.eL hs (hsk _ h3.at_) (by rw [List.length_map, h3.lc]) (fun j hj2 => ?_) acc W hq hj hK
    obtain ⟨c, hc, e1, e2, e3⟩ := kid_at h3 hs hj2
    refine ⟨c.id, e1, ?_⟩
    rw [e2]
    exact fun m acc W hq hj hK => ih c.lo c.hi c.id c.L c.S (h3.kids c hc).1 (by rw [(h4 c hc).2]; exact ho) e3 m acc W hq hj hK
theorem down_T (l n₀ K o : Nat) (lo hi : Bs) (bd : Bool) (J Jx : List Pr → World → Prop) (hY : Yields l n₀ K J Jx) (σ : Sig) (ho : o ≤ 256) :
    ∀ (h lo' hi' N : Nat) (L : List Pr) (S : Nat → Prop), IsT σ o h lo' hi' N L S → hi' ≤ 256 → Srt L → ∀ (m : Nat) (acc : List Pr) (W : World), Hq n₀ W σ → J acc W → acc.length + (L.reverse.filter (inU lo hi bd)).length ≤ K →
    CallsIn Fence.wide m Try.prog 40 (upArgs N l lo hi bd) W (SOut n₀ J Jx acc (L.reverse.filter (inU lo hi bd)) (L.reverse.any (ovD lo hi bd)) W) := by
  intro h
  induction h with
  | zero =>
    intro lo' hi' N L S hT hh hs m acc W hq hj hK
    have hsk := fun nd hN => hT.srtK (nd := nd) hs hN
    obtain ⟨ks, vs, h1, h2, h3, h4, h5, h6, h7⟩ := hT
    have hz : (ks.zip vs).length = ks.length := by simp [h2]
    have hL : L = inter (ks.zip vs) (List.replicate (ks.length + 1) []) := by rw [h5]; have := inter_leaf (ks.zip vs); rw [hz] at this; exact this.symm
    cases bd with
    | false => exact down_leaf_false m l n₀ K N lo hi J Jx hY σ ks vs [] _ L h1 h2 (by omega) (by simp) hL hs (hsk _ h1) rfl rfl acc W hq hj hK
    | true => exact down_leaf_true m l n₀ K N lo hi J Jx hY σ ks vs [] _ L h1 h2 (by omega) (by simp) hL hs (hsk _ h1) rfl rfl acc W hq hj hK
  | succ h ih =>
    intro lo' hi' N L S hT hh hs m acc W hq hj hK
    have hsk := fun nd hN => hT.srtK (nd := nd) hs hN
    obtain ⟨ks, vs, cs, h1, h2, h3, h4⟩ := hT
    have hkid : ∀ j, j ≤ ks.length → ∃ M, (cs.map (·.id))[j]? = some M ∧ ∀ m acc W, Hq n₀ W σ → J acc W → acc.length + ((cx (cs.map (·.L)) j).reverse.filter (inU lo hi bd)).length ≤ K →
        CallsIn Fence.wide m Try.prog 40 (upArgs M l lo hi bd) W (SOut n₀ J Jx acc ((cx (cs.map (·.L)) j).reverse.filter (inU lo hi bd)) ((cx (cs.map (·.L)) j).reverse.any (ovD lo hi bd)) W) := by
      intro j hj2
      obtain ⟨c, hc, e1, e2, e3⟩ := kid_at h3 hs hj2
      refine ⟨c.id, e1, ?_⟩
      rw [e2]
      exact fun m acc W hq hj hK => ih c.lo c.hi c.id c.L c.S (h3.kids c hc).1 (by rw [(h4 c hc).2]; exact ho) e3 m acc W hq hj hK
    cases bd with
    | false => exact down_inner_false m l n₀ K N lo hi J Jx hY σ ks vs (cs.map (·.id)) (cs.map (·.L)) L h3.at_ h3.lv (by omega) (by rw [List.length_map, h3.lc]) h3.eL hs (hsk _ h3.at_) (by rw [List.length_map, h3.lc]) hkid acc W hq hj hK
    | true => exact down_inner_true m l n₀ K N lo hi J Jx hY σ ks vs (cs.map (·.id)) (cs.map (·.L)) L h3.at_ h3.lv (by omega) (by rw [List.length_map, h3.lc]) h3.eL hs (hsk _ h3.at_) (by rw [List.length_map, h3.lc]) hkid acc W hq hj hK
end Go.Proofs.Ytegljepgncicjaa
