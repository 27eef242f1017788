/- Btree: what split makes of the trees. -/
import Derived.Test.YtegljepgncicjaaBu7b
namespace Go.Proofs.Ytegljepgncicjaa
open Go.ChangeShapes Go.WideShapes Go.ChangeAt Go.RowKit Go.Deep
set_option linter.unusedVariables false
set_option linter.unusedSimpArgs false
theorem inter_split : ∀ (m : Nat) (ks : List Pr) (cs : List (List Pr)) (p : Pr), cs.length = ks.length + 1 → ks[m]? = some p →
    inter ks cs = inter (ks.take m) (cs.take (m + 1)) ++ p :: inter (ks.drop (m + 1)) (cs.drop (m + 1))
  | _, [], _, _, _, h => by simp at h
  | _, _ :: _, [], _, h, _ => by simp at h
  | _, _ :: _, [_], _, h, _ => by simp at h
  | 0, k :: ks, c :: d :: cs, p, h, hp => by
    simp at hp
    subst hp
    show c ++ (k :: (d ++ interR ks cs)) = (c ++ []) ++ k :: (d ++ interR ks cs)
    rw [List.append_nil]
  | m + 1, k :: ks, c :: d :: cs, p, h, hp => by
    have ih := inter_split m ks (d :: cs) p (by simpa using h) (by simpa using hp)
    have e1 : inter (k :: ks) (c :: d :: cs) = c ++ k :: inter ks (d :: cs) := rfl
    have e2 : inter ((k :: ks).take (m + 1)) ((c :: d :: cs).take (m + 1 + 1)) = c ++ k :: inter (ks.take m) ((d :: cs).take (m + 1)) := rfl
    rw [e1, e2, ih, List.append_assoc]
    rfl
/-- the sets of some kids and a node -/
def UnS (N : Nat) (cs : List Kid) (k : Nat) : Prop := k = N ∨ ∃ c ∈ cs, c.S k
theorem zip_ins (ks vs : List Bs) (i : Nat) (k v : Bs) (hl : vs.length = ks.length) : (ks.take i ++ k :: ks.drop i).zip (vs.take i ++ v :: vs.drop i) = (ks.zip vs).take i ++ (k, v) :: (ks.zip vs).drop i := by
  rw [List.zip_append (by simp [hl]), zip_take, zip_drop]
  rfl
theorem zip_get (ks vs : List Bs) (m : Nat) (h : m < ks.length) (hl : vs.length = ks.length) : (ks.zip vs)[m]? = some (sx ks m, sx vs m) := by
  rw [List.getElem?_eq_getElem (by rw [List.length_zip]; omega), List.getElem_zip, sx_get h, sx_get (by omega)]
/-- a part of a list of kids, at a store that agrees on their sets -/
theorem kids_part {σ σ' : Sig} {o h : Nat} {N : Nat} {cs cs' : List Kid} {S : Nat → Prop} (hk : ∀ c ∈ cs, IsT σ o h c.lo c.hi c.id c.L c.S ∧ ∀ k, c.S k → S k ∧ k ≠ N) (hsub : ∀ c ∈ cs', c ∈ cs) (he : ∀ c ∈ cs', ∀ k, c.S k → σ' k = σ k) :
    ∀ c ∈ cs', IsT σ' o h c.lo c.hi c.id c.L c.S := fun c hc => ((hk c (hsub c hc)).1).congr (he c hc)
theorem Inn.mem {σ : Sig} {o h N : Nat} {ks vs : List Bs} {cs : List Kid} {L : List Pr} {S : Nat → Prop} (hI : Inn σ (IsT σ o h) N ks vs cs L S) {c : Kid} (hc : c ∈ cs) : c.S c.id ∧ (∀ k, c.S k → σ k ≠ none) ∧ (∀ k, c.S k → S k ∧ k ≠ N) := by
  obtain ⟨h1, h2⟩ := hI.kids c hc
  obtain ⟨nd, _, _, _, _, h3, h4, _⟩ := h1.node
  exact ⟨h3, h4, h2⟩
/-- a kid with o + 1 keys becomes two -/
theorem kid_split {σ σ' : Sig} {o h l R m : Nat} {x : Kid} {lk lv : List Bs} {ln : List Nat} (hx : IsT σ o h x.lo x.hi x.id x.L x.S) (hl : σ x.id = some ⟨lk, lv, ln⟩) (hlen : lk.length = o + 1) (ho : 4 ≤ o) (hm : m = lk.length / 2) (hR : σ R = none)
    (h1 : σ' x.id = some ⟨lk.take m, lv.take m, ln.take (m + 1)⟩) (h2 : σ' R = some ⟨lk.drop (m + 1), lv.drop (m + 1), ln.drop (m + 1)⟩) (he : ∀ k, x.S k → k ≠ x.id → σ' k = σ k) :
    ∃ y z : Kid, y.id = x.id ∧ z.id = R ∧ y.lo = o / 2 ∧ y.hi = o ∧ z.lo = o / 2 ∧ z.hi = o ∧ IsT σ' o h (o / 2) o y.id y.L y.S ∧ IsT σ' o h (o / 2) o z.id z.L z.S ∧
      x.L = y.L ++ (sx lk m, sx lv m) :: z.L ∧ (∀ k, y.S k → x.S k) ∧ (∀ k, z.S k → k = R ∨ x.S k) ∧ (∀ k, y.S k → ¬ z.S k) := by
  have hdom : ∀ k, x.S k → σ k ≠ none := (hx.node).choose_spec.2.2.2.2.2.1
  have hRx : ¬ x.S R := fun h => hdom R h hR
  have hm1 : m < lk.length := by omega
  cases h with
  | zero =>
    obtain ⟨ks, vs, e1, e2, e3, e4, e5, e6, e7⟩ := hx
    rw [hl] at e1
    cases e1
    refine ⟨⟨x.id, (lk.take m).zip (lv.take m), x.S, o / 2, o⟩, ⟨R, (lk.drop (m + 1)).zip (lv.drop (m + 1)), fun k => k = R, o / 2, o⟩, rfl, rfl, rfl, rfl, rfl, rfl, ?_, ?_, ?_, fun k h => h, fun k h => .inl h, fun k h1 h2 => hRx (by rw [← h2]; exact h1)⟩
    · refine ⟨_, _, h1, by simp [e2], by simp; omega, by simp; omega, rfl, e6, fun k hk => ?_⟩
      by_cases hk2 : k = x.id
      · rw [hk2, h1]; simp
      · rw [he k hk hk2]; exact e7 k hk
    · refine ⟨_, _, h2, by simp [e2], by simp; omega, by simp; omega, rfl, rfl, fun k hk => ?_⟩
      have hk' : k = R := hk
      rw [hk', h2]; simp
    · rw [e5]
      show lk.zip lv = (lk.take m).zip (lv.take m) ++ (sx lk m, sx lv m) :: (lk.drop (m + 1)).zip (lv.drop (m + 1))
      rw [← zip_take, ← zip_drop]
      have hg := zip_get lk lv m hm1 e2
      have hz : m < (lk.zip lv).length := (List.getElem?_eq_some_iff.1 hg).1
      rw [List.getElem?_eq_getElem hz] at hg
      rw [← Option.some.inj hg, ← List.drop_eq_getElem_cons hz, List.take_append_drop]
  | succ h =>
    obtain ⟨ks, vs, cx, e1, e2, hI, e4⟩ := hx
    have e := hI.at_
    rw [hl] at e
    cases e
    have hlc := hI.lc
    have hlv := hI.lv
    have hmem1 : ∀ c ∈ cx.take (m + 1), c ∈ cx := fun c hc => List.mem_of_mem_take hc
    have hmem2 : ∀ c ∈ cx.drop (m + 1), c ∈ cx := fun c hc => List.mem_of_mem_drop hc
    have hap : ∀ c ∈ cx.take (m + 1), ∀ d ∈ cx.drop (m + 1), ∀ k, c.S k → ¬ d.S k := by
      have := hI.apart
      rw [← List.take_append_drop (m + 1) cx] at this
      exact (List.pairwise_append.1 this).2.2
    have hagree : ∀ c ∈ cx, ∀ k, c.S k → σ' k = σ k := fun c hc k hk => he k ((hI.kids c hc).2 k hk).1 ((hI.kids c hc).2 k hk).2
    refine ⟨⟨x.id, inter ((lk.zip lv).take m) ((cx.take (m + 1)).map (·.L)), UnS x.id (cx.take (m + 1)), o / 2, o⟩, ⟨R, inter ((lk.zip lv).drop (m + 1)) ((cx.drop (m + 1)).map (·.L)), UnS R (cx.drop (m + 1)), o / 2, o⟩, rfl, rfl, rfl, rfl, rfl, rfl, ?_, ?_, ?_, ?_, ?_, ?_⟩
    · refine ⟨lk.take m, lv.take m, cx.take (m + 1), by simp; omega, by simp; omega, ⟨?_, by simp [hlv], by simp; omega, by rw [zip_take], .inl rfl, ?_, ?_, ?_⟩, fun c hc => e4 c (hmem1 c hc)⟩
      · rw [h1, List.map_take]
      · rintro k (rfl | ⟨c, hc, hk⟩)
        · rw [h1]; simp
        · rw [hagree c (hmem1 c hc) k hk]; exact (hI.mem (hmem1 c hc)).2.1 k hk
      · intro c hc
        refine ⟨((hI.kids c (hmem1 c hc)).1).congr (hagree c (hmem1 c hc)), fun k hk => ⟨.inr ⟨c, hc, hk⟩, ((hI.kids c (hmem1 c hc)).2 k hk).2⟩⟩
      · exact hI.apart.sublist (List.take_sublist _ _)
    · refine ⟨lk.drop (m + 1), lv.drop (m + 1), cx.drop (m + 1), by simp; omega, by simp; omega, ⟨?_, by simp [hlv], by simp; omega, by rw [zip_drop], .inl rfl, ?_, ?_, ?_⟩, fun c hc => e4 c (hmem2 c hc)⟩
      · rw [h2, List.map_drop]
      · rintro k (rfl | ⟨c, hc, hk⟩)
        · rw [h2]; simp
        · rw [hagree c (hmem2 c hc) k hk]; exact (hI.mem (hmem2 c hc)).2.1 k hk
      · intro c hc
        refine ⟨((hI.kids c (hmem2 c hc)).1).congr (hagree c (hmem2 c hc)), fun k hk => ⟨.inr ⟨c, hc, hk⟩, fun e => ?_⟩⟩
        rw [e] at hk
        exact hRx ((hI.kids c (hmem2 c hc)).2 R hk).1
      · exact hI.apart.sublist (List.drop_sublist _ _)
    · show x.L = inter ((lk.zip lv).take m) ((cx.take (m + 1)).map (·.L)) ++ (sx lk m, sx lv m) :: inter ((lk.zip lv).drop (m + 1)) ((cx.drop (m + 1)).map (·.L))
      rw [hI.eL, List.map_take, List.map_drop]
      exact inter_split m _ _ _ (by rw [List.length_map, hlc, List.length_zip, hlv, Nat.min_self]) (zip_get lk lv m hm1 hlv)
    · rintro k (rfl | ⟨c, hc, hk⟩)
      · exact hI.sN
      · exact ((hI.kids c (hmem1 c hc)).2 k hk).1
    · rintro k (rfl | ⟨c, hc, hk⟩)
      · exact .inl rfl
      · exact .inr ((hI.kids c (hmem2 c hc)).2 k hk).1
    · rintro k (rfl | ⟨c, hc, hk⟩) (h3 | ⟨d, hd, hk2⟩)
      · exact hRx (by rw [← h3]; exact hI.sN)
      · exact ((hI.kids d (hmem2 d hd)).2 _ hk2).2 rfl
      · rw [h3] at hk; exact hRx ((hI.kids c (hmem1 c hc)).2 R hk).1
      · exact hap c hc d hd k hk hk2
/-- a node one of whose kids is split -/
theorem inn_split {σ σ' : Sig} {o h N R m i : Nat} {ks vs : List Bs} {A C : List Kid} {x : Kid} {L : List Pr} {S S' : Nat → Prop} {lk lv : List Bs} {ln : List Nat} (hI : Inn σ (IsT σ o h) N ks vs (A ++ x :: C) L S) (hA : A.length = i) (hn : ∀ c ∈ A ++ C, c.lo = o / 2 ∧ c.hi = o)
    (hl : σ x.id = some ⟨lk, lv, ln⟩) (hlen : lk.length = o + 1) (ho : 4 ≤ o) (hm : m = lk.length / 2) (hR : σ R = none)
    (h1 : σ' x.id = some ⟨lk.take m, lv.take m, ln.take (m + 1)⟩) (h2 : σ' R = some ⟨lk.drop (m + 1), lv.drop (m + 1), ln.drop (m + 1)⟩)
    (h3 : σ' N = some ⟨ks.take i ++ sx lk m :: ks.drop i, vs.take i ++ sx lv m :: vs.drop i, ((A ++ x :: C).map (·.id)).take (i + 1) ++ R :: ((A ++ x :: C).map (·.id)).drop (i + 1)⟩)
    (he : ∀ k, k ≠ x.id → k ≠ R → k ≠ N → σ' k = σ k) (hS : ∀ k, S' k ↔ S k ∨ k = R) :
    IsT σ' o (h + 1) (ks.length + 1) (ks.length + 1) N L S' := by
  have hxm : x ∈ A ++ x :: C := by simp
  have hx := (hI.kids x hxm).1
  have hxS := (hI.kids x hxm).2
  obtain ⟨hxid, hxdom, _⟩ := hI.mem hxm
  have hxN : x.id ≠ N := (hxS _ hxid).2
  have hRN : R ≠ N := fun e => by rw [e] at hR; rw [hI.at_] at hR; cases hR
  obtain ⟨y, z, hy1, hz1, hy2, hy3, hz2, hz3, hyT, hzT, hL, hyS, hzS, hyz⟩ := kid_split (l := 0) hx hl hlen ho hm hR h1 h2 (fun k hk hk2 => he k hk2 (fun e => hxdom k hk (by rw [e]; exact hR)) (hxS k hk).2)
  have hlc := hI.lc
  have hlv := hI.lv
  have hil : i ≤ ks.length := by rw [List.length_append, List.length_cons] at hlc; omega
  obtain ⟨pA, pxC, pAxC⟩ := List.pairwise_append.1 hI.apart
  obtain ⟨pxC1, pC⟩ := List.pairwise_cons.1 pxC
  have hother : ∀ c ∈ A ++ C, (∀ k, c.S k → ¬ x.S k) ∧ c ∈ A ++ x :: C := fun c hc => by
    rcases List.mem_append.1 hc with h | h
    · exact ⟨fun k hk => pAxC c h x (by simp) k hk, by simp [h]⟩
    · exact ⟨fun k hk hk2 => pxC1 c h k hk2 hk, by simp [h]⟩
  have hoT : ∀ c ∈ A ++ C, IsT σ' o h c.lo c.hi c.id c.L c.S := fun c hc => by
    obtain ⟨ha, hb⟩ := hother c hc
    refine ((hI.kids c hb).1).congr (fun k hk => he k (fun e => ha k hk (by rw [e]; exact hxid)) (fun e => (hI.mem hb).2.1 k hk (by rw [e]; exact hR)) ((hI.kids c hb).2 k hk).2)
  refine ⟨ks.take i ++ sx lk m :: ks.drop i, vs.take i ++ sx lv m :: vs.drop i, A ++ y :: z :: C, by simp; omega, by simp; omega, ⟨?_, ?_, ?_, ?_, (hS N).2 (.inl hI.sN), ?_, ?_, ?_⟩, ?_⟩
  · rw [h3]
    congr 2
    rw [List.map_append, List.map_cons, List.map_append, List.map_cons, List.map_cons, hy1, hz1]
    have hAl : (A.map (·.id)).length = i := by rw [List.length_map, hA]
    rw [List.take_append, List.drop_append, hAl, List.take_of_length_le (by omega), List.drop_eq_nil_of_le (by omega), show i + 1 - i = 1 by omega]
    simp
  · simp [hlv]
  · simp at hlc ⊢; omega
  · rw [zip_ins ks vs i _ _ hlv, List.map_append, List.map_cons, List.map_cons]
    have hz : (ks.zip vs).length = ks.length := by rw [List.length_zip, hlv, Nat.min_self]
    rw [inter_mid (A.map (·.L)) ((ks.zip vs).take i) y.L (z.L :: C.map (·.L)) ((sx lk m, sx lv m) :: (ks.zip vs).drop i) (by rw [List.length_map, hA, List.length_take, hz]; omega)]
    have hL0 := hI.eL
    rw [List.map_append, List.map_cons] at hL0
    conv at hL0 => rhs; rw [← List.take_append_drop i (ks.zip vs)]
    rw [inter_mid (A.map (·.L)) ((ks.zip vs).take i) x.L (C.map (·.L)) ((ks.zip vs).drop i) (by rw [List.length_map, hA, List.length_take, hz]; omega)] at hL0
    rw [hL0, hL, List.append_assoc]
    rfl
  · intro k hk
    rcases (hS k).1 hk with h | h
    · by_cases e1 : k = x.id
      · rw [e1, h1]; simp
      · by_cases e2 : k = N
        · rw [e2, h3]; simp
        · by_cases e3 : k = R
          · rw [e3, h2]; simp
          · rw [he k e1 e3 e2]; exact hI.dom k h
    · rw [h, h2]; simp
  · intro c hc
    rcases List.mem_append.1 hc with h | h
    · exact ⟨hoT c (List.mem_append_left _ h), fun k hk => ⟨(hS k).2 (.inl ((hI.kids c (by simp [h])).2 k hk).1), ((hI.kids c (by simp [h])).2 k hk).2⟩⟩
    · rcases List.mem_cons.1 h with rfl | h
      · rw [hy2, hy3]
        exact ⟨hyT, fun k hk => ⟨(hS k).2 (.inl (hxS k (hyS k hk)).1), (hxS k (hyS k hk)).2⟩⟩
      · rcases List.mem_cons.1 h with rfl | h
        · rw [hz2, hz3]
          refine ⟨hzT, fun k hk => ?_⟩
          rcases hzS k hk with h | h
          · exact ⟨(hS k).2 (.inr h), by rw [h]; exact hRN⟩
          · exact ⟨(hS k).2 (.inl (hxS k h).1), (hxS k h).2⟩
        · exact ⟨hoT c (List.mem_append_right _ h), fun k hk => ⟨(hS k).2 (.inl ((hI.kids c (by simp [h])).2 k hk).1), ((hI.kids c (by simp [h])).2 k hk).2⟩⟩
  · have hnotR : ∀ c ∈ A ++ C, ¬ c.S R := fun c hc h => (hI.mem (hother c hc).2).2.1 R h hR
    refine List.pairwise_append.2 ⟨pA, List.pairwise_cons.2 ⟨fun c hc => ?_, List.pairwise_cons.2 ⟨fun c hc => ?_, pC⟩⟩, fun a ha c hc => ?_⟩
    · rcases List.mem_cons.1 hc with rfl | h
      · exact hyz
      · exact fun k hk => pxC1 c h k (hyS k hk)
    · intro k hk hk2
      rcases hzS k hk with h | h
      · rw [h] at hk2; exact hnotR c (List.mem_append_right _ hc) hk2
      · exact pxC1 c hc k h hk2
    · have hax := pAxC a ha x (by simp)
      rcases List.mem_cons.1 hc with rfl | h
      · exact fun k hk hk2 => hax k hk (hyS k hk2)
      · rcases List.mem_cons.1 h with rfl | h
        · intro k hk hk2
          rcases hzS k hk2 with h | h
          · rw [h] at hk; exact hnotR a (List.mem_append_left _ ha) hk
          · exact hax k hk h
        · exact pAxC a ha c (by simp [h])
  · intro c hc
    rcases List.mem_append.1 hc with h | h
    · exact hn c (List.mem_append_left _ h)
    · rcases List.mem_cons.1 h with rfl | h
      · exact ⟨hy2, hy3⟩
      · rcases List.mem_cons.1 h with rfl | h
        · exact ⟨hz2, hz3⟩
        · exact hn c (List.mem_append_right _ h)
end Go.Proofs.Ytegljepgncicjaa
