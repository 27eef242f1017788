/- Btree: node.put on any tree. -/
import Derived.Test.YtegljepgncicjaaBu12
import Derived.Test.YtegljepgncicjaaBu11
namespace Go.Proofs.Ytegljepgncicjaa
open Go.ChangeShapes Go.WideShapes Go.ChangeAt Go.RowKit Go.Deep
set_option linter.unusedVariables false
set_option linter.unusedSimpArgs false
theorem Ext.sub {σ σ' : Sig} {S S' : Nat → Prop} (h : Ext σ σ' S) (hs : ∀ k, S k → σ k ≠ none → S' k) : Ext σ σ' S' := ⟨fun k hk hn => h.same k (fun h1 => hk (hs k h1 hn)) hn, h.keep, h.frn⟩
theorem IsT.dom {σ : Sig} {o h lo hi N : Nat} {L : List Pr} {S : Nat → Prop} (hT : IsT σ o h lo hi N L S) : S N ∧ ∀ k, S k → σ k ≠ none := by
  obtain ⟨nd, _, _, _, _, h1, h2, _⟩ := hT.node
  exact ⟨h1, h2⟩
theorem grow_dom {σ σ' : Sig} {S : Nat → Prop} (h : Ext σ σ' S) (hd : ∀ k, S k → σ k ≠ none) : ∀ k, Grow S σ σ' k → σ' k ≠ none := fun k hk => by
  rcases hk with hk | hk
  · exact h.keep k (hd k hk)
  · exact hk.2
theorem IsT.grow {σ σ' : Sig} {o h lo hi N : Nat} {L : List Pr} {S : Nat → Prop} (hT : IsT σ' o h lo hi N L S) (he : Ext σ σ' S) (hd : ∀ k, S k → σ k ≠ none) : IsT σ' o h lo hi N L (Grow S σ σ') :=
  hT.super (fun k hk => .inl hk) (grow_dom he hd)
theorem upd_ne {σ : Sig} {N k : Nat} {nd : Nd} (h : σ k ≠ none) : upd σ N nd k ≠ none := by rw [upd_k]; split <;> simp_all
/-- a kid is replaced -/
theorem inn_replace {σ σ1 : Sig} {o h N i lo' hi' : Nat} {ks vs : List Bs} {A C : List Kid} {x : Kid} {L L' Lx : List Pr} {S : Nat → Prop} (hI : Inn σ (IsT σ o h) N ks vs (A ++ x :: C) L S) (hA : A.length = i) (hil : i ≤ ks.length)
    (he : Ext σ σ1 x.S) (hT : IsT σ1 o h lo' hi' x.id Lx (Grow x.S σ σ1)) (hL : L' = interL (A.map (·.L)) ((ks.zip vs).take i) ++ (Lx ++ interR ((ks.zip vs).drop i) (C.map (·.L)))) :
    Inn σ1 (IsT σ1 o h) N ks vs (A ++ ⟨x.id, Lx, Grow x.S σ σ1, lo', hi'⟩ :: C) L' (Grow S σ σ1) := by
  have hxm : x ∈ A ++ x :: C := by simp
  obtain ⟨hxid, hxdom, hxS⟩ := hI.mem hxm
  have hNx : ¬ x.S N := fun h => (hxS N h).2 rfl
  have hσN : σ N ≠ none := by rw [hI.at_]; simp
  have hz : (ks.zip vs).length = ks.length := by rw [List.length_zip, hI.lv, Nat.min_self]
  obtain ⟨pA, pxC, pAxC⟩ := List.pairwise_append.1 hI.apart
  obtain ⟨pxC1, pC⟩ := List.pairwise_cons.1 pxC
  have hother : ∀ c, c ∈ A ∨ c ∈ C → (∀ k, c.S k → ¬ x.S k) ∧ c ∈ A ++ x :: C := fun c hc => by
    rcases hc with h | h
    · exact ⟨fun k hk => pAxC c h x (by simp) k hk, by simp [h]⟩
    · exact ⟨fun k hk hk2 => pxC1 c h k hk2 hk, by simp [h]⟩
  have hoT : ∀ c, c ∈ A ∨ c ∈ C → IsT σ1 o h c.lo c.hi c.id c.L c.S ∧ ∀ k, c.S k → Grow S σ σ1 k ∧ k ≠ N := fun c hc => by
    obtain ⟨ha, hb⟩ := hother c hc
    exact ⟨((hI.kids c hb).1).congr (fun k hk => he.same k (ha k hk) ((hI.mem hb).2.1 k hk)), fun k hk => ⟨.inl ((hI.kids c hb).2 k hk).1, ((hI.kids c hb).2 k hk).2⟩⟩
  refine ⟨?_, hI.lv, ?_, ?_, .inl hI.sN, ?_, ?_, ?_⟩
  · rw [he.same N hNx hσN, hI.at_]
    simp
  · have := hI.lc
    simp at this ⊢
    omega
  · rw [hL, List.map_append, List.map_cons]
    conv => rhs; rw [← List.take_append_drop i (ks.zip vs)]
    rw [inter_mid (A.map (·.L)) ((ks.zip vs).take i) Lx (C.map (·.L)) ((ks.zip vs).drop i) (by rw [List.length_map, hA, List.length_take, hz]; omega)]
  · intro k hk
    rcases hk with hk | hk
    · exact he.keep k (hI.dom k hk)
    · exact hk.2
  · intro c hc
    rcases List.mem_append.1 hc with h | h
    · exact hoT c (.inl h)
    · rcases List.mem_cons.1 h with rfl | h
      · refine ⟨hT, fun k hk => ?_⟩
        rcases hk with hk | hk
        · exact ⟨.inl (hxS k hk).1, (hxS k hk).2⟩
        · exact ⟨.inr hk, fun e => hσN (by rw [← e]; exact hk.1)⟩
      · exact hoT c (.inr h)
  · refine List.pairwise_append.2 ⟨pA, List.pairwise_cons.2 ⟨fun c hc k hk hk2 => ?_, pC⟩, fun a ha c hc k hk hk2 => ?_⟩
    · rcases hk with hk | hk
      · exact pxC1 c hc k hk hk2
      · exact (hI.mem (hother c (.inr hc)).2).2.1 k hk2 hk.1
    · rcases List.mem_cons.1 hc with rfl | h
      · rcases hk2 with hk2 | hk2
        · exact pAxC a ha x (by simp) k hk hk2
        · exact (hI.mem (hother a (.inl ha)).2).2.1 k hk hk2.1
      · exact pAxC a ha c (by simp [h]) k hk hk2
/-- a value is set -/
theorem IsT.setval {σ : Sig} {o : Nat} {key val : Bs} {ks vs : List Bs} {ns : List Nat} : ∀ {h lo hi N : Nat} {L : List Pr} {S : Nat → Prop}, IsT σ o h lo hi N L S → Srt L → σ N = some ⟨ks, vs, ns⟩ → bsF ks key = true →
    IsT (upd σ N ⟨ks, vs.set (bsI ks key) val, ns⟩) o h lo hi N (putL L key val) S
  | 0, _, _, N, _, S, hT, hs, hN, hf => by
    have hk : SrtK ks := hT.srtK hs hN
    obtain ⟨ks', vs', h1, h2, h3, h4, h5, h6, h7⟩ := hT
    rw [h1] at hN; cases hN
    subst h5
    have hF := leaf_found (found_of hk h2 hf) h2 hs val
    exact ⟨ks, vs.set (bsI ks key) val, upd_same _ _ _, by simp [h2], h3, h4, hF.2.1, h6, fun k hk => upd_ne (h7 k hk)⟩
  | h + 1, _, _, N, _, S, hT, hs, hN, hf => by
    have hk : SrtK ks := hT.srtK hs hN
    obtain ⟨ks', vs', cs, h1, h2, hI, h4⟩ := hT
    have e := hI.at_
    rw [hN] at e; cases e
    have hF := found_of hk hI.lv hf
    obtain ⟨A, x, C, hcs, hA, hC, hL⟩ := hI.around _ (Nat.le_of_lt hF.lt)
    obtain ⟨R, _, _, h5, _⟩ := inn_found hF hI.lv (by rw [List.length_map]; exact hC) hL hs val
    refine ⟨ks, vs.set (bsI ks key) val, cs, h1, h2, ⟨upd_same _ _ _, by simp [hI.lv], hI.lc, ?_, hI.sN, fun k hk => upd_ne (hI.dom k hk), fun c hc => ⟨((hI.kids c hc).1).congr (fun k hk => upd_other _ _ ((hI.kids c hc).2 k hk).2), (hI.kids c hc).2⟩, hI.apart⟩, h4⟩
    have hz : (ks.zip (vs.set (bsI ks key) val)).length = ks.length := by rw [List.length_zip]; simp [hI.lv]
    have hlt := hF.lt
    have ht : (ks.zip (vs.set (bsI ks key) val)).take (bsI ks key) = (ks.zip vs).take (bsI ks key) := by
      rw [hF.set hI.lv val, List.take_left' (by rw [List.length_take, List.length_zip, hI.lv, Nat.min_self]; omega)]
    rw [h5, hcs, List.map_append, List.map_cons]
    conv => rhs; rw [← List.take_append_drop (bsI ks key) (ks.zip (vs.set (bsI ks key) val))]
    rw [inter_mid (A.map (·.L)) _ x.L (C.map (·.L)) _ (by rw [List.length_map, hA, List.length_take, hz]; omega), ht]
/-- what put gives -/
def PutT (B o h lo hi N : Nat) (L' : List Pr) (S : Nat → Prop) (σ : Sig) (r : Bool) (W : World) (e : Ending) (W' : World) : Prop :=
  e = .returned (.bool r) ∧ Below B W W' ∧ ∃ σ', Hp B W' σ' ∧ Ext σ σ' S ∧ IsT σ' o h lo (hi + if r then 1 else 0) N L' (Grow S σ σ')
theorem put_T (B o : Nat) (key val : Bs) (ho : 4 ≤ o) (ho2 : o ≤ 256) : ∀ (h lo hi N : Nat) (L : List Pr) (S : Nat → Prop) (σ : Sig) (W : World), Hp B W σ → B ≤ W.heap.size → IsT σ o h lo hi N L S → Srt L → hi ≤ o → 
    Calls Try.prog 42 #[.pointer (some ⟨N, 0, none⟩), .int .i64 o, .string key, .string val] W (PutT B o h lo hi N (putL L key val) S σ (getL L key).isNone W) := by
  intro h
  induction h with
  | zero =>
    intro lo hi N L S σ W hp hB hT hs hhi
    have hk := fun nd hN => hT.srtK (nd := nd) hs hN
    have hT' := hT
    obtain ⟨ks, vs, h1, h2, h3, h4, h5, h6, h7⟩ := hT
    have hk : SrtK ks := hk _ h1
    cases hf : bsF ks key with
    | true =>
      have hF := found_of hk h2 hf
      have hg := hT'.found hs h1 hf
      refine (put_found B N (bsI ks key) o σ ks vs [] key val W hp hB h1 (by omega) h2 rfl hF.lt hf).mono ?_
      rintro e W' ⟨rfl, hp', hb'⟩
      rw [show (getL L key).isNone = false by rw [hg]; rfl]
      refine ⟨rfl, hb', _, hp', Ext.upd _ (.inl h6), ?_⟩
      exact (hT'.setval (val := val) hs h1 hf).grow (Ext.upd _ (.inl h6)) h7
    | false =>
      have hG := gap_of hk hf
      have hl := leaf_gap hG h2 val
      refine (put_leaf B N (bsI ks key) o σ ks vs key val W hp hB h1 (by omega) h2 rfl hG.le hf).mono ?_
      rintro e W' ⟨rfl, hp', hb'⟩
      rw [show (getL L key).isNone = true by rw [h5, hl.1]; rfl]
      refine ⟨rfl, hb', _, hp', Ext.upd _ (.inl h6), ?_⟩
      refine IsT.grow (S := S) ?_ (Ext.upd _ (.inl h6)) h7
      have hle := hG.le
      exact ⟨ks.take (bsI ks key) ++ key :: ks.drop (bsI ks key), vs.take (bsI ks key) ++ val :: vs.drop (bsI ks key), upd_same _ _ _, by simp [h2], by simp; omega, by rw [if_pos rfl]; simp; omega, by rw [h5]; exact hl.2.1, h6, fun k hk => upd_ne (h7 k hk)⟩
  | succ h ih =>
    intro lo hi N L S σ W hp hB hT hs hhi
    have hk := fun nd hN => hT.srtK (nd := nd) hs hN
    have hT' := hT
    obtain ⟨ks, vs, cs, h1, h2, hI, h4⟩ := hT
    have hk : SrtK ks := hk _ hI.at_
    cases hf : bsF ks key with
    | true =>
      have hF := found_of hk hI.lv hf
      have hg := hT'.found hs hI.at_ hf
      refine (put_found B N (bsI ks key) o σ ks vs _ key val W hp hB hI.at_ (by omega) hI.lv rfl hF.lt hf).mono ?_
      rintro e W' ⟨rfl, hp', hb'⟩
      rw [show (getL L key).isNone = false by rw [hg]; rfl]
      refine ⟨rfl, hb', _, hp', Ext.upd _ (.inl hI.sN), ?_⟩
      exact (hT'.setval (val := val) hs hI.at_ hf).grow (Ext.upd _ (.inl hI.sN)) hI.dom
    | false =>
      have hG := gap_of hk hf
      obtain ⟨A, x, C, hcs, hA, hC, hL⟩ := hI.around _ hG.le
      obtain ⟨_, _, hsx, hgx, hpx, _⟩ := inn_gap hG hI.lv (by rw [List.length_map]; exact hA) (by rw [List.length_map]; exact hC) hL hs
      subst hcs
      have hxm : x ∈ A ++ x :: C := by simp
      obtain ⟨hxlo, hxhi⟩ := h4 x hxm
      have hxT := (hI.kids x hxm).1
      rw [hxlo, hxhi] at hxT
      obtain ⟨hxid, hxdom, hxS⟩ := hI.mem hxm
      have hNx : ¬ x.S N := fun h => (hxS N h).2 rfl
      have hσN : σ N ≠ none := by rw [hI.at_]; simp
      have hM : ((A ++ x :: C).map (·.id))[bsI ks key]? = some x.id := by
        rw [List.map_append, List.map_cons, List.getElem?_append_right (by rw [List.length_map, hA]; exact Nat.le_refl _), List.length_map, hA, Nat.sub_self]
        rfl
      have hns : ((A ++ x :: C).map (·.id)).length = ks.length + 1 := by rw [List.length_map]; exact hI.lc
      refine (put_inner B N x.id (bsI ks key) o (getL L key).isNone σ ks vs _ key val (fun σ1 => Ext σ σ1 x.S ∧ IsT σ1 o h (o / 2) (o + if (getL L key).isNone then 1 else 0) x.id (putL x.L key val) (Grow x.S σ σ1)) W hp hB hI.at_ (by omega) hI.lv hns rfl hG.le hf hM ho ho2 (fun q => ?_) (fun σ1 hF => ?_)).mono ?_
      · refine (ih (o / 2) o x.id x.L x.S σ (W.drewN q) (hp.drewN q) hB hxT hsx (Nat.le_refl _)).mono ?_
        rintro e W' ⟨rfl, hb, σ1, hp1, he1, hT1⟩
        rw [← hgx] at hT1
        exact ⟨by rw [hgx], σ1, hp1, hb, he1, hT1⟩
      · obtain ⟨nd, hm1, hm2, hm3, hm4, hm5, hm6, hm7, hm8⟩ := hF.2.node
        have hm3' : nd.ks.length ≤ o + 1 := by
          refine Nat.le_trans hm3 ?_
          split <;> omega
        refine ⟨by rw [hF.1.same N hNx hσN]; exact hI.at_, nd.ks, nd.vs, nd.ns, hm1, (hxS _ hxid).2, hm3', by omega, hm4, ?_⟩
        rcases Nat.eq_zero_or_pos h with h0 | h0
        · exact .inl (hm7 h0)
        · exact .inr (hm8 (by omega))
      · rintro e W' ⟨rfl, hb, σ1, lk, lv, ln, ⟨he1, hT1⟩, hm1, hout⟩
        refine ⟨rfl, hb, ?_⟩
        have hbd := hT1.exact hm1
        obtain ⟨nd, hq1, _, hq3, _⟩ := hT1.node
        rw [hm1] at hq1; cases hq1
        have hExt : Ext σ σ1 S := he1.sub (fun k hk _ => (hxS k hk).1)
        rcases hout with ⟨hle, hp1⟩ | ⟨hgt, R, σ', hp', hR, hRN, hRM, hσ'⟩
        · have hlo : o / 2 ≤ lk.length := by
            obtain ⟨nd, hq1, hq2, _⟩ := hT1.node
            rw [hm1] at hq1; cases hq1
            exact hq2
          have hrep := inn_replace (lo' := o / 2) (hi' := o) hI hA hG.le he1 (hbd.bounds hlo hle) (hpx val)
          refine ⟨σ1, hp1, hExt, ⟨ks, vs, _, h1, Nat.le_trans h2 (Nat.le_add_right _ _), hrep, fun c hc => ?_⟩⟩
          rcases List.mem_append.1 hc with h | h
          · exact h4 c (by simp [h])
          · rcases List.mem_cons.1 h with rfl | h
            · exact ⟨rfl, rfl⟩
            · exact h4 c (by simp [h])
        · have hlen : lk.length = o + 1 := by
            have : lk.length ≤ o + if (getL L key).isNone then 1 else 0 := hq3
            split at this <;> omega
          have hr1 : (getL L key).isNone = true := by
            cases hr1 : (getL L key).isNone with
            | true => rfl
            | false => rw [hr1] at hq3; have : lk.length ≤ o + 0 := hq3; omega
          have hrep := inn_replace (lo' := lk.length) (hi' := lk.length) hI hA hG.le he1 hbd (hpx val)
          have hMN : x.id ≠ N := (hxS _ hxid).2
          have e1 : σ' x.id = some ⟨lk.take (lk.length / 2), lv.take (lk.length / 2), ln.take (lk.length / 2 + 1)⟩ := by rw [hσ']; exact upd_same _ _ _
          have e2 : σ' R = some ⟨lk.drop (lk.length / 2 + 1), lv.drop (lk.length / 2 + 1), ln.drop (lk.length / 2 + 1)⟩ := by rw [hσ', upd_other _ _ hRM, upd_other _ _ hRN, upd_same]
          have e3 : σ' N = some ⟨ks.take (bsI ks key) ++ sx lk (lk.length / 2) :: ks.drop (bsI ks key), vs.take (bsI ks key) ++ sx lv (lk.length / 2) :: vs.drop (bsI ks key), ((A ++ x :: C).map (fun c : Kid => c.id)).take (bsI ks key + 1) ++ R :: ((A ++ x :: C).map (fun c : Kid => c.id)).drop (bsI ks key + 1)⟩ := by
            rw [hσ', upd_other _ _ hMN.symm, upd_same]
          have e4 : ∀ k, k ≠ x.id → k ≠ R → k ≠ N → σ' k = σ1 k := fun k a b c => by rw [hσ', upd_other _ _ a, upd_other _ _ c, upd_other _ _ b]
          have hkeep : ∀ k, σ1 k ≠ none → σ' k ≠ none := fun k hk => by rw [hσ']; exact upd_ne (upd_ne (upd_ne hk))
          have hσR : σ R = none := by
            cases hσR : σ R with
            | none => rfl
            | some nd => exact absurd hR (he1.keep R (by rw [hσR]; simp))
          have hT2 := inn_split (S' := fun k => Grow S σ σ1 k ∨ k = R) hrep hA (fun c hc => by
              rcases List.mem_append.1 hc with h | h
              · exact h4 c (by simp [h])
              · exact h4 c (by simp [h])) hm1 hlen ho rfl hR e1 e2 (by rw [e3]; simp) e4 (fun k => Iff.rfl)
          have hExt2 : Ext σ σ' S := by
            refine hExt.trans (S1 := fun k => k = x.id ∨ k = R ∨ k = N) ⟨fun k hk hn => e4 k (fun e => hk (.inl e)) (fun e => hk (.inr (.inl e))) (fun e => hk (.inr (.inr e))), hkeep, by rw [hσ']; rfl⟩ (fun k hk hn => ?_)
            rcases hk with rfl | rfl | rfl
            · exact (hxS _ hxid).1
            · exact absurd hσR hn
            · exact hI.sN
          refine ⟨σ', hp', hExt2, (hT2.bounds (by omega) (by rw [hr1, if_pos rfl]; omega)).super (fun k hk => ?_) (grow_dom hExt2 hI.dom)⟩
          rcases hk with hk | hk
          · rcases hk with hk | hk
            · exact .inl hk
            · exact .inr ⟨hk.1, hkeep k hk.2⟩
          · exact .inr ⟨by rw [hk]; exact hσR, by rw [hk, e2]; simp⟩
end Go.Proofs.Ytegljepgncicjaa
