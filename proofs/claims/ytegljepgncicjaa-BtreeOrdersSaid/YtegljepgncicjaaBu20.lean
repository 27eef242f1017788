/- Btree: up and down on any tree. -/
import Derived.Test.YtegljepgncicjaaBu19b
namespace Go.Proofs.Ytegljepgncicjaa
open Go.ChangeShapes Go.WideShapes Go.ChangeAt Go.RowKit Go.Deep Go.Shelf
set_option linter.unusedVariables false
set_option linter.unusedSimpArgs false
theorem kid_at {σ : Sig} {T : Nat → Nat → Nat → List Pr → (Nat → Prop) → Prop} {N : Nat} {ks vs : List Bs} {cs : List Kid} {L : List Pr} {S : Nat → Prop} (h : Inn σ T N ks vs cs L S) (hs : Srt L) {j : Nat} (hj : j ≤ ks.length) :
    ∃ c, c ∈ cs ∧ (cs.map (·.id))[j]? = some c.id ∧ cx (cs.map (·.L)) j = c.L ∧ Srt c.L := by
  obtain ⟨A, x, C, hcs, hA, hC, hL⟩ := h.around j hj
  refine ⟨x, by rw [hcs]; simp, ?_, ?_, ?_⟩
  · rw [hcs, List.map_append, List.map_cons, List.getElem?_append_right (by rw [List.length_map, hA]; exact Nat.le_refl _), List.length_map, hA, Nat.sub_self]
    rfl
  · unfold cx
    rw [hcs, List.map_append, List.map_cons, List.getElem?_append_right (by rw [List.length_map, hA]; exact Nat.le_refl _), List.length_map, hA, Nat.sub_self]
    rfl
  · rw [hL] at hs
    exact hs.right.left
theorem up_T (l n₀ K o : Nat) (lo hi : Bs) (bd : Bool) (J Jx : List Pr → World → Prop) (hY : Yields l n₀ K J Jx) (σ : Sig) (ho : o ≤ 256) :
    ∀ (h lo' hi' N : Nat) (L : List Pr) (S : Nat → Prop), IsT σ o h lo' hi' N L S → hi' ≤ 256 → Srt L → ∀ (m : Nat) (acc : List Pr) (W : World), Hq n₀ W σ → J acc W → acc.length + (L.filter (inU lo hi bd)).length ≤ K →
    CallsIn Fence.wide m Try.prog 41 (upArgs N l lo hi bd) W (SOut n₀ J Jx acc (L.filter (inU lo hi bd)) (L.any (ovU lo hi bd)) W) := by
  intro h
  induction h with
  | zero =>
    intro lo' hi' N L S hT hh hs m acc W hq hj hK
    have hsk := fun nd hN => hT.srtK (nd := nd) hs hN
    obtain ⟨ks, vs, h1, h2, h3, h4, h5, h6, h7⟩ := hT
    have hz : (ks.zip vs).length = ks.length := by simp [h2]
    exact up_leaf m l n₀ K N lo hi bd J Jx hY σ ks vs [] (List.replicate (ks.length + 1) []) L h1 h2 (by omega) (by simp) (by rw [h5]; have := inter_leaf (ks.zip vs); rw [hz] at this; exact this.symm) hs (hsk _ h1) rfl rfl acc W hq hj hK
  | succ h ih =>
    intro lo' hi' N L S hT hh hs m acc W hq hj hK
    have hsk := fun nd hN => hT.srtK (nd := nd) hs hN
    obtain ⟨ks, vs, cs, h1, h2, h3, h4⟩ := hT
    refine up_inner m l n₀ K N lo hi bd J Jx hY σ ks vs (cs.map (·.id)) (cs.map (·.L)) L h3.at_ h3.lv (by omega) (by rw [List.length_map, h3.lc]) h3.eL hs (hsk _ h3.at_) (by rw [List.length_map, h3.lc]) (fun j hj2 => ?_) acc W hq hj hK
    obtain ⟨c, hc, e1, e2, e3⟩ := kid_at h3 hs hj2
    refine ⟨c.id, e1, ?_⟩
    rw [e2]
    exact fun m acc W hq hj hK => ih c.lo c.hi c.id c.L c.S (h3.kids c hc).1 (by rw [(h4 c hc).2]; exact ho) e3 m acc W hq hj hK
theorem down_T (l n₀ K o : Nat) (lo hi : Bs) (bd : Bool) (J Jx : List Pr → World → Prop) (hY : Yields l n₀ K J Jx) (σ : Sig) (ho : o ≤ 256) :
    ∀ (h lo' hi' N : Nat) (L : List Pr) (S : Nat → Prop), IsT σ o h lo' hi' N L S → hi' ≤ 256 → Srt L → ∀ (m : Nat) (acc : List Pr) (W : World), Hq n₀ W σ → J acc W → acc.length + (L.reverse.filter (inU lo hi bd)).length ≤ K →
    CallsIn Fence.wide m Try.prog 40 (upArgs N l lo hi bd) W (SOut n₀ J Jx acc (L.reverse.filter (inU lo hi bd)) (L.reverse.any (ovD lo hi bd)) W) := by
  intro h
  induction h with
  | zero =>
    intro lo' hi' N L S hT hh hs m acc W hq hj hK
    have hsk := fun nd hN => hT.srtK (nd := nd) hs hN
    obtain ⟨ks, vs, h1, h2, h3, h4, h5, h6, h7⟩ := hT
    have hz : (ks.zip vs).length = ks.length := by simp [h2]
    have hL : L = inter (ks.zip vs) (List.replicate (ks.length + 1) []) := by rw [h5]; have := inter_leaf (ks.zip vs); rw [hz] at this; exact this.symm
    cases bd with
    | false => exact down_leaf_false m l n₀ K N lo hi J Jx hY σ ks vs [] _ L h1 h2 (by omega) (by simp) hL hs (hsk _ h1) rfl rfl acc W hq hj hK
    | true => exact down_leaf_true m l n₀ K N lo hi J Jx hY σ ks vs [] _ L h1 h2 (by omega) (by simp) hL hs (hsk _ h1) rfl rfl acc W hq hj hK
  | succ h ih =>
    intro lo' hi' N L S hT hh hs m acc W hq hj hK
    have hsk := fun nd hN => hT.srtK (nd := nd) hs hN
    obtain ⟨ks, vs, cs, h1, h2, h3, h4⟩ := hT
    have hkid : ∀ j, j ≤ ks.length → ∃ M, (cs.map (·.id))[j]? = some M ∧ ∀ m acc W, Hq n₀ W σ → J acc W → acc.length + ((cx (cs.map (·.L)) j).reverse.filter (inU lo hi bd)).length ≤ K →
        CallsIn Fence.wide m Try.prog 40 (upArgs M l lo hi bd) W (SOut n₀ J Jx acc ((cx (cs.map (·.L)) j).reverse.filter (inU lo hi bd)) ((cx (cs.map (·.L)) j).reverse.any (ovD lo hi bd)) W) := by
      intro j hj2
      obtain ⟨c, hc, e1, e2, e3⟩ := kid_at h3 hs hj2
      refine ⟨c.id, e1, ?_⟩
      rw [e2]
      exact fun m acc W hq hj hK => ih c.lo c.hi c.id c.L c.S (h3.kids c hc).1 (by rw [(h4 c hc).2]; exact ho) e3 m acc W hq hj hK
    cases bd with
    | false => exact down_inner_false m l n₀ K N lo hi J Jx hY σ ks vs (cs.map (·.id)) (cs.map (·.L)) L h3.at_ h3.lv (by omega) (by rw [List.length_map, h3.lc]) h3.eL hs (hsk _ h3.at_) (by rw [List.length_map, h3.lc]) hkid acc W hq hj hK
    | true => exact down_inner_true m l n₀ K N lo hi J Jx hY σ ks vs (cs.map (·.id)) (cs.map (·.L)) L h3.at_ h3.lv (by omega) (by rw [List.length_map, h3.lc]) h3.eL hs (hsk _ h3.at_) (by rw [List.length_map, h3.lc]) hkid acc W hq hj hK
end Go.Proofs.Ytegljepgncicjaa
