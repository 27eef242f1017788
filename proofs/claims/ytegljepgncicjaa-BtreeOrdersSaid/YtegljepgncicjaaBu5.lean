/- Btree: one element of a row is stored; a new node. -/
import Derived.Test.YtegljepgncicjaaBu4
namespace Go.Proofs.Ytegljepgncicjaa
open Go.ChangeShapes Go.WideShapes Go.ChangeAt Go.RowKit Go.Deep
set_option linter.unusedVariables false
set_option linter.unusedSimpArgs false
theorem box_j {W : World} {N : Nat} {a b c : Value} (hb : Box W N [a, b, c]) (fv : Nat → Value) (h0 : fv 0 = a) (h1 : fv 1 = b) (h2 : fv 2 = c) (j : Nat) (hj : j < 3) : W.cell? ⟨N, j, none⟩ = some (fv j) := by
  match j, hj with
  | 0, _ => rw [h0]; exact hb.cell 0 _ rfl
  | 1, _ => rw [h1]; exact hb.cell 1 _ rfl
  | 2, _ => rw [h2]; exact hb.cell 2 _ rfl
theorem Hp.elem {B : Nat} {W : World} {σ : Sig} (h : Hp B W σ) {N : Nat} {nd nd' : Nd} (hN : σ N = some nd) (j : Nat) (hj : j < 3) (v : Value) (hv : W.cell? ⟨N, j, none⟩ = some v) (i : Nat) (u : Value)
    (hi : i < (nd.row j).length) (hrow : nd'.row j = (nd.row j).set i u) (hoth : ∀ i, i < 3 → i ≠ j → nd'.row i = nd.row i) :
    ∃ g c, v = .slice (some ⟨g, 0, none⟩) (nd.row j).length c ∧ (W.cell? ⟨g, i, none⟩).isSome = true ∧ W.frozen? ⟨g, i, none⟩ = false ∧ (nd.row j).length ≤ c ∧ c ≤ 9223372036854775807 ∧
      Hp B (W.setCell ⟨g, i, none⟩ u) (upd σ N nd') ∧ Kept (fun k => v.ownBlock = some k) W (W.setCell ⟨g, i, none⟩ u) ∧ B ≤ g ∧ g ≠ N := by
  obtain ⟨fv, own, h, hF⟩ := h
  obtain ⟨hb, hB, hown, hr⟩ := h N nd hN
  have hvj : fv N j = v := by
    have := box_j hb (fv N) rfl rfl rfl j hj
    rw [hv] at this
    exact (Option.some.inj this).symm
  have hrj := (hr j hj).1
  have hoj := (hr j hj).2
  rw [hvj] at hrj hoj
  rcases hrj with ⟨rfl, h0⟩ | ⟨g, c, rfl, hBg, hnc, hc63, hR, hc⟩
  · rw [h0] at hi; exact absurd hi (Nat.not_lt_zero _)
  have hog : own g = (N, j + 1) := hoj g rfl
  have hgN : g ≠ N := fun e => by rw [e, hown] at hog; cases hog
  have hset : Kept (fun k => k = g) W (W.setCell ⟨g, i, none⟩ u) := (Kept.refl _ W).setCells g i [u] (.inl rfl)
  have hset' : Kept (fun k => (Value.slice (some ⟨g, 0, none⟩) (nd.row j).length c).ownBlock = some k) W (W.setCell ⟨g, i, none⟩ u) := (Kept.refl _ W).setCells g i [u] (.inl rfl)
  refine ⟨g, c, rfl, hR.th i (by omega), hR.fr i, hnc, hc63, ⟨fv, own, ?_, hF.kept hset (fun k hk e => by rw [hk, hog] at e; simp at e; omega) rfl (fun _ _ _ e _ => e)⟩, hset', hBg, hgN⟩
  intro M md hM
  by_cases hMN : M = N
  · subst hMN
    rw [upd_same] at hM
    cases hM
    refine ⟨hb.kept hset (fun e => hgN e.symm), hB, hown, fun k hk => ?_⟩
    by_cases hkj : k = j
    · subst hkj
      refine ⟨?_, by rw [hvj]; exact hoj⟩
      rw [hvj, hrow]
      have hl : ((nd.row k).set i u).length = (nd.row k).length := List.length_set
      refine rowV_slice hl.symm hBg (by rw [hl]; exact hnc) hc63 (hR.set i [u]) (fun t ht => ?_)
      rw [hl] at ht
      refine Eq.trans (hR.at i [u] (by simp; omega) t) ?_
      by_cases h1 : i = t
      · subst h1
        rw [if_pos (by simp), List.getElem?_set_self ht]
        simp
      · rw [if_neg (by simp; omega), List.getElem?_set_ne h1]
        exact hc t ht
    · obtain ⟨h1, h2⟩ := hr k hk
      refine ⟨?_, h2⟩
      rw [hoth k hk hkj]
      refine h1.kept hset (fun t e e2 => ?_)
      have e3 := h2 t e
      rw [e2, hog] at e3
      simp at e3
      exact hkj e3.symm
  · rw [upd_other σ nd' hMN] at hM
    obtain ⟨hb1, hB1, ho1, hr1⟩ := h M md hM
    refine ⟨hb1.kept hset (fun e => ?_), hB1, ho1, fun k hk => ⟨(hr1 k hk).1.kept hset (fun t e e2 => ?_), (hr1 k hk).2⟩⟩
    · rw [e, hog] at ho1
      cases ho1
    · have e3 := (hr1 k hk).2 t e
      rw [e2, hog] at e3
      simp at e3
      exact hMN e3.1.symm
/-- a new node from rows that nobody has -/
theorem Hp.new {B : Nat} {W W2 : World} {σ : Sig} (h : Hp B W σ) (hB : B ≤ W.heap.size) (hk : Kept (fun _ => False) W W2) (nd : Nd) (kv vv dv : Value) (T : Nat)
    (h0 : RowV 9 B W2 kv (strv nd.ks)) (h1 : RowV 9 B W2 vv (strv nd.vs)) (h2 : RowV 64 B W2 dv (ptrv nd.ns))
    (f0 : ∀ g, kv.ownBlock = some g → W.heap.size ≤ g) (f1 : ∀ g, vv.ownBlock = some g → W.heap.size ≤ g) (f2 : ∀ g, dv.ownBlock = some g → W.heap.size ≤ g)
    (d01 : ∀ g, kv.ownBlock = some g → vv.ownBlock ≠ some g) (d02 : ∀ g, kv.ownBlock = some g → dv.ownBlock ≠ some g) (d12 : ∀ g, vv.ownBlock = some g → dv.ownBlock ≠ some g) :
    Hp B (W2.alloc (.cells #[kv, vv, dv] T)) (upd σ W2.heap.size nd) ∧ σ W2.heap.size = none ∧ Kept (fun _ => False) W (W2.alloc (.cells #[kv, vv, dv] T)) := by
  have hk2 : Kept (fun _ => False) W (W2.alloc (.cells #[kv, vv, dv] T)) := hk.alloc _
  have hal : Kept (fun _ => False) W2 (W2.alloc (.cells #[kv, vv, dv] T)) := (Kept.refl _ W2).alloc _
  have hnone : σ W2.heap.size = none := by
    cases hs : σ W2.heap.size with
    | none => rfl
    | some md => have := (h.lt hs).2; have := hk.size; omega
  obtain ⟨fv, own, h, hF⟩ := h
  have g0 := h0.lt
  have g1 := h1.lt
  have g2 := h2.lt
  have hsz := hk.size
  refine ⟨⟨fun M i => if M = W2.heap.size then (match i with | 0 => kv | 1 => vv | _ => dv) else fv M i,
    fun k => if k = W2.heap.size then (k, 0) else if kv.ownBlock = some k then (W2.heap.size, 1) else if vv.ownBlock = some k then (W2.heap.size, 2) else if dv.ownBlock = some k then (W2.heap.size, 3) else own k, ?_, hF.kept hk2 (fun _ h => h.elim) rfl (fun k b _ e hk3 => by
    show (if k = W2.heap.size then ((k, 0) : Nat × Nat) else if kv.ownBlock = some k then (W2.heap.size, 1) else if vv.ownBlock = some k then (W2.heap.size, 2) else if dv.ownBlock = some k then (W2.heap.size, 3) else own k) = (k, 9)
    rw [if_neg (by omega), if_neg (fun e => by have := f0 k e; omega), if_neg (fun e => by have := f1 k e; omega), if_neg (fun e => by have := f2 k e; omega)]
    exact e)⟩, hnone, hk2⟩
  intro M md hM
  by_cases hMR : M = W2.heap.size
  · subst hMR
    rw [upd_same] at hM
    cases hM
    refine ⟨?_, by omega, ?_, fun j hj => ?_⟩
    · simp only [if_true]
      exact Box.new W2 [kv, vv, dv] T
    · simp only [if_true]
    · match j, hj with
      | 0, _ =>
        simp only [if_true]
        refine ⟨h0.kept hal (fun _ _ h => h), fun g e => ?_⟩
        have := (g0 g e).2
        rw [if_neg (by omega), if_pos e]
      | 1, _ =>
        simp only [if_true]
        refine ⟨h1.kept hal (fun _ _ h => h), fun g e => ?_⟩
        have := (g1 g e).2
        rw [if_neg (by omega), if_neg (fun e2 => d01 g e2 e), if_pos e]
      | 2, _ =>
        simp only [if_true]
        refine ⟨h2.kept hal (fun _ _ h => h), fun g e => ?_⟩
        have := (g2 g e).2
        rw [if_neg (by omega), if_neg (fun e2 => d02 g e2 e), if_neg (fun e2 => d12 g e2 e), if_pos e]
  · rw [upd_other σ nd hMR] at hM
    obtain ⟨hb1, hB1, ho1, hr1⟩ := h M md hM
    have hMlt := hb1.lt
    have key : ∀ k, k < W.heap.size → (if k = W2.heap.size then ((k, 0) : Nat × Nat) else if kv.ownBlock = some k then (W2.heap.size, 1) else if vv.ownBlock = some k then (W2.heap.size, 2) else if dv.ownBlock = some k then (W2.heap.size, 3) else own k) = own k := fun k hk3 => by
      rw [if_neg (by omega), if_neg (fun e => by have := f0 k e; omega), if_neg (fun e => by have := f1 k e; omega), if_neg (fun e => by have := f2 k e; omega)]
    simp only [hMR, if_false]
    refine ⟨hb1.kept hk2 (fun h => h), hB1, ?_, fun j hj => ⟨(hr1 j hj).1.kept hk2 (fun _ _ h => h), fun g e => ?_⟩⟩
    · have := key M hMlt
      rw [if_neg hMR] at this
      rw [this]; exact ho1
    · rw [key g ((hr1 j hj).1.lt g e).2]; exact (hr1 j hj).2 g e
end Go.Proofs.Ytegljepgncicjaa
