/- Mvcc: a range over a function that may be left early, with one continuation. -/
import Derived.Test.YtaecppkkbdbdbaaMv30
namespace Go.Proofs.Ytaecppkkbdbdbaa
open Go.ChangeShapes Go.WideShapes Go.ChangeAt Go.RowKit Go.Deep Go.ChangeMaps Go.Shelf Go.Sort
set_option linter.unusedVariables false
set_option linter.unusedSimpArgs false
theorem wpIn_range_join {α : Type} {F : Fence} {n : Nat} {P : Program} {g : Operand} {ps : Array Tmp} {assign body : Code} {Q : Exit → Act → World → Prop} {a : Act} {w : World}
    (k : Nat) (G : Nat → World → Prop)
    (hro : F.round = none) (h1 : 1 ≤ n) {gf : Nat} {lb : Array Value} (hg : a.eval g = .func (.func gf) #[] lb) (hFg : F.fn gf) (eg : ∀ args w, (callFunc gf args).run P w = .ok (.enter gf args) w)
    {encs : α → Array Value} {Kp : World → World → Prop} {S Sp : List α → Prop} {N : Nat} {w0 : World} (hseq : SeqStopsK F (n - 1) P gf lb encs Kp S Sp N w0)
    (hKt : ∀ {A B C : World}, Kp A B → Kp B C → Kp A C) (hKb : ∀ (W : World) (l : Nat) (o o' : Obj), w.heap.size ≤ l → W.heap[l]? = some o → o.isCells = false → o.isWalk = false → Kp W (W.putObj l o')) (hb0 : Below w0.heap.size w0 w) (hps : ∀ x, (encs x).size = ps.size)
    (I : List α → World → Prop) (Ix : List α → World → Prop) (hI : OwnFrom w.heap.size I) (hIx : OwnFrom w.heap.size Ix) (h0 : I [] w) (Ax : α → Act → World → Prop) (hAx : ∀ x a', OwnFrom w.heap.size (fun (_ : Unit) W => Ax x a' W))
    (hexit : ∀ (c : Code) (a : Act) (W : World), c = .exit k → Q .normal a W → c.wpIn F n P Q a W)
    (hassign : ∀ (l : Nat) (pre : List α) (x : α) (W : World) (K : Act → World → Prop), I pre W → (∀ a' W', KeepsFrom w.heap.size W W' → Kp W W' → I pre W' → Ax x a' W' → K a' W') →
      assign.wpIn (F.inRound l) (n - 1 - 1) P (Exit.then K (fun _ _ _ => False)) { tmps := (ps.zip (encs x)).foldl (fun t (p, v) => t.setIfInBounds p v) a.tmps, defers := [] } W)
    (hbody : ∀ (l : Nat) (pre : List α) (x : α) (a' : Act) (W : World), w.heap.size ≤ l → (∃ r, W.heap[l]? = some (.loop r)) → I pre W → Ax x a' W → pre.length < N → body.wpIn (F.inRound l) (n - 1 - 1) P (ownPostG w.heap.size Kp I (fun c pre W => c = .exit k ∧ Ix pre W) (pre ++ [x]) W) a' W)
    (hdone : ∀ (D : Nat) (xs : List α) (W : World), w.heap.size ≤ D → S xs → I xs W → W.heap[D]? = some (.deferred (some [])) → G D W)
    (hstop : ∀ (D : Nat) (pre : List α) (W : World), w.heap.size ≤ D → Sp pre → Ix pre W → W.heap[D]? = some (.deferred (some [])) → G D W)
    (hafter : ∀ (D : Nat) (W : World), w.heap.size ≤ D → W.heap[D]? = some (.deferred (some [])) → G D W → Q .normal { a with defers := { target := .collected D, args := #[] } :: a.defers } W) :
    (Code.rangeFunc g ps assign body).wpIn F n P Q a w :=
  wpIn_rangeFunc_ownH hro h1 hg hFg eg hseq hKt hKb hb0 hps I (fun c pre W => c = .exit k ∧ Ix pre W) hI
    (fun c => OwnFrom.and (fun _ _ _ _ h _ _ => h) hIx) h0 Ax hAx hassign hbody
    (fun D xs W hD hS hi hd => hafter D W hD hd (hdone D xs W hD hS hi hd))
    (fun D c pre W hD hS hx hd => hexit c _ W hx.1 (hafter D W hD hd (hstop D pre W hD hS hx.2 hd)))
/-- the head of a row -/
theorem RowS.take {W : World} {a : Option Addr} {c : Nat} {L : List (Bs × Bs)} (k : Nat) (hk : k ≤ L.length) (h : RowS W (.slice a L.length c) L) : RowS W (.slice a k c) (L.take k) := by
  have hl : (L.take k).length = k := by rw [List.length_take]; omega
  obtain ⟨a', c', e, h2, h3⟩ := h
  cases e
  refine ⟨a, c, by rw [hl], by omega, fun h0 => ?_⟩
  rw [hl] at h0
  obtain ⟨g, e1, g1, g2, g3, g4⟩ := h3 (by omega)
  refine ⟨g, e1, by omega, by omega, g3, fun j hj => ?_⟩
  rw [hl] at hj
  rw [List.getElem_take]
  exact g4 j (by omega)
/-- a store into one's own box keeps what an iterator asks -/
theorem kps_set {n₀ b c B : Nat} {t : TypeId} {v : Value} (u : Value) {W : World} (hv : Boxed W B t v) (ht : t ≠ 9) (hB : B < b) (hn : n₀ ≤ B) : KpS n₀ b c W (W.setCell ⟨B, 0, none⟩ u) := by
  have key : ∀ i, i ≠ B → (W.setCell ⟨B, 0, none⟩ u).heap[i]? = W.heap[i]? := fun i hiB => by
    show (W.heap.modify B _)[i]? = _
    rw [Array.getElem?_modify, if_neg (fun e => hiB e.symm)]
  refine ⟨⟨rfl, rfl, rfl, by show W.heap.size ≤ (W.heap.modify B _).size; rw [Array.size_modify]; exact Nat.le_refl _, fun i hi => key i (by omega)⟩, fun i cs fr hi => ?_, fun i h1 h2 h3 => key i (by omega)⟩
  rw [key i (fun e2 => ?_)]
  · exact hi
  · rw [e2, show W.heap[B]? = _ from hv] at hi
    cases hi
    exact ht rfl
end Go.Proofs.Ytaecppkkbdbdbaa
