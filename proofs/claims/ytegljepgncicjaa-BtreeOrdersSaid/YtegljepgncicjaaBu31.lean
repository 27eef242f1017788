/- Btree: a slice of strings that came in. -/
import Derived.Test.YtegljepgncicjaaBu29
import Derived.ProofKit
import Derived.WideKeyArgs
import Derived.SliceStrings
import Derived.Lib.SmallJoins
namespace Go.Proofs.Ytegljepgncicjaa
open Go.ChangeShapes Go.WideShapes Go.ChangeAt Go.RowKit Go.ChangeMaps Go.Joins Go.Deep
set_option linter.unusedVariables false
set_option linter.unusedSimpArgs false
theorem addr_plain {w : World} {a : Addr} {v : Value} (h : w.cell? (a.add 0) = some v) : ∃ B o, a = ⟨B, o, none⟩ := by
  have e : a.add 0 = a := by simp [Addr.add]
  rw [e] at h
  obtain ⟨B, o, s⟩ := a
  cases s with
  | none => exact ⟨B, o, rfl⟩
  | some s =>
    unfold World.cell? at h
    split at h
    · simp at h
    · simp at h
theorem weightsAll_mem {H : Type} {P : Program} {e : TypeId} : ∀ {l : List (DataW H)} {d : DataW H}, d ∈ l → ∀ n ∈ d.weights P e, n ∈ DataW.weightsAll P e l
  | [], _, hd, _, _ => by simp at hd
  | a :: l, d, hd, n, hn => by
    simp only [DataW.weightsAll, List.mem_append]
    rcases List.mem_cons.1 hd with rfl | hd
    · exact .inl hn
    · exact .inr (weightsAll_mem hd n hn)
theorem keysArg_sized {H : Type} {enc : TypeId × Value → H} {P : Program} {w : World} {t e : TypeId} {v : Value} {d : DataW H} {ps : List MemPlace} {r : Reach} {b0 : Nat} (ht : P.underlying t = some (.slice e)) (he : P.underlying e = some .string) (hc : P.cellsOf e = 1)
    (hv : Value.okWide P w r b0 t v) (h : DataW.Trod enc P w 0 (fun _ => true) true t v d ps) (hsz : ∀ n ∈ d.weights P t, n ≤ 140737488351232) : ∃ xs, KeysArg w v xs ∧ ∀ j, j < xs.length → (sx xs j).size ≤ 140737488351232 := by
  obtain ⟨a, len, cap, rfl⟩ := okWide_slice ht hv
  obtain ⟨fuel, hf⟩ := h
  rcases open_strings ht he hc hf with ⟨hcs, hx⟩ | ⟨a', len', cap', ss, hcs, _, hl, hm, hz, hx, hcell, hws⟩
  · simp [Value.cells] at hcs
    obtain ⟨rfl, rfl, rfl⟩ := hcs
    exact ⟨[], ⟨none, 0, rfl, fun h => by simp at h⟩, fun j h => by simp at h⟩
  · simp [Value.cells] at hcs
    obtain ⟨rfl, rfl, rfl⟩ := hcs
    simp only [if_true] at hz
    by_cases h0 : len = 0
    · subst h0; exact ⟨[], ⟨_, _, rfl, fun h => by simp at h⟩, fun j h => by simp at h⟩
    · have hc0 := hcell 0 (by omega)
      obtain ⟨B, o, rfl⟩ := addr_plain hc0
      have hB : B < w.heap.size := by
        rcases Nat.lt_or_ge B w.heap.size with h | h
        · exact h
        · rw [addr_add'] at hc0
          simp [World.cell?, Array.getElem?_eq_none h] at hc0
      have hlen : (ss.take len).length = len := by simp; omega
      have hd : d = .slice (strs (ss.take len)) (strs (ss.drop len)) := (Prod.mk.inj hx).1
      refine ⟨ss.take len, ⟨_, _, by rw [hlen], fun _ => ⟨B, o, rfl, hB, fun j hj => ?_⟩⟩, fun j hj => ?_⟩
      · have hj' : j < ss.length := by omega
        have := hcell j hj'
        rw [addr_add'] at this
        rw [this, sx_get hj, List.getElem_take]
        simp [List.getD, List.getElem?_eq_getElem hj']
      · rw [sx_get hj]
        have hmem : (DataW.lit (.string (ss.take len)[j].data.toList) : DataW H) ∈ strs (ss.take len) := List.mem_map.2 ⟨_, List.getElem_mem hj, rfl⟩
        have h1 := weightsAll_mem (P := P) (e := e) hmem (ss.take len)[j].data.toList.length (by simp [DataW.weights])
        have h2 := hsz (ss.take len)[j].data.toList.length (by rw [hd]; simp only [DataW.weights, ht]; exact List.mem_cons_of_mem _ (List.mem_append_left _ h1))
        have e2 : (ss.take len)[j].data.toList.length = (ss.take len)[j].size := Array.length_toList
        rw [e2] at h2
        exact h2
theorem keysArg_of {H : Type} {enc : TypeId × Value → H} {P : Program} {w : World} {t e : TypeId} {v : Value} {d : DataW H} {ps : List MemPlace} {r : Reach} {b0 : Nat} (ht : P.underlying t = some (.slice e)) (he : P.underlying e = some .string) (hc : P.cellsOf e = 1)
    (hv : Value.okWide P w r b0 t v) (h : DataW.Trod enc P w 0 (fun _ => true) true t v d ps) : ∃ xs, KeysArg w v xs := by
  obtain ⟨a, len, cap, rfl⟩ := okWide_slice ht hv
  obtain ⟨fuel, hf⟩ := h
  rcases open_strings ht he hc hf with ⟨hcs, hx⟩ | ⟨a', len', cap', ss, hcs, _, hl, hm, hz, hx, hcell, hws⟩
  · simp [Value.cells] at hcs
    obtain ⟨rfl, rfl, rfl⟩ := hcs
    exact ⟨[], none, 0, rfl, fun h => by simp at h⟩
  · simp [Value.cells] at hcs
    obtain ⟨rfl, rfl, rfl⟩ := hcs
    simp only [if_true] at hz
    by_cases h0 : len = 0
    · subst h0; exact ⟨[], _, _, rfl, fun h => by simp at h⟩
    · have hc0 := hcell 0 (by omega)
      obtain ⟨B, o, rfl⟩ := addr_plain hc0
      have hB : B < w.heap.size := by
        rcases Nat.lt_or_ge B w.heap.size with h | h
        · exact h
        · rw [addr_add'] at hc0
          simp [World.cell?, Array.getElem?_eq_none h] at hc0
      have hlen : (ss.take len).length = len := by simp; omega
      refine ⟨ss.take len, _, _, by rw [hlen], fun _ => ⟨B, o, rfl, hB, fun j hj => ?_⟩⟩
      have hj' : j < ss.length := by omega
      have := hcell j hj'
      rw [addr_add'] at this
      rw [this, sx_get hj, List.getElem_take]
      simp [List.getD, List.getElem?_eq_getElem hj']
end Go.Proofs.Ytegljepgncicjaa
