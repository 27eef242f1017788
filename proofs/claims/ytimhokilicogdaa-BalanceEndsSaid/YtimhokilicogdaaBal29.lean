/- Balance: orders that came in. -/
import Derived.Test.YtimhokilicogdaaBal28
import Derived.Test.YtimhokilicogdaaBal26
namespace Go.Proofs.Ytimhokilicogdaa
open Go.ChangeShapes Go.WideShapes Go.ChangeAt Go.RowKit Go.Deep Go.Joins Go.ChangeMaps
set_option linter.unusedVariables false
set_option linter.unusedSimpArgs false
theorem strIn_trod {H : Type} {enc : TypeId × Value → H} {P : Program} {w : World} {t e : TypeId} {v : Value} {x : DataW H × List MemPlace} {fuel : Nat} (ht : P.underlying t = some (.slice e)) (he : P.underlying e = some .string) (hc : P.cellsOf e = 1)
    (hf : DataW.trod enc P w 0 (fun _ => true) true fuel t [v] = some x) : ∃ ss, StrIn w v ss := by
  rcases open_strings ht he hc hf with ⟨hcs, hx⟩ | ⟨a, len, cap, ss, hcs, _, hl, hm, hz, hx, hcell, hws⟩
  · simp at hcs
    subst hcs
    exact ⟨[], .inl ⟨rfl, _, _, rfl⟩⟩
  · simp at hcs
    subst hcs
    simp only [if_true] at hz
    by_cases h0 : len = 0
    · subst h0; exact ⟨[], .inl ⟨rfl, _, _, rfl⟩⟩
    · have hc0 := hcell 0 (by omega)
      obtain ⟨B, o, rfl⟩ := addr_plain hc0
      have hB : B < w.heap.size := by
        rcases Nat.lt_or_ge B w.heap.size with h | h
        · exact h
        · rw [addr_add] at hc0
          simp [World.cell?, Array.getElem?_eq_none h] at hc0
      have hlen : (ss.take len).length = len := by simp; omega
      unfold maxLen at hm
      refine ⟨ss.take len, .inr ⟨B, o, cap, by rw [hlen], hB, by omega, by omega, fun k hk => ?_, fun j hj => ?_⟩⟩
      · have hk' : k < ss.length := by omega
        rw [List.getElem_take]
        exact hws ss[k] (List.getElem_mem hk')
      · have hj' : j < ss.length := by omega
        have := hcell j hj'
        rw [addr_add] at this
        rw [this]
        simp [hj']
theorem cellsOrd : Try.prog.cellsOf 61 = 2 := by kernel_rfl
theorem cellsStrs : Try.prog.cellsOf 59 = 1 := by kernel_rfl
theorem cellsBool : Try.prog.cellsOf 4 = 1 := by kernel_rfl
theorem ord_of_trod {H : Type} {enc : TypeId × Value → H} {w : World} {fuel : Nat} {cs : List Value} {x : DataW H × List MemPlace} (h : DataW.trod enc Try.prog w 0 (fun _ => true) true fuel 61 cs = some x) : ∃ c : Ord, cs = [c.p, .bool c.d] ∧ StrIn w c.p c.ss := by
  obtain ⟨xs, n', _, _, hl, hxs, hf⟩ := DataW.trod_struct Try.underlying61 h
  rw [cellsOrd] at hl
  have hx2 : xs.length = 2 := hxs
  have h0 := hf 0 { name := "Path", type := 59, offset := 0, embedded := false, tag := "", pkgPath := "", byteOffset := 0 } rfl
  have h1 := hf 1 { name := "Desc", type := 4, offset := 1, embedded := false, tag := "", pkgPath := "", byteOffset := 24 } rfl
  rw [List.getElem?_eq_getElem (by omega)] at h0 h1
  dsimp only at h0 h1
  rw [cellsStrs] at h0
  rw [cellsBool] at h1
  match cs, hl with
  | [a, b], _ =>
    simp at h0 h1
    obtain ⟨d, g1, _⟩ := DataW.trod_bool Try.underlying4 h1
    obtain ⟨ss, hs⟩ := strIn_trod (e := 9) Try.underlying59 Try.underlying9 (by kernel_rfl) h0
    simp at g1
    exact ⟨⟨a, ss, d⟩, by simp [g1], hs⟩
theorem ords_trod {H : Type} {enc : TypeId × Value → H} {w : World} {v : Value} {x : DataW H × List MemPlace} {fuel : Nat} (hf : DataW.trod enc Try.prog w 0 (fun _ => true) true fuel 22 [v] = some x) : ∃ os, OrdIn w v os := by
  rcases DataW.trod_slice Try.underlying22 hf with ⟨hcs, hx⟩ | ⟨a, len, cap, el, re, n, _, hcs, hx, _, hl, hm, hel, hi, _⟩
  · exact ⟨[], .inl ⟨rfl, none, 0, (List.cons.inj hcs).1⟩⟩
  · obtain rfl := (List.cons.inj hcs).1
    by_cases h0 : len = 0
    · subst h0; exact ⟨[], .inl ⟨rfl, _, _, rfl⟩⟩
    · rw [cellsOrd] at hi
      have fn : ∀ i : Nat, ∃ c : Ord, i < len → w.cells? 0 (a.add (i * 2)) 2 = some [c.p, .bool c.d] ∧ StrIn w c.p c.ss := fun i => by
        by_cases hil : i < len
        · have := hi i hil
          rw [List.getElem?_eq_getElem (by omega)] at this
          obtain ⟨cs, h1, h2⟩ := Option.bind_eq_some_iff.1 this
          obtain ⟨c, rfl, hc⟩ := ord_of_trod h2
          exact ⟨c, fun _ => ⟨h1, hc⟩⟩
        · exact ⟨⟨.bool true, [], false⟩, fun h => absurd h hil⟩
      obtain ⟨F, hF⟩ := Classical.axiomOfChoice fn
      have hat2 : ∀ i, i < len → w.cell? (a.add (i * 2 + 0)) = some (F i).p ∧ w.cell? (a.add (i * 2 + 1)) = some (.bool (F i).d) := fun i hil => by
        obtain ⟨_, hcl, hat⟩ := World.cells?_some (hF i hil).1
        have a0 := hat 0 (by omega)
        have a1 := hat 1 (by omega)
        exact ⟨by rw [← Go.Deep.add_add]; exact a0, by rw [← Go.Deep.add_add]; exact a1⟩
      obtain ⟨B, o, rfl⟩ := addr_plain (by have := (hat2 0 (by omega)).1; simpa using this)
      have hB : B < w.heap.size := by
        rcases Nat.lt_or_ge B w.heap.size with h | h
        · exact h
        · have := (hat2 0 (by omega)).1
          rw [addr_add] at this
          simp [World.cell?, Array.getElem?_eq_none h] at this
      refine ⟨(List.range len).map F, .inr ⟨B, o, cap, by simp, hB, by simp; omega, by simp; unfold maxLen at hm; omega, fun j hj => ?_⟩⟩
      simp at hj
      obtain ⟨e0, e1⟩ := hat2 j hj
      rw [addr_add] at e0 e1
      simp only [List.getElem_map, List.getElem_range]
      exact ⟨e0, by rw [Nat.add_assoc]; exact e1, (hF j hj).2⟩
end Go.Proofs.Ytimhokilicogdaa
