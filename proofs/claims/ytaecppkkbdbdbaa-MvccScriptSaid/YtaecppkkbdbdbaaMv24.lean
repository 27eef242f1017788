/- Mvcc: a slice of calls that came in. -/
import Derived.Test.YtaecppkkbdbdbaaMv23
import Derived.Deep.Slices
import Derived.Deep.Fields
namespace Go.Proofs.Ytaecppkkbdbdbaa
open Go.ChangeShapes Go.WideShapes Go.ChangeAt Go.RowKit Go.ChangeMaps Go.Deep Go.Shelf Go.Sort
set_option linter.unusedVariables false
set_option linter.unusedSimpArgs false
theorem addr_plain {w : World} {a : Addr} {v : Value} (h : w.cell? (a.add 0) = some v) : ∃ B o, a = ⟨B, o, none⟩ := by
  have e : a.add 0 = a := by simp [Addr.add]
  rw [e] at h
  obtain ⟨B, o, s⟩ := a
  cases s with
  | none => exact ⟨B, o, rfl⟩
  | some s =>
    unfold World.cell? at h
    split at h
    · simp at h
    · simp at h
def opl (x : Opv) : List Value := [.int .i64 x.kind, .string x.key, .string x.value, .int .i64 x.stamp, .bool x.back]
def OpsArg (w : World) (v : Value) (ss : List Opv) : Prop :=
  ∃ a c, v = .slice a ss.length c ∧ (0 < ss.length → ∃ B o, a = some ⟨B, o, none⟩ ∧ B < w.heap.size ∧ ∀ j (h : j < ss.length), w.cell? ⟨B, o + j * 5, none⟩ = some (.int .i64 ss[j].kind) ∧ w.cell? ⟨B, o + j * 5 + 1, none⟩ = some (.string ss[j].key) ∧ w.cell? ⟨B, o + j * 5 + 2, none⟩ = some (.string ss[j].value) ∧ w.cell? ⟨B, o + j * 5 + 3, none⟩ = some (.int .i64 ss[j].stamp) ∧ w.cell? ⟨B, o + j * 5 + 4, none⟩ = some (.bool ss[j].back))
theorem OpsArg.below {w w' : World} {v : Value} {ss : List Opv} (h : OpsArg w v ss) (hb : Below w.heap.size w w') : OpsArg w' v ss := by
  obtain ⟨a, c, rfl, h⟩ := h
  refine ⟨a, c, rfl, fun h0 => ?_⟩
  obtain ⟨B, o, h1, h2, h3⟩ := h h0
  exact ⟨B, o, h1, Nat.lt_of_lt_of_le h2 hb.size, fun j hj => ⟨(hb.cell (p := ⟨B, o + j * 5, none⟩) h2).trans (h3 j hj).1, (hb.cell (p := ⟨B, o + j * 5 + 1, none⟩) h2).trans (h3 j hj).2.1, (hb.cell (p := ⟨B, o + j * 5 + 2, none⟩) h2).trans (h3 j hj).2.2.1, (hb.cell (p := ⟨B, o + j * 5 + 3, none⟩) h2).trans (h3 j hj).2.2.2.1, (hb.cell (p := ⟨B, o + j * 5 + 4, none⟩) h2).trans (h3 j hj).2.2.2.2⟩⟩
set_option maxRecDepth 100000 in
theorem op_of_trod {H : Type} {enc : TypeId × Value → H} {w : World} {fuel : Nat} {cs : List Value} {x : DataW H × List MemPlace} {base : Nat} {spare : Nat → Bool} {held : Bool} (h : DataW.trod enc Try.prog w base spare held fuel 31 cs = some x) : ∃ s, cs = opl s := by
  obtain ⟨xs, n', _, _, hl, hxs, hf⟩ := DataW.trod_struct Try.underlying31 h
  have hc : Try.prog.cellsOf 31 = 5 := by kernel_rfl
  rw [hc] at hl
  have hx5 : xs.length = 5 := hxs
  have h0 := hf 0 { name := "Kind", type := 3, offset := 0, embedded := false, tag := "", pkgPath := "", byteOffset := 0 } rfl
  have h1 := hf 1 { name := "Key", type := 9, offset := 1, embedded := false, tag := "", pkgPath := "", byteOffset := 8 } rfl
  have h2 := hf 2 { name := "Value", type := 9, offset := 2, embedded := false, tag := "", pkgPath := "", byteOffset := 24 } rfl
  have h3 := hf 3 { name := "Stamp", type := 3, offset := 3, embedded := false, tag := "", pkgPath := "", byteOffset := 40 } rfl
  have h4 := hf 4 { name := "Back", type := 4, offset := 4, embedded := false, tag := "", pkgPath := "", byteOffset := 48 } rfl
  rw [List.getElem?_eq_getElem (by omega)] at h0 h1 h2 h3 h4
  have e3 : Try.prog.cellsOf 3 = 1 := by kernel_rfl
  have e4 : Try.prog.cellsOf 4 = 1 := by kernel_rfl
  have e9 : Try.prog.cellsOf 9 = 1 := by kernel_rfl
  dsimp only at h0 h1 h2 h3 h4
  rw [e3] at h0 h3
  rw [e4] at h4
  rw [e9] at h1 h2
  obtain ⟨t, ht, _⟩ := DataW.trod_int Try.underlying3 h0
  obtain ⟨s, hs, _⟩ := DataW.trod_string Try.underlying9 h1
  obtain ⟨u, hu, _⟩ := DataW.trod_string Try.underlying9 h2
  obtain ⟨q, hq, _⟩ := DataW.trod_int Try.underlying3 h3
  obtain ⟨z, hz, _⟩ := DataW.trod_bool Try.underlying4 h4
  match cs, hl with
  | [a, b, c, d, e], _ =>
    simp at ht hs hu hq hz
    exact ⟨⟨t, s, u, q, z⟩, by rw [ht, hs, hu, hq, hz]; rfl⟩
set_option maxRecDepth 100000 in
theorem opsArg_of {H : Type} {enc : TypeId × Value → H} {w : World} {v : Value} {d : DataW H} {ps : List MemPlace} {r : Reach} {b0 : Nat}
    (hv : Value.okWide Try.prog w r b0 22 v) (h : DataW.Trod enc Try.prog w 0 (fun _ => true) true 22 v d ps) : ∃ ss, OpsArg w v ss := by
  obtain ⟨a0, len0, cap0, rfl⟩ := okWide_slice Try.underlying22 hv
  obtain ⟨fuel, hf⟩ := h
  rcases DataW.trod_slice Try.underlying22 hf with ⟨hcs, hx⟩ | ⟨a, len, cap, el, re, n, _, hcs, hx, _, hl, hm, hel, hi, _⟩
  · simp [Value.cells] at hcs
    obtain ⟨rfl, rfl, rfl⟩ := hcs
    exact ⟨[], ⟨none, 0, rfl, fun h => by simp at h⟩⟩
  · simp [Value.cells] at hcs
    obtain ⟨rfl, rfl, rfl⟩ := hcs
    by_cases h0 : len0 = 0
    · subst h0; exact ⟨[], ⟨_, _, rfl, fun h => by simp at h⟩⟩
    · have hc : Try.prog.cellsOf 31 = 5 := by kernel_rfl
      rw [hc] at hi
      have fn : ∀ i : Nat, ∃ s : Opv, i < len0 → w.cells? 0 (a.add (i * 5)) 5 = some (opl s) := fun i => by
        by_cases hil : i < len0
        · have := hi i hil
          rw [List.getElem?_eq_getElem (by omega)] at this
          obtain ⟨cs, h1, h2⟩ := Option.bind_eq_some_iff.1 this
          obtain ⟨s, rfl⟩ := op_of_trod h2
          exact ⟨s, fun _ => h1⟩
        · exact ⟨⟨0, ByteArray.empty, ByteArray.empty, 0, false⟩, fun h => absurd h hil⟩
      obtain ⟨F, hF⟩ := Classical.axiomOfChoice fn
      have hat : ∀ j, j < len0 → ∀ i (hi : i < 5), w.cell? (a.add (j * 5 + i)) = some ((opl (F j))[i]'hi) := fun j hj i hi => by
        obtain ⟨_, _, hat⟩ := World.cells?_some (hF j hj)
        have h3 := hat i hi
        have e : (a.add (j * 5)).add i = a.add (j * 5 + i) := by
          generalize j * 5 = m
          by_cases h1 : i = 0 <;> by_cases h2 : m = 0 <;> simp [Addr.add, h1, h2, Nat.add_assoc]
        rw [e] at h3
        rw [h3]
        exact List.getElem?_eq_getElem (l := opl (F j)) hi
      have hc0 := hat 0 (by omega) 0 (by omega)
      obtain ⟨B, o, rfl⟩ := addr_plain hc0
      have hB : B < w.heap.size := by
        rcases Nat.lt_or_ge B w.heap.size with h | h
        · exact h
        · rw [addr_add'] at hc0
          simp [World.cell?, Array.getElem?_eq_none h] at hc0
      refine ⟨(List.range len0).map F, ⟨some ⟨B, o, none⟩, cap0, by simp, fun _ => ⟨B, o, rfl, hB, fun j hj => ?_⟩⟩⟩
      simp at hj
      have a0 := hat j hj 0 (by omega)
      have a1 := hat j hj 1 (by omega)
      have a2 := hat j hj 2 (by omega)
      have a3 := hat j hj 3 (by omega)
      have a4 := hat j hj 4 (by omega)
      rw [addr_add'] at a0 a1 a2 a3 a4
      simp only [List.getElem_map, List.getElem_range]
      exact ⟨a0, a1, a2, a3, a4⟩
end Go.Proofs.Ytaecppkkbdbdbaa
