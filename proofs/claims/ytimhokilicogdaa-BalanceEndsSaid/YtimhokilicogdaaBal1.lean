/- Balance: values that came in: ints, chunks, routes. -/
import Derived.Test.YtimhokilicogdaaRows
import Derived.ProofKit
import Derived.Below
import Derived.ChangeSlices
import Derived.Deep.Slices
import Derived.Deep.Fields
import Derived.Deep.MidRow
import Derived.Lib.SmallJoins
import Derived.Lib.Hide
import Derived.WideKeyArgs
namespace Go.Proofs.Ytimhokilicogdaa
open Go.ChangeShapes Go.WideShapes Go.ChangeAt Go.RowKit Go.Joins Go.Deep Go.ChangeMaps
set_option linter.unusedVariables false
set_option linter.unusedSimpArgs false
theorem bcell {W w1 : World} (hb : Below W.heap.size W w1) : (∀ b o, b < W.heap.size → w1.cell? ⟨b, o, none⟩ = W.cell? ⟨b, o, none⟩) ∧ (∀ b o, b < W.heap.size → w1.frozen? ⟨b, o, none⟩ = W.frozen? ⟨b, o, none⟩) :=
  ⟨fun b o h => hb.cell (p := ⟨b, o, none⟩) h, fun b o h => hb.frozen (p := ⟨b, o, none⟩) h⟩
theorem addr_plain {w : World} {a : Addr} {v : Value} (h : w.cell? (a.add 0) = some v) : ∃ B o, a = ⟨B, o, none⟩ := by
  have e : a.add 0 = a := by simp [Addr.add]
  rw [e] at h
  obtain ⟨B, o, s⟩ := a
  cases s with
  | none => exact ⟨B, o, rfl⟩
  | some s =>
    unfold World.cell? at h
    split at h
    · simp at h
    · simp at h
theorem addr_add (B o j : Nat) : (⟨B, o, none⟩ : Addr).add j = ⟨B, o + j, none⟩ := by
  by_cases hj : j = 0 <;> simp [Addr.add, hj]
/-- the numbers of a slice that came in -/
def IntsIn (w : World) (v : Value) (xs : List Int) : Prop :=
  (xs = [] ∧ ∃ a cap, v = .slice a 0 cap) ∨ ∃ (B o cap : Nat), v = .slice (some ⟨B, o, none⟩) xs.length cap ∧ B < w.heap.size ∧ 0 < xs.length ∧ xs.length ≤ 9223372036854775807 ∧ ∀ j (h : j < xs.length), w.cell? ⟨B, o + j, none⟩ = some (.int .i64 xs[j])
theorem IntsIn.below {w w' : World} {v : Value} {xs : List Int} (h : IntsIn w v xs) (hb : Below w.heap.size w w') : IntsIn w' v xs := by
  rcases h with h | ⟨B, o, cap, h1, h2, h4, h5, h7⟩
  · exact .inl h
  · exact .inr ⟨B, o, cap, h1, Nat.lt_of_lt_of_le h2 hb.size, h4, h5, fun j hj => by rw [hb.cell (p := ⟨B, o + j, none⟩) h2]; exact h7 j hj⟩
theorem ints_trod {H : Type} {enc : TypeId × Value → H} {P : Program} {w : World} {t e : TypeId} {v : Value} {x : DataW H × List MemPlace} {fuel : Nat} (ht : P.underlying t = some (.slice e)) (he : P.underlying e = some (.int .i64)) (hc : P.cellsOf e = 1)
    (hf : DataW.trod enc P w 0 (fun _ => true) true fuel t [v] = some x) : ∃ xs, IntsIn w v xs := by
  rcases open_ints ht he hc hf with ⟨hcs, hx⟩ | ⟨a, len, cap, zs, hcs, _, hl, hm, hz, hx, hcell, hws⟩
  · exact ⟨[], .inl ⟨rfl, _, _, (List.cons.inj hcs).1⟩⟩
  · obtain rfl := (List.cons.inj hcs).1
    simp only [if_true] at hz
    by_cases h0 : len = 0
    · subst h0; exact ⟨[], .inl ⟨rfl, _, _, rfl⟩⟩
    · have hc0 := hcell 0 (by omega)
      obtain ⟨B, o, rfl⟩ := addr_plain hc0
      have hB : B < w.heap.size := by
        rcases Nat.lt_or_ge B w.heap.size with h | h
        · exact h
        · rw [addr_add] at hc0
          simp [World.cell?, Array.getElem?_eq_none h] at hc0
      have hlen : (zs.take len).length = len := by simp; omega
      unfold maxLen at hm
      refine ⟨zs.take len, .inr ⟨B, o, cap, by rw [hlen], hB, by omega, by omega, fun j hj => ?_⟩⟩
      have hj' : j < zs.length := by omega
      have := hcell j hj'
      rw [addr_add] at this
      rw [this]
      simp [hj']
/-- a chunk -/
structure Ch where
  lo : ByteArray
  hi : ByteArray
  sh : Int
  vr : Int
  jb : Bool
def Ch.cells (c : Ch) : List Value := [.string c.lo, .string c.hi, .int .i64 c.sh, .int .i64 c.vr, .bool c.jb]
def ChsIn (w : World) (v : Value) (cs : List Ch) : Prop :=
  (cs = [] ∧ ∃ a cap, v = .slice a 0 cap) ∨ ∃ (B o cap : Nat), v = .slice (some ⟨B, o, none⟩) cs.length cap ∧ B < w.heap.size ∧ 0 < cs.length ∧ cs.length ≤ 9223372036854775807 ∧
    ∀ j (h : j < cs.length), w.rangeAt B (o + j * 5) cs[j].cells
theorem ChsIn.below {w w' : World} {v : Value} {cs : List Ch} (h : ChsIn w v cs) (hb : Below w.heap.size w w') : ChsIn w' v cs := by
  rcases h with h | ⟨B, o, cap, h1, h2, h3, h4, h5⟩
  · exact .inl h
  · exact .inr ⟨B, o, cap, h1, Nat.lt_of_lt_of_le h2 hb.size, h3, h4, fun j hj => fun i u hu => by rw [hb.cell (p := ⟨B, o + j * 5 + i, none⟩) h2]; exact h5 j hj i u hu⟩
theorem cellsCh : Try.prog.cellsOf 47 = 5 := by kernel_rfl
theorem ch_of_trod {H : Type} {enc : TypeId × Value → H} {w : World} {fuel : Nat} {cs : List Value} {x : DataW H × List MemPlace} {base : Nat} {spare : Nat → Bool} {held : Bool} (h : DataW.trod enc Try.prog w base spare held fuel 47 cs = some x) : ∃ c : Ch, cs = c.cells := by
  obtain ⟨xs, n', _, _, hl, hxs, hf⟩ := DataW.trod_struct Try.underlying47 h
  rw [cellsCh] at hl
  have hx5 : xs.length = 5 := hxs
  have h0 := hf 0 { name := "Lo", type := 9, offset := 0, embedded := false, tag := "", pkgPath := "", byteOffset := 0 } rfl
  have h1 := hf 1 { name := "Hi", type := 9, offset := 1, embedded := false, tag := "", pkgPath := "", byteOffset := 16 } rfl
  have h2 := hf 2 { name := "Shard", type := 3, offset := 2, embedded := false, tag := "", pkgPath := "", byteOffset := 32 } rfl
  have h3 := hf 3 { name := "Version", type := 3, offset := 3, embedded := false, tag := "", pkgPath := "", byteOffset := 40 } rfl
  have h4 := hf 4 { name := "Jumbo", type := 4, offset := 4, embedded := false, tag := "", pkgPath := "", byteOffset := 48 } rfl
  rw [List.getElem?_eq_getElem (by omega)] at h0 h1 h2 h3 h4
  have e9 : Try.prog.cellsOf 9 = 1 := by kernel_rfl
  have e3 : Try.prog.cellsOf 3 = 1 := by kernel_rfl
  have e4 : Try.prog.cellsOf 4 = 1 := by kernel_rfl
  dsimp only at h0 h1 h2 h3 h4
  rw [e9] at h0 h1
  rw [e3] at h2 h3
  rw [e4] at h4
  obtain ⟨s0, g0, _⟩ := DataW.trod_string Try.underlying9 h0
  obtain ⟨s1, g1, _⟩ := DataW.trod_string Try.underlying9 h1
  obtain ⟨s2, g2, _⟩ := DataW.trod_int Try.underlying3 h2
  obtain ⟨s3, g3, _⟩ := DataW.trod_int Try.underlying3 h3
  obtain ⟨s4, g4, _⟩ := DataW.trod_bool Try.underlying4 h4
  match cs, hl with
  | [a, b, c, d, e], _ =>
    simp at g0 g1 g2 g3 g4
    exact ⟨⟨s0, s1, s2, s3, s4⟩, by simp [Ch.cells, g0, g1, g2, g3, g4]⟩
theorem chs_trod {H : Type} {enc : TypeId × Value → H} {w : World} {v : Value} {x : DataW H × List MemPlace} {fuel : Nat} (hf : DataW.trod enc Try.prog w 0 (fun _ => true) true fuel 25 [v] = some x) : ∃ cs, ChsIn w v cs := by
  rcases DataW.trod_slice Try.underlying25 hf with ⟨hcs, hx⟩ | ⟨a, len, cap, el, re, n, _, hcs, hx, _, hl, hm, hel, hi, _⟩
  · exact ⟨[], .inl ⟨rfl, none, 0, (List.cons.inj hcs).1⟩⟩
  · obtain rfl := (List.cons.inj hcs).1
    by_cases h0 : len = 0
    · subst h0; exact ⟨[], .inl ⟨rfl, _, _, rfl⟩⟩
    · rw [cellsCh] at hi
      have fn : ∀ i : Nat, ∃ c : Ch, i < len → w.cells? 0 (a.add (i * 5)) 5 = some c.cells := fun i => by
        by_cases hil : i < len
        · have := hi i hil
          rw [List.getElem?_eq_getElem (by omega)] at this
          obtain ⟨cs, h1, h2⟩ := Option.bind_eq_some_iff.1 this
          obtain ⟨c, rfl⟩ := ch_of_trod h2
          exact ⟨c, fun _ => h1⟩
        · exact ⟨⟨⟨#[]⟩, ⟨#[]⟩, 0, 0, false⟩, fun h => absurd h hil⟩
      obtain ⟨F, hF⟩ := Classical.axiomOfChoice fn
      have hc0 : ∃ u, w.cell? (a.add 0) = some u := by
        have h1 := hF 0 (by omega)
        obtain ⟨_, hcl, hat⟩ := World.cells?_some h1
        have h3 := hat 0 (by omega)
        have e : (a.add (0 * 5)).add 0 = a.add 0 := by simp [Addr.add]
        rw [e] at h3
        exact ⟨_, h3⟩
      obtain ⟨u, hu⟩ := hc0
      obtain ⟨B, o, rfl⟩ := addr_plain hu
      have hB : B < w.heap.size := by
        rcases Nat.lt_or_ge B w.heap.size with h | h
        · exact h
        · rw [addr_add] at hu
          simp [World.cell?, Array.getElem?_eq_none h] at hu
      refine ⟨(List.range len).map F, .inr ⟨B, o, cap, by simp, hB, by simp; omega, by simp; unfold maxLen at hm; omega, fun j hj => ?_⟩⟩
      simp at hj
      have h1 := hF j hj
      obtain ⟨_, hcl, hat⟩ := World.cells?_some h1
      simp only [List.getElem_map, List.getElem_range]
      intro i v hv
      have hil : i < 5 := by
        have := (List.getElem?_eq_some_iff.1 hv).1
        simpa [Ch.cells] using this
      have := hat i hil
      rw [addr_add, addr_add] at this
      rw [this, hv]
end Go.Proofs.Ytimhokilicogdaa
