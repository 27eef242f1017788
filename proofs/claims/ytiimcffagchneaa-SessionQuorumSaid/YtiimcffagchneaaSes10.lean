/- Sessions: SessionGrows whatever the slice; ints that came in. -/
import Derived.Test.YtiimcffagchneaaSes9
import Derived.ChangeSlices
namespace Go.Proofs.Ytiimcffagchneaa
open Go.ChangeShapes Go.WideShapes Go.ChangeAt Go.RowKit Go.ChangeMaps
set_option linter.unusedVariables false
set_option linter.unusedSimpArgs false
theorem sesgrows_long (a : Option Addr) (len cap : Nat) (w : World) (hl : ¬ len ≤ 100) (hm : len ≤ 9223372036854775807) :
    Calls Try.prog 7 #[.slice a len cap] w fun e w' => e = .returned (.bool true) ∧ Below w.heap.size w w' := by
  have hb : decide ((100 : Int) < (len : Int)) = true := by simp; omega
  go_enter Try.func7, Try.ntmps7
  go_wp2_with fail
  refine (awake_any _).mono ?_
  rintro e w3 ⟨rfl, hb3⟩
  go_wp2_with fail
  go_ret
  exact ⟨rfl, hb3⟩
set_option maxHeartbeats 400000 in
theorem sesgrows_0 (a : Option Addr) (cap : Nat) (w : World) :
    Calls Try.prog 7 #[.slice a 0 cap] w fun e w' => e = .returned (.bool true) ∧ Below w.heap.size w w' := by
  go_enter Try.func7, Try.ntmps7
  go_wp2_with fail
  refine (new_s _).mono ?_
  rintro e w1 ⟨he1, hb1⟩
  simp only [ses] at he1
  subst he1
  have hs1 : w.heap.size ≤ w1.heap.size := hb1.size
  go_wp2_with fail
  go_loopw [8] (fun i W => i = .int .i64 0 ∧ Below w.heap.size w W) (fun _ _ => 0)
  case atStart => exact ⟨rfl, hb1.alloc hs1 _⟩
  case round =>
    obtain ⟨rfl, hbk⟩ := hrel
    have hsk : w.heap.size ≤ wr.heap.size := hbk.size
    go_wp2_with fail
    refine (awake_any _).mono ?_
    rintro e w3 ⟨rfl, hb3⟩
    go_wp2_with fail
    go_ret
    exact ⟨rfl, hbk.trans (hb3.mono hsk)⟩
/-- a slice of ints that came in: nil, empty, or cells that read as xs -/
def IntArg (w : World) (v : Value) : Prop :=
  v = .slice none 0 0 ∨ (∃ a cap, v = .slice (some a) 0 cap) ∨ ∃ (B o cap : Nat) (xs : List Int), v = .slice (some ⟨B, o, none⟩) xs.length cap ∧ B < w.heap.size ∧ xs.length ≤ cap ∧ 0 < xs.length ∧ xs.length ≤ 9223372036854775807 ∧
    (∀ x ∈ xs, (Lit.int .i64 x).wf = true) ∧ ∀ j (h : j < xs.length), w.cell? ⟨B, o + j, none⟩ = some (.int .i64 xs[j])
theorem sesgrows_law (v : Value) (w : World) (hv : IntArg w v) :
    Calls Try.prog 7 #[v] w fun e w' => e = .returned (.bool true) ∧ Below w.heap.size w w' := by
  rcases hv with rfl | ⟨a, cap, rfl⟩ | ⟨B, o, cap, xs, rfl, hB, hc, h0, hl, _, hcell⟩
  · exact sesgrows_0 none 0 w
  · exact sesgrows_0 (some a) cap w
  · by_cases h : xs.length ≤ 100
    · exact sesgrows_in xs B o cap w hB h hcell
    · exact sesgrows_long _ _ _ w h hl
theorem addr_plain {w : World} {a : Addr} {v : Value} (h : w.cell? (a.add 0) = some v) : ∃ B o, a = ⟨B, o, none⟩ := by
  have e : a.add 0 = a := by simp [Addr.add]
  rw [e] at h
  obtain ⟨B, o, s⟩ := a
  cases s with
  | none => exact ⟨B, o, rfl⟩
  | some s =>
    unfold World.cell? at h
    split at h
    · simp at h
    · simp at h
theorem addr_add (B o j : Nat) : (⟨B, o, none⟩ : Addr).add j = ⟨B, o + j, none⟩ := by
  by_cases hj : j = 0 <;> simp [Addr.add, hj]
theorem intArg_trod {H : Type} {enc : TypeId × Value → H} {P : Program} {w : World} {t e : TypeId} {v : Value} {x : DataW H × List MemPlace} {fuel : Nat} (ht : P.underlying t = some (.slice e)) (he : P.underlying e = some (.int .i64)) (hc : P.cellsOf e = 1)
    (hf : DataW.trod enc P w 0 (fun _ => true) true fuel t [v] = some x) : IntArg w v := by
  rcases open_ints ht he hc hf with ⟨hcs, hx⟩ | ⟨a, len, cap, zs, hcs, _, hl, hm, hz, hx, hcell, hws⟩
  · exact .inl (List.cons.inj hcs).1
  · obtain rfl := (List.cons.inj hcs).1
    simp only [if_true] at hz
    by_cases h0 : len = 0
    · subst h0; exact .inr (.inl ⟨_, _, rfl⟩)
    · have hc0 := hcell 0 (by omega)
      obtain ⟨B, o, rfl⟩ := addr_plain hc0
      have hB : B < w.heap.size := by
        rcases Nat.lt_or_ge B w.heap.size with h | h
        · exact h
        · rw [addr_add] at hc0
          simp [World.cell?, Array.getElem?_eq_none h] at hc0
      have hlen : (zs.take len).length = len := by simp; omega
      unfold maxLen at hm
      refine .inr (.inr ⟨B, o, cap, zs.take len, by rw [hlen], hB, by omega, by omega, by omega, fun x hx => hws x (List.mem_of_mem_take hx), fun j hj => ?_⟩)
      have hj' : j < zs.length := by omega
      have := hcell j hj'
      rw [addr_add] at this
      rw [this]
      simp [hj']
theorem intArg_of {H : Type} {enc : TypeId × Value → H} {P : Program} {w : World} {t e : TypeId} {v : Value} {d : DataW H} {ps : List MemPlace} {r : Reach} {b0 : Nat} (ht : P.underlying t = some (.slice e)) (he : P.underlying e = some (.int .i64)) (hc : P.cellsOf e = 1)
    (hv : Value.okWide P w r b0 t v) (h : DataW.Trod enc P w 0 (fun _ => true) true t v d ps) : IntArg w v := by
  obtain ⟨a, len, cap, rfl⟩ := okWide_slice ht hv
  obtain ⟨fuel, hf⟩ := h
  exact intArg_trod ht he hc (by simpa [Value.cells] using hf)
end Go.Proofs.Ytiimcffagchneaa
