/- The statement 'WalKeepsSaid' is proved: the law returns true for every input and leaves its arguments as they were. No condition. -/
import Derived.Test.YtkpnjabgphaccaaWal11
import Derived.Test.YtkpnjabgphaccaaClose2
import Derived.SliceStrings
namespace Go.Proofs.Ytkpnjabgphaccaa
open Go.ChangeShapes Go.WideShapes Go.ChangeAt Go.RowKit Go.ChangeMaps
set_option linter.unusedVariables false

/-- a slice of strings that came in: nil, empty, or cells that read as ds -/
def StrArg (w : World) (v : Value) : Prop :=
  v = .slice none 0 0 ∨ (∃ a cap, v = .slice (some a) 0 cap) ∨ ∃ (B o cap : Nat) (ds : List (List UInt8)), v = .slice (some ⟨B, o, none⟩) ds.length cap ∧ B < w.heap.size ∧ ds.length ≤ cap ∧ ds.length ≤ 9223372036854775807 ∧
    (∀ k (h : k < ds.length), ds[k].length ≤ 9223372036854775807) ∧ ∀ j (h : j < ds.length), w.cell? ⟨B, o + j, none⟩ = some (.string ⟨ds[j].toArray⟩)

theorem keeps_law (v : Value) (n : Int) (w : World) (hv : StrArg w v) :
    Calls Try.prog 5 #[v, .int .i64 n] w fun e w' => e = .returned (.bool true) ∧ Below w.heap.size w w' := by
  rcases hv with rfl | ⟨a, cap, rfl⟩ | ⟨B, o, cap, ds, rfl, hB, hc, hl, hs, hcell⟩
  · exact keeps_n n w
  · exact keeps_s a cap n w
  · cases hf : Crc.fewB ds with
    | false => exact keeps_out B o cap ds n w hf hl hs hcell
    | true =>
      rcases (show n < 0 ∨ 0 ≤ n ∧ n ≤ (Crc.endAt ds ds.length : Int) ∨ 0 ≤ n ∧ (Crc.endAt ds ds.length : Int) < n by omega) with h | ⟨h1, h2⟩ | ⟨h1, h2⟩
      · exact keeps_core B o cap ds n _ w hB hc hf (.inr (.inl ⟨h, rfl⟩)) hcell
      · exact keeps_core B o cap ds n n.toNat w hB hc hf (.inl ⟨by omega, by omega⟩) hcell
      · exact keeps_core B o cap ds n _ w hB hc hf (.inr (.inr ⟨h1, h2, rfl⟩)) hcell

theorem addr_plain {w : World} {a : Addr} {v : Value} (h : w.cell? (a.add 0) = some v) : ∃ B o, a = ⟨B, o, none⟩ := by
  have e : a.add 0 = a := by simp [Addr.add]
  rw [e] at h
  obtain ⟨B, o, s⟩ := a
  cases s with
  | none => exact ⟨B, o, rfl⟩
  | some s =>
    unfold World.cell? at h
    split at h
    · simp at h
    · simp at h
theorem addr_add (B o j : Nat) : (⟨B, o, none⟩ : Addr).add j = ⟨B, o + j, none⟩ := by
  by_cases hj : j = 0 <;> simp [Addr.add, hj]
theorem strArg_of {H : Type} {enc : TypeId × Value → H} {P : Program} {w : World} {t e : TypeId} {v : Value} {d : DataW H} {ps : List MemPlace} {r : Reach} {b0 : Nat} (ht : P.underlying t = some (.slice e)) (he : P.underlying e = some .string) (hc : P.cellsOf e = 1)
    (hv : Value.okWide P w r b0 t v) (h : DataW.Trod enc P w 0 (fun _ => true) true t v d ps) : StrArg w v := by
  obtain ⟨a, len, cap, rfl⟩ := okWide_slice ht hv
  obtain ⟨fuel, hf⟩ := h
  rcases open_strings ht he hc hf with ⟨hcs, hx⟩ | ⟨a', len', cap', ss, hcs, _, hl, hm, hz, hx, hcell, hws⟩
  · simp [Value.cells] at hcs
    obtain ⟨rfl, rfl, rfl⟩ := hcs
    exact .inl rfl
  · simp [Value.cells] at hcs
    obtain ⟨rfl, rfl, rfl⟩ := hcs
    simp only [if_true] at hz
    by_cases h0 : len = 0
    · subst h0; exact .inr (.inl ⟨_, _, rfl⟩)
    · have hc0 := hcell 0 (by omega)
      obtain ⟨B, o, rfl⟩ := addr_plain hc0
      have hB : B < w.heap.size := by
        rcases Nat.lt_or_ge B w.heap.size with h | h
        · exact h
        · rw [addr_add] at hc0
          simp [World.cell?, Array.getElem?_eq_none h] at hc0
      have hlen : ((ss.take len).map (·.data.toList)).length = len := by simp; omega
      unfold maxLen at hm
      refine .inr (.inr ⟨B, o, cap, (ss.take len).map (·.data.toList), by rw [hlen], hB, by omega, by omega, fun k hk => ?_, fun j hj => ?_⟩)
      · have hk' : k < ss.length := by omega
        have := hws ss[k] (List.getElem_mem hk')
        unfold maxLen at this
        simp only [List.getElem_map, List.getElem_take]
        have e : ss[k].data.toList.length = ss[k].size := Array.length_toList
        omega
      · have hj' : j < ss.length := by omega
        have := hcell j hj'
        rw [addr_add] at this
        rw [this]
        simp [hj']
/-- THE ROW. -/
theorem own : ownKnob Try.prog.godebug = none := by kernel_rfl
theorem laidOut : laidOutB Try.prog = true := by kernel_rfl
set_option maxRecDepth 100000 in
theorem keeps_lifted (os : Os) (started : os.Started) (H : Type) (enc : TypeId × Value → H) :
    ReturnsInHanded {} Try.checked os 5 .any (Rows.walKeepsSpec.pre6 enc Try.prog Try.f5 Rows.walKeepsRow.domain false) (Rows.walKeepsSpec.post enc Try.prog Try.f5 false true false false) := by
  refine returnsInHanded_of_change (C := Try.checked) own started (by kernel_rfl) Try.func5
    (ChangeSpec.witness6 (enc := enc) (C := Try.checked) false ⟨#[], #[.slice none 0 0, .int .i64 0], []⟩ 8 (by kernel_rfl) (by kernel_rfl) (by kernel_rfl) (by kernel_rfl)) ?_
  intro W base args ds gs before hval0 hW _ _
  have hval : ∀ (j : Nat) t v, Try.f5.params[j]? = some t → args[j]? = some v → Value.okWide Try.prog W .any base t v := hval0
  have hW' := hW
  obtain ⟨p, q, hA0, hV, rfl, hfz, hnd⟩ := hW
  have hA : DataW.TrodAll enc Try.prog W 0 (fun _ => true) true Try.f5.params.toList args.toList ds p := hA0
  rw [Try.params5] at hA hval
  obtain ⟨v0, vs0, d0, ds0, p0, q0, hargs, rfl, rfl, h0, r0⟩ := trodAll_cons hA
  obtain ⟨v1, vs1, d1, ds1, p1, q1, rfl, rfl, rfl, h1, r1⟩ := trodAll_cons r0
  obtain ⟨rfl, rfl, rfl⟩ := trodAll_nil r1
  obtain rfl : args = #[v0, v1] := by cases args; simp_all
  obtain ⟨a1, rfl, rfl, rfl, g1⟩ := open_int Try.underlying3 (hval 1 3 v1 rfl rfl) h1
  have hs := strArg_of (t := 28) (e := 9) Try.underlying28 (by kernel_rfl) (by kernel_rfl) (hval 0 28 v0 rfl rfl) h0
  refine (keeps_law v0 a1 W hs).mono fun e W' ⟨he, hb⟩ => ?_
  subst he
  exact ⟨_, rfl, post_law (T := 4) laidOut (by kernel_rfl) rfl hW' rfl (by kernel_rfl) (by kernel_rfl) hb⟩
theorem keeps_proved : Rows.WalKeepsSaid :=
  OpenClaim.holds_of_wide 5 Try.f5 rfl rfl rfl rfl rfl rfl rfl ⟨rfl, rfl, rfl, rfl, rfl⟩ rfl rfl rfl rfl rfl (by kernel_rfl) Try.func5 (by kernel_rfl)
    (of_decide_eq_true (by kernel_rfl)) (by unfold Func.isWrapper; first | (rw [if_pos (by decide +kernel)]; kernel_rfl) | (rw [if_neg (by decide +kernel)]; exact ⟨rfl, rfl⟩))
    (fun os started H enc _ => keeps_lifted os started H enc)
end Go.Proofs.Ytkpnjabgphaccaa
