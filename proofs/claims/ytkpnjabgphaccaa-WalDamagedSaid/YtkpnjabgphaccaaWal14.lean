/- The law about damaged logs. -/
import Derived.Test.YtkpnjabgphaccaaWal13
import Derived.Lib.SmallJoins
namespace Go.Proofs.Ytkpnjabgphaccaa
open Go.ChangeShapes Go.WideShapes Go.ChangeAt Go.RowKit Go.ChangeMaps Go.Joins Go.Deep
set_option linter.unusedVariables false
set_option linter.unusedSimpArgs false
set_option maxRecDepth 100000 in
theorem dam_out (a : Option Addr) (len cap : Nat) (q p bs : Int) (b : Bool) (w : World) (hlen : len ≤ 9223372036854775807) (hfew : ∀ W, Below w.heap.size w W → Calls Try.prog 18 #[.slice a len cap] W fun e w' => e = .returned (.bool b) ∧ W = w')
    (h : b = false ∨ (b = true ∧ q < 0) ∨ (b = true ∧ 0 ≤ q ∧ len ≤ q) ∨ (b = true ∧ 0 ≤ q ∧ q < len ∧ p < 0) ∨ (b = true ∧ 0 ≤ q ∧ q < len ∧ 40032 < p)) :
    Calls Try.prog 6 #[.agg #[.slice a len cap, .int .i64 q, .int .i64 p, .int .u32 bs]] w fun e w' => e = .returned (.bool true) ∧ Below w.heap.size w w' := by
  have HF := Lib.hid hfew
  clear hfew
  have hB : Below w.heap.size w (w.alloc (.cells #[.slice a len cap, .int .i64 q, .int .i64 p, .int .u32 bs] 42)) := (Below.refl _ _).alloc (Nat.le_refl _) _
  have HB := Lib.hid hB
  clear hB
  rcases h with rfl | ⟨rfl, h1⟩ | ⟨rfl, h1, h2⟩ | ⟨rfl, h1, h2, h3⟩ | ⟨rfl, h1, h2, h3⟩
  all_goals
    go_enter Try.func6, Try.ntmps6
    go_wp2_with fail
    refine (HF.out _ HB.out).mono ?_
    rintro e w1 ⟨rfl, rfl⟩
    go_wp2_with fail
    refine (awake_any _).mono ?_
    rintro e w2 ⟨rfl, hb2⟩
    go_wp2_with fail
    go_ret
    exact ⟨rfl, HB.out.trans (hb2.mono HB.out.size)⟩
theorem strArg_trod {H : Type} {enc : TypeId × Value → H} {P : Program} {w : World} {t e : TypeId} {v : Value} {x : DataW H × List MemPlace} {fuel : Nat} (ht : P.underlying t = some (.slice e)) (he : P.underlying e = some .string) (hc : P.cellsOf e = 1)
    (hf : DataW.trod enc P w 0 (fun _ => true) true fuel t [v] = some x) : StrArg w v := by
  rcases open_strings ht he hc hf with ⟨hcs, hx⟩ | ⟨a, len, cap, ss, hcs, _, hl, hm, hz, hx, hcell, hws⟩
  · simp at hcs
    subst hcs
    exact .inl rfl
  · simp at hcs
    subst hcs
    simp only [if_true] at hz
    by_cases h0 : len = 0
    · subst h0; exact .inr (.inl ⟨_, _, rfl⟩)
    · have hc0 := hcell 0 (by omega)
      obtain ⟨B, o, rfl⟩ := addr_plain hc0
      have hB : B < w.heap.size := by
        rcases Nat.lt_or_ge B w.heap.size with h | h
        · exact h
        · rw [addr_add] at hc0
          simp [World.cell?, Array.getElem?_eq_none h] at hc0
      have hlen : ((ss.take len).map (·.data.toList)).length = len := by simp; omega
      unfold maxLen at hm
      refine .inr (.inr ⟨B, o, cap, (ss.take len).map (·.data.toList), by rw [hlen], hB, by omega, by omega, fun k hk => ?_, fun j hj => ?_⟩)
      · have hk' : k < ss.length := by omega
        have := hws ss[k] (List.getElem_mem hk')
        unfold maxLen at this
        simp only [List.getElem_map, List.getElem_take]
        have e : ss[k].data.toList.length = ss[k].size := Array.length_toList
        omega
      · have hj' : j < ss.length := by omega
        have := hcell j hj'
        rw [addr_add] at this
        rw [this]
        simp [hj']
theorem dam_law (v : Value) (q p bs : Int) (w : World) (hbs : 0 ≤ bs ∧ bs < 4294967296) (hv : StrArg w v) :
    Calls Try.prog 6 #[.agg #[v, .int .i64 q, .int .i64 p, .int .u32 bs]] w fun e w' => e = .returned (.bool true) ∧ Below w.heap.size w w' := by
  rcases hv with rfl | ⟨a, cap, rfl⟩ | ⟨B, o, cap, ds, rfl, hB, hc, hl, hs, hcell⟩
  · exact dam_out none 0 0 q p bs true w (by omega) (fun W _ => few_n W) (by simp; omega)
  · exact dam_out (some a) 0 cap q p bs true w (by omega) (fun W _ => few_s a cap W) (by simp; omega)
  · have hcW : ∀ W, Below w.heap.size w W → ∀ j (h : j < ds.length), W.cell? ⟨B, o + j, none⟩ = some (.string ⟨ds[j].toArray⟩) := fun W hW j h => (hW.cell (p := ⟨B, o + j, none⟩) hB).trans (hcell j h)
    cases hf : Crc.fewB ds with
    | false => exact dam_out _ _ cap q p bs false w hl (fun W hW => few_false B o cap ds W hf hl hs (hcW W hW)) (.inl rfl)
    | true =>
      by_cases h1 : 0 ≤ q ∧ q < ds.length ∧ 0 ≤ p ∧ p ≤ 40032
      · obtain ⟨q, rfl⟩ := Int.eq_ofNat_of_zero_le h1.1
        obtain ⟨p, rfl⟩ := Int.eq_ofNat_of_zero_le h1.2.2.1
        obtain ⟨bs, rfl⟩ := Int.eq_ofNat_of_zero_le hbs.1
        exact dam_core B o cap ds q p bs w hB hc hf (by omega) (by omega) (by omega) hcell
      · exact dam_out _ _ cap q p bs true w hl (fun W hW => few_true B o cap ds W hf (hcW W hW)) (by simp; omega)
theorem damArg_of {H : Type} {enc : TypeId × Value → H} {w : World} {v : Value} {d : DataW H} {ps : List MemPlace} {r : Reach} {b0 : Nat}
    (hv : Value.okWide Try.prog w r b0 42 v) (h : DataW.Trod enc Try.prog w 0 (fun _ => true) true 42 v d ps) :
    ∃ v0 q p bs, v = .agg #[v0, .int .i64 q, .int .i64 p, .int .u32 bs] ∧ StrArg w v0 ∧ 0 ≤ bs ∧ bs < 4294967296 := by
  obtain ⟨v0, v1, v2, v3, y0, y1, y2, y3, n, rfl, _, _, h0, h1, h2, h3⟩ := open_agg4 (P := Try.prog) Try.underlying42 (by kernel_rfl) (by kernel_rfl) hv h
  obtain ⟨q, e1, _⟩ := DataW.trod_int Try.underlying3 h1
  obtain ⟨p, e2, _⟩ := DataW.trod_int Try.underlying3 h2
  obtain ⟨bs, e3, _, w3⟩ := DataW.trod_int Try.underlying40 h3
  simp at e1 e2 e3
  subst e1 e2 e3
  refine ⟨v0, q, p, bs, rfl, strArg_trod (e := 9) Try.underlying28 (by kernel_rfl) (by kernel_rfl) h0, ?_⟩
  simp [Lit.wf, IntKind.min, IntKind.max, IntKind.bits, IntKind.signed] at w3
  omega
end Go.Proofs.Ytkpnjabgphaccaa
