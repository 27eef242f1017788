/- Election: values that came in: ints, a log, a member; the cells of a struct are single cells. -/
import Derived.Test.YtfpgklhbghahoaaEl10
import Derived.ChangeSlices
import Derived.Deep.MidRow
import Derived.Deep.Slices
import Derived.Deep.Fields
import Derived.Lib.SmallJoins
namespace Go.Proofs.Ytfpgklhbghahoaa
open Go.ChangeShapes Go.WideShapes Go.ChangeAt Go.RowKit Go.ChangeMaps Go.Joins Go.Deep
set_option linter.unusedVariables false
set_option linter.unusedSimpArgs false
/-- a slice of ints that came in: nil, empty, or cells that read as xs -/
def IntArg (w : World) (v : Value) : Prop :=
  v = .slice none 0 0 ∨ (∃ a cap, v = .slice (some a) 0 cap) ∨ ∃ (B o cap : Nat) (xs : List Int), v = .slice (some ⟨B, o, none⟩) xs.length cap ∧ B < w.heap.size ∧ xs.length ≤ cap ∧ 0 < xs.length ∧ xs.length ≤ 9223372036854775807 ∧
    (∀ x ∈ xs, (Lit.int .i64 x).wf = true) ∧ ∀ j (h : j < xs.length), w.cell? ⟨B, o + j, none⟩ = some (.int .i64 xs[j])
theorem addr_plain {w : World} {a : Addr} {v : Value} (h : w.cell? (a.add 0) = some v) : ∃ B o, a = ⟨B, o, none⟩ := by
  have e : a.add 0 = a := by simp [Addr.add]
  rw [e] at h
  obtain ⟨B, o, s⟩ := a
  cases s with
  | none => exact ⟨B, o, rfl⟩
  | some s =>
    unfold World.cell? at h
    split at h
    · simp at h
    · simp at h
theorem addr_add (B o j : Nat) : (⟨B, o, none⟩ : Addr).add j = ⟨B, o + j, none⟩ := by
  by_cases hj : j = 0 <;> simp [Addr.add, hj]
theorem intArg_trod {H : Type} {enc : TypeId × Value → H} {P : Program} {w : World} {t e : TypeId} {v : Value} {x : DataW H × List MemPlace} {fuel : Nat} (ht : P.underlying t = some (.slice e)) (he : P.underlying e = some (.int .i64)) (hc : P.cellsOf e = 1)
    (hf : DataW.trod enc P w 0 (fun _ => true) true fuel t [v] = some x) : IntArg w v := by
  rcases open_ints ht he hc hf with ⟨hcs, hx⟩ | ⟨a, len, cap, zs, hcs, _, hl, hm, hz, hx, hcell, hws⟩
  · exact .inl (List.cons.inj hcs).1
  · obtain rfl := (List.cons.inj hcs).1
    simp only [if_true] at hz
    by_cases h0 : len = 0
    · subst h0; exact .inr (.inl ⟨_, _, rfl⟩)
    · have hc0 := hcell 0 (by omega)
      obtain ⟨B, o, rfl⟩ := addr_plain hc0
      have hB : B < w.heap.size := by
        rcases Nat.lt_or_ge B w.heap.size with h | h
        · exact h
        · rw [addr_add] at hc0
          simp [World.cell?, Array.getElem?_eq_none h] at hc0
      have hlen : (zs.take len).length = len := by simp; omega
      unfold maxLen at hm
      refine .inr (.inr ⟨B, o, cap, zs.take len, by rw [hlen], hB, by omega, by omega, by omega, fun x hx => hws x (List.mem_of_mem_take hx), fun j hj => ?_⟩)
      have hj' : j < zs.length := by omega
      have := hcell j hj'
      rw [addr_add] at this
      rw [this]
      simp [hj']
theorem intArg_of {H : Type} {enc : TypeId × Value → H} {P : Program} {w : World} {t e : TypeId} {v : Value} {d : DataW H} {ps : List MemPlace} {r : Reach} {b0 : Nat} (ht : P.underlying t = some (.slice e)) (he : P.underlying e = some (.int .i64)) (hc : P.cellsOf e = 1)
    (hv : Value.okWide P w r b0 t v) (h : DataW.Trod enc P w 0 (fun _ => true) true t v d ps) : IntArg w v := by
  obtain ⟨a, len, cap, rfl⟩ := okWide_slice ht hv
  obtain ⟨fuel, hf⟩ := h
  exact intArg_trod ht he hc (by simpa [Value.cells] using hf)

def cover (P : Program) (p : TypeId → Bool) : List Field → Nat → Nat → Bool
  | [], o, m => o == m
  | f :: r, o, m => f.offset == o && p f.type && cover P p r (o + P.cellsOf f.type) m
def leafOK (P : Program) : Nat → TypeId → Bool
  | 0, _ => false
  | n + 1, t => match P.underlying t with
    | some .bool => true
    | some (.int _) => true
    | some .string => true
    | some (.slice _) => true
    | some (.struct fs) => cover P (leafOK P n) fs.toList 0 (P.cellsOf t)
    | _ => false
theorem cover_all {P : Program} {p : TypeId → Bool} {cs : List Value} {good : Value → Prop} : ∀ (l : List Field) (o m : Nat), cover P p l o m = true → m = cs.length → o ≤ m →
    (∀ f ∈ l, p f.type = true → ∀ v ∈ (cs.drop f.offset).take (P.cellsOf f.type), good v) → ∀ v ∈ cs.drop o, good v
  | [], o, m, h, hm, ho, hf => by
    simp [cover] at h
    subst h
    rw [List.drop_eq_nil_of_le (by omega)]
    intro v hv; cases hv
  | f :: r, o, m, h, hm, ho, hf => by
    simp only [cover, Bool.and_eq_true, beq_iff_eq] at h
    obtain ⟨⟨h1, h2⟩, h3⟩ := h
    intro v hv
    rw [← List.take_append_drop (P.cellsOf f.type) (cs.drop o), List.mem_append] at hv
    rcases hv with hv | hv
    · exact hf f List.mem_cons_self h2 v (by rw [h1]; exact hv)
    · rw [List.drop_drop] at hv
      by_cases hle : o + P.cellsOf f.type ≤ m
      · exact cover_all r _ m h3 hm hle (fun g hg => hf g (List.mem_cons_of_mem _ hg)) v hv
      · rw [List.drop_eq_nil_of_le (by omega)] at hv; cases hv
theorem leaf_one {H : Type} {enc : TypeId × Value → H} {P : Program} {w : World} {base : Nat} {spare : Nat → Bool} {held : Bool} : ∀ (n : Nat) (t : TypeId), leafOK P n t = true → ∀ (fuel : Nat) (cs : List Value) (x : DataW H × List MemPlace), DataW.trod enc P w base spare held fuel t cs = some x → ∀ v ∈ cs, v.oneCell' = true
  | 0, t, h => by simp [leafOK] at h
  | n + 1, t, h => by
    intro fuel cs x hx
    unfold leafOK at h
    split at h
    · rename_i hu
      obtain ⟨b, rfl, _⟩ := DataW.trod_bool hu hx
      simp [Value.oneCell']
    · rename_i hu
      obtain ⟨b, rfl, _⟩ := DataW.trod_int hu hx
      simp [Value.oneCell']
    · rename_i hu
      obtain ⟨b, rfl, _⟩ := DataW.trod_string hu hx
      simp [Value.oneCell']
    · rename_i hu
      rcases DataW.trod_slice hu hx with ⟨rfl, _⟩ | ⟨a, len, cap, el, re, n', _, rfl, _⟩ <;> simp [Value.oneCell']
    · rename_i fs hu
      obtain ⟨xs, n', _, _, hlen, hxs, hf⟩ := DataW.trod_struct hu hx
      have := cover_all (good := fun v => v.oneCell' = true) (cs := cs) fs.toList 0 _ h hlen.symm (Nat.zero_le _) (fun f hmem hp v hv => by
        obtain ⟨i, hi, he⟩ := List.mem_iff_getElem.1 hmem
        have hfi : fs[i]? = some f := by rw [← Array.getElem?_toList, List.getElem?_eq_getElem hi, he]
        have h1 := hf i f hfi
        have hil : i < xs.length := by rw [hxs]; simpa using hi
        rw [List.getElem?_eq_getElem hil] at h1
        exact leaf_one n f.type hp n' _ _ h1 v hv)
      simpa using this
    · simp at h

/-- the cells of an entry: its term, its time, and what else -/
def Ent (cs : List Value) : Prop := cs.length = 82 ∧ (∀ v ∈ cs, v.oneCell' = true) ∧ ∃ (t s : Int) (r : List Value), cs = .int .i64 t :: .int .i64 s :: r
def stp : List Value → Int
  | _ :: .int _ s :: _ => s
  | _ => 0
/-- a log that came in -/
def EntArg (w : World) (v : Value) (es : List (List Value)) : Prop :=
  (es = [] ∧ ∃ a cap, v = .slice a 0 cap) ∨ (∃ (B o cap : Nat), v = .slice (some ⟨B, o, none⟩) es.length cap ∧ B < w.heap.size ∧ 0 < es.length ∧ es.length ≤ 9223372036854775807 ∧
    ∀ j (h : j < es.length), w.rangeAt B (o + j * 82) es[j] ∧ Ent es[j])
theorem EntArg.below {w w' : World} {v : Value} {es : List (List Value)} (h : EntArg w v es) (hb : Below w.heap.size w w') : EntArg w' v es := by
  rcases h with h | ⟨B, o, cap, h1, h2, h3, h4, h5⟩
  · exact .inl h
  · exact .inr ⟨B, o, cap, h1, Nat.lt_of_lt_of_le h2 hb.size, h3, h4, fun j hj => ⟨fun i u hu => by rw [hb.cell (p := ⟨B, o + j * 82 + i, none⟩) h2]; exact (h5 j hj).1 i u hu, (h5 j hj).2⟩⟩
theorem leaf74 : leafOK Try.prog 8 73 = true := by kernel_rfl
theorem cells74 : Try.prog.cellsOf 73 = 82 := by kernel_rfl
set_option maxRecDepth 100000 in
theorem ent_of_trod {H : Type} {enc : TypeId × Value → H} {w : World} {fuel : Nat} {cs : List Value} {x : DataW H × List MemPlace} {base : Nat} {spare : Nat → Bool} {held : Bool} (h : DataW.trod enc Try.prog w base spare held fuel 73 cs = some x) : Ent cs := by
  refine ⟨?_, leaf_one 8 _ leaf74 _ _ _ h, ?_⟩
  · obtain ⟨_, _, _, _, hl, _⟩ := DataW.trod_struct Try.underlying73 h
    rw [hl, cells74]
  · obtain ⟨xs, n', _, _, hl, hxs, hf⟩ := DataW.trod_struct Try.underlying73 h
    rw [cells74] at hl
    have hx5 : xs.length = 5 := hxs
    have h0 := hf 0 { name := "Term", type := 3, offset := 0, embedded := false, tag := "", pkgPath := "", byteOffset := 0 } rfl
    have h1 := hf 1 { name := "Stamp", type := 3, offset := 1, embedded := false, tag := "", pkgPath := "", byteOffset := 8 } rfl
    rw [List.getElem?_eq_getElem (by omega)] at h0 h1
    have e1 : Try.prog.cellsOf 3 = 1 := by kernel_rfl
    dsimp only at h0 h1
    rw [e1] at h0 h1
    obtain ⟨t, ht, _⟩ := DataW.trod_int Try.underlying3 h0
    obtain ⟨s, hs, _⟩ := DataW.trod_int Try.underlying3 h1
    match cs, hl with
    | a :: b :: r, _ =>
      simp at ht hs
      exact ⟨t, s, r, by rw [ht, hs]⟩
theorem entArg_trod {H : Type} {enc : TypeId × Value → H} {w : World} {v : Value} {x : DataW H × List MemPlace} {fuel : Nat} (hf : DataW.trod enc Try.prog w 0 (fun _ => true) true fuel 22 [v] = some x) : ∃ es, EntArg w v es := by
  rcases DataW.trod_slice Try.underlying22 hf with ⟨hcs, hx⟩ | ⟨a, len, cap, el, re, n, _, hcs, hx, _, hl, hm, hel, hi, _⟩
  · exact ⟨[], .inl ⟨rfl, none, 0, (List.cons.inj hcs).1⟩⟩
  · obtain rfl := (List.cons.inj hcs).1
    by_cases h0 : len = 0
    · subst h0; exact ⟨[], .inl ⟨rfl, _, _, rfl⟩⟩
    · rw [cells74] at hi
      have key : ∀ i, i < len → ∃ cs y, w.cells? 0 (a.add (i * 82)) 82 = some cs ∧ DataW.trod enc Try.prog w 0 (fun _ => true) true n 73 cs = some y := by
        intro i hil
        have := hi i hil
        rw [List.getElem?_eq_getElem (by omega)] at this
        obtain ⟨cs, h1, h2⟩ := Option.bind_eq_some_iff.1 this
        exact ⟨cs, _, h1, h2⟩
      have fn : ∀ i : Nat, ∃ cs : List Value, i < len → w.cells? 0 (a.add (i * 82)) 82 = some cs ∧ Ent cs := fun i => by
        by_cases hil : i < len
        · obtain ⟨cs, y, h1, h2⟩ := key i hil
          exact ⟨cs, fun _ => ⟨h1, ent_of_trod h2⟩⟩
        · exact ⟨[], fun h => absurd h hil⟩
      obtain ⟨F, hF⟩ := Classical.axiomOfChoice fn
      have hc0 : ∃ u, w.cell? (a.add 0) = some u := by
        obtain ⟨h1, h2⟩ := hF 0 (by omega)
        obtain ⟨_, hcl, hat⟩ := World.cells?_some h1
        have h3 := hat 0 (by omega)
        obtain ⟨hl2, _, _⟩ := h2
        rw [List.getElem?_eq_getElem (by omega)] at h3
        have e : (a.add (0 * 82)).add 0 = a.add 0 := by simp [Addr.add]
        rw [e] at h3
        exact ⟨_, h3⟩
      obtain ⟨u, hu⟩ := hc0
      obtain ⟨B, o, rfl⟩ := addr_plain hu
      have hB : B < w.heap.size := by
        rcases Nat.lt_or_ge B w.heap.size with h | h
        · exact h
        · rw [addr_add] at hu
          simp [World.cell?, Array.getElem?_eq_none h] at hu
      refine ⟨(List.range len).map F, .inr ⟨B, o, cap, by simp, hB, by simp; omega, by simp; unfold maxLen at hm; omega, fun j hj => ?_⟩⟩
      simp at hj
      obtain ⟨h1, h2⟩ := hF j hj
      obtain ⟨_, hcl, hat⟩ := World.cells?_some h1
      simp only [List.getElem_map, List.getElem_range]
      refine ⟨fun i v hv => ?_, h2⟩
      have hil : i < 82 := by
        have := (List.getElem?_eq_some_iff.1 hv).1
        obtain ⟨hl2, _, _⟩ := h2
        omega
      have := hat i hil
      rw [addr_add, addr_add] at this
      rw [this, hv]
section
variable {H : Type} {enc : TypeId × Value → H} {P : Program} {w : World} {base : Nat} {spare : Nat → Bool} {held : Bool}
theorem open_agg12 {r : Reach} {b0 : Nat} {t : TypeId} {f0 f1 f2 f3 f4 f5 f6 f7 f8 f9 f10 f11 : Field} {v : Value} {d : DataW H} {p : List MemPlace} (hs : P.underlying t = some (.struct #[f0, f1, f2, f3, f4, f5, f6, f7, f8, f9, f10, f11])) (hone : oneCellFields P #[f0, f1, f2, f3, f4, f5, f6, f7, f8, f9, f10, f11] = true) (hC : P.cellsOf t = 12)
    (hv : Value.okWide P w r b0 t v) (h : DataW.Trod enc P w base spare held t v d p) :
    ∃ (v0 v1 v2 v3 v4 v5 v6 v7 v8 v9 v10 v11 : Value) (y0 y1 y2 y3 y4 y5 y6 y7 y8 y9 y10 y11 : DataW H × List MemPlace) (n : Nat), v = .agg #[v0, v1, v2, v3, v4, v5, v6, v7, v8, v9, v10, v11] ∧ DataW.trod enc P w base spare held n f0.type [v0] = some y0 ∧ DataW.trod enc P w base spare held n f1.type [v1] = some y1 ∧ DataW.trod enc P w base spare held n f2.type [v2] = some y2 ∧ DataW.trod enc P w base spare held n f3.type [v3] = some y3 ∧ DataW.trod enc P w base spare held n f4.type [v4] = some y4 ∧ DataW.trod enc P w base spare held n f5.type [v5] = some y5 ∧ DataW.trod enc P w base spare held n f6.type [v6] = some y6 ∧ DataW.trod enc P w base spare held n f7.type [v7] = some y7 ∧ DataW.trod enc P w base spare held n f8.type [v8] = some y8 ∧ DataW.trod enc P w base spare held n f9.type [v9] = some y9 ∧ DataW.trod enc P w base spare held n f10.type [v10] = some y10 ∧ DataW.trod enc P w base spare held n f11.type [v11] = some y11 := by
  obtain ⟨cs, rfl, hsz⟩ := okWide_struct hs hv
  obtain ⟨l⟩ := cs
  match l, hsz.trans hC with
  | [c0, c1, c2, c3, c4, c5, c6, c7, c8, c9, c10, c11], _ =>
    obtain ⟨fuel, hf⟩ := h
    obtain ⟨xs, n, _, hx, _, hlen, hg⟩ := DataW.trod_struct hs hf
    obtain ⟨o0, k0⟩ := hone_of hone 0 f0 rfl
    obtain ⟨o1, k1⟩ := hone_of hone 1 f1 rfl
    obtain ⟨o2, k2⟩ := hone_of hone 2 f2 rfl
    obtain ⟨o3, k3⟩ := hone_of hone 3 f3 rfl
    obtain ⟨o4, k4⟩ := hone_of hone 4 f4 rfl
    obtain ⟨o5, k5⟩ := hone_of hone 5 f5 rfl
    obtain ⟨o6, k6⟩ := hone_of hone 6 f6 rfl
    obtain ⟨o7, k7⟩ := hone_of hone 7 f7 rfl
    obtain ⟨o8, k8⟩ := hone_of hone 8 f8 rfl
    obtain ⟨o9, k9⟩ := hone_of hone 9 f9 rfl
    obtain ⟨o10, k10⟩ := hone_of hone 10 f10 rfl
    obtain ⟨o11, k11⟩ := hone_of hone 11 f11 rfl
    match xs, hlen with
    | [y0, y1, y2, y3, y4, y5, y6, y7, y8, y9, y10, y11], _ =>
      exact ⟨c0, c1, c2, c3, c4, c5, c6, c7, c8, c9, c10, c11, y0, y1, y2, y3, y4, y5, y6, y7, y8, y9, y10, y11, n, rfl, by simpa [Value.cells, o0, k0] using hg 0 f0 rfl, by simpa [Value.cells, o1, k1] using hg 1 f1 rfl, by simpa [Value.cells, o2, k2] using hg 2 f2 rfl, by simpa [Value.cells, o3, k3] using hg 3 f3 rfl, by simpa [Value.cells, o4, k4] using hg 4 f4 rfl, by simpa [Value.cells, o5, k5] using hg 5 f5 rfl, by simpa [Value.cells, o6, k6] using hg 6 f6 rfl, by simpa [Value.cells, o7, k7] using hg 7 f7 rfl, by simpa [Value.cells, o8, k8] using hg 8 f8 rfl, by simpa [Value.cells, o9, k9] using hg 9 f9 rfl, by simpa [Value.cells, o10, k10] using hg 10 f10 rfl, by simpa [Value.cells, o11, k11] using hg 11 f11 rfl⟩
end
/-- a member that came in -/
def MemArg (w : World) (v : Value) (es : List (List Value)) : Prop :=
  ∃ (id sz tm vt rl ld ti vs : Int) (lg : Value) (cm : Int) (nx mt : Value), v = mem id sz tm vt rl ld ti vs lg cm nx mt ∧ EntArg w lg es ∧ IntArg w nx ∧ IntArg w mt ∧ (Lit.int .i64 cm).wf = true ∧ (Lit.int .i64 vs).wf = true
set_option maxRecDepth 100000 in
theorem memArg_of {H : Type} {enc : TypeId × Value → H} {w : World} {v : Value} {d : DataW H} {ps : List MemPlace} {r : Reach} {b0 : Nat}
    (hv : Value.okWide Try.prog w r b0 25 v) (h : DataW.Trod enc Try.prog w 0 (fun _ => true) true 25 v d ps) : ∃ es, MemArg w v es := by
  obtain ⟨v0, v1, v2, v3, v4, v5, v6, v7, v8, v9, v10, v11, y0, y1, y2, y3, y4, y5, y6, y7, y8, y9, y10, y11, n, rfl, t0, t1, t2, t3, t4, t5, t6, t7, t8, t9, t10, t11⟩ := open_agg12 Try.underlying25 (by kernel_rfl) (by kernel_rfl) hv h
  obtain ⟨s0, e0, _, g0⟩ := DataW.trod_int Try.underlying3 t0
  obtain rfl := (List.cons.inj e0).1
  obtain ⟨s1, e1, _, g1⟩ := DataW.trod_int Try.underlying3 t1
  obtain rfl := (List.cons.inj e1).1
  obtain ⟨s2, e2, _, g2⟩ := DataW.trod_int Try.underlying3 t2
  obtain rfl := (List.cons.inj e2).1
  obtain ⟨s3, e3, _, g3⟩ := DataW.trod_int Try.underlying3 t3
  obtain rfl := (List.cons.inj e3).1
  obtain ⟨s4, e4, _, g4⟩ := DataW.trod_int Try.underlying3 t4
  obtain rfl := (List.cons.inj e4).1
  obtain ⟨s5, e5, _, g5⟩ := DataW.trod_int Try.underlying3 t5
  obtain rfl := (List.cons.inj e5).1
  obtain ⟨s6, e6, _, g6⟩ := DataW.trod_int Try.underlying3 t6
  obtain rfl := (List.cons.inj e6).1
  obtain ⟨s7, e7, _, g7⟩ := DataW.trod_int Try.underlying3 t7
  obtain rfl := (List.cons.inj e7).1
  obtain ⟨s9, e9, _, g9⟩ := DataW.trod_int Try.underlying3 t9
  obtain rfl := (List.cons.inj e9).1
  obtain ⟨es, he⟩ := entArg_trod t8
  exact ⟨es, s0, s1, s2, s3, s4, s5, s6, s7, v8, s9, v10, v11, rfl, he, intArg_trod Try.underlying23 Try.underlying3 (by kernel_rfl) t10, intArg_trod Try.underlying23 Try.underlying3 (by kernel_rfl) t11, g9, g7⟩
theorem IntArg.below {w w' : World} {v : Value} (h : IntArg w v) (hb : Below w.heap.size w w') : IntArg w' v := by
  rcases h with h | h | ⟨B, o, cap, xs, h1, h2, h3, h4, h5, h6, h7⟩
  · exact .inl h
  · exact .inr (.inl h)
  · exact .inr (.inr ⟨B, o, cap, xs, h1, Nat.lt_of_lt_of_le h2 hb.size, h3, h4, h5, h6, fun j hj => by rw [hb.cell (p := ⟨B, o + j, none⟩) h2]; exact h7 j hj⟩)
theorem IntArg.len {w : World} {v : Value} (h : IntArg w v) : ∃ a len cap, v = .slice a len cap ∧ len ≤ 9223372036854775807 := by
  rcases h with rfl | ⟨a, cap, rfl⟩ | ⟨B, o, cap, xs, rfl, _, _, _, h5, _⟩
  · exact ⟨_, _, _, rfl, by omega⟩
  · exact ⟨_, _, _, rfl, by omega⟩
  · exact ⟨_, _, _, rfl, h5⟩
/-- the numbers of a slice that came in -/
def IntsIn (w : World) (v : Value) (xs : List Int) : Prop :=
  (xs = [] ∧ ∃ a cap, v = .slice a 0 cap) ∨ ∃ (B o cap : Nat), v = .slice (some ⟨B, o, none⟩) xs.length cap ∧ B < w.heap.size ∧ 0 < xs.length ∧ xs.length ≤ 9223372036854775807 ∧ ∀ j (h : j < xs.length), w.cell? ⟨B, o + j, none⟩ = some (.int .i64 xs[j])
theorem IntArg.ints {w : World} {v : Value} (h : IntArg w v) : ∃ xs, IntsIn w v xs := by
  rcases h with rfl | ⟨a, cap, rfl⟩ | ⟨B, o, cap, xs, h1, h2, h3, h4, h5, h6, h7⟩
  · exact ⟨[], .inl ⟨rfl, _, _, rfl⟩⟩
  · exact ⟨[], .inl ⟨rfl, _, _, rfl⟩⟩
  · exact ⟨xs, .inr ⟨B, o, cap, h1, h2, h4, h5, h7⟩⟩
theorem IntsIn.below {w w' : World} {v : Value} {xs : List Int} (h : IntsIn w v xs) (hb : Below w.heap.size w w') : IntsIn w' v xs := by
  rcases h with h | ⟨B, o, cap, h1, h2, h4, h5, h7⟩
  · exact .inl h
  · exact .inr ⟨B, o, cap, h1, Nat.lt_of_lt_of_le h2 hb.size, h4, h5, fun j hj => by rw [hb.cell (p := ⟨B, o + j, none⟩) h2]; exact h7 j hj⟩
theorem EntArg.le {w : World} {v : Value} {es : List (List Value)} (h : EntArg w v es) : es.length ≤ 9223372036854775807 := by
  rcases h with ⟨rfl, _⟩ | ⟨_, _, _, _, _, _, h, _⟩
  · simp
  · exact h
theorem EntArg.len {w : World} {v : Value} {es : List (List Value)} (h : EntArg w v es) : ∃ a cap, v = .slice a es.length cap := by
  rcases h with ⟨rfl, a, cap, rfl⟩ | ⟨B, o, cap, rfl, _⟩
  · exact ⟨a, cap, rfl⟩
  · exact ⟨_, cap, rfl⟩
end Go.Proofs.Ytfpgklhbghahoaa
