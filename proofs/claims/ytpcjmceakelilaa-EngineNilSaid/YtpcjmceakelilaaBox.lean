/- Boxes: structs in blocks of their own, stored and loaded whole. -/
import Derived.Test.YtpcjmceakelilaaRows
import Derived.ProofKit
import Derived.Below
import Derived.Deep.MidRow
import Derived.Deep.Upon
import Derived.Laws.OwnMore
import Derived.Deep.Slices
import Derived.Deep.QuietTactic
import Derived.WalkKit
import Derived.StillTail
namespace Go.Proofs.Ytpcjmceakelilaa
open Go.ChangeShapes Go.WideShapes Go.ChangeAt Go.RowKit Go.Deep
set_option linter.unusedVariables false
set_option linter.unusedSimpArgs false
/-- block b holds the cells, and they can be written -/
structure Box (W : World) (b : Nat) (cs : List Value) : Prop where
  rng : W.rangeAt b 0 cs
  free : ∀ o, W.frozen? ⟨b, o, none⟩ = false
  lt : b < W.heap.size
/-- nothing but block b has turned -/
structure Only (w w' : World) (b : Nat) : Prop where
  size : w'.heap.size = w.heap.size
  heap : ∀ k, k ≠ b → w'.heap[k]? = w.heap[k]?
  below : ∀ B, B ≤ b → Below B w w'
theorem Box.cell {W : World} {b : Nat} {cs : List Value} (h : Box W b cs) (j : Nat) (v : Value) (hv : cs[j]? = some v) : W.cell? ⟨b, j, none⟩ = some v := by
  have := h.rng j v hv
  rwa [Nat.zero_add] at this
theorem Box.keep {W W' : World} {b : Nat} {cs : List Value} (h : Box W b cs) (hb : Below W.heap.size W W') : Box W' b cs :=
  ⟨fun j v hv => (hb.cell (p := ⟨b, 0 + j, none⟩) h.lt).trans (h.rng j v hv), fun o => (hb.frozen (p := ⟨b, o, none⟩) h.lt).trans (h.free o), Nat.lt_of_lt_of_le h.lt hb.size⟩
theorem Box.far {W W' : World} {b B : Nat} {cs : List Value} (h : Box W b cs) (hb : Below B W W') (hB : b < B) : Box W' b cs :=
  ⟨fun j v hv => (hb.cell (p := ⟨b, 0 + j, none⟩) hB).trans (h.rng j v hv), fun o => (hb.frozen (p := ⟨b, o, none⟩) hB).trans (h.free o), Nat.lt_of_lt_of_le h.lt hb.size⟩
theorem Box.other {W W' : World} {b c : Nat} {cs : List Value} (h : Box W b cs) (ho : Only W W' c) (hne : b ≠ c) : Box W' b cs :=
  ⟨fun j v hv => (World.cell?_of_block (a := ⟨b, 0 + j, none⟩) (ho.heap b hne)).trans (h.rng j v hv), fun o => (World.frozen?_of_block (a := ⟨b, o, none⟩) (ho.heap b hne)).trans (h.free o), by rw [ho.size]; exact h.lt⟩
theorem Box.new (W : World) (cs : List Value) (T : TypeId) : Box (W.alloc (.cells cs.toArray T)) W.heap.size cs :=
  ⟨fun j v hv => by
    rw [Nat.zero_add, World.cell?_alloc_new]
    simpa using hv, fun o => by simp [go_sem], by simp⟩
theorem Box.alloc {W : World} {b : Nat} {cs : List Value} (h : Box W b cs) (ob : Obj) : Box (W.alloc ob) b cs := h.keep ((Below.refl _ _).alloc (Nat.le_refl _) _)
theorem Box.drew {W : World} {b : Nat} {cs : List Value} (h : Box W b cs) : Box W.drew b cs := ⟨fun j v hv => h.rng j v hv, fun o => h.free o, h.lt⟩
theorem Box.drewN {W : World} {b : Nat} {cs : List Value} (h : Box W b cs) (n : Nat) : Box (W.drewN n) b cs := ⟨fun j v hv => h.rng j v hv, fun o => h.free o, h.lt⟩
theorem Only.setCell (W : World) (b j : Nat) (v : Value) : Only W (W.setCell ⟨b, j, none⟩ v) b :=
  ⟨by simp, fun k hk => heap_setCell_other W ⟨b, j, none⟩ k v (fun e => hk e), fun B hB => (Below.refl _ _).setCell hB _⟩
theorem Box.setCell {W : World} {b : Nat} {cs : List Value} (h : Box W b cs) (j : Nat) (v : Value) (hj : j < cs.length) : Box (W.setCell ⟨b, j, none⟩ v) b (cs.set j v) := by
  refine ⟨fun i u hu => ?_, fun o => by rw [World.frozen?_setCell]; exact h.free o, by simpa using h.lt⟩
  have hi : i < cs.length := by have := (List.getElem?_eq_some_iff.1 hu).1; simpa using this
  rw [Nat.zero_add]
  by_cases e : j = i
  · subst e
    rw [World.cell?_setCell_same _ _ _ (h.cell j cs[j] (List.getElem?_eq_getElem hj))]
    rw [List.getElem?_set_self hj] at hu
    exact hu
  · rw [World.cell?_setCell_other _ _ _ _ (by intro hc; injection hc; omega)]
    rw [List.getElem?_set_ne e] at hu
    exact h.cell i u hu
theorem Box.setOther {W : World} {b c : Nat} {cs : List Value} (h : Box W b cs) (j : Nat) (v : Value) (hne : b ≠ c) : Box (W.setCell ⟨c, j, none⟩ v) b cs := h.other (Only.setCell W c j v) hne
theorem Only.setCells (W : World) (b o : Nat) (vs : List Value) (hb : b < W.heap.size) : Only W (W.setCells b o vs) b := by
  induction vs generalizing o W with
  | nil => exact ⟨rfl, fun _ _ => rfl, fun B _ => Below.refl _ _⟩
  | cons v vs ih =>
    have h1 := Only.setCell W b o v
    have h2 := ih (W.setCell ⟨b, o, none⟩ v) (o + 1) (by rw [h1.size]; exact hb)
    exact ⟨h2.size.trans h1.size, fun k hk => (h2.heap k hk).trans (h1.heap k hk), fun B hB => (h1.below B hB).trans (h2.below B hB)⟩
theorem Box.store {W : World} {b : Nat} {cs vs : List Value} (h : Box W b cs) (hl : vs.length = cs.length) : Box (W.setCells b 0 vs) b vs := by
  refine ⟨World.rangeAt_setCells_same W b 0 vs (fun j hj => ⟨h.rng.isSome j (by omega), h.free _⟩), fun o => by rw [World.frozen?_setCells]; exact h.free o, ?_⟩
  rw [(Only.setCells W b 0 vs h.lt).size]; exact h.lt
/-- n single cells -/
def Cells (n : Nat) (vs : List Value) : Prop := vs.length = n ∧ vs.all (·.oneCell') = true
/-- block b holds n single cells -/
def BoxN (n : Nat) (W : World) (b : Nat) (cs : List Value) : Prop := Box W b cs ∧ cs.length = n
theorem BoxN.keep {n : Nat} {W W' : World} {b : Nat} {cs : List Value} (h : BoxN n W b cs) (hb : Below W.heap.size W W') : BoxN n W' b cs := ⟨h.1.keep hb, h.2⟩
theorem BoxN.far {n : Nat} {W W' : World} {b B : Nat} {cs : List Value} (h : BoxN n W b cs) (hb : Below B W W') (hB : b < B) : BoxN n W' b cs := ⟨h.1.far hb hB, h.2⟩
theorem BoxN.other {n : Nat} {W W' : World} {b c : Nat} {cs : List Value} (h : BoxN n W b cs) (ho : Only W W' c) (hne : b ≠ c) : BoxN n W' b cs := ⟨h.1.other ho hne, h.2⟩
theorem BoxN.new (W : World) (cs : List Value) (n : Nat) (T : TypeId) (h : cs.length = n) : BoxN n (W.alloc (.cells cs.toArray T)) W.heap.size cs := ⟨Box.new W cs T, h⟩
theorem BoxN.alloc {n : Nat} {W : World} {b : Nat} {cs : List Value} (h : BoxN n W b cs) (ob : Obj) : BoxN n (W.alloc ob) b cs := ⟨h.1.alloc ob, h.2⟩
theorem BoxN.drew {n : Nat} {W : World} {b : Nat} {cs : List Value} (h : BoxN n W b cs) : BoxN n W.drew b cs := ⟨h.1.drew, h.2⟩
theorem BoxN.cell {n : Nat} {W : World} {b : Nat} {cs : List Value} (h : BoxN n W b cs) (j : Nat) (v : Value) (hv : cs[j]? = some v) : W.cell? ⟨b, j, none⟩ = some v := h.1.cell j v hv
theorem BoxN.setCell {n : Nat} {W : World} {b : Nat} {cs : List Value} (h : BoxN n W b cs) (j : Nat) (v : Value) (hj : j < n) : BoxN n (W.setCell ⟨b, j, none⟩ v) b (cs.set j v) := ⟨h.1.setCell j v (by rw [h.2]; exact hj), by rw [List.length_set]; exact h.2⟩
theorem BoxN.setOther {n : Nat} {W : World} {b c : Nat} {cs : List Value} (h : BoxN n W b cs) (j : Nat) (v : Value) (hne : b ≠ c) : BoxN n (W.setCell ⟨c, j, none⟩ v) b cs := ⟨h.1.setOther j v hne, h.2⟩
/-- a type whose values are n cells -/
def Wide (P : Program) (ty : TypeId) (n : Nat) : Prop := (P.info? ty).map (·.size) = some n ∧ ∃ td, P.underlying ty = some td ∧ td.isRow = true
section
variable {P : Program}
/-- a whole struct is stored into its box -/
theorem wpList_box_store {ops : Array Oper} {rest : List Oper} {Q : Exit → Act → World → Prop} {n : Nat} (ty : TypeId) (x : Nat) (y : Operand) (b : Nat) (cs vs : List Value) (d : Option Nat) (t : TypeId) (pos : String) (af) (a : Act) (w : World)
    (hx : a.eval (.tmp x) = .pointer (some ⟨b, 0, none⟩)) (hy : a.eval y = .agg vs.toArray) (hB : BoxN n w b cs) (hv : Cells n vs) (hT : Wide P ty n)
    (h : ∀ w', BoxN n w' b vs → Only w w' b → wpList P ops Q rest (a.put d undef) w') :
    wpList P ops Q ({ dst := d, op := Op.store ty (Operand.tmp x) y, type := t, pos := pos, after := af, guard := none } :: rest) a w := by
  have hl : vs.length = cs.length := by rw [hv.1, hB.2]
  refine wpList_store_mid rfl ty (.tmp x) y rfl b 0 vs.toArray hx hy (fun j hj => ⟨hB.1.rng.isSome j (by simp at hj; omega), hB.1.free _⟩) (by rw [hT.1, ← hv.1]; simp) (all_oneCell_toArray (by simpa using hv.2)) ?_
  exact h _ ⟨by simpa using hB.1.store hl, hv.1⟩ (by simpa using Only.setCells w b 0 vs hB.1.lt)
/-- a whole struct is loaded from its box -/
theorem wpList_box_load {ops : Array Oper} {rest : List Oper} {Q : Exit → Act → World → Prop} {n : Nat} (ty : TypeId) (x : Nat) (b : Nat) (cs : List Value) (d : Option Nat) (t : TypeId) (pos : String) (af) (a : Act) (w : World)
    (hx : a.eval (.tmp x) = .pointer (some ⟨b, 0, none⟩)) (hB : BoxN n w b cs) (hT : Wide P ty n)
    (h : wpList P ops Q rest (a.put d (.agg cs.toArray)) w) :
    wpList P ops Q ({ dst := d, op := Op.load ty (Operand.tmp x), type := t, pos := pos, after := af, guard := none } :: rest) a w := by
  obtain ⟨h1, td, h2, h3⟩ := hT
  exact wpList_load_mid rfl ty (.tmp x) rfl b 0 hx cs td hB.1.rng h2 h3 (by rw [h1, hB.2]) h
/-- in a region that draws its order: a whole struct is loaded from its box -/
theorem wpStill_box_load {ops : Array Oper} {rest : List Oper} {Q : Act → Prop} {n : Nat} (ty : TypeId) (x : Nat) (b : Nat) (cs : List Value) (d : Option Nat) (t : TypeId) (pos : String) (af) (a : Act) (w : World)
    (hx : a.eval (.tmp x) = .pointer (some ⟨b, 0, none⟩)) (hB : BoxN n w b cs) (hT : Wide P ty n)
    (h : wpStill P ops w Q rest (a.put d (.agg cs.toArray))) :
    wpStill P ops w Q ({ dst := d, op := Op.load ty (Operand.tmp x), type := t, pos := pos, after := af, guard := none } :: rest) a := by
  obtain ⟨h1, td, h2, h3⟩ := hT
  have hr : (execOp a.eval { dst := d, op := Op.load ty (Operand.tmp x), type := t, pos := pos, after := af, guard := none }).run P w = .ok (.value (.agg cs.toArray)) w := by
    unfold execOp
    simp only [hx, Instr.loadAt, Instr.sureAddr, Sem.run_bind, Sem.run_pure, Result.andThen_ok, run_loadVar_mid w b 0 ty cs td hB.1.rng h2 h3 (by rw [h1, hB.2])]
  unfold wpStill
  rw [if_pos (by simp [Region.wanted])]
  unfold Oper.still
  rw [hr, Oper.stillUpon_value]
  exact h
theorem box_load_run {n : Nat} {ty : TypeId} {b : Nat} {cs : List Value} {w : World} (hB : BoxN n w b cs) (hT : Wide P ty n) : (Instr.loadAt ty (.pointer (some ⟨b, 0, none⟩))).run P w = .ok (.agg cs.toArray) w := by
  obtain ⟨h1, td, h2, h3⟩ := hT
  simp only [Instr.loadAt, Instr.sureAddr, Sem.run_bind, Sem.run_pure, Result.andThen_ok, run_loadVar_mid w b 0 ty cs td hB.1.rng h2 h3 (by rw [h1, hB.2])]
theorem box_store_run {n : Nat} {ty : TypeId} {b : Nat} {cs vs : List Value} {w : World} (hB : BoxN n w b cs) (hv : Cells n vs) (hT : Wide P ty n) : (Instr.storeAt ty (.pointer (some ⟨b, 0, none⟩)) (.agg vs.toArray)).run P w = .ok () (w.setCells b 0 vs) := by
  have hl : vs.length = cs.length := by rw [hv.1, hB.2]
  have := run_storeAt_mid (P := P) w b 0 ty vs.toArray (fun j hj => ⟨hB.1.rng.isSome j (by simp at hj; omega), hB.1.free _⟩) (by rw [hT.1, ← hv.1]; simp) (all_oneCell_toArray (by simpa using hv.2))
  simpa using this
theorem box_loadVar_run {n : Nat} {ty : TypeId} {b : Nat} {cs : List Value} {w : World} (hB : BoxN n w b cs) (hT : Wide P ty n) : (loadVar ty ⟨b, 0, none⟩).run P w = .ok (.agg cs.toArray) w := by
  obtain ⟨h1, td, h2, h3⟩ := hT
  exact run_loadVar_mid w b 0 ty cs td hB.1.rng h2 h3 (by rw [h1, hB.2])
theorem box_storeVar_run {n : Nat} {ty : TypeId} {b : Nat} {cs vs : List Value} {w : World} (hB : BoxN n w b cs) (hv : Cells n vs) (hT : Wide P ty n) : (storeVar ty ⟨b, 0, none⟩ (.agg vs.toArray)).run P w = .ok () (w.setCells b 0 vs) := by
  have hl : vs.length = cs.length := by rw [hv.1, hB.2]
  have := run_storeVar_mid (P := P) w b 0 ty vs.toArray (fun j hj => ⟨hB.1.rng.isSome j (by simp at hj; omega), hB.1.free _⟩) (by rw [hT.1, ← hv.1]; simp) (all_oneCell_toArray (by simpa using hv.2))
  simpa using this
/-- at a step of a region that draws its order, for go_region_law: a whole struct is loaded -/
theorem step_box_load {ops : Array Oper} {o : Oper} {a : Act} {w : World} {K : Act → World → Prop} {Q : Exit → Act → World → Prop} {E : Prop} {n : Nat} (hgd : o.guard = none) (ty : TypeId) (x : Operand) (ho : o.op = .load ty x) (b : Nat) (cs : List Value)
    (hx : a.eval x = .pointer (some ⟨b, 0, none⟩)) (hB : BoxN n w b cs) (hT : Wide P ty n) (h : K (a.put o.dst (.agg cs.toArray)) w) :
    if Region.wanted o (yielded ops a.tmps) = true then Oper.wp P o a w K Q else E := by
  obtain ⟨h1, td, h2, h3⟩ := hT
  rw [if_pos (by simp [Region.wanted, hgd])]
  exact wp_load_mid ty x ho b 0 hx cs td hB.1.rng h2 h3 (by rw [h1, hB.2]) h
/-- .. stored -/
theorem step_box_store {ops : Array Oper} {o : Oper} {a : Act} {w : World} {K : Act → World → Prop} {Q : Exit → Act → World → Prop} {E : Prop} {n : Nat} (hgd : o.guard = none) (ty : TypeId) (x y : Operand) (ho : o.op = .store ty x y) (b : Nat) (cs vs : List Value)
    (hx : a.eval x = .pointer (some ⟨b, 0, none⟩)) (hy : a.eval y = .agg vs.toArray) (hB : BoxN n w b cs) (hv : Cells n vs) (hT : Wide P ty n)
    (h : ∀ w', BoxN n w' b vs → Only w w' b → K (a.put o.dst undef) w') :
    if Region.wanted o (yielded ops a.tmps) = true then Oper.wp P o a w K Q else E := by
  have hl : vs.length = cs.length := by rw [hv.1, hB.2]
  rw [if_pos (by simp [Region.wanted, hgd])]
  refine wp_store_mid ty x y ho b 0 vs.toArray hx hy (fun j hj => ⟨hB.1.rng.isSome j (by simp at hj; omega), hB.1.free _⟩) (by rw [hT.1, ← hv.1]; simp) (all_oneCell_toArray (by simpa using hv.2)) ?_
  exact h _ ⟨by simpa using hB.1.store hl, hv.1⟩ (by simpa using Only.setCells w b 0 vs hB.1.lt)
end
end Go.Proofs.Ytpcjmceakelilaa
