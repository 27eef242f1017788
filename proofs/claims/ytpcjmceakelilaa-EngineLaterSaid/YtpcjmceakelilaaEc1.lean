/- Merged texts: Box, Mv1, Mv2, Mv3, Ord, Mv4. -/
import Derived.Test.YtpcjmceakelilaaRows
import Derived.ProofKit
import Derived.Below
import Derived.Deep.MidRow
import Derived.Deep.Upon
import Derived.Laws.OwnMore
import Derived.Deep.Slices
import Derived.Deep.QuietTactic
import Derived.WalkKit
import Derived.StillTail
import Derived.Test.YtpcjmceakelilaaShelf
import Derived.Outline
import Derived.OwnWalk
import Derived.Laws.AppendOwn
import Derived.Lib.Hide
import Derived.IntWalk
import Derived.BigQuiet
import Derived.StillTailTactics
import Derived.Maps.AppendAt
import Derived.Laws.Cover1
import Derived.MapKept
import Derived.ChangeMaps4
import Derived.Laws.IdiomRangeMap
import Derived.Maps.OwnOps
import Derived.Maps.RangeWalk
import Derived.OrdersHeld
/- Boxes: structs in blocks of their own, stored and loaded whole. -/
namespace Go.Proofs.Ytpcjmceakelilaa
open Go.ChangeShapes Go.WideShapes Go.ChangeAt Go.RowKit Go.Deep
set_option linter.unusedVariables false
set_option linter.unusedSimpArgs false
/-- block b holds the cells, and they can be written -/
structure Box (W : World) (b : Nat) (cs : List Value) : Prop where
  rng : W.rangeAt b 0 cs
  free : ∀ o, W.frozen? ⟨b, o, none⟩ = false
  lt : b < W.heap.size
/-- nothing but block b has turned -/
structure Only (w w' : World) (b : Nat) : Prop where
  size : w'.heap.size = w.heap.size
  heap : ∀ k, k ≠ b → w'.heap[k]? = w.heap[k]?
  below : ∀ B, B ≤ b → Below B w w'
theorem Box.cell {W : World} {b : Nat} {cs : List Value} (h : Box W b cs) (j : Nat) (v : Value) (hv : cs[j]? = some v) : W.cell? ⟨b, j, none⟩ = some v := by
  have := h.rng j v hv
  rwa [Nat.zero_add] at this
theorem Box.keep {W W' : World} {b : Nat} {cs : List Value} (h : Box W b cs) (hb : Below W.heap.size W W') : Box W' b cs :=
  ⟨fun j v hv => (hb.cell (p := ⟨b, 0 + j, none⟩) h.lt).trans (h.rng j v hv), fun o => (hb.frozen (p := ⟨b, o, none⟩) h.lt).trans (h.free o), Nat.lt_of_lt_of_le h.lt hb.size⟩
theorem Box.far {W W' : World} {b B : Nat} {cs : List Value} (h : Box W b cs) (hb : Below B W W') (hB : b < B) : Box W' b cs :=
  ⟨fun j v hv => (hb.cell (p := ⟨b, 0 + j, none⟩) hB).trans (h.rng j v hv), fun o => (hb.frozen (p := ⟨b, o, none⟩) hB).trans (h.free o), Nat.lt_of_lt_of_le h.lt hb.size⟩
theorem Box.other {W W' : World} {b c : Nat} {cs : List Value} (h : Box W b cs) (ho : Only W W' c) (hne : b ≠ c) : Box W' b cs :=
  ⟨fun j v hv => (World.cell?_of_block (a := ⟨b, 0 + j, none⟩) (ho.heap b hne)).trans (h.rng j v hv), fun o => (World.frozen?_of_block (a := ⟨b, o, none⟩) (ho.heap b hne)).trans (h.free o), by rw [ho.size]; exact h.lt⟩
theorem Box.new (W : World) (cs : List Value) (T : TypeId) : Box (W.alloc (.cells cs.toArray T)) W.heap.size cs :=
  ⟨fun j v hv => by
    rw [Nat.zero_add, World.cell?_alloc_new]
    simpa using hv, fun o => by simp [go_sem], by simp⟩
theorem Box.alloc {W : World} {b : Nat} {cs : List Value} (h : Box W b cs) (ob : Obj) : Box (W.alloc ob) b cs := h.keep ((Below.refl _ _).alloc (Nat.le_refl _) _)
theorem Box.drew {W : World} {b : Nat} {cs : List Value} (h : Box W b cs) : Box W.drew b cs := ⟨fun j v hv => h.rng j v hv, fun o => h.free o, h.lt⟩
theorem Box.drewN {W : World} {b : Nat} {cs : List Value} (h : Box W b cs) (n : Nat) : Box (W.drewN n) b cs := ⟨fun j v hv => h.rng j v hv, fun o => h.free o, h.lt⟩
theorem Only.setCell (W : World) (b j : Nat) (v : Value) : Only W (W.setCell ⟨b, j, none⟩ v) b :=
  ⟨by simp, fun k hk => heap_setCell_other W ⟨b, j, none⟩ k v (fun e => hk e), fun B hB => (Below.refl _ _).setCell hB _⟩
theorem Box.setCell {W : World} {b : Nat} {cs : List Value} (h : Box W b cs) (j : Nat) (v : Value) (hj : j < cs.length) : Box (W.setCell ⟨b, j, none⟩ v) b (cs.set j v) := by
  refine ⟨fun i u hu => ?_, fun o => by rw [World.frozen?_setCell]; exact h.free o, by simpa using h.lt⟩
  have hi : i < cs.length := by have := (List.getElem?_eq_some_iff.1 hu).1; simpa using this
  rw [Nat.zero_add]
  by_cases e : j = i
  · subst e
    rw [World.cell?_setCell_same _ _ _ (h.cell j cs[j] (List.getElem?_eq_getElem hj))]
    rw [List.getElem?_set_self hj] at hu
    exact hu
  · rw [World.cell?_setCell_other _ _ _ _ (by intro hc; injection hc; omega)]
    rw [List.getElem?_set_ne e] at hu
    exact h.cell i u hu
theorem Box.setOther {W : World} {b c : Nat} {cs : List Value} (h : Box W b cs) (j : Nat) (v : Value) (hne : b ≠ c) : Box (W.setCell ⟨c, j, none⟩ v) b cs := h.other (Only.setCell W c j v) hne
theorem Only.setCells (W : World) (b o : Nat) (vs : List Value) (hb : b < W.heap.size) : Only W (W.setCells b o vs) b := by
  induction vs generalizing o W with
  | nil => exact ⟨rfl, fun _ _ => rfl, fun B _ => Below.refl _ _⟩
  | cons v vs ih =>
    have h1 := Only.setCell W b o v
    have h2 := ih (W.setCell ⟨b, o, none⟩ v) (o + 1) (by rw [h1.size]; exact hb)
    exact ⟨h2.size.trans h1.size, fun k hk => (h2.heap k hk).trans (h1.heap k hk), fun B hB => (h1.below B hB).trans (h2.below B hB)⟩
theorem Box.store {W : World} {b : Nat} {cs vs : List Value} (h : Box W b cs) (hl : vs.length = cs.length) : Box (W.setCells b 0 vs) b vs := by
  refine ⟨World.rangeAt_setCells_same W b 0 vs (fun j hj => ⟨h.rng.isSome j (by omega), h.free _⟩), fun o => by rw [World.frozen?_setCells]; exact h.free o, ?_⟩
  rw [(Only.setCells W b 0 vs h.lt).size]; exact h.lt
/-- n single cells -/
def Cells (n : Nat) (vs : List Value) : Prop := vs.length = n ∧ vs.all (·.oneCell') = true
/-- block b holds n single cells -/
def BoxN (n : Nat) (W : World) (b : Nat) (cs : List Value) : Prop := Box W b cs ∧ cs.length = n
theorem BoxN.keep {n : Nat} {W W' : World} {b : Nat} {cs : List Value} (h : BoxN n W b cs) (hb : Below W.heap.size W W') : BoxN n W' b cs := ⟨h.1.keep hb, h.2⟩
theorem BoxN.far {n : Nat} {W W' : World} {b B : Nat} {cs : List Value} (h : BoxN n W b cs) (hb : Below B W W') (hB : b < B) : BoxN n W' b cs := ⟨h.1.far hb hB, h.2⟩
theorem BoxN.other {n : Nat} {W W' : World} {b c : Nat} {cs : List Value} (h : BoxN n W b cs) (ho : Only W W' c) (hne : b ≠ c) : BoxN n W' b cs := ⟨h.1.other ho hne, h.2⟩
theorem BoxN.new (W : World) (cs : List Value) (n : Nat) (T : TypeId) (h : cs.length = n) : BoxN n (W.alloc (.cells cs.toArray T)) W.heap.size cs := ⟨Box.new W cs T, h⟩
theorem BoxN.alloc {n : Nat} {W : World} {b : Nat} {cs : List Value} (h : BoxN n W b cs) (ob : Obj) : BoxN n (W.alloc ob) b cs := ⟨h.1.alloc ob, h.2⟩
theorem BoxN.drew {n : Nat} {W : World} {b : Nat} {cs : List Value} (h : BoxN n W b cs) : BoxN n W.drew b cs := ⟨h.1.drew, h.2⟩
theorem BoxN.cell {n : Nat} {W : World} {b : Nat} {cs : List Value} (h : BoxN n W b cs) (j : Nat) (v : Value) (hv : cs[j]? = some v) : W.cell? ⟨b, j, none⟩ = some v := h.1.cell j v hv
theorem BoxN.setCell {n : Nat} {W : World} {b : Nat} {cs : List Value} (h : BoxN n W b cs) (j : Nat) (v : Value) (hj : j < n) : BoxN n (W.setCell ⟨b, j, none⟩ v) b (cs.set j v) := ⟨h.1.setCell j v (by rw [h.2]; exact hj), by rw [List.length_set]; exact h.2⟩
theorem BoxN.setOther {n : Nat} {W : World} {b c : Nat} {cs : List Value} (h : BoxN n W b cs) (j : Nat) (v : Value) (hne : b ≠ c) : BoxN n (W.setCell ⟨c, j, none⟩ v) b cs := ⟨h.1.setOther j v hne, h.2⟩
/-- a type whose values are n cells -/
def Wide (P : Program) (ty : TypeId) (n : Nat) : Prop := (P.info? ty).map (·.size) = some n ∧ ∃ td, P.underlying ty = some td ∧ td.isRow = true
section
variable {P : Program}
/-- a whole struct is stored into its box -/
theorem wpList_box_store {ops : Array Oper} {rest : List Oper} {Q : Exit → Act → World → Prop} {n : Nat} (ty : TypeId) (x : Nat) (y : Operand) (b : Nat) (cs vs : List Value) (d : Option Nat) (t : TypeId) (pos : String) (af) (a : Act) (w : World)
    (hx : a.eval (.tmp x) = .pointer (some ⟨b, 0, none⟩)) (hy : a.eval y = .agg vs.toArray) (hB : BoxN n w b cs) (hv : Cells n vs) (hT : Wide P ty n)
    (h : ∀ w', BoxN n w' b vs → Only w w' b → wpList P ops Q rest (a.put d undef) w') :
    wpList P ops Q ({ dst := d, op := Op.store ty (Operand.tmp x) y, type := t, pos := pos, after := af, guard := none } :: rest) a w := by
  have hl : vs.length = cs.length := by rw [hv.1, hB.2]
  refine wpList_store_mid rfl ty (.tmp x) y rfl b 0 vs.toArray hx hy (fun j hj => ⟨hB.1.rng.isSome j (by simp at hj; omega), hB.1.free _⟩) (by rw [hT.1, ← hv.1]; simp) (all_oneCell_toArray (by simpa using hv.2)) ?_
  exact h _ ⟨by simpa using hB.1.store hl, hv.1⟩ (by simpa using Only.setCells w b 0 vs hB.1.lt)
/-- a whole struct is loaded from its box -/
theorem wpList_box_load {ops : Array Oper} {rest : List Oper} {Q : Exit → Act → World → Prop} {n : Nat} (ty : TypeId) (x : Nat) (b : Nat) (cs : List Value) (d : Option Nat) (t : TypeId) (pos : String) (af) (a : Act) (w : World)
    (hx : a.eval (.tmp x) = .pointer (some ⟨b, 0, none⟩)) (hB : BoxN n w b cs) (hT : Wide P ty n)
    (h : wpList P ops Q rest (a.put d (.agg cs.toArray)) w) :
    wpList P ops Q ({ dst := d, op := Op.load ty (Operand.tmp x), type := t, pos := pos, after := af, guard := none } :: rest) a w := by
  obtain ⟨h1, td, h2, h3⟩ := hT
  exact wpList_load_mid rfl ty (.tmp x) rfl b 0 hx cs td hB.1.rng h2 h3 (by rw [h1, hB.2]) h
/-- in a region that draws its order: a whole struct is loaded from its box -/
theorem wpStill_box_load {ops : Array Oper} {rest : List Oper} {Q : Act → Prop} {n : Nat} (ty : TypeId) (x : Nat) (b : Nat) (cs : List Value) (d : Option Nat) (t : TypeId) (pos : String) (af) (a : Act) (w : World)
    (hx : a.eval (.tmp x) = .pointer (some ⟨b, 0, none⟩)) (hB : BoxN n w b cs) (hT : Wide P ty n)
    (h : wpStill P ops w Q rest (a.put d (.agg cs.toArray))) :
    wpStill P ops w Q ({ dst := d, op := Op.load ty (Operand.tmp x), type := t, pos := pos, after := af, guard := none } :: rest) a := by
  obtain ⟨h1, td, h2, h3⟩ := hT
  have hr : (execOp a.eval { dst := d, op := Op.load ty (Operand.tmp x), type := t, pos := pos, after := af, guard := none }).run P w = .ok (.value (.agg cs.toArray)) w := by
    unfold execOp
    simp only [hx, Instr.loadAt, Instr.sureAddr, Sem.run_bind, Sem.run_pure, Result.andThen_ok, run_loadVar_mid w b 0 ty cs td hB.1.rng h2 h3 (by rw [h1, hB.2])]
  unfold wpStill
  rw [if_pos (by simp [Region.wanted])]
  unfold Oper.still
  rw [hr, Oper.stillUpon_value]
  exact h
theorem box_load_run {n : Nat} {ty : TypeId} {b : Nat} {cs : List Value} {w : World} (hB : BoxN n w b cs) (hT : Wide P ty n) : (Instr.loadAt ty (.pointer (some ⟨b, 0, none⟩))).run P w = .ok (.agg cs.toArray) w := by
  obtain ⟨h1, td, h2, h3⟩ := hT
  simp only [Instr.loadAt, Instr.sureAddr, Sem.run_bind, Sem.run_pure, Result.andThen_ok, run_loadVar_mid w b 0 ty cs td hB.1.rng h2 h3 (by rw [h1, hB.2])]
theorem box_store_run {n : Nat} {ty : TypeId} {b : Nat} {cs vs : List Value} {w : World} (hB : BoxN n w b cs) (hv : Cells n vs) (hT : Wide P ty n) : (Instr.storeAt ty (.pointer (some ⟨b, 0, none⟩)) (.agg vs.toArray)).run P w = .ok () (w.setCells b 0 vs) := by
  have hl : vs.length = cs.length := by rw [hv.1, hB.2]
  have := run_storeAt_mid (P := P) w b 0 ty vs.toArray (fun j hj => ⟨hB.1.rng.isSome j (by simp at hj; omega), hB.1.free _⟩) (by rw [hT.1, ← hv.1]; simp) (all_oneCell_toArray (by simpa using hv.2))
  simpa using this
theorem box_loadVar_run {n : Nat} {ty : TypeId} {b : Nat} {cs : List Value} {w : World} (hB : BoxN n w b cs) (hT : Wide P ty n) : (loadVar ty ⟨b, 0, none⟩).run P w = .ok (.agg cs.toArray) w := by
  obtain ⟨h1, td, h2, h3⟩ := hT
  exact run_loadVar_mid w b 0 ty cs td hB.1.rng h2 h3 (by rw [h1, hB.2])
theorem box_storeVar_run {n : Nat} {ty : TypeId} {b : Nat} {cs vs : List Value} {w : World} (hB : BoxN n w b cs) (hv : Cells n vs) (hT : Wide P ty n) : (storeVar ty ⟨b, 0, none⟩ (.agg vs.toArray)).run P w = .ok () (w.setCells b 0 vs) := by
  have hl : vs.length = cs.length := by rw [hv.1, hB.2]
  have := run_storeVar_mid (P := P) w b 0 ty vs.toArray (fun j hj => ⟨hB.1.rng.isSome j (by simp at hj; omega), hB.1.free _⟩) (by rw [hT.1, ← hv.1]; simp) (all_oneCell_toArray (by simpa using hv.2))
  simpa using this
/-- at a step of a region that draws its order, for go_region_law: a whole struct is loaded -/
theorem step_box_load {ops : Array Oper} {o : Oper} {a : Act} {w : World} {K : Act → World → Prop} {Q : Exit → Act → World → Prop} {E : Prop} {n : Nat} (hgd : o.guard = none) (ty : TypeId) (x : Operand) (ho : o.op = .load ty x) (b : Nat) (cs : List Value)
    (hx : a.eval x = .pointer (some ⟨b, 0, none⟩)) (hB : BoxN n w b cs) (hT : Wide P ty n) (h : K (a.put o.dst (.agg cs.toArray)) w) :
    if Region.wanted o (yielded ops a.tmps) = true then Oper.wp P o a w K Q else E := by
  obtain ⟨h1, td, h2, h3⟩ := hT
  rw [if_pos (by simp [Region.wanted, hgd])]
  exact wp_load_mid ty x ho b 0 hx cs td hB.1.rng h2 h3 (by rw [h1, hB.2]) h
/-- .. stored -/
theorem step_box_store {ops : Array Oper} {o : Oper} {a : Act} {w : World} {K : Act → World → Prop} {Q : Exit → Act → World → Prop} {E : Prop} {n : Nat} (hgd : o.guard = none) (ty : TypeId) (x y : Operand) (ho : o.op = .store ty x y) (b : Nat) (cs vs : List Value)
    (hx : a.eval x = .pointer (some ⟨b, 0, none⟩)) (hy : a.eval y = .agg vs.toArray) (hB : BoxN n w b cs) (hv : Cells n vs) (hT : Wide P ty n)
    (h : ∀ w', BoxN n w' b vs → Only w w' b → K (a.put o.dst undef) w') :
    if Region.wanted o (yielded ops a.tmps) = true then Oper.wp P o a w K Q else E := by
  have hl : vs.length = cs.length := by rw [hv.1, hB.2]
  rw [if_pos (by simp [Region.wanted, hgd])]
  refine wp_store_mid ty x y ho b 0 vs.toArray hx hy (fun j hj => ⟨hB.1.rng.isSome j (by simp at hj; omega), hB.1.free _⟩) (by rw [hT.1, ← hv.1]; simp) (all_oneCell_toArray (by simpa using hv.2)) ?_
  exact h _ ⟨by simpa using hB.1.store hl, hv.1⟩ (by simpa using Only.setCells w b 0 vs hB.1.lt)
end
end Go.Proofs.Ytpcjmceakelilaa
/- Mvcc: what a call may have changed; the order of keys; lists of versions and rows of them. -/
namespace Go.Proofs.Ytpcjmceakelilaa
open Go.ChangeShapes Go.WideShapes Go.ChangeAt Go.RowKit Go.Deep
set_option linter.unusedVariables false
set_option linter.unusedSimpArgs false
abbrev Bs := ByteArray
/-- what a call may have changed: the blocks of S alone -/
structure Kept (S : Nat → Prop) (W W' : World) : Prop where
  os : W'.os = W.os
  tape : W'.tape = W.tape
  output : W'.output = W.output
  size : W.heap.size ≤ W'.heap.size
  block : ∀ k, k < W.heap.size → ¬ S k → W'.heap[k]? = W.heap[k]?
theorem Kept.refl (S : Nat → Prop) (W : World) : Kept S W W := ⟨rfl, rfl, rfl, Nat.le_refl _, fun _ _ _ => rfl⟩
theorem Kept.below {S : Nat → Prop} {W W' : World} {B : Nat} (h : Kept S W W') (hB : B ≤ W.heap.size) (hS : ∀ k, S k → B ≤ k) : Below B W W' := ⟨h.os, h.tape, h.output, h.size, fun k hk => h.block k (by omega) (fun hs => by have := hS k hs; omega)⟩
theorem Kept.drew {S : Nat → Prop} {W W' : World} (h : Kept S W W') : Kept S W W'.drew := ⟨h.os, h.tape, h.output, h.size, h.block⟩
theorem Kept.drewN {S : Nat → Prop} {W W' : World} (h : Kept S W W') (n : Nat) : Kept S W (W'.drewN n) := ⟨h.os, h.tape, h.output, h.size, h.block⟩
theorem heap_setCells (g : Nat) : ∀ (vs : List Value) (o : Nat) (W : World) (k : Nat), k ≠ g → (W.setCells g o vs).heap[k]? = W.heap[k]?
  | [], _, _, _, _ => rfl
  | v :: r, o, W, k, h => by
    rw [World.setCells, heap_setCells g r (o + 1) _ k h]
    simp only [World.setCell]
    rw [Array.getElem?_modify, if_neg (fun e => h e.symm)]
theorem size_setCells' (g : Nat) : ∀ (vs : List Value) (o : Nat) (W : World), (W.setCells g o vs).heap.size = W.heap.size
  | [], _, _ => rfl
  | v :: r, o, W => by rw [World.setCells, size_setCells' g r (o + 1)]; simp [World.setCell]
theorem rest_setCells (g : Nat) : ∀ (vs : List Value) (o : Nat) (W : World), (W.setCells g o vs).os = W.os ∧ (W.setCells g o vs).tape = W.tape ∧ (W.setCells g o vs).output = W.output
  | [], _, _ => ⟨rfl, rfl, rfl⟩
  | v :: r, o, W => by rw [World.setCells]; exact rest_setCells g r (o + 1) _
theorem Kept.setCells {S : Nat → Prop} {W W' : World} (h : Kept S W W') (g o : Nat) (vs : List Value) (hg : S g ∨ W.heap.size ≤ g) : Kept S W (W'.setCells g o vs) := by
  obtain ⟨h1, h2, h3⟩ := rest_setCells g vs o W'
  refine ⟨h1.trans h.os, h2.trans h.tape, h3.trans h.output, by rw [size_setCells']; exact h.size, fun k hk hs => ?_⟩
  rw [heap_setCells g vs o W' k (fun e => by subst e; rcases hg with hg | hg; exact hs hg; omega)]
  exact h.block k hk hs
theorem Kept.alloc {S : Nat → Prop} {W W' : World} (h : Kept S W W') (ob : Obj) : Kept S W (W'.alloc ob) := by
  refine ⟨h.os, h.tape, h.output, ?_, fun k hk hs => ?_⟩
  · have := h.size; rw [World.size_alloc]; omega
  · rw [← h.block k hk hs]
    show (W'.heap.push ob)[k]? = _
    have := h.size
    rw [Array.getElem?_push, if_neg (by omega)]
theorem Kept.trans {S T : Nat → Prop} {W W' W'' : World} (h : Kept S W W') (h2 : Kept T W' W'') (hT : ∀ k, T k → S k ∨ W.heap.size ≤ k) : Kept S W W'' :=
  ⟨h2.os.trans h.os, h2.tape.trans h.tape, h2.output.trans h.output, Nat.le_trans h.size h2.size, fun k hk hs => (h2.block k (Nat.lt_of_lt_of_le hk h.size) (fun ht => by rcases hT k ht with h3 | h3; exact hs h3; omega)).trans (h.block k hk hs)⟩
def lB (a b : Bs) : Bool := Op.bytesLess a.toList b.toList
theorem less_irrefl : ∀ x : List UInt8, Op.bytesLess x x = false
  | [] => rfl
  | a :: x => by simp [Op.bytesLess, less_irrefl x]
theorem less_trans : ∀ x y z : List UInt8, Op.bytesLess x y = true → Op.bytesLess y z = true → Op.bytesLess x z = true
  | _, [], _, h, _ => by simp [Op.bytesLess] at h
  | [], _ :: _, [], _, h => by simp [Op.bytesLess] at h
  | [], _ :: _, _ :: _, _, _ => rfl
  | _ :: _, _ :: _, [], _, h => by simp [Op.bytesLess] at h
  | a :: x, b :: y, c :: z, h1, h2 => by
    simp only [Op.bytesLess, Bool.or_eq_true, decide_eq_true_eq, Bool.and_eq_true, beq_iff_eq] at *
    rcases h1 with h1 | ⟨rfl, h1⟩
    · rcases h2 with h2 | ⟨rfl, h2⟩
      · exact .inl (UInt8.lt_trans h1 h2)
      · exact .inl h1
    · rcases h2 with h2 | ⟨rfl, h2⟩
      · exact .inl h2
      · exact .inr ⟨rfl, less_trans x y z h1 h2⟩
theorem less_tri : ∀ x y : List UInt8, Op.bytesLess x y = false → Op.bytesLess y x = false → x = y
  | [], [], _, _ => rfl
  | [], _ :: _, h, _ => by simp [Op.bytesLess] at h
  | _ :: _, [], _, h => by simp [Op.bytesLess] at h
  | a :: x, b :: y, h1, h2 => by
    simp only [Op.bytesLess, Bool.or_eq_false_iff, decide_eq_false_iff_not, Bool.and_eq_false_iff, beq_eq_false_iff_ne] at *
    have hab : a = b := UInt8.le_antisymm (UInt8.not_lt.1 h2.1) (UInt8.not_lt.1 h1.1)
    subst hab
    rw [less_tri x y (h1.2.resolve_left (fun h => h rfl)) (h2.2.resolve_left (fun h => h rfl))]
theorem lB_irrefl (a : Bs) : lB a a = false := less_irrefl _
theorem lB_trans {a b c : Bs} (h1 : lB a b = true) (h2 : lB b c = true) : lB a c = true := less_trans _ _ _ h1 h2
theorem lB_tri {a b : Bs} (h1 : lB a b = false) (h2 : lB b a = false) : a = b := by
  have := less_tri _ _ h1 h2
  rw [ByteArray.toList_eq, ByteArray.toList_eq] at this
  cases a; cases b
  simp at this
  exact congrArg _ this
theorem lB_asymm {a b : Bs} (h : lB a b = true) : lB b a = false := by
  cases h2 : lB b a with
  | false => rfl
  | true => have := lB_trans h h2; rw [lB_irrefl] at this; cases this
theorem lB_ne {a b : Bs} (h : lB a b = true) : a ≠ b := fun e => by rw [e, lB_irrefl] at h; cases h
theorem ca {W : World} {ob : Obj} {g j : Nat} {v : Value} (hg : g < W.heap.size) (h : W.cell? ⟨g, j, none⟩ = some v) : (W.alloc ob).cell? ⟨g, j, none⟩ = some v :=
  (((Below.refl W.heap.size W).alloc (Nat.le_refl _) ob).cell (p := ⟨g, j, none⟩) hg).trans h
theorem kept_below {W W' : World} (h : Below W.heap.size W W') : Kept (fun _ => False) W W' := ⟨h.os, h.tape, h.output, h.size, fun k hk _ => h.block k hk⟩
theorem cell_kept2 {S : Nat → Prop} {W W' : World} {b j : Nat} {v : Value} (hk : Kept S W W') (hb : b < W.heap.size) (hs : ¬ S b) (h : W.cell? ⟨b, j, none⟩ = some v) : W'.cell? ⟨b, j, none⟩ = some v := by
  rw [World.cell?_of_block (a := ⟨b, j, none⟩) (hk.block b hb hs)]; exact h
theorem addr_add' (B o j : Nat) : (⟨B, o, none⟩ : Addr).add j = ⟨B, o + j, none⟩ := by
  by_cases hj : j = 0 <;> simp [Addr.add, hj]
/-- a version: its time, its value, whether it is a deletion -/
abbrev Ver := Int × Bs × Bool
def verc (x : Ver) : List Value := [.int .i64 x.1, .string x.2.1, .bool x.2.2]
def vrv (L : List Ver) : List Value := L.flatMap verc
theorem vrv_cons (a : Ver) (L : List Ver) : vrv (a :: L) = verc a ++ vrv L := rfl
theorem vrv_app (A B : List Ver) : vrv (A ++ B) = vrv A ++ vrv B := List.flatMap_append ..
theorem vrv_len (L : List Ver) : (vrv L).length = L.length * 3 := by
  induction L with
  | nil => rfl
  | cons a L ih => rw [vrv_cons, List.length_append, ih, List.length_cons]; simp [verc]; omega
theorem vrv_one (L : List Ver) : ∀ u ∈ vrv L, u.oneCell' = true := fun u hu => by
  obtain ⟨x, _, hx⟩ := List.mem_flatMap.1 hu
  simp [verc] at hx
  rcases hx with rfl | rfl | rfl <;> rfl
theorem vrv_at (L : List Ver) (j : Nat) (h : j < L.length) : (vrv L)[j * 3]? = some (.int .i64 L[j].1) ∧ (vrv L)[j * 3 + 1]? = some (.string L[j].2.1) ∧ (vrv L)[j * 3 + 2]? = some (.bool L[j].2.2) := by
  induction L generalizing j with
  | nil => simp at h
  | cons a L ih =>
    have e : vrv (a :: L) = .int .i64 a.1 :: .string a.2.1 :: .bool a.2.2 :: vrv L := rfl
    rw [e]
    match j, h with
    | 0, _ => exact ⟨rfl, rfl, rfl⟩
    | j + 1, h =>
      have h2 : j < L.length := by simpa using h
      rw [show (j + 1) * 3 = j * 3 + 1 + 1 + 1 by omega]
      simp only [List.getElem?_cons_succ, List.getElem_cons_succ]
      exact ih j h2
/-- a slice of versions in a row of its own -/
def VRow (B : Nat) (W : World) (v : Value) (L : List Ver) : Prop := W.ownsRow B 72 3 v L.length (vrv L)
/-- a slice of versions that is read -/
def VrAt (W : World) (v : Value) (L : List Ver) : Prop :=
  (v = .slice none 0 0 ∧ L = []) ∨ ∃ g c, v = .slice (some ⟨g, 0, none⟩) L.length c ∧ L.length ≤ c ∧ c ≤ 9223372036854775807 ∧ g < W.heap.size ∧ ∀ j (h : j < L.length), W.cell? ⟨g, j * 3, none⟩ = some (.int .i64 L[j].1) ∧ W.cell? ⟨g, j * 3 + 1, none⟩ = some (.string L[j].2.1) ∧ W.cell? ⟨g, j * 3 + 2, none⟩ = some (.bool L[j].2.2)
theorem VRow.at_ {B : Nat} {W : World} {v : Value} {L : List Ver} (h : VRow B W v L) : VrAt W v L := by
  have h0 : W.ownsRow B 72 3 v L.length (vrv L) := h
  rcases h.2 with ⟨rfl, h1⟩ | ⟨g, c, cur, rfl, h1, h2, h3, h4, h5, h6⟩
  · exact .inl ⟨rfl, List.eq_nil_of_length_eq_zero h1⟩
  · refine .inr ⟨g, c, rfl, h3, by unfold maxLen at h4; omega, (h0.lt g rfl).2, fun j hj => ?_⟩
    have a0 := h0.cellAt (j * 3) (by omega)
    have a1 := h0.cellAt (j * 3 + 1) (by omega)
    have a2 := h0.cellAt (j * 3 + 2) (by omega)
    rw [a0, a1, a2]
    exact vrv_at L j hj
theorem VRow.same {B : Nat} {W W' : World} {v : Value} {L : List Ver} (h : VRow B W v L) (hk : ∀ k, v.ownBlock = some k → W'.heap[k]? = W.heap[k]?) : VRow B W' v L := by
  refine ⟨h.1, ?_⟩
  rcases h.2 with h1 | ⟨g, c, cur, rfl, h1, h2, h3⟩
  · exact .inl h1
  · exact .inr ⟨g, c, cur, rfl, h1, by rw [hk g rfl]; exact h2, h3⟩
theorem VRow.lt {B : Nat} {W : World} {v : Value} {L : List Ver} (h : VRow B W v L) : ∀ k, v.ownBlock = some k → B ≤ k ∧ k < W.heap.size := World.ownsRow.lt h
theorem VRow.kept {B : Nat} {S : Nat → Prop} {W W' : World} {v : Value} {L : List Ver} (h : VRow B W v L) (hk : Kept S W W') (hS : ∀ k, v.ownBlock = some k → ¬ S k) : VRow B W' v L := h.same (fun k e => hk.block k (h.lt k e).2 (hS k e))
theorem VRow.base {B B' : Nat} {W : World} {v : Value} {L : List Ver} (h : VRow B' W v L) (hb : B ≤ B') : VRow B W v L := by
  refine ⟨h.1, ?_⟩
  rcases h.2 with h1 | ⟨g, c, cur, rfl, h1, h2⟩
  · exact .inl h1
  · exact .inr ⟨g, c, cur, rfl, Nat.le_trans hb h1, h2⟩
theorem VRow.len {B : Nat} {W : World} {v : Value} {L : List Ver} (h : VRow B W v L) : ∃ a c, v = .slice a L.length c := by
  rcases h.2 with ⟨rfl, h1⟩ | ⟨g, c, cur, rfl, _⟩
  · rw [h1]; exact ⟨none, 0, rfl⟩
  · exact ⟨_, _, rfl⟩
theorem VRow.get {B : Nat} {W : World} {v : Value} {L : List Ver} (h : VRow B W v L) (h0 : 0 < L.length) : ∃ g c, v = .slice (some ⟨g, 0, none⟩) L.length c ∧ L.length ≤ c ∧ c ≤ 9223372036854775807 ∧ g < W.heap.size ∧ ∀ j (h : j < L.length), W.cell? ⟨g, j * 3, none⟩ = some (.int .i64 L[j].1) ∧ W.cell? ⟨g, j * 3 + 1, none⟩ = some (.string L[j].2.1) ∧ W.cell? ⟨g, j * 3 + 2, none⟩ = some (.bool L[j].2.2) := by
  rcases h.at_ with ⟨rfl, rfl⟩ | h
  · simp at h0
  · exact h
theorem VRow.nil (B : Nat) (W : World) : VRow B W (.slice none 0 0) [] := World.ownsRow_nil _ _ _ _
end Go.Proofs.Ytpcjmceakelilaa
/- Mvcc: maps from strings to slices: the entries by name; what look-ups, stores, deletions and the steps of a range do. -/
namespace Go.Proofs.Ytpcjmceakelilaa
open Go.ChangeShapes Go.WideShapes Go.ChangeAt Go.RowKit Go.Deep
set_option linter.unusedVariables false
set_option linter.unusedSimpArgs false
/-- an entry: its key, its versions, the slice that holds them, its stamp -/
structure En where
  key : Bs
  vs : List Ver
  val : Value
  born : Nat
def En.entry (e : En) : MapEntry := ⟨.string e.key, e.val, e.born⟩
def esOf (E : List En) : Array MapEntry := (E.map En.entry).toArray
def fnd (k : Bs) : List En → Nat → Option (Nat × En)
  | [], _ => none
  | e :: E, i => if k = e.key then some (i, e) else fnd k E (i + 1)
theorem beq_bs (a b : Bs) : (a == b) = decide (a = b) := by
  rw [Bool.eq_iff_iff, MapKept.bytes_beq]; simp
theorem findNow_E (k : Bs) : ∀ (E : List En) (i : Nat), Instr.findNow .string (.string k) (E.map En.entry) i = some ((fnd k E i).map fun p => (p.1, p.2.val))
  | [], _ => rfl
  | e :: E, i => by
    show (match Instr.sameNow .string (.string k) (.string e.key) with | some true => some (some (i, e.val)) | some false => Instr.findNow .string (.string k) (E.map En.entry) (i + 1) | none => none) = _
    have h : Instr.sameNow .string (.string k) (.string e.key) = some (decide (k = e.key)) := congrArg some (beq_bs k e.key)
    rw [h]
    unfold fnd
    by_cases hk : k = e.key
    · rw [if_pos hk, decide_eq_true hk]; rfl
    · rw [if_neg hk, decide_eq_false hk]; exact findNow_E k E (i + 1)
theorem fnd_some (k : Bs) : ∀ (E : List En) (i j : Nat) (e : En), fnd k E i = some (j, e) → ∃ d, j = i + d ∧ E[d]? = some e ∧ e.key = k
  | [], _, _, _, h => by cases h
  | a :: E, i, j, e, h => by
    unfold fnd at h
    by_cases hk : k = a.key
    · rw [if_pos hk] at h
      cases h
      exact ⟨0, rfl, rfl, hk.symm⟩
    · rw [if_neg hk] at h
      obtain ⟨d, h1, h2, h3⟩ := fnd_some k E (i + 1) j e h
      exact ⟨d + 1, by omega, h2, h3⟩
theorem fnd_none (k : Bs) : ∀ (E : List En) (i : Nat), fnd k E i = none → ∀ e ∈ E, e.key ≠ k
  | [], _, _, _, h => by cases h
  | a :: E, i, h, e, he => by
    unfold fnd at h
    by_cases hk : k = a.key
    · rw [if_pos hk] at h; cases h
    · rw [if_neg hk] at h
      rcases List.mem_cons.1 he with rfl | he
      · exact fun e => hk e.symm
      · exact fnd_none k E (i + 1) h e he
/-- the entry of a key -/
def lkE (E : List En) (k : Bs) : Option En := (fnd k E 0).map (·.2)
def lkV (E : List En) (k : Bs) : Value := match lkE E k with
  | some e => e.val
  | none => .slice none 0 0
def lkL (E : List En) (k : Bs) : List Ver := match lkE E k with
  | some e => e.vs
  | none => []
theorem lkE_mem {E : List En} {k : Bs} {e : En} (h : lkE E k = some e) : e ∈ E ∧ e.key = k := by
  unfold lkE at h
  cases hf : fnd k E 0 with
  | none => rw [hf] at h; cases h
  | some p =>
    obtain ⟨j, x⟩ := p
    rw [hf] at h
    cases h
    obtain ⟨d, _, h2, h3⟩ := fnd_some k E 0 j x hf
    exact ⟨List.mem_of_getElem? h2, h3⟩
theorem lkE_none {E : List En} {k : Bs} (h : lkE E k = none) : ∀ e ∈ E, e.key ≠ k := by
  unfold lkE at h
  cases hf : fnd k E 0 with
  | none => exact fnd_none k E 0 hf
  | some p => rw [hf] at h; cases h
/-- the block of a map -/
def MapAt (W : World) (m : Nat) (E : List En) (clock : Nat) : Prop := W.heap[m]? = some (.map (esOf E) clock)
theorem esOf_list (E : List En) : (esOf E).toList = E.map En.entry := by simp [esOf]
theorem isKeyS (k : Bs) : MapKept.IsKey .string (.string k) := trivial
theorem zero_vs (W : World) : (zeroValue 90).run Try.prog W = .ok (.slice none 0 0) W := by kernel_rfl
theorem run_look {W : World} {m clock : Nat} {E : List En} (h : MapAt W m E clock) (k : Bs) :
    (Instr.lookup 87 (.map (some m)) (.string k) false).run Try.prog W = .ok (lkV E k) W := by
  have h1 := findNow_E k E 0
  rw [← esOf_list] at h1
  simp only [Instr.lookup, Sem.run_bind, run_underlying Try.underlying87, MapKept.run_getObj_map h, Result.andThen, Sem.run_pure]
  rw [MapKept.run_checkKey (d := .string) Try.underlying9 (isKeyS k)]
  simp only [Result.andThen, Sem.run_bind]
  rw [MapKept.run_findKey (d := .string) Try.underlying9 h1]
  unfold lkV lkE
  cases hf : fnd k E 0 with
  | none => simp [Result.andThen, zero_vs]
  | some p => simp [Result.andThen]
end Go.Proofs.Ytpcjmceakelilaa
/- Mvcc: stores into a map, deletions, the steps of a range. -/
namespace Go.Proofs.Ytpcjmceakelilaa
open Go.ChangeShapes Go.WideShapes Go.ChangeAt Go.RowKit Go.Deep Go.ChangeMaps
set_option linter.unusedVariables false
set_option linter.unusedSimpArgs false
/-- the entries' names fit the block: keys and stamps once each, stamps below the clock -/
structure EnOK (E : List En) (clock : Nat) : Prop where
  keys : (E.map (·.key)).Nodup
  borns : (E.map (·.born)).Nodup
  lt : ∀ e ∈ E, e.born < clock
theorem EnOK.nil (clock : Nat) : EnOK [] clock := ⟨List.nodup_nil, List.nodup_nil, fun e he => (by cases he)⟩
/-- the slice of a key is another one -/
def updE (E : List En) (k : Bs) (val : Value) (vs : List Ver) : List En := E.map fun e => if e.key = k then { e with val := val, vs := vs } else e
def delE (E : List En) (k : Bs) : List En := E.filter fun e => !decide (e.key = k)
def putE (E : List En) (clock : Nat) (k : Bs) (val : Value) (vs : List Ver) : List En := match lkE E k with
  | some _ => updE E k val vs
  | none => E ++ [⟨k, vs, val, clock⟩]
def putC (E : List En) (clock : Nat) (k : Bs) : Nat := match lkE E k with
  | some _ => clock
  | none => clock + 1
theorem updE_keys (E : List En) (k : Bs) (val : Value) (vs : List Ver) : (updE E k val vs).map (·.key) = E.map (·.key) := by
  unfold updE
  rw [List.map_map]
  refine List.map_congr_left (fun e _ => ?_)
  show (if e.key = k then _ else e).key = e.key
  split <;> rfl
theorem updE_borns (E : List En) (k : Bs) (val : Value) (vs : List Ver) : (updE E k val vs).map (·.born) = E.map (·.born) := by
  unfold updE
  rw [List.map_map]
  refine List.map_congr_left (fun e _ => ?_)
  show (if e.key = k then _ else e).born = e.born
  split <;> rfl
theorem born_lt_map {E E' : List En} {clock : Nat} (h : ∀ e ∈ E, e.born < clock) (he : ∀ e ∈ E', e.born ∈ E.map (·.born)) : ∀ e ∈ E', e.born < clock := fun e h' => by
  obtain ⟨x, h1, h2⟩ := List.mem_map.1 (he e h')
  rw [← h2]; exact h x h1
theorem EnOK.upd {E : List En} {clock : Nat} (h : EnOK E clock) (k : Bs) (val : Value) (vs : List Ver) : EnOK (updE E k val vs) clock :=
  ⟨by rw [updE_keys]; exact h.keys, by rw [updE_borns]; exact h.borns, born_lt_map h.lt (fun e he => by rw [← updE_borns E k val vs]; exact List.mem_map.2 ⟨e, he, rfl⟩)⟩
theorem EnOK.sub {E E' : List En} {clock : Nat} (h : EnOK E clock) (hs : E'.Sublist E) : EnOK E' clock := ⟨(hs.map _).nodup h.keys, (hs.map _).nodup h.borns, fun e he => h.lt e (hs.subset he)⟩
theorem EnOK.del {E : List En} {clock : Nat} (h : EnOK E clock) (k : Bs) : EnOK (delE E k) clock := h.sub List.filter_sublist
theorem EnOK.put {E : List En} {clock : Nat} (h : EnOK E clock) (k : Bs) (val : Value) (vs : List Ver) : EnOK (putE E clock k val vs) (putC E clock k) := by
  unfold putE putC
  cases hl : lkE E k with
  | some e => exact h.upd k val vs
  | none =>
    refine ⟨?_, ?_, fun e he => ?_⟩
    · show ((E ++ [⟨k, vs, val, clock⟩] : List En).map (·.key)).Nodup
      rw [List.map_append, List.nodup_append]
      refine ⟨h.keys, by simp, fun a ha b hb => ?_⟩
      obtain ⟨e, he, rfl⟩ := List.mem_map.1 ha
      have hb' : b = k := by simpa using hb
      rw [hb']
      exact lkE_none hl e he
    · show ((E ++ [⟨k, vs, val, clock⟩] : List En).map (·.born)).Nodup
      rw [List.map_append, List.nodup_append]
      refine ⟨h.borns, by simp, fun a ha b hb => ?_⟩
      obtain ⟨e, he, rfl⟩ := List.mem_map.1 ha
      have hb' : b = clock := by simpa using hb
      have := h.lt e he
      omega
    · rcases List.mem_append.1 he with he | he
      · have := h.lt e he; show e.born < clock + 1; omega
      · rw [List.mem_singleton.1 he]; show clock < clock + 1; omega
theorem modify_upd {E : List En} {k : Bs} {val : Value} {vs : List Ver} {d : Nat} {e : En} (hn : (E.map (·.key)).Nodup) (hd : E[d]? = some e) (hk : e.key = k) :
    (esOf E).modify d (fun x => { x with key := .string k, val := val }) = esOf (updE E k val vs) := by
  apply Array.toList_inj.1
  rw [Array.toList_modify, esOf_list, esOf_list]
  apply List.ext_getElem?
  intro j
  rw [List.getElem?_modify, List.getElem?_map, List.getElem?_map]
  unfold updE
  rw [List.getElem?_map]
  cases hj : E[j]? with
  | none => rfl
  | some x =>
    simp only [Option.map_some]
    by_cases hdj : d = j
    · subst hdj
      rw [hd] at hj
      cases hj
      simp [En.entry, hk]
    · show some (if d = j then _ else x.entry) = some (if x.key = k then _ else x).entry
      rw [if_neg hdj, if_neg (fun hxk => ?_)]
      · obtain ⟨h1, h2⟩ := List.getElem?_eq_some_iff.1 hd
        obtain ⟨h3, h4⟩ := List.getElem?_eq_some_iff.1 hj
        have := (List.getElem_inj (xs := E.map (·.key)) (h₀ := by simpa using h1) (h₁ := by simpa using h3) hn).1 (by simp [h2, h4, hk, hxk])
        exact hdj this
theorem run_upd {W : World} {m clock : Nat} {E : List En} (h : MapAt W m E clock) (hn : (E.map (·.key)).Nodup) (k : Bs) (val : Value) (vs : List Ver) :
    (Instr.mapUpdate 87 (.map (some m)) (.string k) val).run Try.prog W = .ok () (setBlock W m (.map (esOf (putE E clock k val vs)) (putC E clock k))) := by
  have h1 := findNow_E k E 0
  rw [← esOf_list] at h1
  unfold putE putC lkE
  cases hf : fnd k E 0 with
  | none =>
    rw [hf] at h1
    have e : (esOf E).push ⟨.string k, val, clock⟩ = esOf (E ++ [⟨k, vs, val, clock⟩]) := by
      apply Array.toList_inj.1
      rw [Array.toList_push, esOf_list, esOf_list, List.map_append]; rfl
    simp [Instr.mapUpdate, run_underlying Try.underlying87, MapKept.run_getObj_map h, MapKept.run_checkKey (d := .string) Try.underlying9 (isKeyS k), MapKept.run_findKey (d := .string) Try.underlying9 h1, MapKept.run_setObj_map _ h, Result.andThen, setBlock, e]
  | some p =>
    obtain ⟨j, e⟩ := p
    rw [hf] at h1
    obtain ⟨d, hjd, h2, h3⟩ := fnd_some k E 0 j e hf
    have hj0 : j = d := by omega
    subst hj0
    have hes : (esOf E)[j]? = some e.entry := by
      rw [← Array.getElem?_toList, esOf_list, List.getElem?_map, h2]; rfl
    have hke : e.entry.key = .string k := by show Value.string e.key = _; rw [h3]
    have hm := modify_upd (val := val) (vs := vs) hn h2 h3
    simp [Instr.mapUpdate, run_underlying Try.underlying87, MapKept.run_getObj_map h, MapKept.run_checkKey (d := .string) Try.underlying9 (isKeyS k), MapKept.run_findKey (d := .string) Try.underlying9 h1, hes, hke, MapKept.run_keyThatStays (isKeyS k), MapKept.run_setObj_map _ h, Result.andThen, setBlock, hm]
theorem erase_del {E : List En} {k : Bs} {d : Nat} {e : En} (hn : (E.map (·.key)).Nodup) (hd : E[d]? = some e) (hk : e.key = k) :
    (esOf E).eraseIdxIfInBounds d = esOf (delE E k) := by
  have hdl := (List.getElem?_eq_some_iff.1 hd).1
  apply Array.toList_inj.1
  have h0 : d < (esOf E).size := by rw [← Array.length_toList, esOf_list]; simpa using hdl
  unfold Array.eraseIdxIfInBounds
  rw [dif_pos h0, Array.toList_eraseIdx, esOf_list, esOf_list]
  clear h0
  induction E generalizing d with
  | nil => cases hd
  | cons a E ih =>
    cases d with
    | zero =>
      have ha : a = e := by simpa using hd
      subst ha
      rw [List.map_cons, List.eraseIdx_cons_zero]
      unfold delE
      rw [List.filter_cons, if_neg (by simp [hk])]
      refine congrArg (List.map En.entry) (List.filter_eq_self.2 (fun x hx => ?_)).symm
      have h1 := (List.nodup_cons.1 hn).1
      simp only [Bool.not_eq_true', decide_eq_false_iff_not]
      exact fun hxk => h1 (List.mem_map.2 ⟨x, hx, hxk.trans hk.symm⟩)
    | succ d =>
      have hd' : E[d]? = some e := by simpa using hd
      rw [List.map_cons, List.eraseIdx_cons_succ]
      unfold delE
      have hn' := List.nodup_cons.1 hn
      rw [List.filter_cons, if_pos (by
        simp only [Bool.not_eq_true', decide_eq_false_iff_not]
        exact fun hak => hn'.1 (List.mem_map.2 ⟨e, List.mem_of_getElem? hd', hk.trans hak.symm⟩))]
      rw [List.map_cons]
      exact congrArg (List.cons _) (ih hn'.2 hd' (by simpa using hdl))
theorem run_del {W : World} {m clock : Nat} {E : List En} (h : MapAt W m E clock) (hn : (E.map (·.key)).Nodup) (k : Bs) (ty : TypeId) :
    (Builtin.delete_ #[87, 9] ty #[.map (some m), .string k]).run Try.prog W = .ok (.tuple #[]) (setBlock W m (.map (esOf (delE E k)) clock)) := by
  have h1 := findNow_E k E 0
  rw [← esOf_list] at h1
  cases hf : fnd k E 0 with
  | none =>
    rw [hf] at h1
    have e : delE E k = E := List.filter_eq_self.2 (fun x hx => by simpa using fnd_none k E 0 hf x hx)
    simp [Builtin.delete_, run_underlying Try.underlying87, MapKept.run_getObj_map h, MapKept.run_checkKey (d := .string) Try.underlying9 (isKeyS k), MapKept.run_findKey (d := .string) Try.underlying9 h1, MapKept.run_setObj_map _ h, Result.andThen, setBlock, e]
  | some p =>
    obtain ⟨j, e⟩ := p
    rw [hf] at h1
    obtain ⟨d, hjd, h2, h3⟩ := fnd_some k E 0 j e hf
    have hj0 : j = d := by omega
    subst hj0
    have hm := erase_del hn h2 h3
    simp [Builtin.delete_, run_underlying Try.underlying87, MapKept.run_getObj_map h, MapKept.run_checkKey (d := .string) Try.underlying9 (isKeyS k), MapKept.run_findKey (d := .string) Try.underlying9 h1, MapKept.run_setObj_map _ h, Result.andThen, setBlock, hm]
theorem setBlock_kept {S : Nat → Prop} {W W' : World} (h : Kept S W W') (m : Nat) (o : Obj) (hm : S m ∨ W.heap.size ≤ m) : Kept S W (setBlock W' m o) := by
  refine ⟨h.os, h.tape, h.output, by show W.heap.size ≤ (W'.heap.setIfInBounds m o).size; rw [Array.size_setIfInBounds]; exact h.size, fun k hk hs => ?_⟩
  rw [← h.block k hk hs]
  show (W'.heap.setIfInBounds m o)[k]? = _
  rw [Array.getElem?_setIfInBounds_ne (fun e => by subst e; rcases hm with hm | hm; exact hs hm; omega)]
theorem setBlock_at {W : World} {m : Nat} {o o' : Obj} (h : W.heap[m]? = some o') : (setBlock W m o).heap[m]? = some o := by
  show (W.heap.setIfInBounds m o)[m]? = _
  exact (MapKept.heap_set h).1
theorem MapAt.kept {S : Nat → Prop} {W W' : World} {m clock : Nat} {E : List En} (h : MapAt W m E clock) (hk : Kept S W W') (hS : ¬ S m) : MapAt W' m E clock := (hk.block m (Array.getElem?_eq_some_iff.1 h).1 hS).trans h
theorem MapAt.lt {W : World} {m clock : Nat} {E : List En} (h : MapAt W m E clock) : m < W.heap.size := (Array.getElem?_eq_some_iff.1 h).1
end Go.Proofs.Ytpcjmceakelilaa
/- Drawn regions in an order of one's own (wp_region_ord, wp_region_ordW, wp_region_tree). -/
namespace Go.Proofs.Ytpcjmceakelilaa
open Go.ChangeShapes Go.WideShapes Go.ChangeAt Go.RowKit Go.Deep
set_option linter.unusedVariables false
set_option linter.unusedSimpArgs false
section
variable {P : Program} {ops : Array Oper} {md : Region.Mode} {Q : Exit → Act → World → Prop} {S : World → Prop}
def Before (c : Nat) (S : World → Prop) (listed : Array Bool) (w : World) : Prop := listed.getD c false = false → S w
def wpAnyT (P : Program) (md : Region.Mode) (ops : Array Oper) (Q : Exit → Act → World → Prop) (S : World → Prop) (n c : Nat) (L : Array Bool → Act → World → Prop) : Nat → Array Bool → Act → World → Prop
  | 0, listed, a, w => L listed a w
  | f + 1, listed, a, w =>
    Region.ready md ops listed ≠ [] ∧ ∀ i ∈ Region.ready md ops listed, i < n ∧ wpOp P ops Q i (fun a' w' => Before c S (listed.setIfInBounds i true) w' ∧ wpAnyT P md ops Q S n c L f (listed.setIfInBounds i true) a' w') a w
theorem wpAny_of_T {n c g : Nat} {L : Array Bool → Act → World → Prop} (hL : ∀ listed a w, L listed a w → wpAny P md ops Q g listed a w) :
    ∀ (f : Nat) (listed : Array Bool) (a : Act) (w : World), wpAnyT P md ops Q S n c L f listed a w → wpAny P md ops Q (f + g) listed a w
  | 0, listed, a, w, h => by rw [Nat.zero_add]; exact hL _ _ _ h
  | f + 1, listed, a, w, h => by
    rw [show f + 1 + g = (f + g) + 1 by omega]
    exact ⟨fun h0 => absurd h0 h.1, fun i hi => wpOp_mono (fun a' w' h' => wpAny_of_T hL f _ a' w' h'.2) (h.2 i hi).2⟩
theorem set_other {listed : Array Bool} {i c : Nat} (h : (listed.setIfInBounds i true).getD c false = false) : listed.getD c false = false := by
  cases hl : listed.getD c false with
  | false => rfl
  | true => rw [getD_set_true hl] at h; cases h
theorem wpAnyT_first {n c i : Nat} {oi : Oper} {v : Value} {Sx : World → Prop} {L : Array Bool → Act → World → Prop} (hi : ops[i]? = some oi) (hsel : ∀ (j : Nat) (o : Oper) cs b, ops[j]? = some o → o.op ≠ .select cs b)
    (hQ : ∀ c (a : Act) (d : Option Tmp) (v : Value) w, Q (.panic c) (a.put d v) w → Q (.panic c) a w)
    (hs : Region.sinkB md ops n = true) (hc : Region.chainB md ops n = true) (hn : n < ops.size) (hin : i < n) (hic : i ≠ c)
    (hSx : ∀ listed w, HeadInv md ops n listed → listed.getD i true = false → Before c S listed w → Sx w)
    (hdone : ∀ listed a w, L listed a w → ∀ j ∈ Region.ready md ops listed, n ≤ j) :
    ∀ (f : Nat) (listed : Array Bool) (a : Act) (w : World), HeadInv md ops n listed →
      (∀ j oj, ops[j]? = some oj → j ≠ i → listed.getD j true = false → (∀ e ∈ oj.after, Region.binds md e = true → e.on ≠ i) → oi.apart ops oj = true) →
      i ∈ Region.ready md ops listed → YieldsIf P ops Sx oi v a → Before c S listed w →
      wpAnyT P md ops Q S n c L f (listed.setIfInBounds i true) (a.put oi.dst v) w → wpAnyT P md ops Q S n c L (f + 1) listed a w := by
  intro f
  induction f with
  | zero =>
    intro listed a w inv _ hr hy hS H
    have hun := (mem_ready.1 hr).1
    refine ⟨fun h => (by rw [h] at hr; cases hr), fun j hj => ?_⟩
    have hjn : j < n := by
      rcases Nat.lt_or_ge j n with h | h
      · exact h
      · exact absurd hj (tail_waits hs hc hn inv _ i rfl hin hun j h)
    refine ⟨hjn, ?_⟩
    by_cases hji : j = i
    · subst hji; exact hy.wpOp hi (hSx _ _ inv hun hS) ⟨fun h => hS (set_other h), H⟩
    · have := hdone _ _ _ H j (ready_mono hj hji)
      omega
  | succ f ih =>
    intro listed a w inv hfree hr hy hS H
    have hun := (mem_ready.1 hr).1
    refine ⟨fun h => (by rw [h] at hr; cases hr), fun j hj => ?_⟩
    have hjn : j < n := by
      rcases Nat.lt_or_ge j n with h | h
      · exact h
      · exact absurd hj (tail_waits hs hc hn inv _ i rfl hin hun j h)
    refine ⟨hjn, ?_⟩
    by_cases hji : j = i
    · subst hji; exact hy.wpOp hi (hSx _ _ inv hun hS) ⟨fun h => hS (set_other h), H⟩
    · have h1 := (H.2 j (ready_mono hj hji)).2
      obtain ⟨hjun, oj, hoj, hall⟩ := mem_ready.1 hj
      have hnot : ∀ e ∈ oj.after, Region.binds md e = true → e.on ≠ i := fun e he hb heq => by
        have h1 := hall e he hb
        rw [heq, getD_both hun] at h1
        cases h1
      have h2 := wpOp_putIf hoj (hfree j oj hoj hji hjun hnot) (fun cs b => hsel i oi cs b hi) (fun cs b => hsel j oj cs b hoj) (fun c a w => hQ c a _ _ w) hy h1
      have hfree' : ∀ k ok, ops[k]? = some ok → k ≠ i → (listed.setIfInBounds j true).getD k true = false →
          (∀ e ∈ ok.after, Region.binds md e = true → e.on ≠ i) → oi.apart ops ok = true := fun k ok hk hki hun hno => by
        refine hfree k ok hk hki ?_ hno
        by_cases hjk : j = k
        · subst hjk; exact hjun
        · rw [getD_set_ne true hjk] at hun; exact hun
      refine wpOp_mono (fun a' w' h3 => ?_) h2
      obtain ⟨hy3, hS3, h3⟩ := h3
      rw [Array.setIfInBounds_comm _ _ (Ne.symm hji)] at hS3 h3
      have hS4 : Before c S (listed.setIfInBounds j true) w' := fun h => by
        refine hS3 ?_
        rw [getD_set_ne false hic]; exact h
      exact ⟨hS4, ih (listed.setIfInBounds j true) a' w' (inv.set hj hjn) hfree' (ready_mono hr (Ne.symm hji)) hy3 hS4 h3⟩
/-- operation c waits for i, by way of others -/
def Region.anc (md : Region.Mode) (ops : Array Oper) (c : Nat) : Nat → Nat → Bool
  | 0, i => Region.waitsFor md ops c i
  | f + 1, i => Region.waitsFor md ops c i || (List.range c).any fun j => Region.waitsFor md ops j i && Region.anc md ops c f j
theorem anc_listed {n c : Nat} {listed : Array Bool} (inv : HeadInv md ops n listed) : ∀ (f i : Nat), Region.anc md ops c f i = true → listed.getD c false = true → listed.getD i false = true
  | 0, i, h, hc => by
    obtain ⟨oj, hj, e, he, hb, ho⟩ := Region.waitsFor_spec h
    rw [← ho]
    exact inv.closed c oj hj hc e he hb
  | f + 1, i, h, hc => by
    simp only [Region.anc, Bool.or_eq_true] at h
    rcases h with h | h
    · obtain ⟨oj, hj, e, he, hb, ho⟩ := Region.waitsFor_spec h
      rw [← ho]
      exact inv.closed c oj hj hc e he hb
    · obtain ⟨j, _, h⟩ := List.any_eq_true.1 h
      simp only [Bool.and_eq_true] at h
      have hl := anc_listed inv f j h.2 hc
      obtain ⟨oj, hj, e, he, hb, ho⟩ := Region.waitsFor_spec h.1
      rw [← ho]
      exact inv.closed j oj hj hl e he hb
/-- kinds: 0 a value in whatever world; 1 a value in every world that meets S; 2 an effect ahead of c; 3 c, or an effect behind it -/
def KindS (S : World → Prop) : Nat → World → Prop
  | 1 => S
  | _ => fun _ => True
def wpOrd (P : Program) (ops : Array Oper) (Q : Exit → Act → World → Prop) (S : World → Prop) (R : Act → World → Prop) : List (Nat × Nat) → Act → World → Prop
  | [], a, w => R a w
  | (i, 0) :: rest, a, w => ∃ oi v, ops[i]? = some oi ∧ YieldsIf P ops (KindS S 0) oi v a ∧ wpOrd P ops Q S R rest (a.put oi.dst v) w
  | (i, 1) :: rest, a, w => ∃ oi v, ops[i]? = some oi ∧ YieldsIf P ops (KindS S 1) oi v a ∧ wpOrd P ops Q S R rest (a.put oi.dst v) w
  | (i, 2) :: rest, a, w => wpOp P ops Q i (fun a' w' => S w' ∧ wpOrd P ops Q S R rest a' w') a w
  | (i, _) :: rest, a, w => wpOp P ops Q i (fun a' w' => wpOrd P ops Q S R rest a' w') a w
def Region.ordB (md : Region.Mode) (ops : Array Oper) (n c g : Nat) : List (Nat × Nat) → Array Bool → Bool
  | [], listed => Region.seqB md ops g n listed
  | (i, 0) :: rest, listed => (Region.ready md ops listed).contains i && Region.free md ops listed i && decide (i < n) && decide (i ≠ c) && Region.ordB md ops n c g rest (listed.setIfInBounds i true)
  | (i, 1) :: rest, listed => (Region.ready md ops listed).contains i && Region.free md ops listed i && decide (i < n) && decide (i ≠ c) && Region.anc md ops c 6 i && Region.ordB md ops n c g rest (listed.setIfInBounds i true)
  | (i, 2) :: rest, listed => decide (Region.ready md ops listed = [i]) && decide (i < n) && Region.ordB md ops n c g rest (listed.setIfInBounds i true)
  | (i, _) :: rest, listed => decide (Region.ready md ops listed = [i]) && decide (i < n) && (listed.setIfInBounds i true).getD c false && Region.ordB md ops n c g rest (listed.setIfInBounds i true)
def Region.regB (md : Region.Mode) (ops : Array Oper) (n c : Nat) (ord : List (Nat × Nat)) : Bool :=
  Region.noSelect ops && decide (n < ops.size) && decide (ord.length = n) && Region.sinkB md ops n && Region.chainB md ops n && Region.ordB md ops n c (ops.size - n) ord (Array.replicate ops.size false)
theorem wpAnyT_ord {n c g : Nat} {R : Act → World → Prop} (hsel : Region.noSelect ops = true) (hQ : ∀ c (a : Act) (d : Option Tmp) (v : Value) w, Q (.panic c) (a.put d v) w → Q (.panic c) a w)
    (hs : Region.sinkB md ops n = true) (hc : Region.chainB md ops n = true) (hn : n < ops.size) :
    ∀ (l : List (Nat × Nat)) (listed : Array Bool) (a : Act) (w : World), HeadInv md ops n listed → Before c S listed w →
    Region.ordB md ops n c g l listed = true → wpOrd P ops Q S R l a w →
    wpAnyT P md ops Q S n c (fun listed' a' w' => Region.seqB md ops g n listed' = true ∧ R a' w') l.length listed a w
  | [], listed, a, w, inv, hS, hB, h => ⟨hB, h⟩
  | (i, 0) :: l, listed, a, w, inv, hS, hB, h => by
    simp only [Region.ordB, Bool.and_eq_true, decide_eq_true_eq] at hB
    obtain ⟨⟨⟨⟨hr, hf⟩, hin⟩, hic⟩, hB'⟩ := hB
    have hr' : i ∈ Region.ready md ops listed := by simpa using hr
    obtain ⟨oi, v, h0, hy, hK⟩ := h
    exact wpAnyT_first h0 (Region.noSelect_spec hsel) hQ hs hc hn hin hic (fun _ _ _ _ _ => trivial) (fun listed' a' w' hL => seqB_ready hL.1) l.length listed a w inv (Region.free_spec h0 hf) hr' hy hS
      (wpAnyT_ord hsel hQ hs hc hn l _ _ _ (inv.set hr' hin) (fun h => hS (set_other h)) hB' hK)
  | (i, 1) :: l, listed, a, w, inv, hS, hB, h => by
    simp only [Region.ordB, Bool.and_eq_true, decide_eq_true_eq] at hB
    obtain ⟨⟨⟨⟨⟨hr, hf⟩, hin⟩, hic⟩, hanc⟩, hB'⟩ := hB
    have hr' : i ∈ Region.ready md ops listed := by simpa using hr
    obtain ⟨oi, v, h0, hy, hK⟩ := h
    exact wpAnyT_first h0 (Region.noSelect_spec hsel) hQ hs hc hn hin hic (fun listed w inv hun hb => hb (by
        cases hl : listed.getD c false with
        | false => rfl
        | true => have := anc_listed inv 6 i hanc hl; rw [getD_both hun] at this; cases this)) (fun listed' a' w' hL => seqB_ready hL.1) l.length listed a w inv (Region.free_spec h0 hf) hr' hy hS
      (wpAnyT_ord hsel hQ hs hc hn l _ _ _ (inv.set hr' hin) (fun h => hS (set_other h)) hB' hK)
  | (i, 2) :: l, listed, a, w, inv, hS, hB, h => by
    simp only [Region.ordB, Bool.and_eq_true, decide_eq_true_eq] at hB
    obtain ⟨⟨hr, hin⟩, hB'⟩ := hB
    refine ⟨fun h0 => (by rw [hr] at h0; cases h0), fun j hj => ?_⟩
    have hj' := hj
    rw [hr] at hj
    have hji : j = i := by simpa using hj
    subst hji
    have h1 : wpOp P ops Q j (fun a' w' => S w' ∧ wpOrd P ops Q S R l a' w') a w := h
    exact ⟨hin, wpOp_mono (fun a' w' h2 => ⟨fun _ => h2.1, wpAnyT_ord hsel hQ hs hc hn l _ _ _ (inv.set hj' hin) (fun _ => h2.1) hB' h2.2⟩) h1⟩
  | (i, k + 3) :: l, listed, a, w, inv, hS, hB, h => by
    simp only [Region.ordB, Bool.and_eq_true, decide_eq_true_eq] at hB
    obtain ⟨⟨⟨hr, hin⟩, hcl⟩, hB'⟩ := hB
    refine ⟨fun h0 => (by rw [hr] at h0; cases h0), fun j hj => ?_⟩
    have hj' := hj
    rw [hr] at hj
    have hji : j = i := by simpa using hj
    subst hji
    have h1 : wpOp P ops Q j (fun a' w' => wpOrd P ops Q S R l a' w') a w := h
    have hno : ∀ w', Before c S (listed.setIfInBounds j true) w' := fun w' h => by rw [hcl] at h; cases h
    exact ⟨hin, wpOp_mono (fun a' w' h2 => ⟨hno w', wpAnyT_ord hsel hQ hs hc hn l _ _ _ (inv.set hj' hin) (hno w') hB' h2⟩) h1⟩
theorem wp_region_ord {id : Nat} {a : Act} {w : World} {l : List Oper} (n c : Nat) (ord : List (Nat × Nat)) (S : World → Prop) (hm : P.follows .mixedOrders = true) (hB : Region.regB .any l.toArray n c ord = true) (hS : S w.drew)
    (hQ : ∀ c (a : Act) (d : Option Tmp) (v : Value) w, Q (.panic c) (a.put d v) w → Q (.panic c) a w)
    (h : wpOrd P l.toArray Q S (fun a' w' => wpList P l.toArray Q (l.drop n) a' w') ord a w.drew) : (Code.region id l.toArray true).wp P Q a w := by
  simp only [Region.regB, Bool.and_eq_true, decide_eq_true_eq] at hB
  obtain ⟨⟨⟨⟨⟨hsel, hn⟩, hol⟩, hs⟩, hc⟩, hlex⟩ := hB
  have hn' : n < l.length := by simpa using hn
  have hdl : (l.drop n).length = l.toArray.size - n := by simp
  have inv0 : HeadInv .any l.toArray n (Array.replicate l.toArray.size false) :=
    ⟨by simp, fun j oj _ hl => (by rw [getD_replicate_false] at hl; cases hl), fun t _ ht => getD_in (by simpa using ht) (getD_replicate_false _ _)⟩
  have H := wpAnyT_ord (md := .any) (g := l.toArray.size - n) hsel hQ hs hc hn ord _ a _ inv0 (fun _ => hS) hlex h
  refine wp_region_any hm ?_
  have := wpAny_of_T (g := l.toArray.size - n) (fun listed a' w' hL => by
    have := wpAny_of_seq (md := .any) (Q' := Q) (l.drop n) n listed a' w' (fun j => by simp [List.getElem?_drop]) (by rw [hdl]; exact hL.1) hL.2
    rwa [hdl] at this) _ _ _ _ H
  rw [hol, show n + (l.toArray.size - n) = l.toArray.size by omega] at this
  exact this
theorem wpOrd_read0 {R : Act → World → Prop} {i : Nat} {rest : List (Nat × Nat)} {a : Act} {w : World} {oi : Oper} (v : Value) (hi : ops[i]? = some oi) (hw : Region.wanted oi (yielded ops a.tmps) = true) (hy : ∀ w, (execOp a.eval oi).run P w = .ok (.value v) w)
    (h : ∀ K : Act → World → Prop, (∀ a w, wpOrd P ops Q S R rest a w → K a w) → K (a.put oi.dst v) w) : wpOrd P ops Q S R ((i, 0) :: rest) a w :=
  ⟨oi, v, hi, .inl ⟨hw, fun w _ => hy w⟩, h _ (fun _ _ h => h)⟩
theorem wpOrd_read1 {R : Act → World → Prop} {i : Nat} {rest : List (Nat × Nat)} {a : Act} {w : World} {oi : Oper} (v : Value) (hi : ops[i]? = some oi) (hw : Region.wanted oi (yielded ops a.tmps) = true) (hy : ∀ w, S w → (execOp a.eval oi).run P w = .ok (.value v) w)
    (h : ∀ K : Act → World → Prop, (∀ a w, wpOrd P ops Q S R rest a w → K a w) → K (a.put oi.dst v) w) : wpOrd P ops Q S R ((i, 1) :: rest) a w :=
  ⟨oi, v, hi, .inl ⟨hw, hy⟩, h _ (fun _ _ h => h)⟩
theorem wpOrd_eff2 {R : Act → World → Prop} {i : Nat} {rest : List (Nat × Nat)} {a : Act} {w : World} {oi : Oper} (hi : ops[i]? = some oi) (hw : Region.wanted oi (yielded ops a.tmps) = true)
    (h : ∀ K : Act → World → Prop, (∀ a w, S w → wpOrd P ops Q S R rest a w → K a w) → oi.wp P a w K Q) : wpOrd P ops Q S R ((i, 2) :: rest) a w := by
  show wpOp P ops Q i _ a w
  unfold wpOp
  simp only [hi, hw, if_true]
  exact .inl (h _ (fun _ _ h1 h2 => ⟨h1, h2⟩))
theorem wpOrd_eff3 {R : Act → World → Prop} {i : Nat} {rest : List (Nat × Nat)} {a : Act} {w : World} {oi : Oper} (hi : ops[i]? = some oi) (hw : Region.wanted oi (yielded ops a.tmps) = true)
    (h : ∀ K : Act → World → Prop, (∀ a w, wpOrd P ops Q S R rest a w → K a w) → oi.wp P a w K Q) : wpOrd P ops Q S R ((i, 3) :: rest) a w := by
  show wpOp P ops Q i _ a w
  unfold wpOp
  simp only [hi, hw, if_true]
  exact .inl (h _ (fun _ _ h => h))
theorem wpOrd_nil {R : Act → World → Prop} {a : Act} {w : World} (h : R a w) : wpOrd P ops Q S R [] a w := h
end
section
variable {P : Program} {ops : Array Oper} {md : Region.Mode} {Q : Exit → Act → World → Prop} {S : World → Prop}
theorem wpAnyT_firstW {n c i : Nat} {oi : Oper} {v : Value} {Sx : World → Prop} {L : Array Bool → Act → World → Prop} (hi : ops[i]? = some oi) (hsel : ∀ (j : Nat) (o : Oper) cs b, ops[j]? = some o → o.op ≠ .select cs b)
    (hQ : ∀ c (a : Act) (d : Option Tmp) (v : Value) w, Q (.panic c) (a.put d v) w → Q (.panic c) a w)
    (hn : n = ops.size) (hin : i < n) (hic : i ≠ c)
    (hSx : ∀ listed w, HeadInv md ops n listed → listed.getD i true = false → Before c S listed w → Sx w)
    (hdone : ∀ listed a w, L listed a w → ∀ j ∈ Region.ready md ops listed, n ≤ j) :
    ∀ (f : Nat) (listed : Array Bool) (a : Act) (w : World), HeadInv md ops n listed →
      (∀ j oj, ops[j]? = some oj → j ≠ i → listed.getD j true = false → (∀ e ∈ oj.after, Region.binds md e = true → e.on ≠ i) → oi.apart ops oj = true) →
      i ∈ Region.ready md ops listed → YieldsIf P ops Sx oi v a → Before c S listed w →
      wpAnyT P md ops Q S n c L f (listed.setIfInBounds i true) (a.put oi.dst v) w → wpAnyT P md ops Q S n c L (f + 1) listed a w := by
  intro f
  induction f with
  | zero =>
    intro listed a w inv _ hr hy hS H
    have hun := (mem_ready.1 hr).1
    refine ⟨fun h => (by rw [h] at hr; cases hr), fun j hj => ?_⟩
    have hjn : j < n := by
      obtain ⟨_, oj, hoj, _⟩ := mem_ready.1 hj
      have := (Array.getElem?_eq_some_iff.1 hoj).1
      omega
    refine ⟨hjn, ?_⟩
    by_cases hji : j = i
    · subst hji; exact hy.wpOp hi (hSx _ _ inv hun hS) ⟨fun h => hS (set_other h), H⟩
    · have := hdone _ _ _ H j (ready_mono hj hji)
      omega
  | succ f ih =>
    intro listed a w inv hfree hr hy hS H
    have hun := (mem_ready.1 hr).1
    refine ⟨fun h => (by rw [h] at hr; cases hr), fun j hj => ?_⟩
    have hjn : j < n := by
      obtain ⟨_, oj, hoj, _⟩ := mem_ready.1 hj
      have := (Array.getElem?_eq_some_iff.1 hoj).1
      omega
    refine ⟨hjn, ?_⟩
    by_cases hji : j = i
    · subst hji; exact hy.wpOp hi (hSx _ _ inv hun hS) ⟨fun h => hS (set_other h), H⟩
    · have h1 := (H.2 j (ready_mono hj hji)).2
      obtain ⟨hjun, oj, hoj, hall⟩ := mem_ready.1 hj
      have hnot : ∀ e ∈ oj.after, Region.binds md e = true → e.on ≠ i := fun e he hb heq => by
        have h1 := hall e he hb
        rw [heq, getD_both hun] at h1
        cases h1
      have h2 := wpOp_putIf hoj (hfree j oj hoj hji hjun hnot) (fun cs b => hsel i oi cs b hi) (fun cs b => hsel j oj cs b hoj) (fun c a w => hQ c a _ _ w) hy h1
      have hfree' : ∀ k ok, ops[k]? = some ok → k ≠ i → (listed.setIfInBounds j true).getD k true = false →
          (∀ e ∈ ok.after, Region.binds md e = true → e.on ≠ i) → oi.apart ops ok = true := fun k ok hk hki hun hno => by
        refine hfree k ok hk hki ?_ hno
        by_cases hjk : j = k
        · subst hjk; exact hjun
        · rw [getD_set_ne true hjk] at hun; exact hun
      refine wpOp_mono (fun a' w' h3 => ?_) h2
      obtain ⟨hy3, hS3, h3⟩ := h3
      rw [Array.setIfInBounds_comm _ _ (Ne.symm hji)] at hS3 h3
      have hS4 : Before c S (listed.setIfInBounds j true) w' := fun h => by
        refine hS3 ?_
        rw [getD_set_ne false hic]; exact h
      exact ⟨hS4, ih (listed.setIfInBounds j true) a' w' (inv.set hj hjn) hfree' (ready_mono hr (Ne.symm hji)) hy3 hS4 h3⟩
def Region.regWB (md : Region.Mode) (ops : Array Oper) (n c : Nat) (ord : List (Nat × Nat)) : Bool :=
  Region.noSelect ops && decide (n = ops.size) && decide (ord.length = n) && Region.ordB md ops n c 0 ord (Array.replicate ops.size false)
theorem wpAnyT_ordW {n c g : Nat} {R : Act → World → Prop} (hsel : Region.noSelect ops = true) (hQ : ∀ c (a : Act) (d : Option Tmp) (v : Value) w, Q (.panic c) (a.put d v) w → Q (.panic c) a w)
    (hn : n = ops.size) :
    ∀ (l : List (Nat × Nat)) (listed : Array Bool) (a : Act) (w : World), HeadInv md ops n listed → Before c S listed w →
    Region.ordB md ops n c g l listed = true → wpOrd P ops Q S R l a w →
    wpAnyT P md ops Q S n c (fun listed' a' w' => Region.seqB md ops g n listed' = true ∧ R a' w') l.length listed a w
  | [], listed, a, w, inv, hS, hB, h => ⟨hB, h⟩
  | (i, 0) :: l, listed, a, w, inv, hS, hB, h => by
    simp only [Region.ordB, Bool.and_eq_true, decide_eq_true_eq] at hB
    obtain ⟨⟨⟨⟨hr, hf⟩, hin⟩, hic⟩, hB'⟩ := hB
    have hr' : i ∈ Region.ready md ops listed := by simpa using hr
    obtain ⟨oi, v, h0, hy, hK⟩ := h
    exact wpAnyT_firstW h0 (Region.noSelect_spec hsel) hQ hn hin hic (fun _ _ _ _ _ => trivial) (fun listed' a' w' hL => seqB_ready hL.1) l.length listed a w inv (Region.free_spec h0 hf) hr' hy hS
      (wpAnyT_ordW hsel hQ hn l _ _ _ (inv.set hr' hin) (fun h => hS (set_other h)) hB' hK)
  | (i, 1) :: l, listed, a, w, inv, hS, hB, h => by
    simp only [Region.ordB, Bool.and_eq_true, decide_eq_true_eq] at hB
    obtain ⟨⟨⟨⟨⟨hr, hf⟩, hin⟩, hic⟩, hanc⟩, hB'⟩ := hB
    have hr' : i ∈ Region.ready md ops listed := by simpa using hr
    obtain ⟨oi, v, h0, hy, hK⟩ := h
    exact wpAnyT_firstW h0 (Region.noSelect_spec hsel) hQ hn hin hic (fun listed w inv hun hb => hb (by
        cases hl : listed.getD c false with
        | false => rfl
        | true => have := anc_listed inv 6 i hanc hl; rw [getD_both hun] at this; cases this)) (fun listed' a' w' hL => seqB_ready hL.1) l.length listed a w inv (Region.free_spec h0 hf) hr' hy hS
      (wpAnyT_ordW hsel hQ hn l _ _ _ (inv.set hr' hin) (fun h => hS (set_other h)) hB' hK)
  | (i, 2) :: l, listed, a, w, inv, hS, hB, h => by
    simp only [Region.ordB, Bool.and_eq_true, decide_eq_true_eq] at hB
    obtain ⟨⟨hr, hin⟩, hB'⟩ := hB
    refine ⟨fun h0 => (by rw [hr] at h0; cases h0), fun j hj => ?_⟩
    have hj' := hj
    rw [hr] at hj
    have hji : j = i := by simpa using hj
    subst hji
    have h1 : wpOp P ops Q j (fun a' w' => S w' ∧ wpOrd P ops Q S R l a' w') a w := h
    exact ⟨hin, wpOp_mono (fun a' w' h2 => ⟨fun _ => h2.1, wpAnyT_ordW hsel hQ hn l _ _ _ (inv.set hj' hin) (fun _ => h2.1) hB' h2.2⟩) h1⟩
  | (i, k + 3) :: l, listed, a, w, inv, hS, hB, h => by
    simp only [Region.ordB, Bool.and_eq_true, decide_eq_true_eq] at hB
    obtain ⟨⟨⟨hr, hin⟩, hcl⟩, hB'⟩ := hB
    refine ⟨fun h0 => (by rw [hr] at h0; cases h0), fun j hj => ?_⟩
    have hj' := hj
    rw [hr] at hj
    have hji : j = i := by simpa using hj
    subst hji
    have h1 : wpOp P ops Q j (fun a' w' => wpOrd P ops Q S R l a' w') a w := h
    have hno : ∀ w', Before c S (listed.setIfInBounds j true) w' := fun w' h => by rw [hcl] at h; cases h
    exact ⟨hin, wpOp_mono (fun a' w' h2 => ⟨hno w', wpAnyT_ordW hsel hQ hn l _ _ _ (inv.set hj' hin) (hno w') hB' h2⟩) h1⟩
theorem wp_region_ordW {id : Nat} {a : Act} {w : World} {l : List Oper} (n c : Nat) (ord : List (Nat × Nat)) (S : World → Prop) (hm : P.follows .mixedOrders = true) (hB : Region.regWB .any l.toArray n c ord = true) (hS : S w.drew)
    (hQ : ∀ c (a : Act) (d : Option Tmp) (v : Value) w, Q (.panic c) (a.put d v) w → Q (.panic c) a w)
    (h : wpOrd P l.toArray Q S (fun a' w' => Q .normal a' w') ord a w.drew) : (Code.region id l.toArray true).wp P Q a w := by
  simp only [Region.regWB, Bool.and_eq_true, decide_eq_true_eq] at hB
  obtain ⟨⟨⟨hsel, hn⟩, hol⟩, hlex⟩ := hB
  have inv0 : HeadInv .any l.toArray n (Array.replicate l.toArray.size false) :=
    ⟨by simp, fun j oj _ hl => (by rw [getD_replicate_false] at hl; cases hl), fun t _ ht => getD_in (by simpa using ht) (getD_replicate_false _ _)⟩
  have H := wpAnyT_ordW (md := .any) (g := 0) hsel hQ hn ord _ a _ inv0 (fun _ => hS) hlex h
  refine wp_region_any hm ?_
  have := wpAny_of_T (g := 0) (fun listed a' w' hL => by
    have hr : Region.ready .any l.toArray listed = [] := by simpa [Region.seqB] using hL.1
    exact wpAny_done (P := P) (Q := Q) hr hL.2 0) _ _ _ _ H
  rwa [Nat.add_zero, hol, hn] at this
end
/-- an order with forks: 'fork m r s': operation m or the call c comes next, r is the order behind m, s the order behind c -/
inductive OrdT where
  | nil
  | one (i k : Nat) (r : OrdT)
  | fork (m : Nat) (r s : OrdT)
def OrdT.size : OrdT → Nat
  | .nil => 0
  | .one _ _ r => r.size + 1
  | .fork _ r _ => r.size + 1
section
variable {P : Program} {ops : Array Oper} {md : Region.Mode} {Q : Exit → Act → World → Prop} {S : World → Prop}
def wpTree (P : Program) (ops : Array Oper) (Q : Exit → Act → World → Prop) (S : World → Prop) (c : Nat) (R : Act → World → Prop) : OrdT → Act → World → Prop
  | .nil, a, w => R a w
  | .one i 0 rest, a, w => ∃ oi v, ops[i]? = some oi ∧ YieldsIf P ops (KindS S 0) oi v a ∧ wpTree P ops Q S c R rest (a.put oi.dst v) w
  | .one i 1 rest, a, w => ∃ oi v, ops[i]? = some oi ∧ YieldsIf P ops (KindS S 1) oi v a ∧ wpTree P ops Q S c R rest (a.put oi.dst v) w
  | .one i 2 rest, a, w => wpOp P ops Q i (fun a' w' => S w' ∧ wpTree P ops Q S c R rest a' w') a w
  | .one i _ rest, a, w => wpOp P ops Q i (fun a' w' => wpTree P ops Q S c R rest a' w') a w
  | .fork m r s, a, w => wpOp P ops Q m (fun a' w' => S w' ∧ wpTree P ops Q S c R r a' w') a w ∧ wpOp P ops Q c (fun a' w' => wpTree P ops Q S c R s a' w') a w
def Region.treeB (md : Region.Mode) (ops : Array Oper) (n c g : Nat) : OrdT → Array Bool → Bool
  | .nil, listed => Region.seqB md ops g n listed
  | .one i 0 rest, listed => (Region.ready md ops listed).contains i && Region.free md ops listed i && decide (i < n) && decide (i ≠ c) && Region.treeB md ops n c g rest (listed.setIfInBounds i true)
  | .one i 1 rest, listed => (Region.ready md ops listed).contains i && Region.free md ops listed i && decide (i < n) && decide (i ≠ c) && Region.anc md ops c 6 i && Region.treeB md ops n c g rest (listed.setIfInBounds i true)
  | .one i 2 rest, listed => decide (Region.ready md ops listed = [i]) && decide (i < n) && Region.treeB md ops n c g rest (listed.setIfInBounds i true)
  | .one i _ rest, listed => decide (Region.ready md ops listed = [i]) && decide (i < n) && (listed.setIfInBounds i true).getD c false && Region.treeB md ops n c g rest (listed.setIfInBounds i true)
  | .fork m r s, listed => (decide (Region.ready md ops listed = [c, m]) || decide (Region.ready md ops listed = [m, c])) && decide (m < n) && decide (c < n) && decide (r.size = s.size) && (listed.setIfInBounds c true).getD c false && Region.treeB md ops n c g r (listed.setIfInBounds m true) && Region.treeB md ops n c g s (listed.setIfInBounds c true)
theorem wpAnyT_tree {n c g : Nat} {R : Act → World → Prop} (hsel : Region.noSelect ops = true) (hQ : ∀ c (a : Act) (d : Option Tmp) (v : Value) w, Q (.panic c) (a.put d v) w → Q (.panic c) a w)
    (hn : n = ops.size) :
    ∀ (l : OrdT) (listed : Array Bool) (a : Act) (w : World), HeadInv md ops n listed → Before c S listed w →
    Region.treeB md ops n c g l listed = true → wpTree P ops Q S c R l a w →
    wpAnyT P md ops Q S n c (fun listed' a' w' => Region.seqB md ops g n listed' = true ∧ R a' w') l.size listed a w
  | .nil, listed, a, w, inv, hS, hB, h => ⟨hB, h⟩
  | .one i 0 l, listed, a, w, inv, hS, hB, h => by
    simp only [Region.treeB, Bool.and_eq_true, decide_eq_true_eq] at hB
    obtain ⟨⟨⟨⟨hr, hf⟩, hin⟩, hic⟩, hB'⟩ := hB
    have hr' : i ∈ Region.ready md ops listed := by simpa using hr
    obtain ⟨oi, v, h0, hy, hK⟩ := h
    exact wpAnyT_firstW h0 (Region.noSelect_spec hsel) hQ hn hin hic (fun _ _ _ _ _ => trivial) (fun listed' a' w' hL => seqB_ready hL.1) l.size listed a w inv (Region.free_spec h0 hf) hr' hy hS
      (wpAnyT_tree hsel hQ hn l _ _ _ (inv.set hr' hin) (fun h => hS (set_other h)) hB' hK)
  | .one i 1 l, listed, a, w, inv, hS, hB, h => by
    simp only [Region.treeB, Bool.and_eq_true, decide_eq_true_eq] at hB
    obtain ⟨⟨⟨⟨⟨hr, hf⟩, hin⟩, hic⟩, hanc⟩, hB'⟩ := hB
    have hr' : i ∈ Region.ready md ops listed := by simpa using hr
    obtain ⟨oi, v, h0, hy, hK⟩ := h
    exact wpAnyT_firstW h0 (Region.noSelect_spec hsel) hQ hn hin hic (fun listed w inv hun hb => hb (by
        cases hl : listed.getD c false with
        | false => rfl
        | true => have := anc_listed inv 6 i hanc hl; rw [getD_both hun] at this; cases this)) (fun listed' a' w' hL => seqB_ready hL.1) l.size listed a w inv (Region.free_spec h0 hf) hr' hy hS
      (wpAnyT_tree hsel hQ hn l _ _ _ (inv.set hr' hin) (fun h => hS (set_other h)) hB' hK)
  | .one i 2 l, listed, a, w, inv, hS, hB, h => by
    simp only [Region.treeB, Bool.and_eq_true, decide_eq_true_eq] at hB
    obtain ⟨⟨hr, hin⟩, hB'⟩ := hB
    refine ⟨fun h0 => (by rw [hr] at h0; cases h0), fun j hj => ?_⟩
    have hj' := hj
    rw [hr] at hj
    have hji : j = i := by simpa using hj
    subst hji
    have h1 : wpOp P ops Q j (fun a' w' => S w' ∧ wpTree P ops Q S c R l a' w') a w := h
    exact ⟨hin, wpOp_mono (fun a' w' h2 => ⟨fun _ => h2.1, wpAnyT_tree hsel hQ hn l _ _ _ (inv.set hj' hin) (fun _ => h2.1) hB' h2.2⟩) h1⟩
  | .one i (k + 3) l, listed, a, w, inv, hS, hB, h => by
    simp only [Region.treeB, Bool.and_eq_true, decide_eq_true_eq] at hB
    obtain ⟨⟨⟨hr, hin⟩, hcl⟩, hB'⟩ := hB
    refine ⟨fun h0 => (by rw [hr] at h0; cases h0), fun j hj => ?_⟩
    have hj' := hj
    rw [hr] at hj
    have hji : j = i := by simpa using hj
    subst hji
    have h1 : wpOp P ops Q j (fun a' w' => wpTree P ops Q S c R l a' w') a w := h
    have hno : ∀ w', Before c S (listed.setIfInBounds j true) w' := fun w' h => by rw [hcl] at h; cases h
    exact ⟨hin, wpOp_mono (fun a' w' h2 => ⟨hno w', wpAnyT_tree hsel hQ hn l _ _ _ (inv.set hj' hin) (hno w') hB' h2⟩) h1⟩
  | .fork m r s, listed, a, w, inv, hS, hB, h => by
    simp only [Region.treeB, Bool.and_eq_true, Bool.or_eq_true, decide_eq_true_eq] at hB
    obtain ⟨⟨⟨⟨⟨⟨hr, hmn⟩, hcn⟩, hsz⟩, hcl⟩, hB1⟩, hB2⟩ := hB
    obtain ⟨h1, h2⟩ := h
    have hno : ∀ w', Before c S (listed.setIfInBounds c true) w' := fun w' h => by rw [hcl] at h; cases h
    refine ⟨fun h0 => (by rcases hr with hr | hr <;> (rw [hr] at h0; cases h0)), fun j hj => ?_⟩
    have hj' := hj
    have hji : j = m ∨ j = c := by
      rcases hr with hr | hr <;> (rw [hr] at hj; simp at hj)
      · exact hj.symm
      · exact hj
    rcases hji with rfl | rfl
    · exact ⟨hmn, wpOp_mono (fun a' w' h3 => ⟨fun _ => h3.1, wpAnyT_tree hsel hQ hn r _ _ _ (inv.set hj' hmn) (fun _ => h3.1) hB1 h3.2⟩) h1⟩
    · refine ⟨hcn, wpOp_mono (fun a' w' h3 => ⟨hno w', ?_⟩) h2⟩
      have := wpAnyT_tree hsel hQ hn s _ _ _ (inv.set hj' hcn) (hno w') hB2 h3
      rwa [← hsz] at this
def Region.regTB (md : Region.Mode) (ops : Array Oper) (n c : Nat) (ord : OrdT) : Bool :=
  Region.noSelect ops && decide (n = ops.size) && decide (ord.size = n) && Region.treeB md ops n c 0 ord (Array.replicate ops.size false)
theorem wp_region_tree {id : Nat} {a : Act} {w : World} {l : List Oper} (n c : Nat) (ord : OrdT) (S : World → Prop) (hm : P.follows .mixedOrders = true) (hB : Region.regTB .any l.toArray n c ord = true) (hS : S w.drew)
    (hQ : ∀ c (a : Act) (d : Option Tmp) (v : Value) w, Q (.panic c) (a.put d v) w → Q (.panic c) a w)
    (h : wpTree P l.toArray Q S c (fun a' w' => Q .normal a' w') ord a w.drew) : (Code.region id l.toArray true).wp P Q a w := by
  simp only [Region.regTB, Bool.and_eq_true, decide_eq_true_eq] at hB
  obtain ⟨⟨⟨hsel, hn⟩, hol⟩, hlex⟩ := hB
  have inv0 : HeadInv .any l.toArray n (Array.replicate l.toArray.size false) :=
    ⟨by simp, fun j oj _ hl => (by rw [getD_replicate_false] at hl; cases hl), fun t _ ht => getD_in (by simpa using ht) (getD_replicate_false _ _)⟩
  have H := wpAnyT_tree (md := .any) (g := 0) hsel hQ hn ord _ a _ inv0 (fun _ => hS) hlex h
  refine wp_region_any hm ?_
  have := wpAny_of_T (g := 0) (fun listed a' w' hL => by
    have hr : Region.ready .any l.toArray listed = [] := by simpa [Region.seqB] using hL.1
    exact wpAny_done (P := P) (Q := Q) hr hL.2 0) _ _ _ _ H
  rwa [Nat.add_zero, hol, hn] at this
theorem wpTree_read0 {c : Nat} {R : Act → World → Prop} {i : Nat} {rest : OrdT} {a : Act} {w : World} {oi : Oper} (v : Value) (hi : ops[i]? = some oi) (hw : Region.wanted oi (yielded ops a.tmps) = true) (hy : ∀ w, (execOp a.eval oi).run P w = .ok (.value v) w)
    (h : ∀ K : Act → World → Prop, (∀ a w, wpTree P ops Q S c R rest a w → K a w) → K (a.put oi.dst v) w) : wpTree P ops Q S c R (.one i 0 rest) a w :=
  ⟨oi, v, hi, .inl ⟨hw, fun w _ => hy w⟩, h _ (fun _ _ h => h)⟩
theorem wpTree_read1 {c : Nat} {R : Act → World → Prop} {i : Nat} {rest : OrdT} {a : Act} {w : World} {oi : Oper} (v : Value) (hi : ops[i]? = some oi) (hw : Region.wanted oi (yielded ops a.tmps) = true) (hy : ∀ w, S w → (execOp a.eval oi).run P w = .ok (.value v) w)
    (h : ∀ K : Act → World → Prop, (∀ a w, wpTree P ops Q S c R rest a w → K a w) → K (a.put oi.dst v) w) : wpTree P ops Q S c R (.one i 1 rest) a w :=
  ⟨oi, v, hi, .inl ⟨hw, hy⟩, h _ (fun _ _ h => h)⟩
theorem wpTree_eff2 {c : Nat} {R : Act → World → Prop} {i : Nat} {rest : OrdT} {a : Act} {w : World} {oi : Oper} (hi : ops[i]? = some oi) (hw : Region.wanted oi (yielded ops a.tmps) = true)
    (h : ∀ K : Act → World → Prop, (∀ a w, S w → wpTree P ops Q S c R rest a w → K a w) → oi.wp P a w K Q) : wpTree P ops Q S c R (.one i 2 rest) a w := by
  show wpOp P ops Q i _ a w
  unfold wpOp
  simp only [hi, hw, if_true]
  exact .inl (h _ (fun _ _ h1 h2 => ⟨h1, h2⟩))
theorem wpTree_eff3 {c : Nat} {R : Act → World → Prop} {i : Nat} {rest : OrdT} {a : Act} {w : World} {oi : Oper} (hi : ops[i]? = some oi) (hw : Region.wanted oi (yielded ops a.tmps) = true)
    (h : ∀ K : Act → World → Prop, (∀ a w, wpTree P ops Q S c R rest a w → K a w) → oi.wp P a w K Q) : wpTree P ops Q S c R (.one i 3 rest) a w := by
  show wpOp P ops Q i _ a w
  unfold wpOp
  simp only [hi, hw, if_true]
  exact .inl (h _ (fun _ _ h => h))
theorem wpTree_fork {c m : Nat} {R : Act → World → Prop} {r s : OrdT} {a : Act} {w : World} {om oc : Oper} (hm : ops[m]? = some om) (hc : ops[c]? = some oc)
    (hwm : Region.wanted om (yielded ops a.tmps) = true) (hwc : Region.wanted oc (yielded ops a.tmps) = true)
    (h1 : ∀ K : Act → World → Prop, (∀ a w, S w → wpTree P ops Q S c R r a w → K a w) → om.wp P a w K Q)
    (h2 : ∀ K : Act → World → Prop, (∀ a w, wpTree P ops Q S c R s a w → K a w) → oc.wp P a w K Q) : wpTree P ops Q S c R (.fork m r s) a w := by
  refine ⟨?_, ?_⟩
  · show wpOp P ops Q m _ a w
    unfold wpOp
    simp only [hm, hwm, if_true]
    exact .inl (h1 _ (fun _ _ h1 h2 => ⟨h1, h2⟩))
  · show wpOp P ops Q c _ a w
    unfold wpOp
    simp only [hc, hwc, if_true]
    exact .inl (h2 _ (fun _ _ h => h))
theorem wpTree_nil {c : Nat} {R : Act → World → Prop} {a : Act} {w : World} (h : R a w) : wpTree P ops Q S c R .nil a w := h
end
end Go.Proofs.Ytpcjmceakelilaa
/- Mvcc: until: how many versions have a time of at most a number. -/
namespace Go.Proofs.Ytpcjmceakelilaa
open Go.ChangeShapes Go.WideShapes Go.ChangeAt Go.RowKit Go.Deep Go.ChangeMaps
set_option linter.unusedVariables false
set_option linter.unusedSimpArgs false
theorem wp_named {P : Program} {c : Code} {Q : Exit → Act → World → Prop} {a : Act} {w : World} (F : World → Prop) (hF : F w) (h : ∀ w', F w' → Code.wp P c Q a w') : Code.wp P c Q a w := h w hF
/-- ascending times -/
def Asc (L : List Ver) : Prop := L.Pairwise fun a b => a.1 < b.1
/-- how many versions have a time of at most t -/
def upto : List Ver → Int → Nat
  | [], _ => 0
  | a :: L, t => if a.1 ≤ t then upto L t + 1 else 0
theorem upto_le : ∀ (L : List Ver) (t : Int), upto L t ≤ L.length
  | [], _ => Nat.le_refl _
  | a :: L, t => by
    have := upto_le L t
    unfold upto
    split <;> simp <;> omega
theorem upto_lt : ∀ {L : List Ver} {t : Int} {i : Nat} (h : i < upto L t) (h2 : i < L.length), L[i].1 ≤ t
  | [], _, _, _, h2 => by simp at h2
  | a :: L, t, i, h, h2 => by
    unfold upto at h
    split at h
    · rename_i hat
      match i, h, h2 with
      | 0, _, _ => exact hat
      | i + 1, h, h2 => exact upto_lt (L := L) (by omega) (by simpa using h2)
    · omega
theorem upto_ge : ∀ {L : List Ver} {t : Int} (ha : Asc L) {i : Nat} (h1 : upto L t ≤ i) (h : i < L.length), t < L[i].1
  | [], _, _, _, _, h => by simp at h
  | a :: L, t, ha, i, h1, h => by
    have ha' := List.pairwise_cons.1 ha
    unfold upto at h1
    split at h1
    · match i, h1, h with
      | 0, h1, _ => omega
      | i + 1, h1, h => exact upto_ge (L := L) ha'.2 (by omega) (by simpa using h)
    · rename_i hat
      match i, h with
      | 0, _ => show t < a.1; omega
      | i + 1, h =>
        have hi : i < L.length := by simpa using h
        have := ha'.1 L[i] (List.getElem_mem hi)
        show t < L[i].1
        omega
set_option maxRecDepth 100000 in
set_option maxHeartbeats 1600000 in
theorem until1_any (b1 b2 g c i : Nat) (t : Int) (L : List Ver) (W : World) (hi : i < L.length) (hL : L.length ≤ 100000) (h1 : W.cell? ⟨b1, 0, none⟩ = some (.slice (some ⟨g, 0, none⟩) L.length c)) (h2 : W.cell? ⟨b2, 0, none⟩ = some (.int .i64 t)) (h3 : W.cell? ⟨g, i * 3, none⟩ = some (.int .i64 L[i].1)) :
    Calls Try.prog 63 #[.int .i64 i, .pointer (some ⟨b1, 0, none⟩), .pointer (some ⟨b2, 0, none⟩)] W fun e W' => e = .returned (.bool (decide (t < L[i].1))) ∧ ∃ q, W' = W.drewN q := by
  generalize L[i].1 = s at *
  go_enter Try.func63, Try.ntmps63
  go_wp2_with fail
  go_quiet (fail)
  go_wp2_with fail
  go_ret
  exact ⟨rfl, _, rfl⟩
set_option maxRecDepth 100000 in
set_option maxHeartbeats 3200000 in
theorem search_any (n r : Nat) (fv : Value) (p : Nat → Bool) (W : World) (hn : n ≤ 100000) (hr : r ≤ n) (hlo : ∀ i, i < r → p i = false) (hhi : ∀ i, r ≤ i → i < n → p i = true)
    (K : Nat) (cap cap2 : Array Value) (hfv : fv = .func (.func 63) #[] cap)
    (hc : ∀ i, i < n → ∀ q, Calls Try.prog 63 (#[.int .i64 i] ++ cap) (W.drewN q) fun e W' => e = .returned (.bool (p i)) ∧ ∃ q', W' = (W.drewN q).drewN q') :
    Calls Try.prog 62 #[.int .i64 n, fv] W fun e W' => e = .returned (.int .i64 r) ∧ ∃ q, W' = W.drewN q := by
  subst hfv
  have HC := Lib.hid hc
  have HP := Lib.hid (And.intro hlo hhi)
  clear hc hlo hhi
  go_enter Try.func62, Try.ntmps62
  go_wp2_with fail
  go_loopw [5, 6] (fun x y wr => ∃ i j q : Nat, i ≤ r ∧ r ≤ j ∧ j ≤ n ∧ x = .int .i64 i ∧ y = .int .i64 j ∧ wr = W.drewN q) (fun x y _ => (intOf y - intOf x).toNat)
  case atStart => exact ⟨0, n, 0, Nat.zero_le _, hr, Nat.le_refl _, rfl, rfl, rfl⟩
  case round =>
    obtain ⟨i, j, q, h1, h2, h3, rfl, rfl, rfl⟩ := hrel
    by_cases hlt : i < j
    · obtain ⟨h, hh⟩ : ∃ h, h = (i + j) / 2 := ⟨_, rfl⟩
      have hhi : i ≤ h := by omega
      have hhj : h < j := by omega
      have w1 : IntKind.i64.wrap ((i : Int) + (j : Int)) = ((i + j : Nat) : Int) := by rw [IntKind.wrap_i64]; omega
      have e : ((i : Int) + (j : Int)) / 2 = (h : Int) := by omega
      have HE := Lib.hid e
      clear e hh
      cases hp : p h with
      | true =>
        have hrh : r ≤ h := by
          rcases Nat.lt_or_ge h r with h4 | h4
          · have := HP.out.1 h h4; rw [hp] at this; cases this
          · exact h4
        have HPH := Lib.hid hp
        clear hp
        go_wp2_with fail
        rw [HE.out]
        refine (HC.out h (by omega) q).mono ?_
        rintro e w2 ⟨rfl, q', rfl⟩
        rw [HPH.out]
        go_wp2_with fail
        go_roundw
        case rel => exact ⟨i, h, q + q', h1, hrh, by omega, rfl, rfl, by simp [World.drewN_drewN]⟩
        case measure => simp [intOf]; omega
      | false =>
        have hrh : h + 1 ≤ r := by
          rcases Nat.lt_or_ge h r with h4 | h4
          · omega
          · have := HP.out.2 h h4 (by omega); rw [hp] at this; cases this
        have HPH := Lib.hid hp
        clear hp
        go_wp2_with fail
        rw [HE.out]
        refine (HC.out h (by omega) q).mono ?_
        rintro e w2 ⟨rfl, q', rfl⟩
        rw [HPH.out]
        go_wp2_with fail
        go_roundw
        case rel => exact ⟨h + 1, j, q + q', hrh, h2, h3, by go_num, rfl, by simp [World.drewN_drewN]⟩
        case measure => simp [intOf]; omega
    · have hij : i = r := by omega
      subst hij
      go_wp2_with fail
      go_ret
      exact ⟨rfl, q, rfl⟩
/-- what until returns -/
def UntilOut (n : Nat) (W : World) (e : Ending) (W' : World) : Prop := e = .returned (.int .i64 n) ∧ Below W.heap.size W W'
set_option maxRecDepth 100000 in
set_option maxHeartbeats 1600000 in
theorem until_any (v : Value) (L : List Ver) (t : Int) (W : World) (hv : VrAt W v L) (ha : Asc L) (hL : L.length ≤ 100000) :
    Calls Try.prog 46 #[v, .int .i64 t] W (UntilOut (upto L t) W) := by
  have HV := Lib.hid hv
  have HA := Lib.hid ha
  obtain ⟨va, vc, rfl⟩ : ∃ a c, v = .slice a L.length c := by
    rcases hv with ⟨rfl, rfl⟩ | ⟨g, c, rfl, _⟩
    · exact ⟨none, 0, rfl⟩
    · exact ⟨_, _, rfl⟩
  have hb1 := Box.new W [.slice va L.length vc] 90
  have hb2 := Box.new (W.alloc (.cells #[.slice va L.length vc] 90)) [.int .i64 t] 3
  rw [World.size_alloc] at hb2
  have hbb : Below W.heap.size W ((W.alloc (.cells #[.slice va L.length vc] 90)).alloc (.cells #[.int .i64 t] 3)) := ((Below.refl _ W).alloc (Nat.le_refl _) _).alloc (by simp) _
  have HB := Lib.hid (And.intro (hb1.alloc (.cells #[.int .i64 t] 3)) (And.intro hb2 hbb))
  clear hv ha hb1 hb2 hbb
  go_enter Try.func46, Try.ntmps46
  go_wp2_with fail
  refine (search_any L.length (upto L t) _ (fun i => match L[i]? with | some x => decide (t < x.1) | none => true) _ hL (upto_le L t) (fun i hi => ?_) (fun i h1 h2 => ?_) 0 _ #[] rfl (fun i hi q => ?_)).mono ?_
  · have h2 : i < L.length := Nat.lt_of_lt_of_le hi (upto_le L t)
    rw [List.getElem?_eq_getElem h2]
    exact decide_eq_false (Int.not_lt.2 (upto_lt hi h2))
  · rw [List.getElem?_eq_getElem h2]
    exact decide_eq_true (upto_ge HA.out h1 h2)
  · rw [List.getElem?_eq_getElem hi]
    rcases HV.out with ⟨_, h0⟩ | ⟨g, c, hve, _, _, hgl, hcell⟩
    · rw [h0] at hi; simp at hi
    · cases hve
      have hbx := HB.out.1.drewN q
      have hby := HB.out.2.1.drewN q
      exact until1_any _ _ g vc i t L _ hi hL (hbx.cell 0 _ rfl) (hby.cell 0 _ rfl) ((HB.out.2.2.cell (p := ⟨g, i * 3, none⟩) hgl).trans (hcell i hi).1)
  · rintro e w2 ⟨rfl, q, rfl⟩
    go_wp2_with fail
    go_ret
    exact ⟨rfl, HB.out.2.2.trans ⟨rfl, rfl, rfl, Nat.le_refl _, fun _ _ => rfl⟩⟩
end Go.Proofs.Ytpcjmceakelilaa
