/- Merged texts: Box, Eg1, Eg2, Eg3, Eg4, Eg5. -/
import Derived.Test.YtfpgklhbghahoaaRows
import Derived.ProofKit
import Derived.Below
import Derived.Deep.MidRow
import Derived.Deep.Upon
import Derived.Laws.OwnMore
import Derived.Deep.Slices
import Derived.Deep.QuietTactic
import Derived.WalkKit
import Derived.StillTail
import Derived.ChangeArms
import Derived.ChangeSlices
import Derived.Deep.Fields
import Derived.Lib.SmallJoins
import Derived.SizedLaws
import Derived.Laws.AppendOwn
import Derived.Outline
import Derived.Lib.Hide
import Derived.OwnWalk
/- Boxes: structs in blocks of their own, stored and loaded whole. -/
namespace Go.Proofs.Ytfpgklhbghahoaa
open Go.ChangeShapes Go.WideShapes Go.ChangeAt Go.RowKit Go.Deep
set_option linter.unusedVariables false
set_option linter.unusedSimpArgs false
/-- block b holds the cells, and they can be written -/
structure Box (W : World) (b : Nat) (cs : List Value) : Prop where
  rng : W.rangeAt b 0 cs
  free : ∀ o, W.frozen? ⟨b, o, none⟩ = false
  lt : b < W.heap.size
/-- nothing but block b has turned -/
structure Only (w w' : World) (b : Nat) : Prop where
  size : w'.heap.size = w.heap.size
  heap : ∀ k, k ≠ b → w'.heap[k]? = w.heap[k]?
  below : ∀ B, B ≤ b → Below B w w'
theorem Box.cell {W : World} {b : Nat} {cs : List Value} (h : Box W b cs) (j : Nat) (v : Value) (hv : cs[j]? = some v) : W.cell? ⟨b, j, none⟩ = some v := by
  have := h.rng j v hv
  rwa [Nat.zero_add] at this
theorem Box.keep {W W' : World} {b : Nat} {cs : List Value} (h : Box W b cs) (hb : Below W.heap.size W W') : Box W' b cs :=
  ⟨fun j v hv => (hb.cell (p := ⟨b, 0 + j, none⟩) h.lt).trans (h.rng j v hv), fun o => (hb.frozen (p := ⟨b, o, none⟩) h.lt).trans (h.free o), Nat.lt_of_lt_of_le h.lt hb.size⟩
theorem Box.far {W W' : World} {b B : Nat} {cs : List Value} (h : Box W b cs) (hb : Below B W W') (hB : b < B) : Box W' b cs :=
  ⟨fun j v hv => (hb.cell (p := ⟨b, 0 + j, none⟩) hB).trans (h.rng j v hv), fun o => (hb.frozen (p := ⟨b, o, none⟩) hB).trans (h.free o), Nat.lt_of_lt_of_le h.lt hb.size⟩
theorem Box.other {W W' : World} {b c : Nat} {cs : List Value} (h : Box W b cs) (ho : Only W W' c) (hne : b ≠ c) : Box W' b cs :=
  ⟨fun j v hv => (World.cell?_of_block (a := ⟨b, 0 + j, none⟩) (ho.heap b hne)).trans (h.rng j v hv), fun o => (World.frozen?_of_block (a := ⟨b, o, none⟩) (ho.heap b hne)).trans (h.free o), by rw [ho.size]; exact h.lt⟩
theorem Box.new (W : World) (cs : List Value) (T : TypeId) : Box (W.alloc (.cells cs.toArray T)) W.heap.size cs :=
  ⟨fun j v hv => by
    rw [Nat.zero_add, World.cell?_alloc_new]
    simpa using hv, fun o => by simp [go_sem], by simp⟩
theorem Box.alloc {W : World} {b : Nat} {cs : List Value} (h : Box W b cs) (ob : Obj) : Box (W.alloc ob) b cs := h.keep ((Below.refl _ _).alloc (Nat.le_refl _) _)
theorem Box.drew {W : World} {b : Nat} {cs : List Value} (h : Box W b cs) : Box W.drew b cs := ⟨fun j v hv => h.rng j v hv, fun o => h.free o, h.lt⟩
theorem Box.drewN {W : World} {b : Nat} {cs : List Value} (h : Box W b cs) (n : Nat) : Box (W.drewN n) b cs := ⟨fun j v hv => h.rng j v hv, fun o => h.free o, h.lt⟩
theorem Only.setCell (W : World) (b j : Nat) (v : Value) : Only W (W.setCell ⟨b, j, none⟩ v) b :=
  ⟨by simp, fun k hk => heap_setCell_other W ⟨b, j, none⟩ k v (fun e => hk e), fun B hB => (Below.refl _ _).setCell hB _⟩
theorem Box.setCell {W : World} {b : Nat} {cs : List Value} (h : Box W b cs) (j : Nat) (v : Value) (hj : j < cs.length) : Box (W.setCell ⟨b, j, none⟩ v) b (cs.set j v) := by
  refine ⟨fun i u hu => ?_, fun o => by rw [World.frozen?_setCell]; exact h.free o, by simpa using h.lt⟩
  have hi : i < cs.length := by have := (List.getElem?_eq_some_iff.1 hu).1; simpa using this
  rw [Nat.zero_add]
  by_cases e : j = i
  · subst e
    rw [World.cell?_setCell_same _ _ _ (h.cell j cs[j] (List.getElem?_eq_getElem hj))]
    rw [List.getElem?_set_self hj] at hu
    exact hu
  · rw [World.cell?_setCell_other _ _ _ _ (by intro hc; injection hc; omega)]
    rw [List.getElem?_set_ne e] at hu
    exact h.cell i u hu
theorem Box.setOther {W : World} {b c : Nat} {cs : List Value} (h : Box W b cs) (j : Nat) (v : Value) (hne : b ≠ c) : Box (W.setCell ⟨c, j, none⟩ v) b cs := h.other (Only.setCell W c j v) hne
theorem Only.setCells (W : World) (b o : Nat) (vs : List Value) (hb : b < W.heap.size) : Only W (W.setCells b o vs) b := by
  induction vs generalizing o W with
  | nil => exact ⟨rfl, fun _ _ => rfl, fun B _ => Below.refl _ _⟩
  | cons v vs ih =>
    have h1 := Only.setCell W b o v
    have h2 := ih (W.setCell ⟨b, o, none⟩ v) (o + 1) (by rw [h1.size]; exact hb)
    exact ⟨h2.size.trans h1.size, fun k hk => (h2.heap k hk).trans (h1.heap k hk), fun B hB => (h1.below B hB).trans (h2.below B hB)⟩
theorem Box.store {W : World} {b : Nat} {cs vs : List Value} (h : Box W b cs) (hl : vs.length = cs.length) : Box (W.setCells b 0 vs) b vs := by
  refine ⟨World.rangeAt_setCells_same W b 0 vs (fun j hj => ⟨h.rng.isSome j (by omega), h.free _⟩), fun o => by rw [World.frozen?_setCells]; exact h.free o, ?_⟩
  rw [(Only.setCells W b 0 vs h.lt).size]; exact h.lt
/-- n single cells -/
def Cells (n : Nat) (vs : List Value) : Prop := vs.length = n ∧ vs.all (·.oneCell') = true
/-- block b holds n single cells -/
def BoxN (n : Nat) (W : World) (b : Nat) (cs : List Value) : Prop := Box W b cs ∧ cs.length = n
theorem BoxN.keep {n : Nat} {W W' : World} {b : Nat} {cs : List Value} (h : BoxN n W b cs) (hb : Below W.heap.size W W') : BoxN n W' b cs := ⟨h.1.keep hb, h.2⟩
theorem BoxN.far {n : Nat} {W W' : World} {b B : Nat} {cs : List Value} (h : BoxN n W b cs) (hb : Below B W W') (hB : b < B) : BoxN n W' b cs := ⟨h.1.far hb hB, h.2⟩
theorem BoxN.other {n : Nat} {W W' : World} {b c : Nat} {cs : List Value} (h : BoxN n W b cs) (ho : Only W W' c) (hne : b ≠ c) : BoxN n W' b cs := ⟨h.1.other ho hne, h.2⟩
theorem BoxN.new (W : World) (cs : List Value) (n : Nat) (T : TypeId) (h : cs.length = n) : BoxN n (W.alloc (.cells cs.toArray T)) W.heap.size cs := ⟨Box.new W cs T, h⟩
theorem BoxN.alloc {n : Nat} {W : World} {b : Nat} {cs : List Value} (h : BoxN n W b cs) (ob : Obj) : BoxN n (W.alloc ob) b cs := ⟨h.1.alloc ob, h.2⟩
theorem BoxN.drew {n : Nat} {W : World} {b : Nat} {cs : List Value} (h : BoxN n W b cs) : BoxN n W.drew b cs := ⟨h.1.drew, h.2⟩
theorem BoxN.cell {n : Nat} {W : World} {b : Nat} {cs : List Value} (h : BoxN n W b cs) (j : Nat) (v : Value) (hv : cs[j]? = some v) : W.cell? ⟨b, j, none⟩ = some v := h.1.cell j v hv
theorem BoxN.setCell {n : Nat} {W : World} {b : Nat} {cs : List Value} (h : BoxN n W b cs) (j : Nat) (v : Value) (hj : j < n) : BoxN n (W.setCell ⟨b, j, none⟩ v) b (cs.set j v) := ⟨h.1.setCell j v (by rw [h.2]; exact hj), by rw [List.length_set]; exact h.2⟩
theorem BoxN.setOther {n : Nat} {W : World} {b c : Nat} {cs : List Value} (h : BoxN n W b cs) (j : Nat) (v : Value) (hne : b ≠ c) : BoxN n (W.setCell ⟨c, j, none⟩ v) b cs := ⟨h.1.setOther j v hne, h.2⟩
/-- a type whose values are n cells -/
def Wide (P : Program) (ty : TypeId) (n : Nat) : Prop := (P.info? ty).map (·.size) = some n ∧ ∃ td, P.underlying ty = some td ∧ td.isRow = true
section
variable {P : Program}
/-- a whole struct is stored into its box -/
theorem wpList_box_store {ops : Array Oper} {rest : List Oper} {Q : Exit → Act → World → Prop} {n : Nat} (ty : TypeId) (x : Nat) (y : Operand) (b : Nat) (cs vs : List Value) (d : Option Nat) (t : TypeId) (pos : String) (af) (a : Act) (w : World)
    (hx : a.eval (.tmp x) = .pointer (some ⟨b, 0, none⟩)) (hy : a.eval y = .agg vs.toArray) (hB : BoxN n w b cs) (hv : Cells n vs) (hT : Wide P ty n)
    (h : ∀ w', BoxN n w' b vs → Only w w' b → wpList P ops Q rest (a.put d undef) w') :
    wpList P ops Q ({ dst := d, op := Op.store ty (Operand.tmp x) y, type := t, pos := pos, after := af, guard := none } :: rest) a w := by
  have hl : vs.length = cs.length := by rw [hv.1, hB.2]
  refine wpList_store_mid rfl ty (.tmp x) y rfl b 0 vs.toArray hx hy (fun j hj => ⟨hB.1.rng.isSome j (by simp at hj; omega), hB.1.free _⟩) (by rw [hT.1, ← hv.1]; simp) (all_oneCell_toArray (by simpa using hv.2)) ?_
  exact h _ ⟨by simpa using hB.1.store hl, hv.1⟩ (by simpa using Only.setCells w b 0 vs hB.1.lt)
/-- a whole struct is loaded from its box -/
theorem wpList_box_load {ops : Array Oper} {rest : List Oper} {Q : Exit → Act → World → Prop} {n : Nat} (ty : TypeId) (x : Nat) (b : Nat) (cs : List Value) (d : Option Nat) (t : TypeId) (pos : String) (af) (a : Act) (w : World)
    (hx : a.eval (.tmp x) = .pointer (some ⟨b, 0, none⟩)) (hB : BoxN n w b cs) (hT : Wide P ty n)
    (h : wpList P ops Q rest (a.put d (.agg cs.toArray)) w) :
    wpList P ops Q ({ dst := d, op := Op.load ty (Operand.tmp x), type := t, pos := pos, after := af, guard := none } :: rest) a w := by
  obtain ⟨h1, td, h2, h3⟩ := hT
  exact wpList_load_mid rfl ty (.tmp x) rfl b 0 hx cs td hB.1.rng h2 h3 (by rw [h1, hB.2]) h
/-- at a step of a region that draws its order, for go_region_law: a whole struct is loaded -/
theorem step_box_load {ops : Array Oper} {o : Oper} {a : Act} {w : World} {K : Act → World → Prop} {Q : Exit → Act → World → Prop} {E : Prop} {n : Nat} (hgd : o.guard = none) (ty : TypeId) (x : Operand) (ho : o.op = .load ty x) (b : Nat) (cs : List Value)
    (hx : a.eval x = .pointer (some ⟨b, 0, none⟩)) (hB : BoxN n w b cs) (hT : Wide P ty n) (h : K (a.put o.dst (.agg cs.toArray)) w) :
    if Region.wanted o (yielded ops a.tmps) = true then Oper.wp P o a w K Q else E := by
  obtain ⟨h1, td, h2, h3⟩ := hT
  rw [if_pos (by simp [Region.wanted, hgd])]
  exact wp_load_mid ty x ho b 0 hx cs td hB.1.rng h2 h3 (by rw [h1, hB.2]) h
/-- .. stored -/
theorem step_box_store {ops : Array Oper} {o : Oper} {a : Act} {w : World} {K : Act → World → Prop} {Q : Exit → Act → World → Prop} {E : Prop} {n : Nat} (hgd : o.guard = none) (ty : TypeId) (x y : Operand) (ho : o.op = .store ty x y) (b : Nat) (cs vs : List Value)
    (hx : a.eval x = .pointer (some ⟨b, 0, none⟩)) (hy : a.eval y = .agg vs.toArray) (hB : BoxN n w b cs) (hv : Cells n vs) (hT : Wide P ty n)
    (h : ∀ w', BoxN n w' b vs → Only w w' b → K (a.put o.dst undef) w') :
    if Region.wanted o (yielded ops a.tmps) = true then Oper.wp P o a w K Q else E := by
  have hl : vs.length = cs.length := by rw [hv.1, hB.2]
  rw [if_pos (by simp [Region.wanted, hgd])]
  refine wp_store_mid ty x y ho b 0 vs.toArray hx hy (fun j hj => ⟨hB.1.rng.isSome j (by simp at hj; omega), hB.1.free _⟩) (by rw [hT.1, ← hv.1]; simp) (all_oneCell_toArray (by simpa using hv.2)) ?_
  exact h _ ⟨by simpa using hB.1.store hl, hv.1⟩ (by simpa using Only.setCells w b 0 vs hB.1.lt)
end
end Go.Proofs.Ytfpgklhbghahoaa
/- Values of any depth: what a value that came in is, and when two values hold the same (plain). -/
namespace Go.Proofs.Ytfpgklhbghahoaa
open Go.ChangeShapes Go.WideShapes Go.ChangeAt Go.RowKit Go.ChangeMaps Go.Joins Go.Deep
set_option linter.unusedVariables false
set_option linter.unusedSimpArgs false
/-- cells of type t that came in, with all that they reach; n bounds the depth -/
def GoodC (P : Program) (W : World) : Nat → TypeId → List Value → Prop
  | 0, _, _ => False
  | n + 1, t, cs => match P.underlying t with
    | some .bool => ∃ b, cs = [.bool b]
    | some (.int k) => ∃ m, cs = [.int k m] ∧ (Lit.int k m).wf = true
    | some .string => ∃ s : ByteArray, cs = [.string s] ∧ s.size ≤ maxLen
    | some (.slice e) => ∃ a len cap, cs = [.slice a len cap] ∧ len ≤ cap ∧ (cap ≤ maxLen ∧ len * P.bytesOf e ≤ 140737488355328 ∧ (a = none → cap = 0)) ∧ (0 < len → ∃ B o, a = some ⟨B, o, none⟩ ∧ B < W.heap.size ∧ ∀ j, j < len → ∃ ds, ds.length = P.cellsOf e ∧ W.rangeAt B (o + j * P.cellsOf e) ds ∧ GoodC P W n e ds)
    | some (.struct fs) => cs.length = P.cellsOf t ∧ ∀ (i : Nat) (f : Field), fs[i]? = some f → GoodC P W n f.type ((cs.drop f.offset).take (P.cellsOf f.type))
    | _ => False
/-- two lists of cells of type t hold the same: one at W in blocks of F, one at W' in blocks of F' -/
def EqC (P : Program) (W W' : World) (F F' : Nat → Prop) : Nat → TypeId → List Value → List Value → Prop
  | 0, _, _, _ => False
  | n + 1, t, cs, ds => match P.underlying t with
    | some .bool => ∃ b, cs = [.bool b] ∧ ds = [.bool b]
    | some (.int k) => ∃ m, cs = [.int k m] ∧ ds = [.int k m] ∧ (Lit.int k m).wf = true
    | some .string => ∃ s : ByteArray, cs = [.string s] ∧ ds = [.string s] ∧ s.size ≤ maxLen
    | some (.slice e) => ∃ a len cap a' cap', cs = [.slice a len cap] ∧ ds = [.slice a' len cap'] ∧ len ≤ cap ∧ (cap ≤ maxLen ∧ len * P.bytesOf e ≤ 140737488355328 ∧ (a = none → cap = 0)) ∧ len ≤ cap' ∧ (cap' ≤ maxLen ∧ len * P.bytesOf e ≤ 140737488355328 ∧ (a' = none → cap' = 0)) ∧ (0 < len → ∃ B o B' o', a = some ⟨B, o, none⟩ ∧ a' = some ⟨B', o', none⟩ ∧ (F B ∧ B < W.heap.size) ∧ (F' B' ∧ B' < W'.heap.size) ∧ ∀ j, j < len → ∃ xs ys, xs.length = P.cellsOf e ∧ ys.length = P.cellsOf e ∧ W.rangeAt B (o + j * P.cellsOf e) xs ∧ W'.rangeAt B' (o' + j * P.cellsOf e) ys ∧ EqC P W W' F F' n e xs ys)
    | some (.struct fs) => cs.length = P.cellsOf t ∧ ds.length = P.cellsOf t ∧ ∀ (i : Nat) (f : Field), fs[i]? = some f → EqC P W W' F F' n f.type ((cs.drop f.offset).take (P.cellsOf f.type)) ((ds.drop f.offset).take (P.cellsOf f.type))
    | _ => False
theorem range_below {W W' : World} {B o n : Nat} {cs : List Value} (h : W.rangeAt B o cs) (hb : Below n W W') (hB : B < n) : W'.rangeAt B o cs := fun j v hv => (hb.cell (p := ⟨B, o + j, none⟩) hB).trans (h j v hv)
theorem GoodC.below {P : Program} {W W' : World} (hb : Below W.heap.size W W') : ∀ (n : Nat) (t : TypeId) (cs : List Value), GoodC P W n t cs → GoodC P W' n t cs
  | 0, _, _, h => h
  | n + 1, t, cs, h => by
    unfold GoodC at h ⊢
    split at h
    · exact h
    · exact h
    · exact h
    · obtain ⟨a, len, cap, h1, h2, h3, h4⟩ := h
      refine ⟨a, len, cap, h1, h2, h3, fun h0 => ?_⟩
      obtain ⟨B, o, e, hB, hj⟩ := h4 h0
      exact ⟨B, o, e, Nat.lt_of_lt_of_le hB hb.size, fun j hjl => by
        obtain ⟨ds, g1, g2, g3⟩ := hj j hjl
        exact ⟨ds, g1, range_below g2 hb hB, GoodC.below hb n _ _ g3⟩⟩
    · exact ⟨h.1, fun i f hf => GoodC.below hb n _ _ (h.2 i f hf)⟩
    · exact h
theorem range_kept {W W' : World} {B o : Nat} {cs : List Value} (h : W.rangeAt B o cs) (hb : W'.heap[B]? = W.heap[B]?) : W'.rangeAt B o cs := fun j v hv => (World.cell?_of_block (a := ⟨B, o + j, none⟩) hb).trans (h j v hv)
theorem EqC.kept {P : Program} {W W' V V' : World} {F F' G G' : Nat → Prop} (hs : W.heap.size ≤ V.heap.size) (hs' : W'.heap.size ≤ V'.heap.size) (hk : ∀ k, F k → k < W.heap.size → V.heap[k]? = W.heap[k]?) (hk' : ∀ k, F' k → k < W'.heap.size → V'.heap[k]? = W'.heap[k]?) (hG : ∀ k, F k → k < W.heap.size → G k) (hG' : ∀ k, F' k → k < W'.heap.size → G' k) : ∀ (n : Nat) (t : TypeId) (cs ds : List Value), EqC P W W' F F' n t cs ds → EqC P V V' G G' n t cs ds
  | 0, _, _, _, h => h
  | n + 1, t, cs, ds, h => by
    unfold EqC at h ⊢
    split at h
    · exact h
    · exact h
    · exact h
    · obtain ⟨a, len, cap, a', cap', h1, h2, h3, h4, h5, h6, h7⟩ := h
      refine ⟨a, len, cap, a', cap', h1, h2, h3, h4, h5, h6, fun h0 => ?_⟩
      obtain ⟨B, o, B', o', e, e', hB, hB', hj⟩ := h7 h0
      exact ⟨B, o, B', o', e, e', ⟨hG _ hB.1 hB.2, Nat.lt_of_lt_of_le hB.2 hs⟩, ⟨hG' _ hB'.1 hB'.2, Nat.lt_of_lt_of_le hB'.2 hs'⟩, fun j hjl => by
        obtain ⟨xs, ys, g1, g2, g3, g4, g5⟩ := hj j hjl
        exact ⟨xs, ys, g1, g2, range_kept g3 (hk _ hB.1 hB.2), range_kept g4 (hk' _ hB'.1 hB'.2), EqC.kept hs hs' hk hk' hG hG' n _ _ _ g5⟩⟩
    · exact ⟨h.1, h.2.1, fun i f hf => EqC.kept hs hs' hk hk' hG hG' n _ _ _ (h.2.2 i f hf)⟩
    · exact h
theorem EqC.below {P : Program} {W W' V V' : World} {F F' : Nat → Prop} (hb : Below W.heap.size W V) (hb' : Below W'.heap.size W' V') (n : Nat) (t : TypeId) (cs ds : List Value) (h : EqC P W W' F F' n t cs ds) : EqC P V V' F F' n t cs ds :=
  EqC.kept hb.size hb'.size (fun k _ hk => hb.block k hk) (fun k _ hk => hb'.block k hk) (fun _ h _ => h) (fun _ h _ => h) n t cs ds h
/-- a value holds the same as itself -/
theorem EqC.refl {P : Program} {W : World} {F : Nat → Prop} (hF : ∀ k, k < W.heap.size → F k) : ∀ (n : Nat) (t : TypeId) (cs : List Value), GoodC P W n t cs → EqC P W W F F n t cs cs
  | 0, _, _, h => h
  | n + 1, t, cs, h => by
    unfold GoodC at h
    unfold EqC
    split at h
    · obtain ⟨b, e⟩ := h; exact ⟨b, e, e⟩
    · obtain ⟨m, e, hw⟩ := h; exact ⟨m, e, e, hw⟩
    · obtain ⟨s, e, hs⟩ := h; exact ⟨s, e, e, hs⟩
    · obtain ⟨a, len, cap, h1, h2, h3, h4⟩ := h
      refine ⟨a, len, cap, a, cap, h1, h1, h2, h3, h2, h3, fun h0 => ?_⟩
      obtain ⟨B, o, e, hB, hj⟩ := h4 h0
      exact ⟨B, o, B, o, e, e, ⟨hF _ hB, hB⟩, ⟨hF _ hB, hB⟩, fun j hjl => by
        obtain ⟨ds, g1, g2, g3⟩ := hj j hjl
        exact ⟨ds, ds, g1, g1, g2, g2, EqC.refl hF n _ _ g3⟩⟩
    · exact ⟨h.1, h.1, fun i f hf => EqC.refl hF n _ _ (h.2 i f hf)⟩
    · exact h
theorem EqC.symm {P : Program} {W W' : World} {F F' : Nat → Prop} : ∀ (n : Nat) (t : TypeId) (cs ds : List Value), EqC P W W' F F' n t cs ds → EqC P W' W F' F n t ds cs
  | 0, _, _, _, h => h
  | n + 1, t, cs, ds, h => by
    unfold EqC at h ⊢
    split at h
    · obtain ⟨b, e, e'⟩ := h; exact ⟨b, e', e⟩
    · obtain ⟨m, e, e', hw⟩ := h; exact ⟨m, e', e, hw⟩
    · obtain ⟨s, e, e', hs⟩ := h; exact ⟨s, e', e, hs⟩
    · obtain ⟨a, len, cap, a', cap', h1, h2, h3, h4, h5, h6, h7⟩ := h
      refine ⟨a', len, cap', a, cap, h2, h1, h5, h6, h3, h4, fun h0 => ?_⟩
      obtain ⟨B, o, B', o', e, e', hB, hB', hj⟩ := h7 h0
      exact ⟨B', o', B, o, e', e, hB', hB, fun j hjl => by
        obtain ⟨xs, ys, g1, g2, g3, g4, g5⟩ := hj j hjl
        exact ⟨ys, xs, g2, g1, g4, g3, EqC.symm n _ _ _ g5⟩⟩
    · exact ⟨h.2.1, h.1, fun i f hf => EqC.symm n _ _ _ (h.2.2 i f hf)⟩
    · exact h
/-- what holds the same as something is something -/
theorem EqC.good {P : Program} {W W' : World} {F F' : Nat → Prop} : ∀ (n : Nat) (t : TypeId) (cs ds : List Value), EqC P W W' F F' n t cs ds → GoodC P W n t cs
  | 0, _, _, _, h => h
  | n + 1, t, cs, ds, h => by
    unfold EqC at h
    unfold GoodC
    split at h
    · obtain ⟨b, e, e'⟩ := h; exact ⟨b, e⟩
    · obtain ⟨m, e, e', hw⟩ := h; exact ⟨m, e, hw⟩
    · obtain ⟨s, e, e', hs⟩ := h; exact ⟨s, e, hs⟩
    · obtain ⟨a, len, cap, a', cap', h1, h2, h3, h4, h5, h6, h7⟩ := h
      refine ⟨a, len, cap, h1, h3, h4, fun h0 => ?_⟩
      obtain ⟨B, o, B', o', e, e', hB, hB', hj⟩ := h7 h0
      exact ⟨B, o, e, hB.2, fun j hjl => by
        obtain ⟨xs, ys, g1, g2, g3, g4, g5⟩ := hj j hjl
        exact ⟨xs, g1, g3, EqC.good n _ _ _ g5⟩⟩
    · exact ⟨h.1, fun i f hf => EqC.good n _ _ _ (h.2.2 i f hf)⟩
    · exact h
theorem addr_plain' {w : World} {a : Addr} {v : Value} (h : w.cell? (a.add 0) = some v) : ∃ B o, a = ⟨B, o, none⟩ ∧ B < w.heap.size := by
  have e : a.add 0 = a := by simp [Addr.add]
  rw [e] at h
  obtain ⟨B, o, s⟩ := a
  cases s with
  | none =>
    refine ⟨B, o, rfl, ?_⟩
    rcases Nat.lt_or_ge B w.heap.size with h1 | h1
    · exact h1
    · simp [World.cell?, Array.getElem?_eq_none h1] at h
  | some s =>
    unfold World.cell? at h
    split at h
    · simp at h
    · simp at h
/-- types whose values have no pointers, maps or functions in them, and whose structs have cells; d bounds the nesting of structs -/
def plainT (P : Program) : Nat → TypeId → Bool
  | 0, _ => false
  | n + 1, t => match P.underlying t with
    | some .bool | some (.int _) | some .string => true
    | some (.slice e) => decide (0 < P.cellsOf e)
    | some (.struct fs) => fs.toList.all fun f => plainT P n f.type
    | _ => false
theorem weightsAll_mem {H : Type} {P : Program} {e : TypeId} : ∀ (l : List (DataW H)), (DataW.weightsAll P e l).all (· ≤ reachBytes) = true → ∀ d ∈ l, (d.weights P e).all (· ≤ reachBytes) = true
  | [], _, d, h => by cases h
  | a :: l, hw, d, h => by
    simp only [DataW.weightsAll, List.all_append, Bool.and_eq_true] at hw
    rcases List.mem_cons.1 h with rfl | h
    · exact hw.1
    · exact weightsAll_mem l hw.2 d h
theorem goodC_trod {H : Type} {enc : TypeId × Value → H} {P : Program} {w : World} {spare : Nat → Bool} {held : Bool} (ok : TypeId → Prop) (hok : ∀ t, ok t → match P.underlying t with
    | some .bool | some (.int _) | some .string => True
    | some (.slice e) => 0 < P.cellsOf e ∧ ok e
    | some (.struct fs) => ∀ (i : Nat) (f : Field), fs[i]? = some f → ok f.type
    | _ => False) : ∀ (fuel : Nat) (t : TypeId) (cs : List Value) (x : DataW H × List MemPlace), ok t → DataW.trod enc P w 0 spare held fuel t cs = some x → (x.1.weights P t).all (· ≤ reachBytes) = true → GoodC P w fuel t cs
  | 0, t, cs, x, _, h, _ => by simp [DataW.trod] at h
  | n + 1, t, cs, x, ht, h, hw => by
    have h1 := hok t ht
    unfold GoodC
    split at h1
    · rename_i hu
      try simp only [hu]
      obtain ⟨b, e, _⟩ := DataW.trod_bool hu h
      exact ⟨b, e⟩
    · rename_i k hu
      try simp only [hu]
      obtain ⟨m, e, _, hw⟩ := DataW.trod_int hu h
      exact ⟨m, e, hw⟩
    · rename_i hu
      try simp only [hu]
      obtain ⟨s, e, _, hs⟩ := DataW.trod_string hu h
      exact ⟨s, e, hs⟩
    · rename_i e hu
      try simp only [hu]
      rcases DataW.trod_slice hu h with ⟨hcs, _⟩ | ⟨a, len, cap, el, re, n', hn, hcs, hx, _, hl, hm, hel, hi, _⟩
      · exact ⟨none, 0, 0, hcs, Nat.le_refl _, ⟨by unfold maxLen; omega, by omega, fun _ => rfl⟩, fun h0 => absurd h0 (Nat.lt_irrefl _)⟩
      · have hn' : n' = n := by omega
        subst hn'
        rw [hx] at hw
        simp only [DataW.weights, hu, List.all_cons, List.all_append, Bool.and_eq_true, decide_eq_true_eq, List.length_map] at hw
        obtain ⟨hw1, hw2, _⟩ := hw
        refine ⟨some a, len, cap, hcs, hl, ⟨hm, ?_, fun h0 => by cases h0⟩, fun h0 => ?_⟩
        · have h5 : len * P.bytesOf e ≤ (el.length + re.length) * P.bytesOf e := Nat.mul_le_mul_right _ (by omega)
          unfold reachBytes at hw1
          omega
        have key : ∀ i, i < len → ∃ ds y, w.cells? 0 (a.add (i * P.cellsOf e)) (P.cellsOf e) = some ds ∧ DataW.trod enc P w 0 spare held n' e ds = some y ∧ (y.1.weights P e).all (· ≤ reachBytes) = true := fun i hil => by
          have := hi i hil
          rw [List.getElem?_eq_getElem (by omega)] at this
          obtain ⟨ds, g1, g2⟩ := Option.bind_eq_some_iff.1 this
          exact ⟨ds, _, g1, g2, weightsAll_mem (el.map (·.1)) hw2 _ (List.mem_map_of_mem (List.getElem_mem _))⟩
        obtain ⟨ds0, y0, g1, g2, _⟩ := key 0 h0
        obtain ⟨_, hcl, hat⟩ := World.cells?_some g1
        have h3 := hat 0 h1.1
        have ea : (a.add (0 * P.cellsOf e)).add 0 = a.add 0 := by simp [Addr.add]
        rw [ea] at h3
        have hds0 : ds0[0]? ≠ none := fun e0 => by
          have := List.getElem?_eq_none_iff.1 e0
          omega
        obtain ⟨u, hu0⟩ := Option.ne_none_iff_exists'.1 hds0
        rw [hu0] at h3
        obtain ⟨B, o, rfl, hB⟩ := addr_plain' h3
        refine ⟨B, o, rfl, hB, fun j hjl => ?_⟩
        obtain ⟨ds, y, k1, k2, k3⟩ := key j hjl
        obtain ⟨_, hcl2, hat2⟩ := World.cells?_some k1
        refine ⟨ds, hcl2, fun i v hv => ?_, goodC_trod ok hok n' e ds y h1.2 k2 k3⟩
        have hil : i < P.cellsOf e := by have := (List.getElem?_eq_some_iff.1 hv).1; omega
        have h4 := hat2 i hil
        have e4 : ((⟨B, o, none⟩ : Addr).add (j * P.cellsOf e)).add i = ⟨B, o + j * P.cellsOf e + i, none⟩ := by
          generalize j * P.cellsOf e = q
          by_cases h1 : i = 0 <;> by_cases h2 : q = 0 <;> simp [Addr.add, h1, h2, Nat.add_assoc]
        rw [e4] at h4
        rw [h4, hv]
    · rename_i fs hu
      try simp only [hu]
      obtain ⟨xs, n', hn, hx, hlen, hxs, hf⟩ := DataW.trod_struct hu h
      rw [hx] at hw
      simp only [DataW.weights, hu] at hw
      have hn' : n' = n := by omega
      subst hn'
      refine ⟨hlen, fun i f hfi => ?_⟩
      have g1 := hf i f hfi
      have hil : i < xs.length := by rw [hxs]; exact (Array.getElem?_eq_some_iff.1 hfi).1
      rw [List.getElem?_eq_getElem hil] at g1
      refine goodC_trod ok hok n' _ _ _ (h1 i f hfi) g1 (List.all_eq_true.2 fun q hq => List.all_eq_true.1 hw q ?_)
      exact DataW.weights_mem_each (j := i) (by rw [List.getElem?_map, Array.getElem?_toList, hfi]; rfl) (by rw [List.getElem?_map, List.getElem?_eq_getElem hil]; rfl) q hq
    · exact h1.elim
end Go.Proofs.Ytfpgklhbghahoaa
/- Values of any depth: the types of the program that are plain; parts of structs (plain). -/
namespace Go.Proofs.Ytfpgklhbghahoaa
open Go.ChangeShapes Go.WideShapes Go.ChangeAt Go.RowKit Go.ChangeMaps Go.Joins Go.Deep
set_option linter.unusedVariables false
set_option linter.unusedSimpArgs false
/-- a list of types that holds all the types that they are made of -/
def closedB (P : Program) (L : List TypeId) : Bool := L.all fun t => match P.underlying t with
  | some .bool | some (.int _) | some .string => true
  | some (.slice e) => decide (0 < P.cellsOf e) && L.contains e
  | some (.struct fs) => fs.toList.all fun f => L.contains f.type
  | _ => false
theorem goodC_of {H : Type} {enc : TypeId × Value → H} {P : Program} {w : World} {spare : Nat → Bool} {held : Bool} (L : List TypeId) (hL : closedB P L = true) (fuel : Nat) (t : TypeId) (ht : L.contains t = true) (cs : List Value) (x : DataW H × List MemPlace) (h : DataW.trod enc P w 0 spare held fuel t cs = some x) (hw : (x.1.weights P t).all (· ≤ reachBytes) = true) : GoodC P w fuel t cs := by
  refine goodC_trod (fun t => L.contains t = true) (fun t ht => ?_) fuel t cs x ht h hw
  have hm := (List.all_eq_true.1 hL) t (by simpa using ht)
  split at hm
  · rename_i hu; try simp only [hu]
  · rename_i k hu; try simp only [hu]
  · rename_i hu; try simp only [hu]
  · rename_i e hu
    try simp only [hu]
    simp only [Bool.and_eq_true, decide_eq_true_eq] at hm
    exact hm
  · rename_i fs hu
    try simp only [hu]
    intro i f hf
    refine (List.all_eq_true.1 hm) f ?_
    exact Array.mem_toList_iff.2 (Array.mem_of_getElem? hf)
  · cases hm
/-- the part of q cells from p on -/
def part_ (cs : List Value) (p q : Nat) : List Value := (cs.drop p).take q
theorem part_len {cs : List Value} {p q : Nat} (h : p + q ≤ cs.length) : (part_ cs p q).length = q := by unfold part_; rw [List.length_take, List.length_drop]; omega
/-- the cells with a part replaced -/
def spl (cs : List Value) (p : Nat) (ys : List Value) : List Value := cs.take p ++ ys ++ cs.drop (p + ys.length)
theorem spl_len {cs ys : List Value} {p : Nat} (h : p + ys.length ≤ cs.length) : (spl cs p ys).length = cs.length := by
  unfold spl
  rw [List.length_append, List.length_append, List.length_take, List.length_drop]
  omega
theorem part_getElem (cs : List Value) (p q j : Nat) : (part_ cs p q)[j]? = if j < q then cs[p + j]? else none := by
  unfold part_
  rw [List.getElem?_take]
  split
  · rw [List.getElem?_drop]
  · rfl
theorem spl_getElem {cs ys : List Value} {p : Nat} (h : p + ys.length ≤ cs.length) (j : Nat) : (spl cs p ys)[j]? = if p ≤ j ∧ j < p + ys.length then ys[j - p]? else cs[j]? := by
  unfold spl
  have hl : (cs.take p).length = p := by rw [List.length_take]; omega
  rw [List.append_assoc]
  by_cases h1 : j < p
  · rw [List.getElem?_append_left (by omega), List.getElem?_take, if_pos h1, if_neg (by omega)]
  · rw [List.getElem?_append_right (by omega), hl]
    by_cases h2 : j < p + ys.length
    · rw [List.getElem?_append_left (by omega), if_pos ⟨by omega, h2⟩]
    · rw [List.getElem?_append_right (by omega), List.getElem?_drop, if_neg (by omega)]
      congr 1
      omega
theorem part_spl {cs ys : List Value} {p : Nat} (h : p + ys.length ≤ cs.length) : part_ (spl cs p ys) p ys.length = ys := by
  apply List.ext_getElem?
  intro j
  rw [part_getElem, spl_getElem h]
  by_cases hj : j < ys.length
  · rw [if_pos hj, if_pos ⟨by omega, by omega⟩]
    congr 1
    omega
  · rw [if_neg hj, List.getElem?_eq_none (by omega)]
theorem part_spl_other {cs ys : List Value} {p a q : Nat} (h : p + ys.length ≤ cs.length) (hd : a + q ≤ p ∨ p + ys.length ≤ a) : part_ (spl cs p ys) a q = part_ cs a q := by
  apply List.ext_getElem?
  intro j
  rw [part_getElem, part_getElem]
  by_cases hj : j < q
  · rw [if_pos hj, if_pos hj, spl_getElem h, if_neg (by omega)]
  · rw [if_neg hj, if_neg hj]
/-- the cells of a part, in memory -/
theorem range_part {W : World} {B o : Nat} {cs : List Value} (h : W.rangeAt B o cs) (p q : Nat) : W.rangeAt B (o + p) (part_ cs p q) := fun j v hv => by
  rw [part_getElem] at hv
  by_cases hj : j < q
  · rw [if_pos hj] at hv
    have := h (p + j) v hv
    rwa [← Nat.add_assoc] at this
  · rw [if_neg hj] at hv; cases hv
/-- a struct is known by its fields -/
theorem eqC_struct {P : Program} {W W' : World} {F F' : Nat → Prop} {n : Nat} {t : TypeId} {fs : Array Field} {cs ds : List Value} (hu : P.underlying t = some (.struct fs)) : EqC P W W' F F' (n + 1) t cs ds ↔ cs.length = P.cellsOf t ∧ ds.length = P.cellsOf t ∧ ∀ (i : Nat) (f : Field), fs[i]? = some f → EqC P W W' F F' n f.type (part_ cs f.offset (P.cellsOf f.type)) (part_ ds f.offset (P.cellsOf f.type)) := by
  conv => lhs; unfold EqC
  simp only [hu]
  exact Iff.rfl
theorem goodC_struct {P : Program} {W : World} {n : Nat} {t : TypeId} {fs : Array Field} {cs : List Value} (hu : P.underlying t = some (.struct fs)) : GoodC P W (n + 1) t cs ↔ cs.length = P.cellsOf t ∧ ∀ (i : Nat) (f : Field), fs[i]? = some f → GoodC P W n f.type (part_ cs f.offset (P.cellsOf f.type)) := by
  conv => lhs; unfold GoodC
  simp only [hu]
  exact Iff.rfl
/-- deeper bounds serve too -/
theorem GoodC.up {P : Program} {W : World} : ∀ (n : Nat) (t : TypeId) (cs : List Value), GoodC P W n t cs → GoodC P W (n + 1) t cs
  | 0, _, _, h => h.elim
  | n + 1, t, cs, h => by
    unfold GoodC at h
    unfold GoodC
    split at h
    · exact h
    · exact h
    · exact h
    · obtain ⟨a, len, cap, h1, h2, h3, h4⟩ := h
      refine ⟨a, len, cap, h1, h2, h3, fun h0 => ?_⟩
      obtain ⟨B, o, e, hB, hj⟩ := h4 h0
      exact ⟨B, o, e, hB, fun j hjl => by
        obtain ⟨ds, g1, g2, g3⟩ := hj j hjl
        exact ⟨ds, g1, g2, GoodC.up n _ _ g3⟩⟩
    · exact ⟨h.1, fun i f hf => GoodC.up n _ _ (h.2 i f hf)⟩
    · exact h
theorem EqC.up {P : Program} {W W' : World} {F F' : Nat → Prop} : ∀ (n : Nat) (t : TypeId) (cs ds : List Value), EqC P W W' F F' n t cs ds → EqC P W W' F F' (n + 1) t cs ds
  | 0, _, _, _, h => h.elim
  | n + 1, t, cs, ds, h => by
    unfold EqC at h
    unfold EqC
    split at h
    · exact h
    · exact h
    · exact h
    · obtain ⟨a, len, cap, a', cap', h1, h2, h3, h4, h5, h6, h7⟩ := h
      refine ⟨a, len, cap, a', cap', h1, h2, h3, h4, h5, h6, fun h0 => ?_⟩
      obtain ⟨B, o, B', o', e, e', hB, hB', hj⟩ := h7 h0
      exact ⟨B, o, B', o', e, e', hB, hB', fun j hjl => by
        obtain ⟨xs, ys, g1, g2, g3, g4, g5⟩ := hj j hjl
        exact ⟨xs, ys, g1, g2, g3, g4, EqC.up n _ _ _ g5⟩⟩
    · exact ⟨h.1, h.2.1, fun i f hf => EqC.up n _ _ _ (h.2.2 i f hf)⟩
    · exact h
theorem EqC.upTo {P : Program} {W W' : World} {F F' : Nat → Prop} {n m : Nat} {t : TypeId} {cs ds : List Value} (h : EqC P W W' F F' n t cs ds) (hm : n ≤ m) : EqC P W W' F F' m t cs ds := by
  induction hm with
  | refl => exact h
  | step _ ih => exact EqC.up _ _ _ _ ih
/-- the types of the log -/
def tysE : List TypeId := [3, 4, 9, 23, 50, 73, 22, 71, 69, 48, 45, 104, 46, 56, 68, 49, 54, 52, 115, 51, 117, 57, 66, 64, 63, 61, 60, 58, 129]
end Go.Proofs.Ytfpgklhbghahoaa
/- Election: copies of lists of numbers and of strings. -/
namespace Go.Proofs.Ytfpgklhbghahoaa
open Go.ChangeShapes Go.WideShapes Go.ChangeAt Go.RowKit Go.ChangeMaps Go.Joins Go.Deep
set_option linter.unusedVariables false
set_option linter.unusedSimpArgs false
set_option maxRecDepth 100000
/-- a copy, made from W to W', of cells that lay at W0 -/
def CopyOf (W0 W : World) (n : Nat) (t : TypeId) (cs : List Value) (W' : World) (ds : List Value) : Prop := EqC Try.prog W' W' (fun k => k < W0.heap.size) (fun k => W.heap.size ≤ k) n t cs ds ∧ Below W.heap.size W W'
theorem infoI : (Try.prog.info? 3).map (fun i => (i.zero, i.size, i.bytes)) = some (some (.int .i64 0), 1, 8) := by kernel_rfl
theorem infoS : (Try.prog.info? 9).map (fun i => (i.zero, i.size, i.bytes)) = some (some (.string ⟨#[]⟩), 1, 16) := by kernel_rfl
/-- a slice of such cells -/
theorem goodC_slice {W : World} {n : Nat} {t e : TypeId} {v : Value} (hu : Try.prog.underlying t = some (.slice e)) (h : GoodC Try.prog W (n + 1) t [v]) : ∃ a len cap, v = .slice a len cap ∧ len ≤ cap ∧ (cap ≤ maxLen ∧ len * Try.prog.bytesOf e ≤ 140737488355328 ∧ (a = none → cap = 0)) ∧ (0 < len → ∃ B o, a = some ⟨B, o, none⟩ ∧ B < W.heap.size ∧ ∀ j, j < len → ∃ ds, ds.length = Try.prog.cellsOf e ∧ W.rangeAt B (o + j * Try.prog.cellsOf e) ds ∧ GoodC Try.prog W n e ds) := by
  unfold GoodC at h
  simp only [hu] at h
  obtain ⟨a, len, cap, h1, h2⟩ := h
  exact ⟨a, len, cap, (List.cons.inj h1).1, h2⟩
theorem eqC_slice {W W' : World} {F F' : Nat → Prop} {n : Nat} {t e : TypeId} {cs ds : List Value} (hu : Try.prog.underlying t = some (.slice e)) (h : ∃ a len cap a' cap', cs = [.slice a len cap] ∧ ds = [.slice a' len cap'] ∧ len ≤ cap ∧ (cap ≤ maxLen ∧ len * Try.prog.bytesOf e ≤ 140737488355328 ∧ (a = none → cap = 0)) ∧ len ≤ cap' ∧ (cap' ≤ maxLen ∧ len * Try.prog.bytesOf e ≤ 140737488355328 ∧ (a' = none → cap' = 0)) ∧ (0 < len → ∃ B o B' o', a = some ⟨B, o, none⟩ ∧ a' = some ⟨B', o', none⟩ ∧ (F B ∧ B < W.heap.size) ∧ (F' B' ∧ B' < W'.heap.size) ∧ ∀ j, j < len → ∃ xs ys, xs.length = Try.prog.cellsOf e ∧ ys.length = Try.prog.cellsOf e ∧ W.rangeAt B (o + j * Try.prog.cellsOf e) xs ∧ W'.rangeAt B' (o' + j * Try.prog.cellsOf e) ys ∧ EqC Try.prog W W' F F' n e xs ys)) : EqC Try.prog W W' F F' (n + 1) t cs ds := by
  unfold EqC
  simp only [hu]
  exact h
theorem leaf_int {W V V' : World} {F F' : Nat → Prop} {n : Nat} {u : Value} {k : IntKind} {e : TypeId} (hu : Try.prog.underlying e = some (.int k)) (h : GoodC Try.prog W n e [u]) : EqC Try.prog V V' F F' n e [u] [u] := by
  cases n with
  | zero => exact h.elim
  | succ n =>
    unfold GoodC at h
    unfold EqC
    simp only [hu] at h ⊢
    obtain ⟨m, h1, h2⟩ := h
    exact ⟨m, h1, h1, h2⟩
theorem leaf_string {W V V' : World} {F F' : Nat → Prop} {n : Nat} {u : Value} {e : TypeId} (hu : Try.prog.underlying e = some .string) (h : GoodC Try.prog W n e [u]) : EqC Try.prog V V' F F' n e [u] [u] := by
  cases n with
  | zero => exact h.elim
  | succ n =>
    unfold GoodC at h
    unfold EqC
    simp only [hu] at h ⊢
    obtain ⟨m, h1, h2⟩ := h
    exact ⟨m, h1, h1, h2⟩
theorem good_ones {W : World} {n : Nat} {u : Value} {e : TypeId} (hu : Try.prog.underlying e = some .string) (h : GoodC Try.prog W n e [u]) : u.oneCell' = true := by
  cases n with
  | zero => exact h.elim
  | succ n =>
    unfold GoodC at h
    simp only [hu] at h
    obtain ⟨m, h1, _⟩ := h
    rw [(List.cons.inj h1).1]
    rfl
theorem addr_add' (B o j : Nat) : (⟨B, o, none⟩ : Addr).add j = ⟨B, o + j, none⟩ := by
  by_cases hj : j = 0 <;> simp [Addr.add, hj]
theorem good_one {W : World} {n : Nat} {u : Value} {k : IntKind} {e : TypeId} (hu : Try.prog.underlying e = some (.int k)) (h : GoodC Try.prog W n e [u]) : u.oneCell' = true := by
  cases n with
  | zero => exact h.elim
  | succ n =>
    unfold GoodC at h
    simp only [hu] at h
    obtain ⟨m, h1, _⟩ := h
    rw [(List.cons.inj h1).1]
    rfl
/-- the cells of a slice whose elements are single cells -/
theorem row1 {W0 W : World} (hb0 : Below W0.heap.size W0 W) {n : Nat} {e : TypeId} {ad : Addr} {len : Nat} (hc : 0 < len → ∃ B o, some ad = some ⟨B, o, none⟩ ∧ B < W0.heap.size ∧ ∀ j, j < len → ∃ ds, ds.length = 1 ∧ W0.rangeAt B (o + j * 1) ds ∧ GoodC Try.prog W0 n e ds) :
    ∃ xs : List Value, xs.length = len ∧ (∀ j u, xs[j]? = some u → W.cell? (ad.add j) = some u) ∧ ∀ u ∈ xs, GoodC Try.prog W0 n e [u] := by
  by_cases h0 : len = 0
  · exact ⟨[], by simp [h0], fun j u h => by simp at h, fun u h => by cases h⟩
  · obtain ⟨B, o, he, hB, hj⟩ := hc (by omega)
    obtain rfl := Option.some.inj he
    have fn : ∀ j : Nat, ∃ u : Value, j < len → W.cell? ⟨B, o + j, none⟩ = some u ∧ GoodC Try.prog W0 n e [u] := fun j => by
      by_cases hjl : j < len
      · obtain ⟨ds, h1, h2, h3⟩ := hj j hjl
        obtain ⟨u, rfl⟩ : ∃ u, ds = [u] := by
          match ds, h1 with
          | [u], _ => exact ⟨u, rfl⟩
        have h4 := h2 0 u rfl
        rw [Nat.mul_one, Nat.add_zero] at h4
        exact ⟨u, fun _ => ⟨(hb0.cell (p := ⟨B, o + j, none⟩) hB).trans h4, h3⟩⟩
      · exact ⟨undef, fun h => absurd h hjl⟩
    obtain ⟨f, hf⟩ := Classical.axiomOfChoice fn
    refine ⟨(List.range len).map f, by simp, fun j u hu => ?_, fun u hu => ?_⟩
    · have hjl : j < len := by have := (List.getElem?_eq_some_iff.1 hu).1; simpa using this
      rw [List.getElem?_map, List.getElem?_range hjl] at hu
      obtain rfl := Option.some.inj hu
      rw [addr_add']
      exact (hf j hjl).1
    · obtain ⟨j, hj2, rfl⟩ := List.mem_map.1 hu
      exact (hf j (by simpa using hj2)).2
/-- what an append to nil makes is a copy -/
theorem copy_of_own {W0 W w2 : World} (hb0 : Below W0.heap.size W0 W) {n : Nat} {t e : TypeId} {ad : Addr} {len cap : Nat} {v2 : Value} {xs : List Value} (hu : Try.prog.underlying t = some (.slice e)) (h1 : Try.prog.cellsOf e = 1) (hlc : len ≤ cap) (hm : cap ≤ maxLen) (hby : len * Try.prog.bytesOf e ≤ 140737488355328)
    (hc : 0 < len → ∃ B o, some ad = some ⟨B, o, none⟩ ∧ B < W0.heap.size ∧ ∀ j, j < len → ∃ ds, ds.length = 1 ∧ W0.rangeAt B (o + j * 1) ds ∧ GoodC Try.prog W0 n e ds) (hxl : xs.length = len) (hxc : ∀ j u, xs[j]? = some u → W.cell? (ad.add j) = some u) (hxg : ∀ u ∈ xs, GoodC Try.prog W0 n e [u])
    (hleaf : ∀ u, GoodC Try.prog W0 n e [u] → EqC Try.prog w2 w2 (fun k => k < W0.heap.size) (fun k => W.heap.size ≤ k) n e [u] [u]) (hown : w2.ownsRow W.heap.size e 1 v2 len xs) (hb : Below W.heap.size W w2) : CopyOf W0 W (n + 1) t [.slice (some ad) len cap] w2 [v2] := by
  refine ⟨eqC_slice hu ?_, hb⟩
  rcases hown.2 with ⟨rfl, h0⟩ | ⟨g, c, cur, rfl, g1, g2, g3, g4, _⟩
  · subst h0
    exact ⟨some ad, 0, cap, none, 0, rfl, rfl, hlc, ⟨hm, hby, fun h => by cases h⟩, Nat.le_refl _, ⟨by unfold maxLen; omega, hby, fun _ => rfl⟩, fun h0 => absurd h0 (Nat.lt_irrefl _)⟩
  · refine ⟨some ad, len, cap, some ⟨g, 0, none⟩, c, rfl, rfl, hlc, ⟨hm, hby, fun h => by cases h⟩, g3, ⟨g4, hby, fun h => by cases h⟩, fun h0 => ?_⟩
    obtain ⟨B, o, he, hB, hj⟩ := hc h0
    obtain rfl := Option.some.inj he
    refine ⟨B, o, g, 0, rfl, rfl, ⟨hB, Nat.lt_of_lt_of_le hB (Nat.le_trans hb0.size hb.size)⟩, ⟨g1, (Array.getElem?_eq_some_iff.1 g2).1⟩, fun j hjl => ?_⟩
    have hjx : j < xs.length := by omega
    refine ⟨[xs[j]], [xs[j]], by rw [h1]; rfl, by rw [h1]; rfl, ?_, ?_, ?_⟩
    · intro i u hi
      have hi0 : i = 0 := by have := (List.getElem?_eq_some_iff.1 hi).1; simpa using this
      subst hi0
      obtain rfl := Option.some.inj hi
      have h4 := hxc j _ (List.getElem?_eq_getElem hjx)
      rw [addr_add'] at h4
      rw [h1, Nat.mul_one, Nat.add_zero]
      exact (hb.cell (p := ⟨B, o + j, none⟩) (Nat.lt_of_lt_of_le hB hb0.size)).trans h4
    · intro i u hi
      have hi0 : i = 0 := by have := (List.getElem?_eq_some_iff.1 hi).1; simpa using this
      subst hi0
      obtain rfl := Option.some.inj hi
      rw [h1, Nat.mul_one, Nat.add_zero, Nat.zero_add]
      have h5 := hown.cellAt j (by omega)
      rw [h5]
      exact List.getElem?_eq_getElem hjx
    · exact hleaf _ (hxg _ (List.getElem_mem hjx))
set_option maxRecDepth 100000 in
set_option maxHeartbeats 1600000 in
theorem copyInts_eq (n : Nat) (v : Value) (W0 W : World) (hb0 : Below W0.heap.size W0 W) (h : GoodC Try.prog W0 n 23 [v]) : Calls Try.prog 49 #[v] W fun e W' => ∃ v', e = .returned v' ∧ CopyOf W0 W n 23 [v] W' [v'] := by
  cases n with
  | zero => exact h.elim
  | succ n =>
    obtain ⟨i3, hi3, hz0, hz1, hz2⟩ := info_parts infoI
    have e1 : Try.prog.cellsOf 3 = 1 := by kernel_rfl
    have e8 : Try.prog.bytesOf 3 = 8 := by kernel_rfl
    obtain ⟨a, len, cap, rfl, hlc, ⟨hm, hby, hnil⟩, hc⟩ := goodC_slice Try.underlying23 h
    rw [e1] at hc
    rw [e8] at hby
    cases a with
    | none =>
      obtain rfl := hnil rfl
      obtain rfl : len = 0 := by omega
      clear hc h hnil
      go_enter Try.func49, Try.ntmps49
      go_wp2
      go_ret
      exact ⟨_, rfl, eqC_slice Try.underlying23 ⟨none, 0, 0, none, 0, rfl, rfl, Nat.le_refl _, ⟨by unfold maxLen; omega, by omega, fun _ => rfl⟩, Nat.le_refl _, ⟨by unfold maxLen; omega, by omega, fun _ => rfl⟩, fun h0 => absurd h0 (Nat.lt_irrefl _)⟩, Below.refl _ _⟩
    | some ad =>
      have HC := Lib.hid hc
      obtain ⟨xs, hxl, hxc, hxg⟩ := row1 hb0 hc
      have hx1 : ∀ u ∈ xs, u.oneCell' = true := fun u hu => good_one Try.underlying3 (hxg u hu)
      clear hc h
      go_enter Try.func49, Try.ntmps49
      go_wp2_with (at_builtin; refine wpList_append_own _ rfl _ _ 23 rfl W.heap.size 3 i3 (.int .i64 0) 1 8 Try.underlying23 hi3 hz0 hz1 hz2 rfl (by decide) _ 0 [] rfl (World.ownsRow_nil _ _ _ _) ad len cap xs rfl (by omega) hxc hx1 (by omega) (by omega) (Nat.le_refl _) ?_)
      intro v2 w2 hown hgrow hnn
      have hb : Below W.heap.size W w2 := (Below.refl _ _).grown hgrow (Nat.le_refl _) (by simp [Value.ownBlock])
      have HO := Lib.hid (And.intro hown (And.intro hb hnn))
      clear hown hgrow hb hnn
      go_wp2_with fail
      go_ret
      exact ⟨_, rfl, copy_of_own hb0 Try.underlying23 e1 hlc hm (by rw [e8]; exact hby) HC.out hxl hxc hxg (fun u h => leaf_int Try.underlying3 h) (by simpa using HO.out.1) HO.out.2.1⟩
set_option maxRecDepth 100000 in
set_option maxHeartbeats 1600000 in
theorem copyStrings_eq (n : Nat) (v : Value) (W0 W : World) (hb0 : Below W0.heap.size W0 W) (h : GoodC Try.prog W0 n 50 [v]) : Calls Try.prog 77 #[v] W fun e W' => ∃ v', e = .returned v' ∧ CopyOf W0 W n 50 [v] W' [v'] := by
  cases n with
  | zero => exact h.elim
  | succ n =>
    obtain ⟨i3, hi3, hz0, hz1, hz2⟩ := info_parts infoS
    have e1 : Try.prog.cellsOf 9 = 1 := by kernel_rfl
    have e8 : Try.prog.bytesOf 9 = 16 := by kernel_rfl
    obtain ⟨a, len, cap, rfl, hlc, ⟨hm, hby, hnil⟩, hc⟩ := goodC_slice Try.underlying50 h
    rw [e1] at hc
    rw [e8] at hby
    cases a with
    | none =>
      obtain rfl := hnil rfl
      obtain rfl : len = 0 := by omega
      clear hc h hnil
      go_enter Try.func77, Try.ntmps77
      go_wp2
      go_ret
      exact ⟨_, rfl, eqC_slice Try.underlying50 ⟨none, 0, 0, none, 0, rfl, rfl, Nat.le_refl _, ⟨by unfold maxLen; omega, by omega, fun _ => rfl⟩, Nat.le_refl _, ⟨by unfold maxLen; omega, by omega, fun _ => rfl⟩, fun h0 => absurd h0 (Nat.lt_irrefl _)⟩, Below.refl _ _⟩
    | some ad =>
      have HC := Lib.hid hc
      obtain ⟨xs, hxl, hxc, hxg⟩ := row1 hb0 hc
      have hx1 : ∀ u ∈ xs, u.oneCell' = true := fun u hu => good_ones Try.underlying9 (hxg u hu)
      clear hc h
      go_enter Try.func77, Try.ntmps77
      go_wp2_with (at_builtin; refine wpList_append_own _ rfl _ _ 50 rfl W.heap.size 9 i3 (.string ⟨#[]⟩) 1 16 Try.underlying50 hi3 hz0 hz1 hz2 rfl (by decide) _ 0 [] rfl (World.ownsRow_nil _ _ _ _) ad len cap xs rfl (by omega) hxc hx1 (by omega) (by omega) (Nat.le_refl _) ?_)
      intro v2 w2 hown hgrow hnn
      have hb : Below W.heap.size W w2 := (Below.refl _ _).grown hgrow (Nat.le_refl _) (by simp [Value.ownBlock])
      have HO := Lib.hid (And.intro hown (And.intro hb hnn))
      clear hown hgrow hb hnn
      go_wp2_with fail
      go_ret
      exact ⟨_, rfl, copy_of_own hb0 Try.underlying50 e1 hlc hm (by rw [e8]; exact hby) HC.out hxl hxc hxg (fun u h => leaf_string Try.underlying9 h) (by simpa using HO.out.1) HO.out.2.1⟩
end Go.Proofs.Ytfpgklhbghahoaa
/- Election: rows of structs that are made and filled. -/
namespace Go.Proofs.Ytfpgklhbghahoaa
open Go.ChangeShapes Go.WideShapes Go.ChangeAt Go.RowKit Go.ChangeMaps Go.Joins Go.Deep
set_option linter.unusedVariables false
set_option linter.unusedSimpArgs false
set_option maxRecDepth 100000
/-- 'make([]T, n)' of structs -/
theorem wpList_make_wide {P : Program} (w : World) {ops : Array Oper} {rest : List Oper} {o : Oper} {a : Act} {Q : Exit → Act → World → Prop}
    (hg : o.guard = none) (l c : Operand) (t : TypeId) (hop : o.op = Op.makeSlice t l c)
    (e : TypeId) (i : TypeInfo) (z : Value) (ht : P.underlying t = some (.slice e)) (hi : P.info? e = some i) (hz : i.zero = some z)
    (n : Nat) (hl : a.eval l = .int .i64 (n : Int)) (hc : a.eval c = .int .i64 (n : Int)) (hbytes : i.bytes * n ≤ 140737488355328) (h63 : n ≤ 9223372036854775807)
    (hK : wpList P ops Q rest (a.put o.dst (.slice (some ⟨w.heap.size, 0, none⟩) n n)) (w.alloc (.cells (madeCells z.cells (n * i.size)) e))) :
    wpList P ops Q (o :: rest) a w := by
  refine wpList_plain hg fun K hK' => ?_
  have hb' : (i.bytes : Int) * (n : Int) ≤ 281474976710656 := by
    have h : ((i.bytes * n : Nat) : Int) ≤ 281474976710656 := by omega
    rwa [Int.natCast_mul] at h
  have hrun := run_make (P := P) w t e i z ht hi hz .i64 .i64 n n (by omega) (Int.le_refl _) hb' (by omega)
  simp only [Int.toNat_natCast] at hrun
  unfold Oper.wp
  simp [execOp, hop, hl, hc, hrun, Result.andThen]
  exact hK' _ _ hK
/-- a part of a box is stored -/
theorem Box.mid {W : World} {b : Nat} {cs vs : List Value} (h : Box W b cs) (o : Nat) (hl : o + vs.length ≤ cs.length) : Box (W.setCells b o vs) b (spl cs o vs) := by
  refine ⟨fun j v hv => ?_, fun q => by rw [World.frozen?_setCells]; exact h.free q, by rw [(Only.setCells W b o vs h.lt).size]; exact h.lt⟩
  rw [spl_getElem hl] at hv
  rw [Nat.zero_add]
  by_cases hj : o ≤ j ∧ j < o + vs.length
  · rw [if_pos hj] at hv
    have h1 := World.cell?_setCells_in b vs o W (fun i hi => by
      rw [h.cell (o + i) cs[o + i] (List.getElem?_eq_getElem (by omega))]; rfl) (j - o) (by omega)
    have e : o + (j - o) = j := by omega
    rw [e] at h1
    rw [h1]
    rw [List.getElem?_eq_getElem (by omega)] at hv
    exact hv
  · rw [if_neg hj] at hv
    rw [World.cell?_setCells_out b vs o W ⟨b, j, none⟩ (fun _ _ => by show j < o ∨ _ ≤ j; omega)]
    exact h.cell j v hv
theorem Box.there {W : World} {b : Nat} {cs : List Value} (h : Box W b cs) (o n : Nat) (hl : o + n ≤ cs.length) : W.there b o n := fun j hj =>
  ⟨by rw [h.cell (o + j) cs[o + j] (List.getElem?_eq_getElem (by omega))]; rfl, h.free _⟩
theorem Box.part {W : World} {b : Nat} {cs : List Value} (h : Box W b cs) (o n : Nat) : W.rangeAt b o (part_ cs o n) := by
  have := range_part h.rng o n
  rwa [Nat.zero_add] at this
/-- a row of structs under copy: q of them are done -/
structure Cpg (W0 W : World) (n : Nat) (T : TypeId) (k : Nat) (C : Nat) (X : Nat → List Value) (len q : Nat) (Wr : World) : Prop where
  low : Below W.heap.size W Wr
  eqC : C = W.heap.size
  row : ∃ cs, Box Wr C cs ∧ cs.length = len * k ∧ ∀ j, j < q → EqC Try.prog Wr Wr (fun i => i < W0.heap.size) (fun i => W.heap.size < i) n T (X j) (part_ cs (j * k) k)
theorem Cpg.step {W0 W Wr W2 : World} (hb0 : W0.heap.size ≤ W.heap.size) {n : Nat} {T : TypeId} {k C : Nat} {X : Nat → List Value} {len q : Nat} {ys : List Value} (h : Cpg W0 W n T k C X len q Wr) (hq : q < len) (hb : Below Wr.heap.size Wr W2) (hy : ys.length = k)
    (he : EqC Try.prog W2 W2 (fun i => i < W0.heap.size) (fun i => Wr.heap.size ≤ i) n T (X q) ys) : Cpg W0 W n T k C X len (q + 1) (W2.setCells C (q * k) ys) := by
  obtain ⟨cs, hbx, hlen, hj⟩ := h.row
  have hC := h.eqC
  have hb2 := hbx.keep hb
  have hle : q * k + ys.length ≤ cs.length := by
    rw [hlen, hy]
    have := Nat.mul_le_mul_right k hq
    rw [Nat.succ_mul] at this
    exact this
  have ho := Only.setCells W2 C (q * k) ys hb2.lt
  have hCr : C < Wr.heap.size := hbx.lt
  have kp : ∀ i, i ≠ C → (W2.setCells C (q * k) ys).heap[i]? = W2.heap[i]? := fun i hi => ho.heap i hi
  refine ⟨(h.low.trans (hb.mono h.low.size)).trans (ho.below _ (by omega)), hC, spl cs (q * k) ys, hb2.mid _ hle, by rw [spl_len hle]; exact hlen, fun j hjq => ?_⟩
  by_cases e : j = q
  · subst e
    rw [show k = ys.length from hy.symm] at *
    rw [part_spl hle]
    exact EqC.kept (Nat.le_of_eq ho.size.symm) (Nat.le_of_eq ho.size.symm) (fun i hi _ => kp i (by omega)) (fun i hi _ => kp i (by omega)) (fun _ hi _ => hi) (fun i hi _ => by show W.heap.size < i; omega) _ _ _ _ he
  · have h1 := hj j (by omega)
    rw [part_spl_other hle (by
      rcases Nat.lt_or_gt_of_ne e with hlt | hgt
      · left
        have := Nat.mul_le_mul_right k hlt
        rw [Nat.succ_mul] at this
        exact this
      · omega)]
    have h2 := EqC.below hb hb _ _ _ _ h1
    exact EqC.kept (Nat.le_of_eq ho.size.symm) (Nat.le_of_eq ho.size.symm) (fun i hi _ => kp i (by omega)) (fun i hi _ => kp i (by omega)) (fun _ hi _ => hi) (fun _ hi _ => hi) _ _ _ _ h2
def coverG (P : Program) (p : TypeId → Bool) : List Field → Nat → Nat → Bool
  | [], o, m => o == m
  | f :: r, o, m => f.offset == o && p f.type && coverG P p r (o + P.cellsOf f.type) m
def leafG (P : Program) : Nat → TypeId → Bool
  | 0, _ => false
  | n + 1, t => match P.underlying t with
    | some .bool => true
    | some (.int _) => true
    | some .string => true
    | some (.slice _) => true
    | some (.struct fs) => coverG P (leafG P n) fs.toList 0 (P.cellsOf t)
    | _ => false
theorem coverG_all {P : Program} {p : TypeId → Bool} {cs : List Value} {good : Value → Prop} : ∀ (l : List Field) (o m : Nat), coverG P p l o m = true → m = cs.length → o ≤ m →
    (∀ f ∈ l, p f.type = true → ∀ v ∈ (cs.drop f.offset).take (P.cellsOf f.type), good v) → ∀ v ∈ cs.drop o, good v
  | [], o, m, h, hm, ho, hf => by
    simp [coverG] at h
    subst h
    rw [List.drop_eq_nil_of_le (by omega)]
    intro v hv; cases hv
  | f :: r, o, m, h, hm, ho, hf => by
    simp only [coverG, Bool.and_eq_true, beq_iff_eq] at h
    obtain ⟨⟨h1, h2⟩, h3⟩ := h
    intro v hv
    rw [← List.take_append_drop (P.cellsOf f.type) (cs.drop o), List.mem_append] at hv
    rcases hv with hv | hv
    · exact hf f List.mem_cons_self h2 v (by rw [h1]; exact hv)
    · rw [List.drop_drop] at hv
      by_cases hle : o + P.cellsOf f.type ≤ m
      · exact coverG_all r _ m h3 hm hle (fun g hg => hf g (List.mem_cons_of_mem _ hg)) v hv
      · rw [List.drop_eq_nil_of_le (by omega)] at hv; cases hv
theorem good_cells {P : Program} {W : World} : ∀ (m : Nat) (t : TypeId), leafG P m t = true → ∀ (n : Nat) (cs : List Value), GoodC P W n t cs → ∀ v ∈ cs, v.oneCell' = true
  | 0, t, h => by simp [leafG] at h
  | m + 1, t, h => by
    intro n cs hx
    cases n with
    | zero => exact hx.elim
    | succ n =>
    unfold leafG at h
    unfold GoodC at hx
    split at h
    · rename_i hu
      simp only [hu] at hx
      obtain ⟨b, rfl⟩ := hx
      simp [Value.oneCell']
    · rename_i hu
      simp only [hu] at hx
      obtain ⟨b, rfl, _⟩ := hx
      simp [Value.oneCell']
    · rename_i hu
      simp only [hu] at hx
      obtain ⟨b, rfl, _⟩ := hx
      simp [Value.oneCell']
    · rename_i hu
      simp only [hu] at hx
      obtain ⟨a, len, cap, rfl, _⟩ := hx
      simp [Value.oneCell']
    · rename_i fs hu
      simp only [hu] at hx
      obtain ⟨hlen, hf⟩ := hx
      have := coverG_all (good := fun v => v.oneCell' = true) (cs := cs) fs.toList 0 _ h hlen.symm (Nat.zero_le _) (fun f hmem hp v hv => by
        obtain ⟨i, hi, he⟩ := List.mem_iff_getElem.1 hmem
        have hfi : fs[i]? = some f := by rw [← Array.getElem?_toList, List.getElem?_eq_getElem hi, he]
        exact good_cells m f.type hp n _ (hf i f hfi) v hv)
      simpa using this
    · simp at h
theorem leafsE : tysE.all (fun t => leafG Try.prog 12 t) = true := by kernel_rfl
theorem good_cells_of {W : World} {n : Nat} {t : TypeId} {cs : List Value} (ht : tysE.contains t = true) (h : GoodC Try.prog W n t cs) : ∀ v ∈ cs, v.oneCell' = true :=
  good_cells 12 t (List.all_eq_true.1 leafsE t (by simpa using ht)) n cs h
theorem eqC_len {W W' : World} {F F' : Nat → Prop} {n : Nat} {t : TypeId} {fs : Array Field} {cs ds : List Value} (hu : Try.prog.underlying t = some (.struct fs)) (h : EqC Try.prog W W' F F' n t cs ds) : ds.length = Try.prog.cellsOf t := by
  cases n with
  | zero => exact h.elim
  | succ n => exact ((eqC_struct hu).1 h).2.1
/-- a row that is copied -/
theorem Cpg.done {W0 W Wr : World} {n : Nat} {t e : TypeId} {k C B o len cap : Nat} {X : Nat → List Value} (hu : Try.prog.underlying t = some (.slice e)) (hk : Try.prog.cellsOf e = k) (hb0 : Below W0.heap.size W0 W) (hB : B < W0.heap.size) (hX : ∀ j, j < len → (X j).length = k ∧ W0.rangeAt B (o + j * k) (X j)) (hlc : len ≤ cap) (hm : cap ≤ maxLen) (hby : len * Try.prog.bytesOf e ≤ 140737488355328) (h : Cpg W0 W n e k C X len len Wr) :
    CopyOf W0 W (n + 1) t [.slice (some ⟨B, o, none⟩) len cap] Wr [.slice (some ⟨C, 0, none⟩) len len] := by
  obtain ⟨cs, hbx, hlen, hj⟩ := h.row
  refine ⟨eqC_slice hu ⟨_, len, cap, _, len, rfl, rfl, hlc, ⟨hm, hby, fun h => by cases h⟩, Nat.le_refl _, ⟨Nat.le_trans hlc hm, hby, fun h => by cases h⟩, fun _ => ⟨B, o, C, 0, rfl, rfl, ⟨hB, Nat.lt_of_lt_of_le hB (Nat.le_trans hb0.size h.low.size)⟩, ⟨Nat.le_of_eq h.eqC.symm, hbx.lt⟩, fun j hjl => ?_⟩⟩, h.low⟩
  have hle : j * k + k ≤ cs.length := by
    rw [hlen]
    have := Nat.mul_le_mul_right k hjl
    rw [Nat.succ_mul] at this
    exact this
  refine ⟨X j, part_ cs (j * k) k, by rw [hk]; exact (hX j hjl).1, by rw [hk]; exact part_len hle, ?_, ?_, ?_⟩
  · rw [hk]
    exact range_below (range_below (hX j hjl).2 hb0 hB) h.low (Nat.lt_of_lt_of_le hB hb0.size)
  · rw [hk, Nat.zero_add]
    exact hbx.part _ _
  · exact EqC.kept (Nat.le_refl _) (Nat.le_refl _) (fun _ _ _ => rfl) (fun _ _ _ => rfl) (fun _ h _ => h) (fun i h _ => Nat.le_of_lt h) _ _ _ _ (hj j hjl)
end Go.Proofs.Ytfpgklhbghahoaa
/- Election: copyAll of values. -/
namespace Go.Proofs.Ytfpgklhbghahoaa
open Go.ChangeShapes Go.WideShapes Go.ChangeAt Go.RowKit Go.ChangeMaps Go.Joins Go.Deep
set_option linter.unusedVariables false
set_option linter.unusedSimpArgs false
set_option maxRecDepth 100000
attribute [local go_sem] Oper.semAt_some
/-- a function that copies -/
def OneOK (gf : Nat) (T : TypeId) (n : Nat) (W0 : World) : Prop := ∀ (W : World) (cs : List Value), Below W0.heap.size W0 W → GoodC Try.prog W0 n T cs → Calls Try.prog gf #[.agg cs.toArray] W fun e W' => ∃ ds, e = .returned (.agg ds.toArray) ∧ CopyOf W0 W n T cs W' ds
theorem infoV : (Try.prog.info? 48).map (fun i => (i.zero, i.size, i.bytes)) = some (some (.agg #[.int .i64 0, .int .i64 0, .string ⟨#[]⟩, .slice none 0 0, .slice none 0 0]), 5, 80) := by kernel_rfl
theorem wideV : Wide Try.prog 48 5 := ⟨by kernel_rfl, _, Try.underlying48, rfl⟩
set_option maxHeartbeats 3200000 in
theorem copyAll_Value (n : Nat) (v : Value) (W0 W : World) (hb0 : Below W0.heap.size W0 W) (h : GoodC Try.prog W0 (n + 1) 45 [v]) (hone : OneOK 60 48 n W0) :
    Calls Try.prog 68 #[v, .func (.func 60) #[] #[]] W fun e W' => ∃ v', e = .returned v' ∧ CopyOf W0 W (n + 1) 45 [v] W' [v'] := by
  obtain ⟨i0, hi0, hz0, hz1, hz2⟩ := info_parts infoV
  have e1 : Try.prog.cellsOf 48 = 5 := by kernel_rfl
  have e8 : Try.prog.bytesOf 48 = 80 := by kernel_rfl
  obtain ⟨a, len, cap, rfl, hlc, ⟨hm, hby, hnil⟩, hc⟩ := goodC_slice Try.underlying45 h
  rw [e1] at hc
  rw [e8] at hby
  by_cases h0 : len = 0
  · subst h0
    go_enter Try.func68, Try.ntmps68
    go_wp2_with fail
    go_ret
    exact ⟨_, rfl, eqC_slice Try.underlying45 ⟨a, 0, cap, none, 0, rfl, rfl, hlc, ⟨hm, by omega, hnil⟩, Nat.le_refl _, ⟨by unfold maxLen; omega, by omega, fun _ => rfl⟩, fun h0 => absurd h0 (Nat.lt_irrefl _)⟩, Below.refl _ _⟩
  · obtain ⟨B, o, rfl, hB, hj⟩ := hc (by omega)
    have HB0 := Lib.hid hb0
    have fn : ∀ j : Nat, ∃ ds : List Value, j < len → ds.length = 5 ∧ W0.rangeAt B (o + j * 5) ds ∧ GoodC Try.prog W0 n 48 ds := fun j => by
      by_cases hjl : j < len
      · obtain ⟨ds, h1⟩ := hj j hjl; exact ⟨ds, fun _ => h1⟩
      · exact ⟨[], fun h => absurd h hjl⟩
    obtain ⟨X, hX⟩ := Classical.axiomOfChoice fn
    have HX := Lib.hid hX
    have HO := Lib.hid hone
    have HBY := Lib.hid (And.intro hlc (And.intro hm hby))
    have z1 : ((len : Int) == 0) = false := by simpa using h0
    have hl63 : len ≤ 9223372036854775807 := by have := HBY.out.2.1; unfold maxLen at this; omega
    clear hj fn hX hone h hc hnil hb0 hby hm
    go_enter Try.func68, Try.ntmps68
    go_wp2_with (first
      | (with_reducible refine wpList_make_wide _ rfl _ _ 45 rfl 48 i0 (.agg #[.int .i64 0, .int .i64 0, .string ⟨#[]⟩, .slice none 0 0, .slice none 0 0]) Try.underlying45 hi0 hz0 len ?ml ?mc ?mb hl63 ?_))
    first | (case ml => rfl) | skip
    first | (case mc => rfl) | skip
    case mb => first | (rw [hz2]; have := HBY.out.2.2; omega) | (have := HBY.out.2.2; omega)
    have hbx : Box (W.alloc (.cells (madeCells #[.int .i64 0, .int .i64 0, .string ⟨#[]⟩, .slice none 0 0, .slice none 0 0] (len * 5)) 48)) W.heap.size (madeCells #[.int .i64 0, .int .i64 0, .string ⟨#[]⟩, .slice none 0 0, .slice none 0 0] (len * 5)).toList := by
      have := Box.new W (madeCells #[.int .i64 0, .int .i64 0, .string ⟨#[]⟩, .slice none 0 0, .slice none 0 0] (len * 5)).toList 48
      simpa using this
    have HP0 : Hid (Cpg W0 W n 48 5 W.heap.size X len 0 (W.alloc (.cells (madeCells #[.int .i64 0, .int .i64 0, .string ⟨#[]⟩, .slice none 0 0, .slice none 0 0] (len * 5)) 48))) := Lib.hid ⟨(Below.refl _ _).alloc (Nat.le_refl _) _, rfl, _, hbx, by rw [Array.length_toList, size_madeCells], fun j hj => absurd hj (Nat.not_lt_zero _)⟩
    clear hbx
    generalize W.alloc (.cells (madeCells #[.int .i64 0, .int .i64 0, .string ⟨#[]⟩, .slice none 0 0, .slice none 0 0] (len * 5)) 48) = W1 at *
    obtain ⟨C, hC⟩ : ∃ C, C = W.heap.size := ⟨_, rfl⟩
    rw [← hC] at HP0 ⊢
    have HCC := Lib.hid hC
    clear hC
    go_loopw [16] (fun i wr => ∃ q : Nat, i = .int .i64 q ∧ q ≤ len ∧ Hid (Cpg W0 W n 48 5 C X len q wr)) (fun i wr => len - (intOf i).toNat)
    case atStart => exact ⟨0, rfl, Nat.zero_le _, HP0⟩
    case round =>
      clear HP0
      obtain ⟨q, rfl, hq, HP⟩ := hrel
      by_cases hlast : q = len
      · subst hlast
        go_wp2_with fail
        go_ret
        exact ⟨_, rfl, HP.out.done Try.underlying45 e1 HB0.out hB (fun j hj => ⟨(HX.out j hj).1, (HX.out j hj).2.1⟩) HBY.out.1 HBY.out.2.1 (by rw [e8]; exact HBY.out.2.2)⟩
      · have hql : q < len := by omega
        obtain ⟨x1, x2, x3⟩ := HX.out q hql
        have r1 : wr.rangeAt B (o + q * 5) (X q) := range_below (range_below x2 HB0.out hB) HP.out.low (Nat.lt_of_lt_of_le hB HB0.out.size)
        have HXQ := Lib.hid (And.intro x1 x3)
        have hw1 : IntKind.i64.wrap ((q : Int) + 1) = ((q + 1 : Nat) : Int) := by rw [IntKind.wrap_i64]; omega
        have hx5 : (Try.prog.info? 48).map (·.size) = some (X q).length := by rw [x1]; exact wideV.1
        clear x1 x2 x3
        have HR1 := Lib.hid r1
        have HBX := Lib.hid (BoxN.new wr [.int .i64 0, .int .i64 0, .string ⟨#[]⟩, .slice none 0 0, .slice none 0 0] 5 48 rfl)
        have HXC := Lib.hid (show Cells 5 (X q) from ⟨HXQ.out.1, List.all_eq_true.2 (good_cells_of (by decide) HXQ.out.2)⟩)
        go_wp2_with (first
          | (with_reducible refine wpList_load_mid rfl 48 (.tmp 19) rfl B (o + q * 5) ?lx (X q) _ HR1.out Try.underlying48 rfl hx5 ?_)
          | (with_reducible refine wpList_box_store 48 7 (.tmp 20) wr.heap.size [.int .i64 0, .int .i64 0, .string ⟨#[]⟩, .slice none 0 0, .slice none 0 0] (X q) _ _ _ _ _ _ ?sx ?sy HBX.out HXC.out wideV ?_))
        first | (case lx => rfl) | skip
        first | (case sx => rfl) | skip
        first | (case sy => rfl) | skip
        intro w5 hB5 hO5
        have hb5 : Below wr.heap.size wr w5 := ((Below.refl _ _).alloc (Nat.le_refl _) _).trans (hO5.below _ (Nat.le_refl _))
        have HB5 := Lib.hid hB5
        have HL5 := Lib.hid hb5
        have HW5 := Lib.hid (show Below W0.heap.size W0 w5 from (HB0.out.trans (HP.out.low.mono HB0.out.size)).trans (hb5.mono (Nat.le_trans HB0.out.size HP.out.low.size)))
        clear hB5 hO5 hb5 r1 hx5
        go_wp2_with (first
          | (with_reducible refine wpList_box_load 48 7 wr.heap.size (X q) _ _ _ _ _ _ ?bx HB5.out wideV ?_))
        first | (case bx => rfl) | skip
        refine (HO.out w5 (X q) HW5.out HXQ.out.2).mono ?_
        rintro e w6 ⟨ys, rfl, hcp⟩
        have HCP := Lib.hid hcp
        have hyl : ys.length = 5 := by rw [eqC_len Try.underlying48 hcp.1, e1]
        have HY1 := Lib.hid (good_cells_of (by decide) (EqC.good _ _ _ _ (EqC.symm _ _ _ _ hcp.1)))
        clear hcp
        obtain ⟨cs, hbx, hlen, hjj⟩ := HP.out.row
        have hth : w6.there C (q * 5) ys.toArray.size := by
          have h6 := (hbx.keep HL5.out).keep HCP.out.2
          refine h6.there _ _ ?_
          rw [List.size_toArray, hyl, hlen]
          omega
        clear hbx hlen hjj
        go_wp2_with (first
          | (with_reducible refine wpList_store_mid rfl 48 (.tmp 26) (.tmp 25) rfl C (q * 5) ys.toArray ?mx ?my hth ?mi ?m1 ?_))
        first | (case mx => rfl) | skip
        first | (case my => rfl) | skip
        first | (case mi => rw [List.size_toArray, hyl]; exact wideV.1) | skip
        first | (case m1 => exact all_oneCell_toArray HY1.out) | skip
        refine ⟨⟨q + 1, by first | rfl | (push_cast; rfl), hql, Lib.hid (HP.out.step HB0.out.size hql (HL5.out.trans (HCP.out.2.mono HL5.out.size)) hyl ?_)⟩, by simp [intOf]; omega⟩
        exact EqC.kept (Nat.le_refl _) (Nat.le_refl _) (fun _ _ _ => rfl) (fun _ _ _ => rfl) (fun _ h _ => h) (fun i h _ => Nat.le_trans HL5.out.size h) _ _ _ _ HCP.out.1
end Go.Proofs.Ytfpgklhbghahoaa
