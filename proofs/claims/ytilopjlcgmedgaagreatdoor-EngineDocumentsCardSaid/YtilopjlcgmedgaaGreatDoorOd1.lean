import Derived.Test.YtilopjlcgmedgaaGreatDoorRows
import Derived.ProofKit
import Derived.Below
import Derived.Deep.MidRow
import Derived.Deep.Upon
import Derived.Laws.OwnMore
import Derived.Deep.Slices
import Derived.Deep.QuietTactic
import Derived.WalkKit
import Derived.StillTail
import Derived.Test.YtilopjlcgmedgaaGreatDoorShelf
import Derived.Outline
import Derived.OwnWalk
import Derived.Laws.AppendOwn
import Derived.Lib.Hide
import Derived.IntWalk
import Derived.BigQuiet
import Derived.StillTailTactics
import Derived.Maps.AppendAt
import Derived.Laws.Cover1
import Derived.MapKept
import Derived.ChangeMaps4
import Derived.Laws.IdiomRangeMap
import Derived.Maps.OwnOps
import Derived.Maps.RangeWalk
import Derived.OrdersHeld
import Derived.RangeFuncBox
import Derived.Sort.OwnSorted
import Derived.Sort.Walk0
import Derived.RangeFuncNested
import Derived.RangeFuncBound
import Derived.RangeFuncLeaves
import Derived.Shelf.Abstract
import Derived.OwnWalkIn
import Derived.TacticsInMore
import Derived.LoopNIn
import Derived.LoopIn
import Derived.OrdersIn
import Derived.Sort.QuietIn
import Derived.Shelf.Strings.BuilderX
import Derived.Lib.Strings
import Derived.Lib.Slices
import Derived.Lib.Walk
import Derived.Lib.Builder
import Derived.Lib.AppendStr
import Derived.Lib.UnsafeStr
import Derived.Lib.MakeNoZero
import Derived.Laws.Externs
import Derived.Laws.IdiomCopy
import Derived.Laws.BitsLemmas
import Derived.OpenShut
import Derived.Laws.BitsAllLaws
import Derived.Laws.BytesArg
import Derived.Deep.RegionWith
import Derived.Lib.IndexBytes
import Derived.RegionTactic
import Derived.ChangeKeysEq
import Derived.Laws.StructEq
namespace Go.Proofs.YtilopjlcgmedgaaGreatDoor
open Go.ChangeShapes Go.WideShapes Go.ChangeAt Go.RowKit Go.Deep
set_option linter.unusedVariables false
set_option linter.unusedSimpArgs false
structure Box (W : World) (b : Nat) (cs : List Value) : Prop where
 rng : W.rangeAt b 0 cs
 free : ∀ o, W.frozen? ⟨b, o, none⟩ = false
 lt : b < W.heap.size
structure Only (w w' : World) (b : Nat) : Prop where
 size : w'.heap.size = w.heap.size
 heap : ∀ k, k ≠ b → w'.heap[k]? = w.heap[k]?
 below : ∀ B, B ≤ b → Below B w w'
theorem Box.cell {W : World} {b : Nat} {cs : List Value} (h : Box W b cs) (j : Nat) (v : Value) (hv : cs[j]? = some v) : W.cell? ⟨b, j, none⟩ = some v := by
 have := h.rng j v hv
 rwa [Nat.zero_add] at this
theorem Box.keep {W W' : World} {b : Nat} {cs : List Value} (h : Box W b cs) (hb : Below W.heap.size W W') : Box W' b cs :=
 ⟨fun j v hv => (hb.cell (p := ⟨b, 0 + j, none⟩) h.lt).trans (h.rng j v hv), fun o => (hb.frozen (p := ⟨b, o, none⟩) h.lt).trans (h.free o), Nat.lt_of_lt_of_le h.lt hb.size⟩
theorem Box.other {W W' : World} {b c : Nat} {cs : List Value} (h : Box W b cs) (ho : Only W W' c) (hne : b ≠ c) : Box W' b cs :=
 ⟨fun j v hv => (World.cell?_of_block (a := ⟨b, 0 + j, none⟩) (ho.heap b hne)).trans (h.rng j v hv), fun o => (World.frozen?_of_block (a := ⟨b, o, none⟩) (ho.heap b hne)).trans (h.free o), by rw [ho.size]; exact h.lt⟩
theorem Box.new (W : World) (cs : List Value) (T : TypeId) : Box (W.alloc (.cells cs.toArray T)) W.heap.size cs :=
 ⟨fun j v hv => by
  rw [Nat.zero_add, World.cell?_alloc_new]
  simpa using hv, fun o => by simp [go_sem], by simp⟩
theorem Box.alloc {W : World} {b : Nat} {cs : List Value} (h : Box W b cs) (ob : Obj) : Box (W.alloc ob) b cs := h.keep ((Below.refl _ _).alloc (Nat.le_refl _) _)
theorem Box.drew {W : World} {b : Nat} {cs : List Value} (h : Box W b cs) : Box W.drew b cs := ⟨fun j v hv => h.rng j v hv, fun o => h.free o, h.lt⟩
theorem Box.drewN {W : World} {b : Nat} {cs : List Value} (h : Box W b cs) (n : Nat) : Box (W.drewN n) b cs := ⟨fun j v hv => h.rng j v hv, fun o => h.free o, h.lt⟩
theorem Only.setCell (W : World) (b j : Nat) (v : Value) : Only W (W.setCell ⟨b, j, none⟩ v) b :=
 ⟨by simp, fun k hk => heap_setCell_other W ⟨b, j, none⟩ k v (fun e => hk e), fun B hB => (Below.refl _ _).setCell hB _⟩
theorem Box.setCell {W : World} {b : Nat} {cs : List Value} (h : Box W b cs) (j : Nat) (v : Value) (hj : j < cs.length) : Box (W.setCell ⟨b, j, none⟩ v) b (cs.set j v) := by
 refine ⟨fun i u hu => ?_, fun o => by rw [World.frozen?_setCell]; exact h.free o, by simpa using h.lt⟩
 have hi : i < cs.length := by have := (List.getElem?_eq_some_iff.1 hu).1; simpa using this
 rw [Nat.zero_add]
 by_cases e : j = i
 ·subst e
  rw [World.cell?_setCell_same _ _ _ (h.cell j cs[j] (List.getElem?_eq_getElem hj))]
  rw [List.getElem?_set_self hj] at hu
  exact hu
 ·rw [World.cell?_setCell_other _ _ _ _ (by intro hc; injection hc; omega)]
  rw [List.getElem?_set_ne e] at hu
  exact h.cell i u hu
theorem Only.setCells (W : World) (b o : Nat) (vs : List Value) (hb : b < W.heap.size) : Only W (W.setCells b o vs) b := by
 induction vs generalizing o W with
 | nil => exact ⟨rfl, fun _ _ => rfl, fun B _ => Below.refl _ _⟩
 | cons v vs ih =>
  have h1 := Only.setCell W b o v
  have h2 := ih (W.setCell ⟨b, o, none⟩ v) (o + 1) (by rw [h1.size]; exact hb)
  exact ⟨h2.size.trans h1.size, fun k hk => (h2.heap k hk).trans (h1.heap k hk), fun B hB => (h1.below B hB).trans (h2.below B hB)⟩
theorem Box.store {W : World} {b : Nat} {cs vs : List Value} (h : Box W b cs) (hl : vs.length = cs.length) : Box (W.setCells b 0 vs) b vs := by
 refine ⟨World.rangeAt_setCells_same W b 0 vs (fun j hj => ⟨h.rng.isSome j (by omega), h.free _⟩), fun o => by rw [World.frozen?_setCells]; exact h.free o, ?_⟩
 rw [(Only.setCells W b 0 vs h.lt).size]; exact h.lt
def BoxN (n : Nat) (W : World) (b : Nat) (cs : List Value) : Prop := Box W b cs ∧ cs.length = n
section
variable {P : Program}
end
abbrev Bs := ByteArray
structure Kept (S : Nat → Prop) (W W' : World) : Prop where
 os : W'.os = W.os
 tape : W'.tape = W.tape
 output : W'.output = W.output
 size : W.heap.size ≤ W'.heap.size
 block : ∀ k, k < W.heap.size → ¬ S k → W'.heap[k]? = W.heap[k]?
theorem Kept.refl (S : Nat → Prop) (W : World) : Kept S W W := ⟨rfl, rfl, rfl, Nat.le_refl _, fun _ _ _ => rfl⟩
theorem Kept.below {S : Nat → Prop} {W W' : World} {B : Nat} (h : Kept S W W') (hB : B ≤ W.heap.size) (hS : ∀ k, S k → B ≤ k) : Below B W W' := ⟨h.os, h.tape, h.output, h.size, fun k hk => h.block k (by omega) (fun hs => by have := hS k hs; omega)⟩
theorem Kept.drew {S : Nat → Prop} {W W' : World} (h : Kept S W W') : Kept S W W'.drew := ⟨h.os, h.tape, h.output, h.size, h.block⟩
theorem Kept.alloc {S : Nat → Prop} {W W' : World} (h : Kept S W W') (ob : Obj) : Kept S W (W'.alloc ob) := by
 refine ⟨h.os, h.tape, h.output, ?_, fun k hk hs => ?_⟩
 ·have := h.size; rw [World.size_alloc]; omega
 ·rw [← h.block k hk hs]
  show (W'.heap.push ob)[k]? = _
  have := h.size
  rw [Array.getElem?_push, if_neg (by omega)]
theorem Kept.trans {S T : Nat → Prop} {W W' W'' : World} (h : Kept S W W') (h2 : Kept T W' W'') (hT : ∀ k, T k → S k ∨ W.heap.size ≤ k) : Kept S W W'' :=
 ⟨h2.os.trans h.os, h2.tape.trans h.tape, h2.output.trans h.output, Nat.le_trans h.size h2.size, fun k hk hs => (h2.block k (Nat.lt_of_lt_of_le hk h.size) (fun ht => by rcases hT k ht with h3 | h3; exact hs h3; omega)).trans (h.block k hk hs)⟩
def lB (a b : Bs) : Bool := Op.bytesLess a.toList b.toList
theorem less_irrefl : ∀ x : List UInt8, Op.bytesLess x x = false
 | [] => rfl
 | a :: x => by simp [Op.bytesLess, less_irrefl x]
theorem less_trans : ∀ x y z : List UInt8, Op.bytesLess x y = true → Op.bytesLess y z = true → Op.bytesLess x z = true
 | _, [], _, h, _ => by simp [Op.bytesLess] at h
 | [], _ :: _, [], _, h => by simp [Op.bytesLess] at h
 | [], _ :: _, _ :: _, _, _ => rfl
 | _ :: _, _ :: _, [], _, h => by simp [Op.bytesLess] at h
 | a :: x, b :: y, c :: z, h1, h2 => by
  simp only [Op.bytesLess, Bool.or_eq_true, decide_eq_true_eq, Bool.and_eq_true, beq_iff_eq] at *
  rcases h1 with h1 | ⟨rfl, h1⟩
  ·rcases h2 with h2 | ⟨rfl, h2⟩
   ·exact .inl (UInt8.lt_trans h1 h2)
   ·exact .inl h1
  ·rcases h2 with h2 | ⟨rfl, h2⟩
   ·exact .inl h2
   ·exact .inr ⟨rfl, less_trans x y z h1 h2⟩
theorem less_tri : ∀ x y : List UInt8, Op.bytesLess x y = false → Op.bytesLess y x = false → x = y
 | [], [], _, _ => rfl
 | [], _ :: _, h, _ => by simp [Op.bytesLess] at h
 | _ :: _, [], _, h => by simp [Op.bytesLess] at h
 | a :: x, b :: y, h1, h2 => by
  simp only [Op.bytesLess, Bool.or_eq_false_iff, decide_eq_false_iff_not, Bool.and_eq_false_iff, beq_eq_false_iff_ne] at *
  have hab : a = b := UInt8.le_antisymm (UInt8.not_lt.1 h2.1) (UInt8.not_lt.1 h1.1)
  subst hab
  rw [less_tri x y (h1.2.resolve_left (fun h => h rfl)) (h2.2.resolve_left (fun h => h rfl))]
theorem lB_irrefl (a : Bs) : lB a a = false := less_irrefl _
theorem lB_trans {a b c : Bs} (h1 : lB a b = true) (h2 : lB b c = true) : lB a c = true := less_trans _ _ _ h1 h2
theorem lB_tri {a b : Bs} (h1 : lB a b = false) (h2 : lB b a = false) : a = b := by
 have := less_tri _ _ h1 h2
 rw [ByteArray.toList_eq, ByteArray.toList_eq] at this
 cases a; cases b
 simp at this
 exact congrArg _ this
theorem lB_asymm {a b : Bs} (h : lB a b = true) : lB b a = false := by
 cases h2 : lB b a with
 | false => rfl
 | true => have := lB_trans h h2; rw [lB_irrefl] at this; cases this
theorem lB_ne {a b : Bs} (h : lB a b = true) : a ≠ b := fun e => by rw [e, lB_irrefl] at h; cases h
theorem ca {W : World} {ob : Obj} {g j : Nat} {v : Value} (hg : g < W.heap.size) (h : W.cell? ⟨g, j, none⟩ = some v) : (W.alloc ob).cell? ⟨g, j, none⟩ = some v :=
 (((Below.refl W.heap.size W).alloc (Nat.le_refl _) ob).cell (p := ⟨g, j, none⟩) hg).trans h
theorem kept_below {W W' : World} (h : Below W.heap.size W W') : Kept (fun _ => False) W W' := ⟨h.os, h.tape, h.output, h.size, fun k hk _ => h.block k hk⟩
theorem cell_kept2 {S : Nat → Prop} {W W' : World} {b j : Nat} {v : Value} (hk : Kept S W W') (hb : b < W.heap.size) (hs : ¬ S b) (h : W.cell? ⟨b, j, none⟩ = some v) : W'.cell? ⟨b, j, none⟩ = some v := by
 rw [World.cell?_of_block (a := ⟨b, j, none⟩) (hk.block b hb hs)]; exact h
theorem addr_add' (B o j : Nat) : (⟨B, o, none⟩ : Addr).add j = ⟨B, o + j, none⟩ := by
 by_cases hj : j = 0 <;> simp [Addr.add, hj]
abbrev Ver := Int × Bs × Bool
def verc (x : Ver) : List Value := [.int .i64 x.1, .string x.2.1, .bool x.2.2]
def vrv (L : List Ver) : List Value := L.flatMap verc
theorem vrv_app (A B : List Ver) : vrv (A ++ B) = vrv A ++ vrv B := List.flatMap_append ..
theorem vrv_at (L : List Ver) (j : Nat) (h : j < L.length) : (vrv L)[j * 3]? = some (.int .i64 L[j].1) ∧ (vrv L)[j * 3 + 1]? = some (.string L[j].2.1) ∧ (vrv L)[j * 3 + 2]? = some (.bool L[j].2.2) := by
 induction L generalizing j with
 | nil => simp at h
 | cons a L ih =>
  have e : vrv (a :: L) = .int .i64 a.1 :: .string a.2.1 :: .bool a.2.2 :: vrv L := rfl
  rw [e]
  match j, h with
  | 0, _ => exact ⟨rfl, rfl, rfl⟩
  | j + 1, h =>
   have h2 : j < L.length := by simpa using h
   rw [show (j + 1) * 3 = j * 3 + 1 + 1 + 1 by omega]
   simp only [List.getElem?_cons_succ, List.getElem_cons_succ]
   exact ih j h2
def VRow (B : Nat) (W : World) (v : Value) (L : List Ver) : Prop := W.ownsRow B 118 3 v L.length (vrv L)
def VrAt (W : World) (v : Value) (L : List Ver) : Prop :=
 (v = .slice none 0 0 ∧ L = []) ∨ ∃ g c, v = .slice (some ⟨g, 0, none⟩) L.length c ∧ L.length ≤ c ∧ c ≤ 9223372036854775807 ∧ g < W.heap.size ∧ ∀ j (h : j < L.length), W.cell? ⟨g, j * 3, none⟩ = some (.int .i64 L[j].1) ∧ W.cell? ⟨g, j * 3 + 1, none⟩ = some (.string L[j].2.1) ∧ W.cell? ⟨g, j * 3 + 2, none⟩ = some (.bool L[j].2.2)
theorem VRow.at_ {B : Nat} {W : World} {v : Value} {L : List Ver} (h : VRow B W v L) : VrAt W v L := by
 have h0 : W.ownsRow B 118 3 v L.length (vrv L) := h
 rcases h.2 with ⟨rfl, h1⟩ | ⟨g, c, cur, rfl, h1, h2, h3, h4, h5, h6⟩
 ·exact .inl ⟨rfl, List.eq_nil_of_length_eq_zero h1⟩
 ·refine .inr ⟨g, c, rfl, h3, by unfold maxLen at h4; omega, (h0.lt g rfl).2, fun j hj => ?_⟩
  have a0 := h0.cellAt (j * 3) (by omega)
  have a1 := h0.cellAt (j * 3 + 1) (by omega)
  have a2 := h0.cellAt (j * 3 + 2) (by omega)
  rw [a0, a1, a2]
  exact vrv_at L j hj
theorem VRow.same {B : Nat} {W W' : World} {v : Value} {L : List Ver} (h : VRow B W v L) (hk : ∀ k, v.ownBlock = some k → W'.heap[k]? = W.heap[k]?) : VRow B W' v L := by
 refine ⟨h.1, ?_⟩
 rcases h.2 with h1 | ⟨g, c, cur, rfl, h1, h2, h3⟩
 ·exact .inl h1
 ·exact .inr ⟨g, c, cur, rfl, h1, by rw [hk g rfl]; exact h2, h3⟩
theorem VRow.lt {B : Nat} {W : World} {v : Value} {L : List Ver} (h : VRow B W v L) : ∀ k, v.ownBlock = some k → B ≤ k ∧ k < W.heap.size := World.ownsRow.lt h
theorem VRow.kept {B : Nat} {S : Nat → Prop} {W W' : World} {v : Value} {L : List Ver} (h : VRow B W v L) (hk : Kept S W W') (hS : ∀ k, v.ownBlock = some k → ¬ S k) : VRow B W' v L := h.same (fun k e => hk.block k (h.lt k e).2 (hS k e))
theorem VRow.base {B B' : Nat} {W : World} {v : Value} {L : List Ver} (h : VRow B' W v L) (hb : B ≤ B') : VRow B W v L := by
 refine ⟨h.1, ?_⟩
 rcases h.2 with h1 | ⟨g, c, cur, rfl, h1, h2⟩
 ·exact .inl h1
 ·exact .inr ⟨g, c, cur, rfl, Nat.le_trans hb h1, h2⟩
theorem VRow.len {B : Nat} {W : World} {v : Value} {L : List Ver} (h : VRow B W v L) : ∃ a c, v = .slice a L.length c := by
 rcases h.2 with ⟨rfl, h1⟩ | ⟨g, c, cur, rfl, _⟩
 ·rw [h1]; exact ⟨none, 0, rfl⟩
 ·exact ⟨_, _, rfl⟩
theorem VRow.get {B : Nat} {W : World} {v : Value} {L : List Ver} (h : VRow B W v L) (h0 : 0 < L.length) : ∃ g c, v = .slice (some ⟨g, 0, none⟩) L.length c ∧ L.length ≤ c ∧ c ≤ 9223372036854775807 ∧ g < W.heap.size ∧ ∀ j (h : j < L.length), W.cell? ⟨g, j * 3, none⟩ = some (.int .i64 L[j].1) ∧ W.cell? ⟨g, j * 3 + 1, none⟩ = some (.string L[j].2.1) ∧ W.cell? ⟨g, j * 3 + 2, none⟩ = some (.bool L[j].2.2) := by
 rcases h.at_ with ⟨rfl, rfl⟩ | h
 ·simp at h0
 ·exact h
theorem VRow.nil (B : Nat) (W : World) : VRow B W (.slice none 0 0) [] := World.ownsRow_nil _ _ _ _
structure En where
 key : Bs
 vs : List Ver
 val : Value
 born : Nat
def En.entry (e : En) : MapEntry := ⟨.string e.key, e.val, e.born⟩
def esOf (E : List En) : Array MapEntry := (E.map En.entry).toArray
def fnd (k : Bs) : List En → Nat → Option (Nat × En)
 | [], _ => none
 | e :: E, i => if k = e.key then some (i, e) else fnd k E (i + 1)
theorem beq_bs (a b : Bs) : (a == b) = decide (a = b) := by
 rw [Bool.eq_iff_iff, MapKept.bytes_beq]; simp
theorem findNow_E (k : Bs) : ∀ (E : List En) (i : Nat), Instr.findNow .string (.string k) (E.map En.entry) i = some ((fnd k E i).map fun p => (p.1, p.2.val))
 | [], _ => rfl
 | e :: E, i => by
  show (match Instr.sameNow .string (.string k) (.string e.key) with | some true => some (some (i, e.val)) | some false => Instr.findNow .string (.string k) (E.map En.entry) (i + 1) | none => none) = _
  have h : Instr.sameNow .string (.string k) (.string e.key) = some (decide (k = e.key)) := congrArg some (beq_bs k e.key)
  rw [h]
  unfold fnd
  by_cases hk : k = e.key
  ·rw [if_pos hk, decide_eq_true hk]; rfl
  ·rw [if_neg hk, decide_eq_false hk]; exact findNow_E k E (i + 1)
theorem fnd_some (k : Bs) : ∀ (E : List En) (i j : Nat) (e : En), fnd k E i = some (j, e) → ∃ d, j = i + d ∧ E[d]? = some e ∧ e.key = k
 | [], _, _, _, h => by cases h
 | a :: E, i, j, e, h => by
  unfold fnd at h
  by_cases hk : k = a.key
  ·rw [if_pos hk] at h
   cases h
   exact ⟨0, rfl, rfl, hk.symm⟩
  ·rw [if_neg hk] at h
   obtain ⟨d, h1, h2, h3⟩ := fnd_some k E (i + 1) j e h
   exact ⟨d + 1, by omega, h2, h3⟩
theorem fnd_none (k : Bs) : ∀ (E : List En) (i : Nat), fnd k E i = none → ∀ e ∈ E, e.key ≠ k
 | [], _, _, _, h => by cases h
 | a :: E, i, h, e, he => by
  unfold fnd at h
  by_cases hk : k = a.key
  ·rw [if_pos hk] at h; cases h
  ·rw [if_neg hk] at h
   rcases List.mem_cons.1 he with rfl | he
   ·exact fun e => hk e.symm
   ·exact fnd_none k E (i + 1) h e he
def lkE (E : List En) (k : Bs) : Option En := (fnd k E 0).map (·.2)
def lkV (E : List En) (k : Bs) : Value := match lkE E k with
 | some e => e.val
 | none => .slice none 0 0
def lkL (E : List En) (k : Bs) : List Ver := match lkE E k with
 | some e => e.vs
 | none => []
theorem lkE_mem {E : List En} {k : Bs} {e : En} (h : lkE E k = some e) : e ∈ E ∧ e.key = k := by
 unfold lkE at h
 cases hf : fnd k E 0 with
 | none => rw [hf] at h; cases h
 | some p =>
  obtain ⟨j, x⟩ := p
  rw [hf] at h
  cases h
  obtain ⟨d, _, h2, h3⟩ := fnd_some k E 0 j x hf
  exact ⟨List.mem_of_getElem? h2, h3⟩
theorem lkE_none {E : List En} {k : Bs} (h : lkE E k = none) : ∀ e ∈ E, e.key ≠ k := by
 unfold lkE at h
 cases hf : fnd k E 0 with
 | none => exact fnd_none k E 0 hf
 | some p => rw [hf] at h; cases h
def MapAt (W : World) (m : Nat) (E : List En) (clock : Nat) : Prop := W.heap[m]? = some (.map (esOf E) clock)
theorem esOf_list (E : List En) : (esOf E).toList = E.map En.entry := by simp [esOf]
theorem isKeyS (k : Bs) : MapKept.IsKey .string (.string k) := trivial
theorem zero_vs (W : World) : (zeroValue 113).run Tryz.prog W = .ok (.slice none 0 0) W := by kernel_rfl
theorem run_look {W : World} {m clock : Nat} {E : List En} (h : MapAt W m E clock) (k : Bs) :
  (Instr.lookup 114 (.map (some m)) (.string k) false).run Tryz.prog W = .ok (lkV E k) W := by
 have h1 := findNow_E k E 0
 rw [← esOf_list] at h1
 simp only [Instr.lookup, Sem.run_bind, run_underlying Tryz.underlying114, MapKept.run_getObj_map h, Result.andThen, Sem.run_pure]
 rw [MapKept.run_checkKey (d := .string) Tryz.underlying9 (isKeyS k)]
 simp only [Result.andThen, Sem.run_bind]
 rw [MapKept.run_findKey (d := .string) Tryz.underlying9 h1]
 unfold lkV lkE
 cases hf : fnd k E 0 with
 | none => simp [Result.andThen, zero_vs]
 | some p => simp [Result.andThen]
open Go.ChangeMaps
structure EnOK (E : List En) (clock : Nat) : Prop where
 keys : (E.map (·.key)).Nodup
 borns : (E.map (·.born)).Nodup
 lt : ∀ e ∈ E, e.born < clock
theorem EnOK.nil (clock : Nat) : EnOK [] clock := ⟨List.nodup_nil, List.nodup_nil, fun e he => (by cases he)⟩
def updE (E : List En) (k : Bs) (val : Value) (vs : List Ver) : List En := E.map fun e => if e.key = k then { e with val := val, vs := vs } else e
def putE (E : List En) (clock : Nat) (k : Bs) (val : Value) (vs : List Ver) : List En := match lkE E k with
 | some _ => updE E k val vs
 | none => E ++ [⟨k, vs, val, clock⟩]
def putC (E : List En) (clock : Nat) (k : Bs) : Nat := match lkE E k with
 | some _ => clock
 | none => clock + 1
theorem updE_keys (E : List En) (k : Bs) (val : Value) (vs : List Ver) : (updE E k val vs).map (·.key) = E.map (·.key) := by
 unfold updE
 rw [List.map_map]
 refine List.map_congr_left (fun e _ => ?_)
 show (if e.key = k then _ else e).key = e.key
 split <;> rfl
theorem updE_borns (E : List En) (k : Bs) (val : Value) (vs : List Ver) : (updE E k val vs).map (·.born) = E.map (·.born) := by
 unfold updE
 rw [List.map_map]
 refine List.map_congr_left (fun e _ => ?_)
 show (if e.key = k then _ else e).born = e.born
 split <;> rfl
theorem born_lt_map {E E' : List En} {clock : Nat} (h : ∀ e ∈ E, e.born < clock) (he : ∀ e ∈ E', e.born ∈ E.map (·.born)) : ∀ e ∈ E', e.born < clock := fun e h' => by
 obtain ⟨x, h1, h2⟩ := List.mem_map.1 (he e h')
 rw [← h2]; exact h x h1
theorem EnOK.upd {E : List En} {clock : Nat} (h : EnOK E clock) (k : Bs) (val : Value) (vs : List Ver) : EnOK (updE E k val vs) clock :=
 ⟨by rw [updE_keys]; exact h.keys, by rw [updE_borns]; exact h.borns, born_lt_map h.lt (fun e he => by rw [← updE_borns E k val vs]; exact List.mem_map.2 ⟨e, he, rfl⟩)⟩
theorem EnOK.put {E : List En} {clock : Nat} (h : EnOK E clock) (k : Bs) (val : Value) (vs : List Ver) : EnOK (putE E clock k val vs) (putC E clock k) := by
 unfold putE putC
 cases hl : lkE E k with
 | some e => exact h.upd k val vs
 | none =>
  refine ⟨?_, ?_, fun e he => ?_⟩
  ·show ((E ++ [⟨k, vs, val, clock⟩] : List En).map (·.key)).Nodup
   rw [List.map_append, List.nodup_append]
   refine ⟨h.keys, by simp, fun a ha b hb => ?_⟩
   obtain ⟨e, he, rfl⟩ := List.mem_map.1 ha
   have hb' : b = k := by simpa using hb
   rw [hb']
   exact lkE_none hl e he
  ·show ((E ++ [⟨k, vs, val, clock⟩] : List En).map (·.born)).Nodup
   rw [List.map_append, List.nodup_append]
   refine ⟨h.borns, by simp, fun a ha b hb => ?_⟩
   obtain ⟨e, he, rfl⟩ := List.mem_map.1 ha
   have hb' : b = clock := by simpa using hb
   have := h.lt e he
   omega
  ·rcases List.mem_append.1 he with he | he
   ·have := h.lt e he; show e.born < clock + 1; omega
   ·rw [List.mem_singleton.1 he]; show clock < clock + 1; omega
theorem modify_upd {E : List En} {k : Bs} {val : Value} {vs : List Ver} {d : Nat} {e : En} (hn : (E.map (·.key)).Nodup) (hd : E[d]? = some e) (hk : e.key = k) :
  (esOf E).modify d (fun x => { x with key := .string k, val := val }) = esOf (updE E k val vs) := by
 apply Array.toList_inj.1
 rw [Array.toList_modify, esOf_list, esOf_list]
 apply List.ext_getElem?
 intro j
 rw [List.getElem?_modify, List.getElem?_map, List.getElem?_map]
 unfold updE
 rw [List.getElem?_map]
 cases hj : E[j]? with
 | none => rfl
 | some x =>
  simp only [Option.map_some]
  by_cases hdj : d = j
  ·subst hdj
   rw [hd] at hj
   cases hj
   simp [En.entry, hk]
  ·show some (if d = j then _ else x.entry) = some (if x.key = k then _ else x).entry
   rw [if_neg hdj, if_neg (fun hxk => ?_)]
   ·obtain ⟨h1, h2⟩ := List.getElem?_eq_some_iff.1 hd
    obtain ⟨h3, h4⟩ := List.getElem?_eq_some_iff.1 hj
    have := (List.getElem_inj (xs := E.map (·.key)) (h₀ := by simpa using h1) (h₁ := by simpa using h3) hn).1 (by simp [h2, h4, hk, hxk])
    exact hdj this
theorem run_upd {W : World} {m clock : Nat} {E : List En} (h : MapAt W m E clock) (hn : (E.map (·.key)).Nodup) (k : Bs) (val : Value) (vs : List Ver) :
  (Instr.mapUpdate 114 (.map (some m)) (.string k) val).run Tryz.prog W = .ok () (setBlock W m (.map (esOf (putE E clock k val vs)) (putC E clock k))) := by
 have h1 := findNow_E k E 0
 rw [← esOf_list] at h1
 unfold putE putC lkE
 cases hf : fnd k E 0 with
 | none =>
  rw [hf] at h1
  have e : (esOf E).push ⟨.string k, val, clock⟩ = esOf (E ++ [⟨k, vs, val, clock⟩]) := by
   apply Array.toList_inj.1
   rw [Array.toList_push, esOf_list, esOf_list, List.map_append]; rfl
  simp [Instr.mapUpdate, run_underlying Tryz.underlying114, MapKept.run_getObj_map h, MapKept.run_checkKey (d := .string) Tryz.underlying9 (isKeyS k), MapKept.run_findKey (d := .string) Tryz.underlying9 h1, MapKept.run_setObj_map _ h, Result.andThen, setBlock, e]
 | some p =>
  obtain ⟨j, e⟩ := p
  rw [hf] at h1
  obtain ⟨d, hjd, h2, h3⟩ := fnd_some k E 0 j e hf
  have hj0 : j = d := by omega
  subst hj0
  have hes : (esOf E)[j]? = some e.entry := by
   rw [← Array.getElem?_toList, esOf_list, List.getElem?_map, h2]; rfl
  have hke : e.entry.key = .string k := by show Value.string e.key = _; rw [h3]
  have hm := modify_upd (val := val) (vs := vs) hn h2 h3
  simp [Instr.mapUpdate, run_underlying Tryz.underlying114, MapKept.run_getObj_map h, MapKept.run_checkKey (d := .string) Tryz.underlying9 (isKeyS k), MapKept.run_findKey (d := .string) Tryz.underlying9 h1, hes, hke, MapKept.run_keyThatStays (isKeyS k), MapKept.run_setObj_map _ h, Result.andThen, setBlock, hm]
theorem setBlock_kept {S : Nat → Prop} {W W' : World} (h : Kept S W W') (m : Nat) (o : Obj) (hm : S m ∨ W.heap.size ≤ m) : Kept S W (setBlock W' m o) := by
 refine ⟨h.os, h.tape, h.output, by show W.heap.size ≤ (W'.heap.setIfInBounds m o).size; rw [Array.size_setIfInBounds]; exact h.size, fun k hk hs => ?_⟩
 rw [← h.block k hk hs]
 show (W'.heap.setIfInBounds m o)[k]? = _
 rw [Array.getElem?_setIfInBounds_ne (fun e => by subst e; rcases hm with hm | hm; exact hs hm; omega)]
theorem setBlock_at {W : World} {m : Nat} {o o' : Obj} (h : W.heap[m]? = some o') : (setBlock W m o).heap[m]? = some o := by
 show (W.heap.setIfInBounds m o)[m]? = _
 exact (MapKept.heap_set h).1
theorem MapAt.kept {S : Nat → Prop} {W W' : World} {m clock : Nat} {E : List En} (h : MapAt W m E clock) (hk : Kept S W W') (hS : ¬ S m) : MapAt W' m E clock := (hk.block m (Array.getElem?_eq_some_iff.1 h).1 hS).trans h
theorem MapAt.lt {W : World} {m clock : Nat} {E : List En} (h : MapAt W m E clock) : m < W.heap.size := (Array.getElem?_eq_some_iff.1 h).1
section
variable {P : Program} {ops : Array Oper} {md : Region.Mode} {Q : Exit → Act → World → Prop} {S : World → Prop}
def Before (c : Nat) (S : World → Prop) (listed : Array Bool) (w : World) : Prop := listed.getD c false = false → S w
def wpAnyT (P : Program) (md : Region.Mode) (ops : Array Oper) (Q : Exit → Act → World → Prop) (S : World → Prop) (n c : Nat) (L : Array Bool → Act → World → Prop) : Nat → Array Bool → Act → World → Prop
 | 0, listed, a, w => L listed a w
 | f + 1, listed, a, w =>
  Region.ready md ops listed ≠ [] ∧ ∀ i ∈ Region.ready md ops listed, i < n ∧ wpOp P ops Q i (fun a' w' => Before c S (listed.setIfInBounds i true) w' ∧ wpAnyT P md ops Q S n c L f (listed.setIfInBounds i true) a' w') a w
theorem wpAny_of_T {n c g : Nat} {L : Array Bool → Act → World → Prop} (hL : ∀ listed a w, L listed a w → wpAny P md ops Q g listed a w) :
  ∀ (f : Nat) (listed : Array Bool) (a : Act) (w : World), wpAnyT P md ops Q S n c L f listed a w → wpAny P md ops Q (f + g) listed a w
 | 0, listed, a, w, h => by rw [Nat.zero_add]; exact hL _ _ _ h
 | f + 1, listed, a, w, h => by
  rw [show f + 1 + g = (f + g) + 1 by omega]
  exact ⟨fun h0 => absurd h0 h.1, fun i hi => wpOp_mono (fun a' w' h' => wpAny_of_T hL f _ a' w' h'.2) (h.2 i hi).2⟩
theorem set_other {listed : Array Bool} {i c : Nat} (h : (listed.setIfInBounds i true).getD c false = false) : listed.getD c false = false := by
 cases hl : listed.getD c false with
 | false => rfl
 | true => rw [getD_set_true hl] at h; cases h
def Region.anc (md : Region.Mode) (ops : Array Oper) (c : Nat) : Nat → Nat → Bool
 | 0, i => Region.waitsFor md ops c i
 | f + 1, i => Region.waitsFor md ops c i || (List.range c).any fun j => Region.waitsFor md ops j i && Region.anc md ops c f j
theorem anc_listed {n c : Nat} {listed : Array Bool} (inv : HeadInv md ops n listed) : ∀ (f i : Nat), Region.anc md ops c f i = true → listed.getD c false = true → listed.getD i false = true
 | 0, i, h, hc => by
  obtain ⟨oj, hj, e, he, hb, ho⟩ := Region.waitsFor_spec h
  rw [← ho]
  exact inv.closed c oj hj hc e he hb
 | f + 1, i, h, hc => by
  simp only [Region.anc, Bool.or_eq_true] at h
  rcases h with h | h
  ·obtain ⟨oj, hj, e, he, hb, ho⟩ := Region.waitsFor_spec h
   rw [← ho]
   exact inv.closed c oj hj hc e he hb
  ·obtain ⟨j, _, h⟩ := List.any_eq_true.1 h
   simp only [Bool.and_eq_true] at h
   have hl := anc_listed inv f j h.2 hc
   obtain ⟨oj, hj, e, he, hb, ho⟩ := Region.waitsFor_spec h.1
   rw [← ho]
   exact inv.closed j oj hj hl e he hb
def KindS (S : World → Prop) : Nat → World → Prop
 | 1 => S
 | _ => fun _ => True
def wpOrd (P : Program) (ops : Array Oper) (Q : Exit → Act → World → Prop) (S : World → Prop) (R : Act → World → Prop) : List (Nat × Nat) → Act → World → Prop
 | [], a, w => R a w
 | (i, 0) :: rest, a, w => ∃ oi v, ops[i]? = some oi ∧ YieldsIf P ops (KindS S 0) oi v a ∧ wpOrd P ops Q S R rest (a.put oi.dst v) w
 | (i, 1) :: rest, a, w => ∃ oi v, ops[i]? = some oi ∧ YieldsIf P ops (KindS S 1) oi v a ∧ wpOrd P ops Q S R rest (a.put oi.dst v) w
 | (i, 2) :: rest, a, w => wpOp P ops Q i (fun a' w' => S w' ∧ wpOrd P ops Q S R rest a' w') a w
 | (i, _) :: rest, a, w => wpOp P ops Q i (fun a' w' => wpOrd P ops Q S R rest a' w') a w
def Region.ordB (md : Region.Mode) (ops : Array Oper) (n c g : Nat) : List (Nat × Nat) → Array Bool → Bool
 | [], listed => Region.seqB md ops g n listed
 | (i, 0) :: rest, listed => (Region.ready md ops listed).contains i && Region.free md ops listed i && decide (i < n) && decide (i ≠ c) && Region.ordB md ops n c g rest (listed.setIfInBounds i true)
 | (i, 1) :: rest, listed => (Region.ready md ops listed).contains i && Region.free md ops listed i && decide (i < n) && decide (i ≠ c) && Region.anc md ops c 6 i && Region.ordB md ops n c g rest (listed.setIfInBounds i true)
 | (i, 2) :: rest, listed => decide (Region.ready md ops listed = [i]) && decide (i < n) && Region.ordB md ops n c g rest (listed.setIfInBounds i true)
 | (i, _) :: rest, listed => decide (Region.ready md ops listed = [i]) && decide (i < n) && (listed.setIfInBounds i true).getD c false && Region.ordB md ops n c g rest (listed.setIfInBounds i true)
theorem wpOrd_read0 {R : Act → World → Prop} {i : Nat} {rest : List (Nat × Nat)} {a : Act} {w : World} {oi : Oper} (v : Value) (hi : ops[i]? = some oi) (hw : Region.wanted oi (yielded ops a.tmps) = true) (hy : ∀ w, (execOp a.eval oi).run P w = .ok (.value v) w)
  (h : ∀ K : Act → World → Prop, (∀ a w, wpOrd P ops Q S R rest a w → K a w) → K (a.put oi.dst v) w) : wpOrd P ops Q S R ((i, 0) :: rest) a w :=
 ⟨oi, v, hi, .inl ⟨hw, fun w _ => hy w⟩, h _ (fun _ _ h => h)⟩
theorem wpOrd_read1 {R : Act → World → Prop} {i : Nat} {rest : List (Nat × Nat)} {a : Act} {w : World} {oi : Oper} (v : Value) (hi : ops[i]? = some oi) (hw : Region.wanted oi (yielded ops a.tmps) = true) (hy : ∀ w, S w → (execOp a.eval oi).run P w = .ok (.value v) w)
  (h : ∀ K : Act → World → Prop, (∀ a w, wpOrd P ops Q S R rest a w → K a w) → K (a.put oi.dst v) w) : wpOrd P ops Q S R ((i, 1) :: rest) a w :=
 ⟨oi, v, hi, .inl ⟨hw, hy⟩, h _ (fun _ _ h => h)⟩
theorem wpOrd_eff2 {R : Act → World → Prop} {i : Nat} {rest : List (Nat × Nat)} {a : Act} {w : World} {oi : Oper} (hi : ops[i]? = some oi) (hw : Region.wanted oi (yielded ops a.tmps) = true)
  (h : ∀ K : Act → World → Prop, (∀ a w, S w → wpOrd P ops Q S R rest a w → K a w) → oi.wp P a w K Q) : wpOrd P ops Q S R ((i, 2) :: rest) a w := by
 show wpOp P ops Q i _ a w
 unfold wpOp
 simp only [hi, hw, if_true]
 exact .inl (h _ (fun _ _ h1 h2 => ⟨h1, h2⟩))
theorem wpOrd_eff3 {R : Act → World → Prop} {i : Nat} {rest : List (Nat × Nat)} {a : Act} {w : World} {oi : Oper} (hi : ops[i]? = some oi) (hw : Region.wanted oi (yielded ops a.tmps) = true)
  (h : ∀ K : Act → World → Prop, (∀ a w, wpOrd P ops Q S R rest a w → K a w) → oi.wp P a w K Q) : wpOrd P ops Q S R ((i, 3) :: rest) a w := by
 show wpOp P ops Q i _ a w
 unfold wpOp
 simp only [hi, hw, if_true]
 exact .inl (h _ (fun _ _ h => h))
theorem wpOrd_nil {R : Act → World → Prop} {a : Act} {w : World} (h : R a w) : wpOrd P ops Q S R [] a w := h
end
section
variable {P : Program} {ops : Array Oper} {md : Region.Mode} {Q : Exit → Act → World → Prop} {S : World → Prop}
theorem wpAnyT_firstW {n c i : Nat} {oi : Oper} {v : Value} {Sx : World → Prop} {L : Array Bool → Act → World → Prop} (hi : ops[i]? = some oi) (hsel : ∀ (j : Nat) (o : Oper) cs b, ops[j]? = some o → o.op ≠ .select cs b)
  (hQ : ∀ c (a : Act) (d : Option Tmp) (v : Value) w, Q (.panic c) (a.put d v) w → Q (.panic c) a w)
  (hn : n = ops.size) (hin : i < n) (hic : i ≠ c)
  (hSx : ∀ listed w, HeadInv md ops n listed → listed.getD i true = false → Before c S listed w → Sx w)
  (hdone : ∀ listed a w, L listed a w → ∀ j ∈ Region.ready md ops listed, n ≤ j) :
  ∀ (f : Nat) (listed : Array Bool) (a : Act) (w : World), HeadInv md ops n listed →
   (∀ j oj, ops[j]? = some oj → j ≠ i → listed.getD j true = false → (∀ e ∈ oj.after, Region.binds md e = true → e.on ≠ i) → oi.apart ops oj = true) →
   i ∈ Region.ready md ops listed → YieldsIf P ops Sx oi v a → Before c S listed w →
   wpAnyT P md ops Q S n c L f (listed.setIfInBounds i true) (a.put oi.dst v) w → wpAnyT P md ops Q S n c L (f + 1) listed a w := by
 intro f
 induction f with
 | zero =>
  intro listed a w inv _ hr hy hS H
  have hun := (mem_ready.1 hr).1
  refine ⟨fun h => (by rw [h] at hr; cases hr), fun j hj => ?_⟩
  have hjn : j < n := by
   obtain ⟨_, oj, hoj, _⟩ := mem_ready.1 hj
   have := (Array.getElem?_eq_some_iff.1 hoj).1
   omega
  refine ⟨hjn, ?_⟩
  by_cases hji : j = i
  ·subst hji; exact hy.wpOp hi (hSx _ _ inv hun hS) ⟨fun h => hS (set_other h), H⟩
  ·have := hdone _ _ _ H j (ready_mono hj hji)
   omega
 | succ f ih =>
  intro listed a w inv hfree hr hy hS H
  have hun := (mem_ready.1 hr).1
  refine ⟨fun h => (by rw [h] at hr; cases hr), fun j hj => ?_⟩
  have hjn : j < n := by
   obtain ⟨_, oj, hoj, _⟩ := mem_ready.1 hj
   have := (Array.getElem?_eq_some_iff.1 hoj).1
   omega
  refine ⟨hjn, ?_⟩
  by_cases hji : j = i
  ·subst hji; exact hy.wpOp hi (hSx _ _ inv hun hS) ⟨fun h => hS (set_other h), H⟩
  ·have h1 := (H.2 j (ready_mono hj hji)).2
   obtain ⟨hjun, oj, hoj, hall⟩ := mem_ready.1 hj
   have hnot : ∀ e ∈ oj.after, Region.binds md e = true → e.on ≠ i := fun e he hb heq => by
    have h1 := hall e he hb
    rw [heq, getD_both hun] at h1
    cases h1
   have h2 := wpOp_putIf hoj (hfree j oj hoj hji hjun hnot) (fun cs b => hsel i oi cs b hi) (fun cs b => hsel j oj cs b hoj) (fun c a w => hQ c a _ _ w) hy h1
   have hfree' : ∀ k ok, ops[k]? = some ok → k ≠ i → (listed.setIfInBounds j true).getD k true = false →
     (∀ e ∈ ok.after, Region.binds md e = true → e.on ≠ i) → oi.apart ops ok = true := fun k ok hk hki hun hno => by
    refine hfree k ok hk hki ?_ hno
    by_cases hjk : j = k
    ·subst hjk; exact hjun
    ·rw [getD_set_ne true hjk] at hun; exact hun
   refine wpOp_mono (fun a' w' h3 => ?_) h2
   obtain ⟨hy3, hS3, h3⟩ := h3
   rw [Array.setIfInBounds_comm _ _ (Ne.symm hji)] at hS3 h3
   have hS4 : Before c S (listed.setIfInBounds j true) w' := fun h => by
    refine hS3 ?_
    rw [getD_set_ne false hic]; exact h
   exact ⟨hS4, ih (listed.setIfInBounds j true) a' w' (inv.set hj hjn) hfree' (ready_mono hr (Ne.symm hji)) hy3 hS4 h3⟩
def Region.regWB (md : Region.Mode) (ops : Array Oper) (n c : Nat) (ord : List (Nat × Nat)) : Bool :=
 Region.noSelect ops && decide (n = ops.size) && decide (ord.length = n) && Region.ordB md ops n c 0 ord (Array.replicate ops.size false)
theorem wpAnyT_ordW {n c g : Nat} {R : Act → World → Prop} (hsel : Region.noSelect ops = true) (hQ : ∀ c (a : Act) (d : Option Tmp) (v : Value) w, Q (.panic c) (a.put d v) w → Q (.panic c) a w)
  (hn : n = ops.size) :
  ∀ (l : List (Nat × Nat)) (listed : Array Bool) (a : Act) (w : World), HeadInv md ops n listed → Before c S listed w →
  Region.ordB md ops n c g l listed = true → wpOrd P ops Q S R l a w →
  wpAnyT P md ops Q S n c (fun listed' a' w' => Region.seqB md ops g n listed' = true ∧ R a' w') l.length listed a w
 | [], listed, a, w, inv, hS, hB, h => ⟨hB, h⟩
 | (i, 0) :: l, listed, a, w, inv, hS, hB, h => by
  simp only [Region.ordB, Bool.and_eq_true, decide_eq_true_eq] at hB
  obtain ⟨⟨⟨⟨hr, hf⟩, hin⟩, hic⟩, hB'⟩ := hB
  have hr' : i ∈ Region.ready md ops listed := by simpa using hr
  obtain ⟨oi, v, h0, hy, hK⟩ := h
  exact wpAnyT_firstW h0 (Region.noSelect_spec hsel) hQ hn hin hic (fun _ _ _ _ _ => trivial) (fun listed' a' w' hL => seqB_ready hL.1) l.length listed a w inv (Region.free_spec h0 hf) hr' hy hS
   (wpAnyT_ordW hsel hQ hn l _ _ _ (inv.set hr' hin) (fun h => hS (set_other h)) hB' hK)
 | (i, 1) :: l, listed, a, w, inv, hS, hB, h => by
  simp only [Region.ordB, Bool.and_eq_true, decide_eq_true_eq] at hB
  obtain ⟨⟨⟨⟨⟨hr, hf⟩, hin⟩, hic⟩, hanc⟩, hB'⟩ := hB
  have hr' : i ∈ Region.ready md ops listed := by simpa using hr
  obtain ⟨oi, v, h0, hy, hK⟩ := h
  exact wpAnyT_firstW h0 (Region.noSelect_spec hsel) hQ hn hin hic (fun listed w inv hun hb => hb (by
    cases hl : listed.getD c false with
    | false => rfl
    | true => have := anc_listed inv 6 i hanc hl; rw [getD_both hun] at this; cases this)) (fun listed' a' w' hL => seqB_ready hL.1) l.length listed a w inv (Region.free_spec h0 hf) hr' hy hS
   (wpAnyT_ordW hsel hQ hn l _ _ _ (inv.set hr' hin) (fun h => hS (set_other h)) hB' hK)
 | (i, 2) :: l, listed, a, w, inv, hS, hB, h => by
  simp only [Region.ordB, Bool.and_eq_true, decide_eq_true_eq] at hB
  obtain ⟨⟨hr, hin⟩, hB'⟩ := hB
  refine ⟨fun h0 => (by rw [hr] at h0; cases h0), fun j hj => ?_⟩
  have hj' := hj
  rw [hr] at hj
  have hji : j = i := by simpa using hj
  subst hji
  have h1 : wpOp P ops Q j (fun a' w' => S w' ∧ wpOrd P ops Q S R l a' w') a w := h
  exact ⟨hin, wpOp_mono (fun a' w' h2 => ⟨fun _ => h2.1, wpAnyT_ordW hsel hQ hn l _ _ _ (inv.set hj' hin) (fun _ => h2.1) hB' h2.2⟩) h1⟩
 | (i, k + 3) :: l, listed, a, w, inv, hS, hB, h => by
  simp only [Region.ordB, Bool.and_eq_true, decide_eq_true_eq] at hB
  obtain ⟨⟨⟨hr, hin⟩, hcl⟩, hB'⟩ := hB
  refine ⟨fun h0 => (by rw [hr] at h0; cases h0), fun j hj => ?_⟩
  have hj' := hj
  rw [hr] at hj
  have hji : j = i := by simpa using hj
  subst hji
  have h1 : wpOp P ops Q j (fun a' w' => wpOrd P ops Q S R l a' w') a w := h
  have hno : ∀ w', Before c S (listed.setIfInBounds j true) w' := fun w' h => by rw [hcl] at h; cases h
  exact ⟨hin, wpOp_mono (fun a' w' h2 => ⟨hno w', wpAnyT_ordW hsel hQ hn l _ _ _ (inv.set hj' hin) (hno w') hB' h2⟩) h1⟩
theorem wp_region_ordW {id : Nat} {a : Act} {w : World} {l : List Oper} (n c : Nat) (ord : List (Nat × Nat)) (S : World → Prop) (hm : P.follows .mixedOrders = true) (hB : Region.regWB .any l.toArray n c ord = true) (hS : S w.drew)
  (hQ : ∀ c (a : Act) (d : Option Tmp) (v : Value) w, Q (.panic c) (a.put d v) w → Q (.panic c) a w)
  (h : wpOrd P l.toArray Q S (fun a' w' => Q .normal a' w') ord a w.drew) : (Code.region id l.toArray true).wp P Q a w := by
 simp only [Region.regWB, Bool.and_eq_true, decide_eq_true_eq] at hB
 obtain ⟨⟨⟨hsel, hn⟩, hol⟩, hlex⟩ := hB
 have inv0 : HeadInv .any l.toArray n (Array.replicate l.toArray.size false) :=
  ⟨by simp, fun j oj _ hl => (by rw [getD_replicate_false] at hl; cases hl), fun t _ ht => getD_in (by simpa using ht) (getD_replicate_false _ _)⟩
 have H := wpAnyT_ordW (md := .any) (g := 0) hsel hQ hn ord _ a _ inv0 (fun _ => hS) hlex h
 refine wp_region_any hm ?_
 have := wpAny_of_T (g := 0) (fun listed a' w' hL => by
  have hr : Region.ready .any l.toArray listed = [] := by simpa [Region.seqB] using hL.1
  exact wpAny_done (P := P) (Q := Q) hr hL.2 0) _ _ _ _ H
 rwa [Nat.add_zero, hol, hn] at this
end
inductive OrdT where
 | nil
 | one (i k : Nat) (r : OrdT)
 | fork (m : Nat) (r s : OrdT)
section
variable {P : Program} {ops : Array Oper} {md : Region.Mode} {Q : Exit → Act → World → Prop} {S : World → Prop}
end
def Asc (L : List Ver) : Prop := L.Pairwise fun a b => a.1 < b.1
def upto : List Ver → Int → Nat
 | [], _ => 0
 | a :: L, t => if a.1 ≤ t then upto L t + 1 else 0
theorem upto_le : ∀ (L : List Ver) (t : Int), upto L t ≤ L.length
 | [], _ => Nat.le_refl _
 | a :: L, t => by
  have := upto_le L t
  unfold upto
  split <;> simp <;> omega
theorem upto_lt : ∀ {L : List Ver} {t : Int} {i : Nat} (h : i < upto L t) (h2 : i < L.length), L[i].1 ≤ t
 | [], _, _, _, h2 => by simp at h2
 | a :: L, t, i, h, h2 => by
  unfold upto at h
  split at h
  ·rename_i hat
   match i, h, h2 with
   | 0, _, _ => exact hat
   | i + 1, h, h2 => exact upto_lt (L := L) (by omega) (by simpa using h2)
  ·omega
theorem upto_ge : ∀ {L : List Ver} {t : Int} (ha : Asc L) {i : Nat} (h1 : upto L t ≤ i) (h : i < L.length), t < L[i].1
 | [], _, _, _, _, h => by simp at h
 | a :: L, t, ha, i, h1, h => by
  have ha' := List.pairwise_cons.1 ha
  unfold upto at h1
  split at h1
  ·match i, h1, h with
   | 0, h1, _ => omega
   | i + 1, h1, h => exact upto_ge (L := L) ha'.2 (by omega) (by simpa using h)
  ·rename_i hat
   match i, h with
   | 0, _ => show t < a.1; omega
   | i + 1, h =>
    have hi : i < L.length := by simpa using h
    have := ha'.1 L[i] (List.getElem_mem hi)
    show t < L[i].1
    omega
set_option maxRecDepth 100000 in
set_option maxHeartbeats 1600000 in
theorem until1_any (b1 b2 g c i : Nat) (t : Int) (L : List Ver) (W : World) (hi : i < L.length) (hL : L.length ≤ 100000) (h1 : W.cell? ⟨b1, 0, none⟩ = some (.slice (some ⟨g, 0, none⟩) L.length c)) (h2 : W.cell? ⟨b2, 0, none⟩ = some (.int .i64 t)) (h3 : W.cell? ⟨g, i * 3, none⟩ = some (.int .i64 L[i].1)) :
  Calls Tryz.prog 105 #[.int .i64 i, .pointer (some ⟨b1, 0, none⟩), .pointer (some ⟨b2, 0, none⟩)] W fun e W' => e = .returned (.bool (decide (t < L[i].1))) ∧ ∃ q, W' = W.drewN q := by
 generalize L[i].1 = s at *
 go_enter Tryz.func105, Tryz.ntmps105
 go_wp2_with fail
 go_quiet (fail)
 go_wp2_with fail
 go_ret
 exact ⟨rfl, _, rfl⟩
set_option maxRecDepth 100000 in
set_option maxHeartbeats 3200000 in
theorem search_any (n r : Nat) (fv : Value) (p : Nat → Bool) (W : World) (hn : n ≤ 100000) (hr : r ≤ n) (hlo : ∀ i, i < r → p i = false) (hhi : ∀ i, r ≤ i → i < n → p i = true)
  (K : Nat) (cap cap2 : Array Value) (hfv : fv = .func (.func 105) #[] cap)
  (hc : ∀ i, i < n → ∀ q, Calls Tryz.prog 105 (#[.int .i64 i] ++ cap) (W.drewN q) fun e W' => e = .returned (.bool (p i)) ∧ ∃ q', W' = (W.drewN q).drewN q') :
  Calls Tryz.prog 104 #[.int .i64 n, fv] W fun e W' => e = .returned (.int .i64 r) ∧ ∃ q, W' = W.drewN q := by
 subst hfv
 have HC := Lib.hid hc
 have HP := Lib.hid (And.intro hlo hhi)
 clear hc hlo hhi
 go_enter Tryz.func104, Tryz.ntmps104
 go_wp2_with fail
 go_loopw [5, 6] (fun x y wr => ∃ i j q : Nat, i ≤ r ∧ r ≤ j ∧ j ≤ n ∧ x = .int .i64 i ∧ y = .int .i64 j ∧ wr = W.drewN q) (fun x y _ => (intOf y - intOf x).toNat)
 case atStart => exact ⟨0, n, 0, Nat.zero_le _, hr, Nat.le_refl _, rfl, rfl, rfl⟩
 case round =>
  obtain ⟨i, j, q, h1, h2, h3, rfl, rfl, rfl⟩ := hrel
  by_cases hlt : i < j
  ·obtain ⟨h, hh⟩ : ∃ h, h = (i + j) / 2 := ⟨_, rfl⟩
   have hhi : i ≤ h := by omega
   have hhj : h < j := by omega
   have w1 : IntKind.i64.wrap ((i : Int) + (j : Int)) = ((i + j : Nat) : Int) := by rw [IntKind.wrap_i64]; omega
   have e : ((i : Int) + (j : Int)) / 2 = (h : Int) := by omega
   have HE := Lib.hid e
   clear e hh
   cases hp : p h with
   | true =>
    have hrh : r ≤ h := by
     rcases Nat.lt_or_ge h r with h4 | h4
     ·have := HP.out.1 h h4; rw [hp] at this; cases this
     ·exact h4
    have HPH := Lib.hid hp
    clear hp
    go_wp2_with fail
    rw [HE.out]
    refine (HC.out h (by omega) q).mono ?_
    rintro e w2 ⟨rfl, q', rfl⟩
    rw [HPH.out]
    go_wp2_with fail
    go_roundw
    case rel => exact ⟨i, h, q + q', h1, hrh, by omega, rfl, rfl, by simp [World.drewN_drewN]⟩
    case measure => simp [intOf]; omega
   | false =>
    have hrh : h + 1 ≤ r := by
     rcases Nat.lt_or_ge h r with h4 | h4
     ·omega
     ·have := HP.out.2 h h4 (by omega); rw [hp] at this; cases this
    have HPH := Lib.hid hp
    clear hp
    go_wp2_with fail
    rw [HE.out]
    refine (HC.out h (by omega) q).mono ?_
    rintro e w2 ⟨rfl, q', rfl⟩
    rw [HPH.out]
    go_wp2_with fail
    go_roundw
    case rel => exact ⟨h + 1, j, q + q', hrh, h2, h3, by go_num, rfl, by simp [World.drewN_drewN]⟩
    case measure => simp [intOf]; omega
  ·have hij : i = r := by omega
   subst hij
   go_wp2_with fail
   go_ret
   exact ⟨rfl, q, rfl⟩
def UntilOut (n : Nat) (W : World) (e : Ending) (W' : World) : Prop := e = .returned (.int .i64 n) ∧ Below W.heap.size W W'
set_option maxRecDepth 100000 in
set_option maxHeartbeats 1600000 in
theorem until_any (v : Value) (L : List Ver) (t : Int) (W : World) (hv : VrAt W v L) (ha : Asc L) (hL : L.length ≤ 100000) :
  Calls Tryz.prog 92 #[v, .int .i64 t] W (UntilOut (upto L t) W) := by
 have HV := Lib.hid hv
 have HA := Lib.hid ha
 obtain ⟨va, vc, rfl⟩ : ∃ a c, v = .slice a L.length c := by
  rcases hv with ⟨rfl, rfl⟩ | ⟨g, c, rfl, _⟩
  ·exact ⟨none, 0, rfl⟩
  ·exact ⟨_, _, rfl⟩
 have hb1 := Box.new W [.slice va L.length vc] 113
 have hb2 := Box.new (W.alloc (.cells #[.slice va L.length vc] 113)) [.int .i64 t] 3
 rw [World.size_alloc] at hb2
 have hbb : Below W.heap.size W ((W.alloc (.cells #[.slice va L.length vc] 113)).alloc (.cells #[.int .i64 t] 3)) := ((Below.refl _ W).alloc (Nat.le_refl _) _).alloc (by simp) _
 have HB := Lib.hid (And.intro (hb1.alloc (.cells #[.int .i64 t] 3)) (And.intro hb2 hbb))
 clear hv ha hb1 hb2 hbb
 go_enter Tryz.func92, Tryz.ntmps92
 go_wp2_with fail
 refine (search_any L.length (upto L t) _ (fun i => match L[i]? with | some x => decide (t < x.1) | none => true) _ hL (upto_le L t) (fun i hi => ?_) (fun i h1 h2 => ?_) 0 _ #[] rfl (fun i hi q => ?_)).mono ?_
 ·have h2 : i < L.length := Nat.lt_of_lt_of_le hi (upto_le L t)
  rw [List.getElem?_eq_getElem h2]
  exact decide_eq_false (Int.not_lt.2 (upto_lt hi h2))
 ·rw [List.getElem?_eq_getElem h2]
  exact decide_eq_true (upto_ge HA.out h1 h2)
 ·rw [List.getElem?_eq_getElem hi]
  rcases HV.out with ⟨_, h0⟩ | ⟨g, c, hve, _, _, hgl, hcell⟩
  ·rw [h0] at hi; simp at hi
  ·cases hve
   have hbx := HB.out.1.drewN q
   have hby := HB.out.2.1.drewN q
   exact until1_any _ _ g vc i t L _ hi hL (hbx.cell 0 _ rfl) (hby.cell 0 _ rfl) ((HB.out.2.2.cell (p := ⟨g, i * 3, none⟩) hgl).trans (hcell i hi).1)
 ·rintro e w2 ⟨rfl, q, rfl⟩
  go_wp2_with fail
  go_ret
  exact ⟨rfl, HB.out.2.2.trans ⟨rfl, rfl, rfl, Nat.le_refl _, fun _ _ => rfl⟩⟩
structure Sto (B : Nat) (W : World) (S m : Nat) (E : List En) (clock : Nat) : Prop where
 box : Boxed W S 116 (.map (some m))
 map : MapAt W m E clock
 ok : EnOK E clock
 rows : ∀ e ∈ E, VRow B W e.val e.vs ∧ e.vs ≠ [] ∧ Asc e.vs ∧ (∀ x ∈ e.vs, 1 ≤ x.1 ∧ x.1 ≤ 1099511627776) ∧ e.vs.length ≤ 5000
 apart : E.Pairwise fun a b => ∀ k, a.val.ownBlock = some k → b.val.ownBlock ≠ some k
 off : ∀ e ∈ E, ∀ k, e.val.ownBlock = some k → k ≠ S ∧ k ≠ m
 mS : m ≠ S
 bS : B ≤ S
 bm : B ≤ m
def Foot (S m : Nat) (E : List En) (k : Nat) : Prop := k = S ∨ k = m ∨ ∃ e ∈ E, e.val.ownBlock = some k
theorem Sto.foot {B S m clock : Nat} {W : World} {E : List En} (h : Sto B W S m E clock) {k : Nat} (hk : Foot S m E k) : B ≤ k ∧ k < W.heap.size := by
 rcases hk with rfl | rfl | ⟨e, he, hk⟩
 ·exact ⟨h.bS, h.box.lt⟩
 ·exact ⟨h.bm, h.map.lt⟩
 ·exact (h.rows e he).1.lt k hk
theorem Box.kept' {S : Nat → Prop} {W W' : World} {b : Nat} {cs : List Value} (h : Box W b cs) (hk : Kept S W W') (hS : ¬ S b) : Box W' b cs := by
 have e := hk.block b h.lt hS
 exact ⟨fun j v hv => by rw [World.cell?_of_block (a := ⟨b, 0 + j, none⟩) e]; exact h.rng j v hv, fun o => (World.frozen?_of_block (a := ⟨b, o, none⟩) e).trans (h.free o), Nat.lt_of_lt_of_le h.lt hk.size⟩
theorem boxed_kept {S : Nat → Prop} {W W' : World} {b : Nat} {t : TypeId} {v : Value} (h : Boxed W b t v) (hk : Kept S W W') (hS : ¬ S b) : Boxed W' b t v := (hk.block b h.lt hS).trans h
theorem Sto.kept {B S m clock : Nat} {W W' : World} {E : List En} {T : Nat → Prop} (h : Sto B W S m E clock) (hk : Kept T W W') (hT : ∀ k, Foot S m E k → ¬ T k) : Sto B W' S m E clock :=
 ⟨boxed_kept h.box hk (hT _ (.inl rfl)), h.map.kept hk (hT _ (.inr (.inl rfl))), h.ok, fun e he => ⟨(h.rows e he).1.kept hk (fun k hk2 => hT k (.inr (.inr ⟨e, he, hk2⟩))), (h.rows e he).2⟩, h.apart, h.off, h.mS, h.bS, h.bm⟩
theorem Sto.below {B S m clock : Nat} {W W' : World} {E : List En} (h : Sto B W S m E clock) (hb : Below W.heap.size W W') : Sto B W' S m E clock := h.kept (kept_below hb) (fun _ _ h => h)
theorem Sto.drew {B S m clock : Nat} {W : World} {E : List En} (h : Sto B W S m E clock) : Sto B W.drew S m E clock := h.below ⟨rfl, rfl, rfl, Nat.le_refl _, fun _ _ => rfl⟩
theorem Sto.drewN {B S m clock : Nat} {W : World} {E : List En} (h : Sto B W S m E clock) (q : Nat) : Sto B (W.drewN q) S m E clock := h.below ⟨rfl, rfl, rfl, Nat.le_refl _, fun _ _ => rfl⟩
theorem Sto.base {B B' S m clock : Nat} {W : World} {E : List En} (h : Sto B' W S m E clock) (hb : B ≤ B') : Sto B W S m E clock :=
 ⟨h.box, h.map, h.ok, fun e he => ⟨(h.rows e he).1.base hb, (h.rows e he).2⟩, h.apart, h.off, h.mS, Nat.le_trans hb h.bS, Nat.le_trans hb h.bm⟩
theorem Sto.row {B S m clock : Nat} {W : World} {E : List En} (h : Sto B W S m E clock) (k : Bs) : VRow B W (lkV E k) (lkL E k) ∧ Asc (lkL E k) ∧ (∀ x ∈ lkL E k, 1 ≤ x.1 ∧ x.1 ≤ 1099511627776) ∧ (lkL E k).length ≤ 5000 := by
 unfold lkV lkL
 cases hl : lkE E k with
 | none => exact ⟨VRow.nil B W, List.Pairwise.nil, (fun x hx => by cases hx), by simp⟩
 | some e =>
  have := h.rows e (lkE_mem hl).1
  exact ⟨this.1, this.2.2⟩
def lastT (L : List Ver) : Int := match L.getLast? with
 | some x => x.1
 | none => -1
theorem lastT_at {L : List Ver} (h : 0 < L.length) : lastT L = (L[L.length - 1]'(by omega)).1 := by
 unfold lastT
 rw [List.getLast?_eq_getElem?, List.getElem?_eq_getElem (by omega)]
set_option maxRecDepth 100000 in
set_option maxHeartbeats 1600000 in
theorem last_any (B S m clock : Nat) (E : List En) (k : Bs) (W : World) (h : Sto B W S m E clock) :
  Calls Tryz.prog 37 #[.pointer (some ⟨S, 0, none⟩), .string k] W fun e W' => e = .returned (.int .i64 (lastT (lkL E k))) ∧ W' = W := by
 have a0 := h.box.cell
 have hl := run_look h.map k
 obtain ⟨hr, _, _, hlen⟩ := h.row k
 clear h
 generalize lkL E k = L at *
 generalize lkV E k = v at *
 rcases Nat.eq_zero_or_pos L.length with h0 | h0
 ·have hL : L = [] := List.eq_nil_of_length_eq_zero h0
  subst hL
  obtain ⟨va, vc, rfl⟩ := hr.len
  clear hr
  go_enter Tryz.func37, Tryz.ntmps37
  go_wp2_with fail
  go_ret
  exact ⟨rfl, rfl⟩
 ·obtain ⟨g, c, rfl, h1, h2, h3, hc⟩ := hr.get h0
  have hla := lastT_at h0
  obtain ⟨j, hj⟩ : ∃ j, j = L.length - 1 := ⟨_, rfl⟩
  have hjl : j < L.length := by omega
  have c0 := (hc j hjl).1
  have hla' : lastT L = L[j].1 := by rw [hla]; simp only [hj]
  have HLA := Lib.hid hla'
  have hw : IntKind.i64.wrap ((L.length : Int) - 1) = (j : Int) := by rw [IntKind.wrap_i64]; omega
  have hne : ((L.length : Int) == 0) = false := beq_eq_false_iff_ne.2 (by omega)
  have hjp : (j : Int) < (L.length : Int) := by omega
  clear hla hla' hc hr hj h0
  generalize L[j].1 = s at *
  go_enter Tryz.func37, Tryz.ntmps37
  go_wp2_with fail
  go_ret
  exact ⟨by rw [HLA.out]; rfl, rfl⟩
def valAt (L : List Ver) (t : Int) : Option Bs := match L[upto L t - 1]? with
 | some x => if upto L t = 0 ∨ x.2.2 = true then none else some x.2.1
 | none => none
def GetOut (o : Option Bs) (W : World) (e : Ending) (W' : World) : Prop := e = .returned (.tuple #[.string (o.getD ⟨#[]⟩), .bool o.isSome]) ∧ Below W.heap.size W W'
set_option maxRecDepth 100000 in
set_option maxHeartbeats 1600000 in
theorem get_any (B S m clock : Nat) (E : List En) (k : Bs) (t : Int) (W : World) (h : Sto B W S m E clock) :
  Calls Tryz.prog 77 #[.pointer (some ⟨S, 0, none⟩), .string k, .int .i64 t] W (GetOut (valAt (lkL E k) t) W) := by
 have a0 := h.box.cell
 have hl := run_look h.map k
 obtain ⟨hr, hasc, _, hlen⟩ := h.row k
 clear h
 generalize lkL E k = L at *
 generalize lkV E k = v at *
 have HA := Lib.hid hasc
 have HR := Lib.hid hr
 have HU := Lib.hid (upto_le L t)
 obtain ⟨n, hn⟩ : ∃ n, n = upto L t := ⟨_, rfl⟩
 obtain ⟨va, vc, rfl⟩ := hr.len
 clear hr hasc
 have hU := until_any (.slice va L.length vc) L t W HR.out.at_ HA.out (by omega)
 rw [← hn] at hU
 have HUN := Lib.hid hU
 have HV := Lib.hid (rfl : valAt L t = valAt L t)
 clear hU
 by_cases h0 : n = 0
 ·have hv : valAt L t = none := by
   unfold valAt
   rw [← hn, h0]
   split <;> simp
  rw [hv]
  clear hv hn HV
  subst h0
  go_enter Tryz.func77, Tryz.ntmps77
  go_wp2_with fail
  refine HUN.out.mono ?_
  rintro e W1 ⟨rfl, hb⟩
  have HB := Lib.hid hb
  clear hb
  go_wp2_with fail
  go_ret2
  exact ⟨rfl, HB.out⟩
 ·have hnl : n ≤ L.length := by rw [hn]; exact upto_le L t
  obtain ⟨j, hj⟩ : ∃ j, j = n - 1 := ⟨_, rfl⟩
  have hjl : j < L.length := by omega
  obtain ⟨g, c, hve, _, hcx, hgl, hc⟩ := HR.out.get (by omega)
  cases hve
  obtain ⟨_, c1, c2⟩ := hc j hjl
  have hv : valAt L t = if L[j].2.2 = true then none else some L[j].2.1 := by
   unfold valAt
   rw [← hn, ← hj, List.getElem?_eq_getElem hjl]
   show (if n = 0 ∨ L[j].2.2 = true then none else some L[j].2.1) = _
   simp [h0]
  rw [hv]
  have hw : IntKind.i64.wrap ((n : Int) - 1) = (j : Int) := by rw [IntKind.wrap_i64]; omega
  have hne : ((n : Int) == 0) = false := beq_eq_false_iff_ne.2 (by omega)
  have hjp : (j : Int) < (L.length : Int) := by omega
  have hn0 : 0 < n := by omega
  clear hv hn hc HV hj h0 hnl
  generalize L[j].2.1 = s at *
  generalize L[j].2.2 = d at *
  obtain ⟨o, ho⟩ : ∃ o : Option Bs, o = if d = true then none else some s := ⟨_, rfl⟩
  rw [← ho]
  have HO := Lib.hid ho
  clear ho
  go_enter Tryz.func77, Tryz.ntmps77
  go_wp2_with fail
  refine HUN.out.mono ?_
  rintro e W1 ⟨rfl, hb⟩
  have e1 := (hb.cell (p := ⟨g, j * 3 + 1, none⟩) hgl).trans c1
  have e2 := (hb.cell (p := ⟨g, j * 3 + 2, none⟩) hgl).trans c2
  have HB := Lib.hid hb
  clear hb c1 c2 hl a0 HU HUN HR
  cases d with
  | true =>
   go_wp2_with fail
   go_ret2
   exact ⟨by rw [HO.out]; rfl, HB.out⟩
  | false =>
   go_wp2_with fail
   go_ret2
   exact ⟨by rw [HO.out]; rfl, HB.out⟩
set_option maxRecDepth 100000 in
theorem new_any (W : World) : Calls Tryz.prog 40 #[] W fun e W' => e = .returned (.pointer (some ⟨W.heap.size + 1, 0, none⟩)) ∧ Sto W.heap.size W' (W.heap.size + 1) W.heap.size [] 0 ∧ Below W.heap.size W W' := by
 have hmm := @run_makeMap Tryz.prog
 have hb := Boxed.new (W.alloc (Obj.map #[] 0)) 116 (Value.map (some W.heap.size))
 rw [World.size_alloc] at hb
 have hm : MapAt ((W.alloc (Obj.map #[] 0)).alloc (Obj.cells #[Value.map (some W.heap.size)] 116)) W.heap.size [] 0 := by
  show _ = some (Obj.map #[] 0)
  rw [heap_alloc_old _ _ (by simp)]
  exact heap_alloc_new W _
 have hbb : Below W.heap.size W ((W.alloc (Obj.map #[] 0)).alloc (Obj.cells #[Value.map (some W.heap.size)] 116)) := ((Below.refl _ W).alloc (Nat.le_refl _) _).alloc (by simp) _
 have HX := Lib.hid (And.intro hb (And.intro hm hbb))
 clear hb hm hbb
 go_enter Tryz.func40, Tryz.ntmps40
 go_wp2_with fail
 go_ret
 exact ⟨rfl, ⟨HX.out.1, HX.out.2.1, EnOK.nil 0, (fun e he => by cases he), List.Pairwise.nil, (fun e he => by cases he), by omega, by omega, Nat.le_refl _⟩, HX.out.2.2⟩
theorem infoV : (Tryz.prog.info? 118).map (fun i => (i.zero, i.size, i.bytes)) = some (some (.agg #[.int .i64 0, .string ⟨#[]⟩, .bool false]), 3, 32) := by kernel_rfl
def VSrc (W : World) (sv : Value) (x : Ver) : Prop := ∃ ad c, sv = .slice (some ad) 1 c ∧ ∀ j u, (verc x)[j]? = some u → W.cell? (ad.add j) = some u
theorem vsrc_new (W : World) (x : Ver) (t : TypeId) : VSrc (W.alloc (.cells (verc x).toArray t)) (.slice (some ⟨W.heap.size, 0, none⟩) 1 1) x :=
 ⟨_, _, rfl, fun j u hj => by rw [addr_add', Nat.zero_add]; exact (Box.new W (verc x) t).cell j u hj⟩
def ASide (a : Act) (x y : Nat) (v sv : Value) : Prop := a.eval (.tmp x) = v ∧ a.eval (.tmp y) = sv
theorem wp_appV {Q : Exit → Act → World → Prop} {K : Act → World → Prop} (x y B : Nat) (v sv : Value) (L : List Ver) (n : Ver) (d : Option Nat) (pos : String) (af) (a : Act) (W : World)
  (h : VRow B W v L) (hs : L.length ≤ 100000) (hB : B ≤ W.heap.size) (hsrc : VSrc W sv n) (hside : ASide a x y v sv)
  (hK : ∀ v' W', VRow B W' v' (L ++ [n]) → Kept (fun k => v.ownBlock = some k) W W' → (∀ k, v'.ownBlock = some k → v.ownBlock = some k ∨ W.heap.size ≤ k) → K (a.put d v') W') :
  Oper.wp Tryz.prog { dst := d, op := Op.call { callee := .builtin .append, args := #[.tmp x, .tmp y], argTypes := #[113, 113] }, type := 113, pos := pos, after := af, guard := none } a W K Q := by
 obtain ⟨hx, hy⟩ := hside
 obtain ⟨i9, hi9, hz0, hz1, hz2⟩ := info_parts infoV
 obtain ⟨ad, c, rfl, hc⟩ := hsrc
 obtain ⟨v', w', hr, h2, h3, _, h5⟩ := run_append_own_at (P := Tryz.prog) W B 113 113 118 i9 (.agg #[.int .i64 0, .string ⟨#[]⟩, .bool false]) 3 32 Tryz.underlying113 hi9 hz0 hz1 hz2 rfl (by decide) v L.length (vrv L) h ad 1 c (verc n) rfl hc (fun u hu => by simp [verc] at hu; rcases hu with rfl | rfl | rfl <;> rfl) (by unfold maxLen; omega) (by omega) hB
 unfold Oper.wp execOp
 simp only [resolve, invoke, builtin, Sem.run_bind, Sem.run_pure, Result.andThen_ok, List.map_toArray, List.map_cons, List.map_nil, hx, hy, hr]
 refine hK v' w' ?_ ⟨h3.os, h3.tape, h3.output, h3.size, fun k hk hs => h3.block k hk (fun e => hs e.symm)⟩ (fun k hk => ?_)
 ·show w'.ownsRow B _ 3 v' (L ++ [n]).length (vrv (L ++ [n]))
  rw [vrv_app, List.length_append]
  have e : vrv [n] = verc n := by simp [vrv]
  rw [e]
  exact h2
 ·rcases h5 with h5 | h5
  ·exact .inl (by rw [← h5]; exact hk)
  ·rw [h5] at hk; cases hk; exact .inr (Nat.le_refl _)
theorem Sto.c0 {B S m clock : Nat} {W : World} {E : List En} (h : Sto B W S m E clock) : W.cell? ⟨S, 0, none⟩ = some (.map (some m)) := h.box.cell
theorem Sto.off_key {B S m clock : Nat} {W : World} {E : List En} (h : Sto B W S m E clock) (k : Bs) : ∀ j, (lkV E k).ownBlock = some j → j ≠ S ∧ j ≠ m := by
 unfold lkV
 cases hl : lkE E k with
 | none => intro j hj; simp [Value.ownBlock] at hj
 | some e => exact h.off e (lkE_mem hl).1
theorem putE_mem {E : List En} {clock : Nat} {k : Bs} {val : Value} {vs : List Ver} (hn : (E.map (·.key)).Nodup) {x : En} (hx : x ∈ putE E clock k val vs) : (x ∈ E ∧ x.key ≠ k) ∨ (x.key = k ∧ x.val = val ∧ x.vs = vs) := by
 unfold putE at hx
 cases hl : lkE E k with
 | some e =>
  rw [hl] at hx
  obtain ⟨y, hy, rfl⟩ := List.mem_map.1 hx
  by_cases hk : y.key = k
  ·rw [if_pos hk]; exact .inr ⟨hk, rfl, rfl⟩
  ·rw [if_neg hk]; exact .inl ⟨hy, hk⟩
 | none =>
  rw [hl] at hx
  rcases List.mem_append.1 hx with hx | hx
  ·exact .inl ⟨hx, lkE_none hl x hx⟩
  ·rw [List.mem_singleton.1 hx]; exact .inr ⟨rfl, rfl, rfl⟩
theorem Sto.put {B S m clock : Nat} {W W' : World} {E : List En} {T : Nat → Prop} (h : Sto B W S m E clock) (hk : Kept T W W') (k : Bs) (val : Value) (vs : List Ver) (hT : ∀ j, T j → ∀ e ∈ E, e.key ≠ k → e.val.ownBlock ≠ some j) (hT2 : ∀ j, T j → j ≠ S ∧ j ≠ m)
  (hr : VRow B W' val vs) (hne : vs ≠ []) (ha : Asc vs) (hb : ∀ x ∈ vs, 1 ≤ x.1 ∧ x.1 ≤ 1099511627776) (hl : vs.length ≤ 5000) (ho : ∀ j, val.ownBlock = some j → j ≠ S ∧ j ≠ m ∧ ∀ e ∈ E, e.key ≠ k → e.val.ownBlock ≠ some j) :
  Sto B (setBlock W' m (.map (esOf (putE E clock k val vs)) (putC E clock k))) S m (putE E clock k val vs) (putC E clock k) := by
 have hm' : MapAt W' m E clock := h.map.kept hk (fun e => (hT2 m e).2 rfl)
 have hks : Kept (fun j => j = m) W' (setBlock W' m (.map (esOf (putE E clock k val vs)) (putC E clock k))) := setBlock_kept (Kept.refl _ W') m _ (.inl rfl)
 refine ⟨boxed_kept (boxed_kept h.box hk (fun e => (hT2 S e).1 rfl)) hks (fun e => h.mS e.symm), setBlock_at hm', h.ok.put k val vs, fun e he => ?_, ?_, fun e he j hj => ?_, h.mS, h.bS, h.bm⟩
 ·rcases putE_mem h.ok.keys he with ⟨he, hek⟩ | ⟨_, e2, e3⟩
  ·exact ⟨((h.rows e he).1.kept hk (fun j hj ht => hT j ht e he hek hj)).kept hks (fun j hj => (h.off e he j hj).2), (h.rows e he).2⟩
  ·rw [e2, e3]; exact ⟨hr.kept hks (fun j hj => (ho j hj).2.1), hne, ha, hb, hl⟩
 ·unfold putE
  cases hlk : lkE E k with
  | some e =>
   show (updE E k val vs).Pairwise _
   unfold updE
   have hkk : E.Pairwise fun a b => a.key ≠ b.key := by
    have := h.ok.keys
    unfold List.Nodup at this
    rwa [List.pairwise_map] at this
   refine List.pairwise_map.2 ((h.apart.and (hkk.and (List.pairwise_of_forall_mem_list (l := E) (r := fun a b => a ∈ E ∧ b ∈ E) (fun a ha b hb => ⟨ha, hb⟩)))).imp ?_)
   rintro a b ⟨hab, hne2, haE, hbE⟩ j hj hj2
   by_cases hak : a.key = k
   ·rw [if_pos hak] at hj
    by_cases hbk : b.key = k
    ·exact hne2 (by rw [hak, hbk])
    ·rw [if_neg hbk] at hj2; exact (ho j hj).2.2 b hbE hbk hj2
   ·rw [if_neg hak] at hj
    by_cases hbk : b.key = k
    ·rw [if_pos hbk] at hj2; exact (ho j hj2).2.2 a haE hak hj
    ·rw [if_neg hbk] at hj2; exact hab j hj hj2
  | none =>
   show (E ++ [⟨k, vs, val, clock⟩] : List En).Pairwise _
   rw [List.pairwise_append]
   refine ⟨h.apart, List.pairwise_singleton _ _, fun a ha b hb j hj hj2 => ?_⟩
   rw [List.mem_singleton.1 hb] at hj2
   exact (ho j hj2).2.2 a ha (lkE_none hlk a ha) hj
 ·rcases putE_mem h.ok.keys he with ⟨he, hek⟩ | ⟨_, e2, _⟩
  ·exact h.off e he j hj
  ·rw [e2] at hj; exact ⟨(ho j hj).1, (ho j hj).2.1⟩
theorem Sto.ne_own {B S m clock : Nat} {W : World} {E : List En} (h : Sto B W S m E clock) {x e : En} (hx : x ∈ E) (he : e ∈ E) (hne : x.key ≠ e.key) : ∀ j, x.val.ownBlock = some j → e.val.ownBlock ≠ some j := by
 obtain ⟨i, hi, rfl⟩ := List.mem_iff_getElem.1 hx
 obtain ⟨l, hl, rfl⟩ := List.mem_iff_getElem.1 he
 have hp := List.pairwise_iff_getElem.1 h.apart
 intro j h1 h2
 rcases Nat.lt_trichotomy i l with h3 | h3 | h3
 ·exact hp i l hi hl h3 j h1 h2
 ·subst h3; exact hne rfl
 ·exact hp l i hl hi h3 j h2 h1
theorem Sto.apart_key {B S m clock : Nat} {W : World} {E : List En} (h : Sto B W S m E clock) (k : Bs) : ∀ j, (lkV E k).ownBlock = some j → ∀ e ∈ E, e.key ≠ k → e.val.ownBlock ≠ some j := by
 unfold lkV
 cases hl : lkE E k with
 | none => intro j hj; simp [Value.ownBlock] at hj
 | some x => exact fun j hj e he hek => h.ne_own (lkE_mem hl).1 he (by rw [(lkE_mem hl).2]; exact fun e2 => hek e2.symm) j hj
theorem Sto.foot_key {B S m clock : Nat} {W : World} {E : List En} (h : Sto B W S m E clock) (k : Bs) : ∀ j, (lkV E k).ownBlock = some j → Foot S m E j := by
 unfold lkV
 cases hl : lkE E k with
 | none => intro j hj; simp [Value.ownBlock] at hj
 | some x => exact fun j hj => .inr (.inr ⟨x, (lkE_mem hl).1, hj⟩)
theorem asc_snoc {L : List Ver} {x : Ver} (h : Asc L) (hx : lastT L < x.1) : Asc (L ++ [x]) := by
 rcases Nat.eq_zero_or_pos L.length with h0 | h0
 ·rw [List.eq_nil_of_length_eq_zero h0]; exact List.pairwise_singleton _ _
 ·unfold Asc
  rw [List.pairwise_append]
  refine ⟨h, List.pairwise_singleton _ _, fun a ha b hb => ?_⟩
  rw [List.mem_singleton.1 hb]
  rw [lastT_at h0] at hx
  obtain ⟨i, hi, rfl⟩ := List.mem_iff_getElem.1 ha
  rcases Nat.lt_or_ge i (L.length - 1) with h2 | h2
  ·have := List.pairwise_iff_getElem.1 h i (L.length - 1) hi (by omega) h2
   omega
  ·have e : i = L.length - 1 := by omega
   subst e; exact hx
def Turned (B S m : Nat) (E : List En) (W : World) (W' : World) (E' : List En) (clock' : Nat) : Prop :=
 Sto B W' S m E' clock' ∧ (∀ j, Foot S m E' j → Foot S m E j ∨ W.heap.size ≤ j) ∧ Kept (Foot S m E) W W'
theorem turned_put {B S m clock : Nat} {W Wa w4 : World} {E : List En} {k : Bs} {v4 : Value} {vs : List Ver} (hq : Sto B Wa S m E clock) (hr : VRow B w4 v4 vs) (hk : Kept (fun j => (lkV E k).ownBlock = some j) Wa w4) (ho : ∀ j, v4.ownBlock = some j → (lkV E k).ownBlock = some j ∨ Wa.heap.size ≤ j)
  (hsz : W.heap.size ≤ Wa.heap.size) (hb : Below W.heap.size W Wa) (hne : vs ≠ []) (ha : Asc vs) (hx : ∀ x ∈ vs, 1 ≤ x.1 ∧ x.1 ≤ 1099511627776) (hl : vs.length ≤ 5000) :
  Turned B S m E W (setBlock w4 m (.map (esOf (putE E clock k v4 vs)) (putC E clock k))) (putE E clock k v4 vs) (putC E clock k) := by
 have hks : Kept (fun j => j = m) w4 (setBlock w4 m (.map (esOf (putE E clock k v4 vs)) (putC E clock k))) := setBlock_kept (Kept.refl _ w4) m _ (.inl rfl)
 refine ⟨hq.put hk k v4 vs (fun j hj e he hek => hq.apart_key k j hj e he hek) (fun j hj => hq.off_key k j hj) hr hne ha hx hl (fun j hj => ?_), fun j hj => ?_, ?_⟩
 ·rcases ho j hj with h | h
  ·exact ⟨(hq.off_key k j h).1, (hq.off_key k j h).2, hq.apart_key k j h⟩
  ·exact ⟨fun e => by have := hq.box.lt; omega, fun e => by have := hq.map.lt; omega, fun e he _ e2 => by have := ((hq.rows e he).1.lt j e2).2; omega⟩
 ·rcases hj with h | h | ⟨e, he, hj⟩
  ·exact .inl (.inl h)
  ·exact .inl (.inr (.inl h))
  ·rcases putE_mem hq.ok.keys he with ⟨he, _⟩ | ⟨_, e2, _⟩
   ·exact .inl (.inr (.inr ⟨e, he, hj⟩))
   ·rw [e2] at hj
    rcases ho j hj with h | h
    ·exact .inl (hq.foot_key k j h)
    ·exact .inr (by omega)
 ·have h1 : Kept (Foot S m E) W Wa := ⟨hb.os, hb.tape, hb.output, hb.size, fun j hj _ => hb.block j hj⟩
  exact (h1.trans hk (fun j hj => .inl (hq.foot_key k j hj))).trans hks (fun j hj => .inl (.inr (.inl hj)))
def AddOut (B S m : Nat) (E : List En) (clock : Nat) (k : Bs) (x : Ver) (W : World) (e : Ending) (W' : World) : Prop :=
 e = .returned (.int .i64 0) ∧ ∃ val, Turned B S m E W W' (putE E clock k val (lkL E k ++ [x])) (putC E clock k)
def BadOut (W : World) (e : Ending) (W' : World) : Prop := e = .returned (.int .i64 1) ∧ Below W.heap.size W W'
set_option maxRecDepth 100000 in
set_option maxHeartbeats 1600000 in
theorem add_bad (B S m clock : Nat) (E : List En) (k : Bs) (s : Int) (vl : Bs) (dl : Bool) (W : World) (h : Sto B W S m E clock) (hbad : s < 1 ∨ 1099511627776 < s ∨ s ≤ lastT (lkL E k)) :
  Calls Tryz.prog 66 #[.pointer (some ⟨S, 0, none⟩), .string k, .agg #[.int .i64 s, .string vl, .bool dl]] W (BadOut W) := by
 have hb5 := Box.new W [.int .i64 s, .string vl, .bool dl] 118
 have hbb : Below W.heap.size W (W.alloc (.cells #[.int .i64 s, .string vl, .bool dl] 118)) := (Below.refl _ W).alloc (Nat.le_refl _) _
 have HL := Lib.hid (fun q => last_any B S m clock E k _ ((h.below hbb).drewN q))
 have HB := Lib.hid hbb
 have HX := Lib.hid hb5
 clear hb5 hbb h
 obtain ⟨la, hla⟩ : ∃ la, la = lastT (lkL E k) := ⟨_, rfl⟩
 rw [← hla] at hbad HL
 clear hla
 have hfin : ∀ q, Below W.heap.size W ((W.alloc (.cells #[.int .i64 s, .string vl, .bool dl] 118)).drewN q) := fun q => HB.out.trans ⟨rfl, rfl, rfl, Nat.le_refl _, fun _ _ => rfl⟩
 have HF := Lib.hid hfin
 clear hfin
 by_cases h1 : s < 1
 ·have d1 : decide (s < 1) = true := decide_eq_true h1
  clear hbad h1
  go_enter Tryz.func66, Tryz.ntmps66
  go_wp2_with fail
  go_quiet (fail)
  go_wp2_with fail
  go_ret
  exact ⟨rfl, HF.out _⟩
 ·have d1 : decide (s < 1) = false := decide_eq_false h1
  by_cases h2 : 1099511627776 < s
  ·have d2 : decide (1099511627776 < s) = true := decide_eq_true h2
   clear hbad h1 h2
   go_enter Tryz.func66, Tryz.ntmps66
   go_wp2_with fail
   go_quiet (fail)
   go_wp2_with fail
   go_ret
   exact ⟨rfl, HF.out _⟩
  ·have d2 : decide (1099511627776 < s) = false := decide_eq_false h2
   have d3 : decide (s ≤ la) = true := decide_eq_true (by omega)
   clear hbad h1 h2
   go_enter Tryz.func66, Tryz.ntmps66
   go_wp2_with fail
   go_quiet ((go_at_call 37; refine Calls.quiet_of_same (HL.out _)))
   go_wp2_with fail
   go_ret
   exact ⟨rfl, HF.out _⟩
set_option maxRecDepth 100000 in
set_option maxHeartbeats 3200000 in
theorem add_ok (B S m clock : Nat) (E : List En) (k : Bs) (s : Int) (vl : Bs) (dl : Bool) (W : World) (h : Sto B W S m E clock) (hB : B ≤ W.heap.size) (h1 : ¬ s < 1) (h2 : ¬ 1099511627776 < s) (h3 : ¬ s ≤ lastT (lkL E k)) (hlen : (lkL E k).length + 1 ≤ 5000) :
  Calls Tryz.prog 66 #[.pointer (some ⟨S, 0, none⟩), .string k, .agg #[.int .i64 s, .string vl, .bool dl]] W (AddOut B S m E clock k (s, vl, dl) W) := by
 have hb5 := Box.new W [.int .i64 s, .string vl, .bool dl] 118
 have hbb : Below W.heap.size W (W.alloc (.cells #[.int .i64 s, .string vl, .bool dl] 118)) := (Below.refl _ W).alloc (Nat.le_refl _) _
 have HL := Lib.hid (fun q => last_any B S m clock E k _ ((h.below hbb).drewN q))
 have HH := Lib.hid h
 have HB := Lib.hid hbb
 have HX := Lib.hid hb5
 have HS3 := Lib.hid (And.intro h1 (And.intro h2 h3))
 clear hb5 hbb h
 obtain ⟨la, hla⟩ : ∃ la, la = lastT (lkL E k) := ⟨_, rfl⟩
 rw [← hla] at h3 HL
 have HLA := Lib.hid hla
 clear hla
 have d1 : decide (s < 1) = false := decide_eq_false h1
 have d2 : decide (1099511627776 < s) = false := decide_eq_false h2
 have d3 : decide (s ≤ la) = false := decide_eq_false h3
 clear h1 h2 h3
 go_enter Tryz.func66, Tryz.ntmps66
 go_wp2_with fail
 go_quiet ((go_at_call 37; refine Calls.quiet_of_same (HL.out _)))
 go_wp2_with fail
 clear d1 d2 d3 HL
 generalize hW2 : World.drewN _ _ = W2
 have hBe : Below (W.alloc (.cells #[.int .i64 s, .string vl, .bool dl] 118)).heap.size (W.alloc (.cells #[.int .i64 s, .string vl, .bool dl] 118)) W2 := by rw [← hW2]; exact ⟨rfl, rfl, rfl, Nat.le_refl _, fun _ _ => rfl⟩
 clear hW2
 have HBE := Lib.hid (HB.out.trans (hBe.mono HB.out.size))
 have hS := HH.out.below HBE.out
 have HS := Lib.hid hS
 have hx2 := HX.out.keep hBe
 generalize hb5e : W.heap.size = b5 at hx2 ⊢
 have HB5 := Lib.hid (show ¬ (lkV E k).ownBlock = some b5 from fun e => by have := (HH.out.row k).1.lt _ e; omega)
 have HBW := Lib.hid (show B ≤ W2.heap.size from Nat.le_trans hB HBE.out.size)
 have c0 := hS.drew.c0
 have hm2 := hS.drew.map
 have c1 : W2.drew.cell? ⟨b5, 0, none⟩ = _ := hx2.cell 0 _ rfl
 have c2 : W2.drew.cell? ⟨b5, 1, none⟩ = _ := hx2.cell 1 _ rfl
 have c3 : W2.drew.cell? ⟨b5, 2, none⟩ = _ := hx2.cell 2 _ rfl
 have hbl : b5 < W2.drew.heap.size := hx2.lt
 have HRW := Lib.hid ((hS.drew.kept ((Kept.refl (fun _ => False) W2.drew).alloc (.cells #[.int .i64 s, .string vl, .bool dl] 118)) (fun _ _ h => h)).row k).1
 clear hS hx2 hBe hb5e
 refine wp_region_ordW 15 14 [(0, 0), (1, 0), (2, 0), (3, 1), (4, 0), (5, 0), (6, 0), (7, 0), (8, 1), (9, 0), (10, 1), (11, 1), (12, 2), (13, 2), (14, 3)] (fun X => X.cell? ⟨S, 0, none⟩ = some (.map (some m)) ∧ MapAt X m E clock ∧ X.cell? ⟨b5, 0, none⟩ = some (.int .i64 s) ∧ X.cell? ⟨b5, 1, none⟩ = some (.string vl) ∧ X.cell? ⟨b5, 2, none⟩ = some (.bool dl)) (by kernel_rfl) (by kernel_rfl) ⟨c0, hm2, c1, c2, c3⟩ (fun c a d v w h => by cases d <;> exact h) ?_
 apply wpOrd_read0
 case hi => rfl
 case hw => rfl
 case hy => (intro w; go_simp; try rfl)
 intro K hK; go_simp; refine hK _ _ ?_; clear hK K
 apply wpOrd_read0
 case hi => rfl
 case hw => rfl
 case hy => (intro w; go_simp; try rfl)
 intro K hK; go_simp; refine hK _ _ ?_; clear hK K
 apply wpOrd_read0
 case hi => rfl
 case hw => rfl
 case hy => (intro w; go_simp; try rfl)
 intro K hK; go_simp; refine hK _ _ ?_; clear hK K
 apply wpOrd_read1
 case hi => rfl
 case hw => rfl
 case hy => (intro w hw; obtain ⟨h1, h2, h3, h4, h5⟩ := hw; go_simp; try rfl)
 intro K hK; go_simp; refine hK _ _ ?_; clear hK K
 apply wpOrd_read0
 case hi => rfl
 case hw => rfl
 case hy => (intro w; go_simp; try rfl)
 intro K hK; go_simp; refine hK _ _ ?_; clear hK K
 apply wpOrd_read0
 case hi => rfl
 case hw => rfl
 case hy => (intro w; go_simp; try rfl)
 intro K hK; go_simp; refine hK _ _ ?_; clear hK K
 apply wpOrd_read0
 case hi => rfl
 case hw => rfl
 case hy => (intro w; go_simp; try rfl)
 intro K hK; go_simp; refine hK _ _ ?_; clear hK K
 apply wpOrd_read0
 case hi => rfl
 case hw => rfl
 case hy => (intro w; go_simp; try rfl)
 intro K hK; go_simp; refine hK _ _ ?_; clear hK K
 apply wpOrd_read1
 case hi => rfl
 case hw => rfl
 case hy => (intro w hw; obtain ⟨h1, h2, h3, h4, h5⟩ := hw; go_simp; try rfl)
 intro K hK; go_simp; refine hK _ _ ?_; clear hK K
 apply wpOrd_read0
 case hi => rfl
 case hw => rfl
 case hy => (intro w; go_simp; try rfl)
 intro K hK; go_simp; refine hK _ _ ?_; clear hK K
 apply wpOrd_read1
 case hi => rfl
 case hw => rfl
 case hy => (intro w hw; have hlk := run_look hw.2.1 k; go_simp; try rfl)
 intro K hK; go_simp; refine hK _ _ ?_; clear hK K
 apply wpOrd_read1
 case hi => rfl
 case hw => rfl
 case hy => (intro w hw; obtain ⟨h1, h2, h3, h4, h5⟩ := hw; go_simp; try rfl)
 intro K hK; go_simp; refine hK _ _ ?_; clear hK K
 apply wpOrd_eff2
 case hi => rfl
 case hw => rfl
 intro K hK
 go_simp
 refine hK _ _ ⟨ca (W := W2.drew) HS.out.drew.box.lt c0, hm2.kept ((Kept.refl (fun _ => False) W2.drew).alloc _) (fun h => h), ca (W := W2.drew) hbl c1, ca (W := W2.drew) hbl c2, ca (W := W2.drew) hbl c3⟩ ?_
 clear hK K
 apply wpOrd_eff2
 case hi => rfl
 case hw => rfl
 intro K hK
 refine wp_appV 35 37 B (lkV E k) (.slice (some ⟨W2.heap.size, 0, none⟩) 1 1) (lkL E k) (s, vl, dl) _ _ _ _ _ HRW.out (by omega) (Nat.le_trans HBW.out (by simp)) (vsrc_new W2.drew _ _) ⟨rfl, rfl⟩ ?_
 intro v4 w4 hr4 hk4 ho4
 have HX := Lib.hid (And.intro hr4 (And.intro hk4 ho4))
 have q1 : Sto B (W2.drew.alloc (.cells #[.int .i64 s, .string vl, .bool dl] 118)) S m E clock := HS.out.drew.kept ((Kept.refl (fun _ => False) W2.drew).alloc _) (fun _ _ h => h)
 have hoff := q1.off_key k
 have m4 := q1.map.kept hk4 (fun h => (hoff m h).2 rfl)
 refine hK _ _ ⟨cell_kept2 hk4 q1.box.lt (fun h => (hoff S h).1 rfl) q1.c0, m4, cell_kept2 hk4 (Nat.lt_of_lt_of_le hbl (by simp)) HB5.out (ca (W := W2.drew) hbl c1), cell_kept2 hk4 (Nat.lt_of_lt_of_le hbl (by simp)) HB5.out (ca (W := W2.drew) hbl c2), cell_kept2 hk4 (Nat.lt_of_lt_of_le hbl (by simp)) HB5.out (ca (W := W2.drew) hbl c3)⟩ ?_
 clear hK K
 have HQ1 := Lib.hid q1
 have hup := run_upd m4 q1.ok.keys k v4 (lkL E k ++ [(s, vl, dl)])
 clear hr4 hk4 ho4 q1 hoff
 apply wpOrd_eff3
 case hi => rfl
 case hw => rfl
 intro K hK
 go_simp
 refine hK _ _ (wpOrd_nil ?_)
 clear hK K
 try clear c0 hm2 c1 c2 c3 hbl hup m4
 go_wp2_with fail
 go_ret
 exact ⟨rfl, v4, turned_put HQ1.out HX.out.1 HX.out.2.1 HX.out.2.2 (by have := HBE.out.size; simp; omega) (HBE.out.drew.alloc HBE.out.size _) (by simp) (asc_snoc (HH.out.row k).2.1 (by have := HS3.out; omega)) (fun x hx => by
  rcases List.mem_append.1 hx with hx | hx
  ·exact (HH.out.row k).2.2.1 x hx
  ·rw [List.mem_singleton.1 hx]; have := HS3.out; exact ⟨by show 1 ≤ s; omega, by show s ≤ 1099511627776; omega⟩) (by rw [List.length_append]; exact hlen)⟩
set_option maxRecDepth 100000 in
theorem put_of (S : Nat) (k vl : Bs) (s : Int) (W : World) (n : Int) (R : World → Prop) (h : Calls Tryz.prog 66 #[.pointer (some ⟨S, 0, none⟩), .string k, .agg #[.int .i64 s, .string vl, .bool false]] W fun e W' => e = .returned (.int .i64 n) ∧ R W') :
  Calls Tryz.prog 42 #[.pointer (some ⟨S, 0, none⟩), .string k, .string vl, .int .i64 s] W fun e W' => e = .returned (.int .i64 n) ∧ R W' := by
 have H := Lib.hid h
 clear h
 go_enter Tryz.func42, Tryz.ntmps42
 go_wp2_with fail
 refine H.out.mono ?_
 rintro e W1 ⟨rfl, hR⟩
 have HR := Lib.hid hR
 clear hR H
 go_wp2_with fail
 go_ret
 exact ⟨rfl, HR.out⟩
set_option maxRecDepth 100000 in
theorem del_of (S : Nat) (k : Bs) (s : Int) (W : World) (n : Int) (R : World → Prop) (h : Calls Tryz.prog 66 #[.pointer (some ⟨S, 0, none⟩), .string k, .agg #[.int .i64 s, .string ⟨#[]⟩, .bool true]] W fun e W' => e = .returned (.int .i64 n) ∧ R W') :
  Calls Tryz.prog 41 #[.pointer (some ⟨S, 0, none⟩), .string k, .int .i64 s] W fun e W' => e = .returned (.int .i64 n) ∧ R W' := by
 have H := Lib.hid h
 clear h
 go_enter Tryz.func41, Tryz.ntmps41
 go_wp2_with fail
 refine H.out.mono ?_
 rintro e W1 ⟨rfl, hR⟩
 have HR := Lib.hid hR
 clear hR H
 go_wp2_with fail
 go_ret
 exact ⟨rfl, HR.out⟩
def IterAt (W : World) (r m since : Nat) (seen : Array Nat) (last : Nat) : Prop := W.heap[r]? = some (.mapIter (some m) since seen last)
theorem IterAt.lt {W : World} {r m since last : Nat} {seen : Array Nat} (h : IterAt W r m since seen last) : r < W.heap.size := (Array.getElem?_eq_some_iff.1 h).1
theorem IterAt.kept {S : Nat → Prop} {W W' : World} {r m since last : Nat} {seen : Array Nat} (h : IterAt W r m since seen last) (hk : Kept S W W') (hS : ¬ S r) : IterAt W' r m since seen last := (hk.block r h.lt hS).trans h
theorem run_range_E {W : World} {m clock : Nat} {E : List En} (h : MapAt W m E clock) :
  (Instr.range 114 (.map (some m))).run Tryz.prog W = .ok (.pointer (some ⟨W.heap.size, 0, none⟩)) (W.alloc (.mapIter (some m) clock #[] clock)) :=
 run_range_map W _ 9 113 m (esOf E) clock Tryz.underlying114 h
theorem run_next_E {W : World} {m r clock since last : Nat} {seen : Array Nat} {E : List En} (hm : MapAt W m E clock) (hr : IterAt W r m since seen last) (hold : ∀ e ∈ E, e.born < since) (hsl : since ≤ last) (ty : TypeId) :
  ((∀ e ∈ E, seen.contains e.born = true) ∧ (Instr.next (.pointer (some ⟨r, 0, none⟩)) false ty).run Tryz.prog W = .ok (.tuple #[.bool false]) W) ∨
  ∃ e ∈ E, seen.contains e.born = false ∧ ∃ W1, (W1 = W ∨ W1 = W.drew) ∧ (Instr.next (.pointer (some ⟨r, 0, none⟩)) false ty).run Tryz.prog W = .ok (.tuple #[.bool true, .string e.key, e.val]) (setBlock W1 r (.mapIter (some m) since (seen.push e.born) clock)) := by
 have hold' : ∀ x ∈ (esOf E).toList, x.born < since := fun x hx => by
  rw [esOf_list] at hx
  obtain ⟨e, he, rfl⟩ := List.mem_map.1 hx
  exact hold e he
 have hm' : W.heap[m]? = some (.map (esOf E) clock) := hm
 have hr' : W.heap[r]? = some (.mapIter (some m) since seen last) := hr
 simp only [Instr.next, getObj, Sem.run_bind, Sem.run, hr', hm', Result.andThen, next_test_false seen (esOf E) since last hold' hsl, Bool.false_eq_true, if_false]
 have hmem : ∀ x ∈ (Array.filter (fun e => !seen.contains e.born) (esOf E)).toList, x.born < since := fun x hx => hold' x (by simp at hx ⊢; exact hx.1)
 have hin : ∀ x ∈ (Array.filter (fun e => !seen.contains e.born) (esOf E)).toList, ∃ e ∈ E, x = e.entry ∧ seen.contains e.born = false := fun x hx => by
  have h1 := Array.mem_filter.1 (Array.mem_toList_iff.1 hx)
  have h2 : x ∈ (esOf E).toList := Array.mem_toList_iff.2 h1.1
  rw [esOf_list] at h2
  obtain ⟨e, he, rfl⟩ := List.mem_map.1 h2
  exact ⟨e, he, rfl, by simpa [En.entry] using h1.2⟩
 have hall : (Array.filter (fun e => !seen.contains e.born) (esOf E)).size = 0 → ∀ e ∈ E, seen.contains e.born = true := fun h0 e he => by
  cases hc : seen.contains e.born with
  | true => rfl
  | false =>
   have h1 : e.entry ∈ Array.filter (fun e => !seen.contains e.born) (esOf E) := Array.mem_filter.2 ⟨Array.mem_toList_iff.1 (by rw [esOf_list]; exact List.mem_map.2 ⟨e, he, rfl⟩), by simpa [En.entry] using hc⟩
   rw [Array.eq_empty_of_size_eq_zero h0] at h1
   cases h1
   contradiction
 generalize Array.filter (fun e => !seen.contains e.born) (esOf E) = L at hmem hin hall ⊢
 have e1 : L.filter (fun x => decide (x.born < since)) = L := Array.filter_eq_self.2 (fun x hx => by simpa using hmem x (by simpa using hx))
 have e2 : L.filter (fun x => decide (x.born ≥ since)) = #[] := by
  rw [Array.filter_eq_empty_iff]
  intro x hx
  have := hmem x (by simpa using hx)
  simp
  omega
 simp only [e1, e2, Array.append_empty]
 by_cases h0 : L.size = 0
 ·left
  refine ⟨hall h0, ?_⟩
  have : L = #[] := Array.eq_empty_of_size_eq_zero h0
  subst this
  simp [choose, Sem.run, Question.forced]
 ·right
  have hne : L.isEmpty = false := by simp [Array.isEmpty, h0]
  simp only [hne, Bool.false_eq_true, if_false, Array.empty_append, Array.size_map]
  have hch : ∃ (j : Nat) (W1 : World), j < L.size ∧ (W1 = W ∨ W1 = W.drew) ∧ (choose (Question.mapNext L.size)).run Tryz.prog W = .ok j W1 := by
   by_cases hf : L.size ≤ 1
   ·exact ⟨0, W, by omega, .inl rfl, by simp [choose, Sem.run, Question.forced, hf]⟩
   ·exact ⟨_, W.drew, Nat.mod_lt _ (by omega), .inr rfl, by
     simp only [choose, Sem.run, Question.forced, decide_eq_true_eq, hf, if_false, Question.cut]
     rfl⟩
  obtain ⟨j, W1, hj, hal, hrun⟩ := hch
  obtain ⟨e, he, hLe, hse⟩ := hin L[j] (by simp)
  refine ⟨e, he, hse, W1, hal, ?_⟩
  have hr1 : W1.heap[r]? = some (.mapIter (some m) since seen last) := by rcases hal with rfl | rfl <;> exact hr
  have hset : ∀ (o' : Obj), (setObj r o').run Tryz.prog W1 = .ok () (setBlock W1 r o') := fun o' => by
   simp only [setObj, Sem.run, hr1]
   rfl
  simp only [hrun, Array.getElem?_map, Array.getElem?_eq_getElem hj, Option.map_some, Sem.run_bind, hset, Result.andThen, hLe]
  rfl
theorem run_entry_E {W : World} {m r clock since : Nat} {seen : Array Nat} {E : List En} {e : En} (hm : MapAt W m E clock) (hr : IterAt W r m since (seen.push e.born) clock) (he : e ∈ E) (hn : (E.map (·.born)).Nodup) :
  (Instr.entry (.pointer (some ⟨r, 0, none⟩))).run Tryz.prog W = .ok (.tuple #[.string e.key, e.val]) W := by
 have hm' : W.heap[m]? = some (.map (esOf E) clock) := hm
 have hr' : W.heap[r]? = some (.mapIter (some m) since (seen.push e.born) clock) := hr
 have hf : (esOf E).find? (·.born == e.entry.born) = some e.entry := by
  rw [← Array.find?_toList]
  refine find_born e.entry _ ?_ ?_
  ·rw [esOf_list, List.map_map]; exact hn
  ·rw [esOf_list]; exact List.mem_map.2 ⟨e, he, rfl⟩
 have hf' : (esOf E).find? (·.born == e.born) = some e.entry := hf
 simp only [Instr.entry, getObj, Sem.run_bind, Sem.run, hr', hm', Result.andThen, Array.back?_push, bne_self_eq_false, Bool.false_eq_true, if_false, hf']
 rfl
def seenN : List En → Array Nat → (En → Nat) → Nat
 | [], _, _ => 0
 | e :: E, s, f => (if s.contains e.born then f e else 0) + seenN E s f
theorem seenN_other (f : En → Nat) (s : Array Nat) (b : Nat) : ∀ (E : List En), b ∉ E.map (·.born) → seenN E (s.push b) f = seenN E s f
 | [], _ => rfl
 | x :: E, h => by
  have hx : (x.born == b) = false := by
   cases hc : x.born == b with
   | false => rfl
   | true => exact absurd (List.mem_cons.2 (.inl (beq_iff_eq.1 hc).symm)) h
  simp only [seenN, contains_push, hx, Bool.or_false, seenN_other f s b E (fun e => h (List.mem_cons.2 (.inr e)))]
theorem seenN_push (f : En → Nat) (s : Array Nat) (e : En) (hs : s.contains e.born = false) : ∀ (E : List En), (E.map (·.born)).Nodup → e ∈ E → seenN E (s.push e.born) f = seenN E s f + f e
 | x :: E, hn, he => by
  have hn' := List.nodup_cons.1 hn
  rcases List.mem_cons.1 he with rfl | he
  ·simp only [seenN, contains_push, hs, beq_self_eq_true, Bool.or_true, if_true, Bool.false_eq_true, if_false, seenN_other f s _ E hn'.1]
   omega
  ·have hne : (x.born == e.born) = false := by
    cases hc : x.born == e.born with
    | false => rfl
    | true => exact absurd (List.mem_map.2 ⟨e, he, (beq_iff_eq.1 hc).symm⟩) hn'.1
   simp only [seenN, contains_push, hne, Bool.or_false, seenN_push f s e hs E hn'.2 he]
   omega
theorem seenN_le (f : En → Nat) (s : Array Nat) : ∀ (E : List En), seenN E s f ≤ (E.map f).sum
 | [] => Nat.le_refl _
 | x :: E => by
  have := seenN_le f s E
  simp only [seenN, List.map_cons, List.sum_cons]
  split <;> omega
def unseen (E : List En) (s : Array Nat) : Nat := E.length - seenN E s (fun _ => 1)
theorem unseen_push (E : List En) (s : Array Nat) (e : En) (hs : s.contains e.born = false) (hn : (E.map (·.born)).Nodup) (he : e ∈ E) : unseen E (s.push e.born) < unseen E s := by
 have h1 := seenN_push (fun _ => 1) s e hs E hn he
 have h2 := seenN_le (fun _ => 1) (s.push e.born) E
 have h3 : (E.map (fun _ => 1)).sum = E.length := by
  clear h1 h2 he hn
  induction E with
  | nil => rfl
  | cons a E ih => simp only [List.map_cons, List.sum_cons, ih, List.length_cons]; omega
 unfold unseen
 omega
theorem iterSeen_at {W : World} {r m since last : Nat} {seen : Array Nat} (h : IterAt W r m since seen last) : W.iterSeen r = seen := by
 unfold World.iterSeen
 rw [show W.heap[r]? = _ from h]
theorem iter_set {W : World} {r m since last m' since' last' : Nat} {seen seen' : Array Nat} (h : IterAt W r m since seen last) : IterAt (setBlock W r (.mapIter (some m') since' seen' last')) r m' since' seen' last' := setBlock_at h
theorem iter_drew {W W1 : World} {r m since last : Nat} {seen : Array Nat} (h : IterAt W r m since seen last) (hw : W1 = W ∨ W1 = W.drew) : IterAt W1 r m since seen last := by rcases hw with rfl | rfl <;> exact h
theorem kept_drew' {S : Nat → Prop} {W W1 W2 : World} (h : Kept S W W1) (hw : W2 = W1 ∨ W2 = W1.drew) : Kept S W W2 := by rcases hw with rfl | rfl; exact h; exact h.drew
def total (E : List En) : Nat := (E.map fun e => e.vs.length).sum
open Go.Shelf
theorem nodup_inj {α β : Type} {g : α → β} {E : List α} (hn : (E.map g).Nodup) {a b : α} (ha : a ∈ E) (hb : b ∈ E) (h : g a = g b) : a = b := by
 obtain ⟨i, hi, rfl⟩ := List.mem_iff_getElem.1 ha
 obtain ⟨j, hj, rfl⟩ := List.mem_iff_getElem.1 hb
 have := (List.getElem_inj (xs := E.map g) (h₀ := by simpa using hi) (h₁ := by simpa using hj) hn).1 (by simpa using h)
 subst this
 rfl
def sw (f : List Ver → List Ver) (seen : Array Nat) (e : En) : List Ver := if seen.contains e.born then f e.vs else e.vs
structure Swp (E E' : List En) (f : List Ver → List Ver) (seen : Array Nat) : Prop where
 back : ∀ e' ∈ E', ∃ e ∈ E, e'.key = e.key ∧ e'.born = e.born ∧ e'.vs = sw f seen e
 forth : ∀ e ∈ E, sw f seen e ≠ [] → ∃ e' ∈ E', e'.key = e.key ∧ e'.born = e.born ∧ e'.vs = sw f seen e
section
variable {E E' : List En} {f : List Ver → List Ver} {seen : Array Nat} {c : Nat}
end
structure SW (B S m r clock : Nat) (E : List En) (f : List Ver → List Ver) (W : World) (si ss : Array Nat) (E' : List En) (X : World) : Prop where
 sto : Sto B X S m E' clock
 it : IterAt X r m clock si clock
 swp : Swp E E' f ss
 foot : ∀ j, Foot S m E' j → (Foot S m E j ∨ W.heap.size ≤ j) ∧ j ≠ r
 kept : Kept (Foot S m E) W X
 rW : r = W.heap.size
section
variable {B S m r clock : Nat} {E E' : List En} {f : List Ver → List Ver} {W X X' : World} {si ss : Array Nat}
theorem lkE_of_mem {E : List En} (hn : (E.map (·.key)).Nodup) {e : En} (he : e ∈ E) : lkE E e.key = some e := by
 cases hl : lkE E e.key with
 | none => exact absurd rfl (lkE_none hl e he)
 | some y =>
  obtain ⟨h1, h2⟩ := lkE_mem hl
  rw [nodup_inj hn h1 he h2]
end
structure Cpy (E EC : List En) (seen : Array Nat) : Prop where
 back : ∀ e' ∈ EC, ∃ e ∈ E, e'.key = e.key ∧ e'.vs = e.vs ∧ seen.contains e.born = true
 forth : ∀ e ∈ E, seen.contains e.born = true → ∃ e' ∈ EC, e'.key = e.key ∧ e'.vs = e.vs
structure CW (B0 S m r clock C mc : Nat) (E : List En) (W : World) (seen : Array Nat) (EC : List En) (cc : Nat) (X : World) : Prop where
 cpy : Cpy E EC seen
 sto : Sto B0 X C mc EC cc
 it : IterAt X r m clock seen clock
 b : Below W.heap.size W X
 rr : W.heap.size ≤ r
 off : ∀ j, Foot C mc EC j → j ≠ r
open Go.Sort
def KRow (B : Nat) (W : World) (v : Value) (ks : List Bs) : Prop := W.ownsRow B 9 1 v ks.length (ks.map Value.string)
theorem KRow.nil (B : Nat) (W : World) : KRow B W (.slice none 0 0) [] := World.ownsRow_nil _ _ _ _
theorem KRow.len {B : Nat} {W : World} {v : Value} {ks : List Bs} (h : KRow B W v ks) : ∃ a c, v = .slice a ks.length c := by
 rcases h.2 with ⟨rfl, h1⟩ | ⟨g, c, cur, rfl, _⟩
 ·rw [h1]; exact ⟨none, 0, rfl⟩
 ·exact ⟨_, _, rfl⟩
theorem KRow.lt {B : Nat} {W : World} {v : Value} {ks : List Bs} (h : KRow B W v ks) : ∀ k, v.ownBlock = some k → B ≤ k ∧ k < W.heap.size := World.ownsRow.lt h
theorem KRow.same {B : Nat} {W W' : World} {v : Value} {ks : List Bs} (h : KRow B W v ks) (hk : ∀ k, v.ownBlock = some k → W'.heap[k]? = W.heap[k]?) : KRow B W' v ks := by
 refine ⟨h.1, ?_⟩
 rcases h.2 with h1 | ⟨g, c, cur, rfl, h1, h2, h3⟩
 ·exact .inl h1
 ·exact .inr ⟨g, c, cur, rfl, h1, by rw [hk g rfl]; exact h2, h3⟩
theorem KRow.get {B : Nat} {W : World} {v : Value} {ks : List Bs} (h : KRow B W v ks) (h0 : 0 < ks.length) : ∃ g c cur, v = .slice (some ⟨g, 0, none⟩) ks.length c ∧ ks.length ≤ c ∧ c ≤ 9223372036854775807 ∧ W.heap[g]? = some (.cells cur 9 (0, 0)) ∧ B ≤ g ∧ ∀ j (h : j < ks.length), W.cell? ⟨g, j, none⟩ = some (.string ks[j]) := by
 have h0' : W.ownsRow B 9 1 v ks.length (ks.map Value.string) := h
 rcases h.2 with ⟨_, h1⟩ | ⟨g, c, cur, rfl, h1, h2, h3, h4, h5, h6⟩
 ·omega
 ·refine ⟨g, c, cur, rfl, h3, by unfold maxLen at h4; omega, h2, h1, fun j hj => ?_⟩
  rw [h0'.cellAt j (by omega), List.getElem?_map, List.getElem?_eq_getElem hj]
  rfl
def toL (k : Bs) : List UInt8 := k.data.toList
def ofL (l : List UInt8) : Bs := ⟨l.toArray⟩
theorem ofL_toL (k : Bs) : ofL (toL k) = k := by cases k; simp [ofL, toL]
theorem toL_ofL (l : List UInt8) : toL (ofL l) = l := by simp [ofL, toL]
theorem keys_enc (ks : List Bs) : ks.map Value.string = (ks.map toL).map encStr := by
 rw [List.map_map]
 refine List.map_congr_left (fun k _ => ?_)
 show Value.string k = .string (ofL (toL k))
 rw [ofL_toL]
def sortB (ks : List Bs) : List Bs := ((ks.map toL).mergeSort fun x y => decide (x ≤ y)).map ofL
theorem sortB_perm (ks : List Bs) : (sortB ks).Perm ks := by
 have h := (List.mergeSort_perm (ks.map toL) (fun x y => decide (x ≤ y))).map ofL
 rw [List.map_map] at h
 have e : ks.map (ofL ∘ toL) = ks := by
  rw [show (ofL ∘ toL) = id from funext ofL_toL]; simp
 rwa [e] at h
theorem lB_toL (a b : Bs) : lB a b = decide (toL a < toL b) := by
 unfold lB toL
 rw [bytesLess_eq, ByteArray.toList_eq, ByteArray.toList_eq]
theorem sortB_srt {ks : List Bs} (hn : ks.Nodup) : (sortB ks).Pairwise fun a b => lB a b = true := by
 have h1 := List.pairwise_mergeSort (le := fun x y : List UInt8 => decide (x ≤ y)) (fun a b c h1 h2 => by
  simp only [decide_eq_true_eq] at *
  exact List.le_trans h1 h2) (fun a b => by
  simp only [Bool.or_eq_true, decide_eq_true_eq]
  exact List.le_total a b) (ks.map toL)
 have h2 : (sortB ks).Nodup := (sortB_perm ks).nodup_iff.2 hn
 unfold sortB at h2 ⊢
 generalize (ks.map toL).mergeSort (fun x y => decide (x ≤ y)) = M at h1 h2 ⊢
 have h3 : M.Nodup := by
  unfold List.Nodup at h2 ⊢
  rw [List.pairwise_map] at h2
  exact h2.imp (fun h e => h (by rw [e]))
 rw [List.pairwise_map]
 refine (h1.and h3).imp (fun {a b} hab => ?_)
 have hle : ¬ b < a := by simpa using hab.1
 cases h : lB (ofL a) (ofL b) with
 | true => rfl
 | false =>
  have h5 : lB (ofL b) (ofL a) = false := by rw [lB_toL, toL_ofL, toL_ofL]; exact decide_eq_false hle
  have h6 := congrArg toL (lB_tri h h5)
  rw [toL_ofL, toL_ofL] at h6
  exact absurd h6 hab.2
theorem sort_keys (B : Nat) (v : Value) (ks : List Bs) (w : World) (hv : KRow B w v ks) (hl : ks.length ≤ 1000000) :
  Calls Tryz.prog 75 #[v] w fun e w' => e = .returned (.tuple #[]) ∧ KRow B w' v (sortB ks) ∧ Kept (fun k => v.ownBlock = some k) w w' := by
 have hsl : (sortB ks).length = ks.length := (sortB_perm ks).length_eq
 have hms : ((ks.map toL).mergeSort fun x y => decide (x ≤ y)).length = (ks.map toL).length := List.length_mergeSort _
 have hnil : ks.length = 0 → sortB ks = ks := fun h => by rw [List.eq_nil_of_length_eq_zero h]; simp [sortB]
 rcases hv.2 with ⟨rfl, h0⟩ | ⟨g, cap, cur, rfl, hbase, hb, h1, h2, h3, h4⟩
 ·rw [hnil h0]
  refine (Tryz.slices_Sort_string_none _ _ _).mono ?_
  rintro e w1 ⟨rfl, rfl⟩
  exact ⟨rfl, hv, Kept.refl _ _⟩
 ·by_cases hz : ks.length = 0
  ·rw [hnil hz]
   rw [hz] at hv
   have hv' : KRow B w (.slice (some ⟨g, 0, none⟩) 0 cap) ks := hv
   rw [hz]
   refine (Tryz.slices_Sort_string_none _ _ _).mono ?_
   rintro e w1 ⟨rfl, rfl⟩
   exact ⟨rfl, hv', Kept.refl _ _⟩
  ·have hm : (ks.map toL).length = ks.length := List.length_map ..
   have hh : Holds encStr w g 0 (ks.map toL).toArray := holds_of_block hb (by rw [Nat.mul_one] at h4; rw [hm, h4, keys_enc])
   have hc := Tryz.slices_Sort_string g 0 cap (ks.map toL) w hh (Array.getElem?_eq_some_iff.1 hb).1 (by omega)
   rw [hm] at hc
   refine hc.mono ?_
   rintro e w1 ⟨rfl, n, os, rfl⟩
   have hg : w.grownBy (grow (putRow encStr (Sort.ahead w n) g 0 ((ks.map toL).mergeSort fun x y => decide (x ≤ y)).toArray) os) (some g) := grownBy_sorted _
   have hO := ownsRow_sorted (n := n) (os := os) hms hbase hb (by rw [hm]; exact h1) h2 h3
   refine ⟨rfl, ?_, ⟨hg.os, hg.tape, hg.output, hg.size, fun k hk hs => hg.block k hk (fun e => hs e.symm)⟩⟩
   unfold KRow
   rw [hsl, keys_enc]
   have e : (sortB ks).map toL = (ks.map toL).mergeSort fun x y => decide (x ≤ y) := by
    unfold sortB
    rw [List.map_map, show (toL ∘ ofL) = id from funext toL_ofL]; simp
   rw [e]
   rw [hm] at hO
   exact hO
end Go.Proofs.YtilopjlcgmedgaaGreatDoor
namespace Go.Proofs.YtilopjlcgmedgaaGreatDoor
open Go.ChangeShapes Go.WideShapes Go.ChangeAt Go.RowKit Go.Deep Go.ChangeMaps Go.Shelf Go.Sort
set_option linter.unusedVariables false
set_option linter.unusedSimpArgs false
attribute [local go_sem] Oper.semAt_some
theorem wide_fn (k : Nat) : Fence.wide.fn k = True := rfl
attribute [local go_sem, local simp] wide_fn
def iv : Value → Nat
 | .int _ n => n.toNat
 | _ => 0
def KeepsStr (W W' : World) : Prop := ∀ (k : Nat) (cs : Array Value) (fr : Nat × Nat), W.heap[k]? = some (Obj.cells cs 9 fr) → W'.heap[k]? = some (Obj.cells cs 9 fr)
def KpS (n₀ b c : Nat) (W W' : World) : Prop := Below n₀ W W' ∧ KeepsStr W W' ∧ ∀ k, b ≤ k → k < c → k < W.heap.size → W'.heap[k]? = W.heap[k]?
theorem KeepsStr.trans {A B C : World} (h : KeepsStr A B) (k : KeepsStr B C) : KeepsStr A C := fun i cs fr hi => k i cs fr (h i cs fr hi)
theorem KeepsStr.below {W W' : World} (h : Below W.heap.size W W') : KeepsStr W W' := fun k cs fr hk => (h.block k (Array.getElem?_eq_some_iff.1 hk).1).trans hk
theorem KpS.t {n₀ b c : Nat} {A B C : World} (h : KpS n₀ b c A B) (k : KpS n₀ b c B C) : KpS n₀ b c A C :=
 ⟨h.1.trans k.1, h.2.1.trans k.2.1, fun i h1 h2 h3 => (k.2.2 i h1 h2 (Nat.lt_of_lt_of_le h3 h.1.size)).trans (h.2.2 i h1 h2 h3)⟩
theorem KpS.below {n₀ b c : Nat} {W W' : World} (h : Below W.heap.size W W') (hn : n₀ ≤ W.heap.size) : KpS n₀ b c W W' := ⟨h.mono hn, KeepsStr.below h, fun k _ _ h3 => h.block k h3⟩
theorem KRow.str {B : Nat} {W W' : World} {v : Value} {ks : List Bs} (h : KRow B W v ks) (hk : KeepsStr W W') : KRow B W' v ks := by
 refine ⟨h.1, ?_⟩
 rcases h.2 with h1 | ⟨g, c, cur, rfl, h1, h2, h3⟩
 ·exact .inl h1
 ·exact .inr ⟨g, c, cur, rfl, h1, hk g cur _ h2, h3⟩
def ordE (E : List En) : List Bs := sortB (E.map (·.key))
def SeqOut {α : Type} (ys : List α) (J Jx : List α → World → Prop) (e : Ending) (W' : World) : Prop :=
 (∃ v, e = .returned v) ∧ ((∃ xs, xs = ys ∧ J xs W') ∨ (∃ pre, pre <+: ys ∧ Jx pre W'))
theorem filter_seen_push {E : List En} {seen : Array Nat} {x : En} (hn : (E.map (·.born)).Nodup) (hx : x ∈ E) (hs : seen.contains x.born = false) :
  ((E.filter fun e => (seen.push x.born).contains e.born).map (·.key)).Perm ((E.filter fun e => seen.contains e.born).map (·.key) ++ [x.key]) := by
 have key : (E.filter fun e => (seen.push x.born).contains e.born).Perm ((E.filter fun e => seen.contains e.born) ++ [x]) := by
  induction E with
  | nil => cases hx
  | cons a E ih =>
   have hn' := List.nodup_cons.1 hn
   rcases List.mem_cons.1 hx with rfl | hx'
   ·have h1 : (seen.push x.born).contains x.born = true := by rw [contains_push, beq_self_eq_true, Bool.or_true]
    have h2 : (E.filter fun e => (seen.push x.born).contains e.born) = E.filter fun e => seen.contains e.born := by
     refine List.filter_congr (fun e he => ?_)
     have : (e.born == x.born) = false := beq_eq_false_iff_ne.2 (fun e2 => hn'.1 (List.mem_map.2 ⟨e, he, e2⟩))
     rw [contains_push, this, Bool.or_false]
    rw [List.filter_cons, if_pos h1, List.filter_cons, if_neg (by rw [hs]; simp), h2]
    exact (List.perm_append_singleton x _).symm
   ·have hne : (a.born == x.born) = false := beq_eq_false_iff_ne.2 (fun e2 => hn'.1 (List.mem_map.2 ⟨x, hx', e2.symm⟩))
    have h1 : (seen.push x.born).contains a.born = seen.contains a.born := by rw [contains_push, hne, Bool.or_false]
    have h2 := ih hn'.2 hx'
    rw [List.filter_cons, List.filter_cons, h1]
    split
    ·exact h2.cons a
    ·exact h2
 have := key.map (·.key)
 rwa [List.map_append] at this
structure AS {α : Type} (n₀ r bt c S : Nat) (ts : List Bs) (v : Value) (J : List α → World → Prop) (W0 : World) (pre : List α) (X : World) : Prop where
 j : J pre X
 b : Below n₀ W0 X
 kr : KRow r X v ts
 cb : X.cell? ⟨bt, 0, none⟩ = some (.pointer (some ⟨S, 0, none⟩))
 bl : bt < X.heap.size
 nX : n₀ ≤ X.heap.size
theorem infoS : (Tryz.prog.info? 9).map (fun i => (i.zero, i.size, i.bytes)) = some (some (.string ⟨#[]⟩), 1, 16) := by kernel_rfl
end Go.Proofs.YtilopjlcgmedgaaGreatDoor
namespace Go.Proofs.YtilopjlcgmedgaaGreatDoor
open Go.ChangeShapes Go.WideShapes Go.ChangeAt Go.RowKit Go.Deep Go.ChangeMaps Go.Shelf Go.Sort
set_option linter.unusedVariables false
set_option linter.unusedSimpArgs false
attribute [local go_sem] Oper.semAt_some
attribute [local go_sem, local simp] wide_fn
theorem yieldAt_any {m m' : Nat} {P : Program} {l : Nat} {args : Array Value} {W : World} {R : Ending → World → Prop} (h : YieldAt Fence.wide m P l args W R) : YieldAt Fence.wide m' P l args W R := by
 obtain ⟨fn, tmps, assign, body, hy, hR⟩ := h
 exact ⟨fn, tmps, assign, body, hy, hR.1, fun c cs _ => hR.2 c cs (room_wide _)⟩
theorem abides_below {β : Type} {B : Nat} {J : β → World → Prop} (h : AbidesFrom B J) (s : β) (W W' : World) (hj : J s W) (hb : Below W.heap.size W W') : J s W' :=
 h s W _ none hj ⟨hb.os, hb.tape, hb.output, hb.size, fun k hk _ => hb.block k hk⟩ (fun r e => by cases e)
theorem equalIn_nilFunc {P : Program} (w : World) (d : Nat) (t : TypeId) (f : Fn) (a b : Array Value) (p r : Array TypeId) (v : Bool) (h : P.underlying t = some (.func p r v)) : (Op.equalIn (d + 1) t (.func f a b) .nilFunc).run P w = .ok false w := by
 simp [Op.equalIn, run_underlying h]
theorem equal_nilFunc {P : Program} (w : World) (t : TypeId) (f : Fn) (a b : Array Value) (p r : Array TypeId) (v : Bool) (h : P.underlying t = some (.func p r v)) : (Op.equal t (.func f a b) .nilFunc).run P w = .ok false w := equalIn_nilFunc w 9999 t f a b p r v h
theorem eql_nilFunc {t : TypeId} (h0 : (Tryz.prog.underlying t).map (fun d => match d with | .func _ _ _ => true | _ => false) = some true) (f : Fn) (a b : Array Value) (w : World) : (binOp .eql t (.func f a b) .nilFunc).run Tryz.prog w = .ok (.bool false) w := by
 obtain ⟨p, r, v, h⟩ : ∃ p r v, Tryz.prog.underlying t = some (.func p r v) := by
  cases hu : Tryz.prog.underlying t with
  | none => rw [hu] at h0; simp at h0
  | some d =>
   rw [hu] at h0
   cases d <;> first | (simp at h0; done) | exact ⟨_, _, _, rfl⟩
 simp only [binOp]
 simp [equal_nilFunc w t f a b p r v h]
theorem kpS_b {n₀ b c : Nat} {w : World} (hn : n₀ ≤ w.heap.size) (hc : c ≤ w.heap.size) (W : World) (l : Nat) (o o' : Obj) (hl : w.heap.size ≤ l) (h : W.heap[l]? = some o) (ho : o.isCells = false) (hw : o.isWalk = false) : KpS n₀ b c W (W.putObj l o') := by
 refine ⟨belowK_b (w := w) hn W l o o' hl h ho hw, fun k cs fr hk => ?_, fun k h1 h2 h3 => World.putObj_heap_other (by omega)⟩
 rw [World.putObj_heap_other (fun e => by rw [e, h] at hk; cases hk; cases ho)]
 exact hk
end Go.Proofs.YtilopjlcgmedgaaGreatDoor
namespace Go.Proofs.YtilopjlcgmedgaaGreatDoor
open Go.ChangeShapes Go.WideShapes Go.ChangeAt Go.RowKit Go.Deep Go.ChangeMaps Go.Shelf Go.Sort
set_option linter.unusedVariables false
set_option linter.unusedSimpArgs false
attribute [local go_sem] Oper.semAt_some
attribute [local go_sem, local simp] wide_fn
theorem rev_keys (B : Nat) (v : Value) (ks : List Bs) (w : World) (hv : KRow B w v ks) (hl : ks.length ≤ 1000000) :
  Calls Tryz.prog 76 #[v] w fun e w' => e = .returned (.tuple #[]) ∧ KRow B w' v ks.reverse ∧ Kept (fun k => v.ownBlock = some k) w w' := by
 have hsl : ks.reverse.length = ks.length := List.length_reverse
 rcases hv.2 with ⟨rfl, h0⟩ | ⟨g, cap, cur, rfl, hbase, hb, h1, h2, h3, h4⟩
 ·have hn : ks = [] := List.eq_nil_of_length_eq_zero h0
  subst hn
  refine (Tryz.slices_Reverse_string_empty _ _ _).mono ?_
  rintro e w1 ⟨rfl, rfl⟩
  exact ⟨rfl, hv, Kept.refl _ _⟩
 ·by_cases hz : ks.length = 0
  ·have hn : ks = [] := List.eq_nil_of_length_eq_zero hz
   subst hn
   refine (Tryz.slices_Reverse_string_empty _ _ _).mono ?_
   rintro e w1 ⟨rfl, rfl⟩
   exact ⟨rfl, hv, Kept.refl _ _⟩
  ·have hm : (ks.map toL).length = ks.length := List.length_map ..
   have hh : Holds encStr w g 0 (ks.map toL).toArray := holds_of_block hb (by rw [Nat.mul_one] at h4; rw [hm, h4, keys_enc])
   have hc := Tryz.slices_Reverse_string g 0 cap (ks.map toL) w hh (by omega)
   rw [hm] at hc
   refine hc.mono ?_
   rintro e w1 ⟨rfl, n, rfl⟩
   have hms : (ks.map toL).reverse.length = (ks.map toL).length := List.length_reverse
   have e0 : putRow encStr (Sort.ahead w n) g 0 (ks.map toL).reverse.toArray = grow (putRow encStr (Sort.ahead w n) g 0 (ks.map toL).reverse.toArray) #[] := by simp [grow]; rfl
   rw [e0]
   have hg : w.grownBy (grow (putRow encStr (Sort.ahead w n) g 0 (ks.map toL).reverse.toArray) #[]) (some g) := grownBy_sorted _
   have hO := ownsRow_sorted (n := n) (os := #[]) hms hbase hb (by rw [hm]; exact h1) h2 h3
   refine ⟨rfl, ?_, ⟨hg.os, hg.tape, hg.output, hg.size, fun k hk hs => hg.block k hk (fun e => hs e.symm)⟩⟩
   unfold KRow
   rw [hsl, keys_enc, List.map_reverse]
   rw [hm] at hO
   exact hO
def inR (lo hi k : Bs) : Bool := !Op.bytesLess k.toList lo.toList && (hi.toList.isEmpty || Op.bytesLess k.toList hi.toList)
def scanT (E : List En) (lo hi : Bs) (back : Bool) : List Bs := if back = true then ((ordE E).filter (inR lo hi)).reverse else (ordE E).filter (inR lo hi)
def scanK (E : List En) (t : Int) (ts : List Bs) : List (Bs × Bs) := ts.filterMap fun k => (valAt (lkL E k) t).map fun v => (k, v)
def encP (x : Bs × Bs) : Array Value := #[.string x.1, .string x.2]
theorem scanK_snoc (E : List En) (t : Int) (ts : List Bs) (k : Bs) : scanK E t (ts ++ [k]) = scanK E t ts ++ ((valAt (lkL E k) t).map fun v => (k, v)).toList := by
 unfold scanK
 rw [List.filterMap_append]
 congr 1
theorem scanK_pre (E : List En) (t : Int) (ts : List Bs) (i : Nat) : scanK E t (ts.take i) <+: scanK E t ts := by
 refine ⟨scanK E t (ts.drop i), ?_⟩
 unfold scanK
 rw [← List.filterMap_append, List.take_append_drop]
structure SS {α : Type} (n₀ r bt c : Nat) (ts : List Bs) (v : Value) (J : List α → World → Prop) (W0 : World) (pre : List α) (X : World) : Prop where
 j : J pre X
 b : Below n₀ W0 X
 kr : KRow r X v ts
 bx : ∀ k, bt ≤ k → k < c → X.heap[k]? = W0.heap[k]?
 nX : n₀ ≤ X.heap.size
 cX : c ≤ X.heap.size
theorem SS.below {α : Type} {n₀ r bt c : Nat} {ts : List Bs} {v : Value} {J : List α → World → Prop} {W0 X X' : World} {pre : List α} (h : SS n₀ r bt c ts v J W0 pre X) (hJ : ∀ pre W W', J pre W → Below W.heap.size W W' → J pre W') (hb : Below X.heap.size X X') : SS n₀ r bt c ts v J W0 pre X' :=
 ⟨hJ _ _ _ h.j hb, h.b.trans (hb.mono h.nX), h.kr.str (KeepsStr.below hb), fun k h1 h2 => (hb.block k (by have := h.cX; omega)).trans (h.bx k h1 h2), Nat.le_trans h.nX hb.size, Nat.le_trans h.cX hb.size⟩
theorem SS.next {α : Type} {n₀ r bt c : Nat} {ts : List Bs} {v : Value} {J : List α → World → Prop} {W0 X X' : World} {pre pre' : List α} (h : SS n₀ r bt c ts v J W0 pre X) (hj : J pre' X') (hk : KpS n₀ bt c X X') : SS n₀ r bt c ts v J W0 pre' X' :=
 ⟨hj, h.b.trans hk.1, h.kr.str hk.2.1, fun k h1 h2 => (hk.2.2 k h1 h2 (by have := h.cX; omega)).trans (h.bx k h1 h2), Nat.le_trans h.nX hk.1.size, Nat.le_trans h.cX hk.1.size⟩
theorem SS.cell {α : Type} {n₀ r bt c : Nat} {ts : List Bs} {v : Value} {J : List α → World → Prop} {W0 X : World} {pre : List α} (h : SS n₀ r bt c ts v J W0 pre X) {k : Nat} {u : Value} (h1 : bt ≤ k) (h2 : k < c) (hc : W0.cell? ⟨k, 0, none⟩ = some u) : X.cell? ⟨k, 0, none⟩ = some u := by
 rw [World.cell?_of_block (a := ⟨k, 0, none⟩) (h.bx k h1 h2)]; exact hc
theorem filter_seen_range {E : List En} {seen : Array Nat} {x : En} (f : Bs → Bool) {ks : List Bs} (hp : ks.Perm (((E.filter fun e => seen.contains e.born).map (·.key)).filter f)) (hn : (E.map (·.born)).Nodup) (hx : x ∈ E) (hs : seen.contains x.born = false) :
  (if f x.key = true then ks ++ [x.key] else ks).Perm (((E.filter fun e => (seen.push x.born).contains e.born).map (·.key)).filter f) := by
 have h1 := (filter_seen_push hn hx hs).filter f
 rw [List.filter_append] at h1
 refine List.Perm.trans ?_ h1.symm
 by_cases hf : f x.key = true
 ·rw [if_pos hf, List.filter_cons, if_pos hf]
  exact hp.append_right _
 ·rw [if_neg hf, List.filter_cons, if_neg hf]
  simpa using hp
theorem sorted_filter {a : List Bs} {E : List En} (f : Bs → Bool) (hn : (E.map (·.key)).Nodup) (h : a.Perm ((E.map (·.key)).filter f)) : sortB a = (ordE E).filter f := by
 have hna : ((E.map (·.key)).filter f).Nodup := List.filter_sublist.nodup hn
 have h1 : (sortB a).Pairwise fun a b => lB a b = true := sortB_srt (h.nodup_iff.2 hna)
 have h2 : ((ordE E).filter f).Pairwise fun a b => lB a b = true := List.Pairwise.sublist List.filter_sublist (sortB_srt hn)
 refine List.Perm.eq_of_pairwise (le := fun a b => lB a b = true) (fun x y _ _ h1 h2 => ?_) h1 h2 ((sortB_perm a).trans (h.trans ((sortB_perm (E.map (·.key))).filter f).symm))
 rw [lB_asymm h1] at h2; cases h2
end Go.Proofs.YtilopjlcgmedgaaGreatDoor
namespace Go.Proofs.YtilopjlcgmedgaaGreatDoor
open Go.ChangeShapes Go.WideShapes Go.ChangeAt Go.RowKit Go.Deep Go.ChangeMaps Go.Shelf Go.Sort
set_option linter.unusedVariables false
set_option linter.unusedSimpArgs false
attribute [local go_sem] Oper.semAt_some
attribute [local go_sem, local simp] wide_fn
structure SBox (W : World) (b S : Nat) (lo hi : Bs) (t : Int) (back : Bool) : Prop where
 c0 : W.cell? ⟨b, 0, none⟩ = some (.pointer (some ⟨S, 0, none⟩))
 c1 : W.cell? ⟨b + 1, 0, none⟩ = some (.string lo)
 c2 : W.cell? ⟨b + 2, 0, none⟩ = some (.string hi)
 c3 : W.cell? ⟨b + 4, 0, none⟩ = some (.bool back)
 c4 : W.cell? ⟨b + 3, 0, none⟩ = some (.int .i64 t)
theorem und69 : (Tryz.prog.underlying 69).map (fun d => match d with | .func _ _ _ => true | _ => false) = some true := by kernel_rfl
theorem eql69 (f : Fn) (a b : Array Value) (w : World) : (binOp .eql 69 (.func f a b) .nilFunc).run Tryz.prog w = .ok (.bool false) w := eql_nilFunc und69 f a b w
attribute [local go_sem] eql69
theorem SBox.below {W W' : World} {b S : Nat} {lo hi : Bs} {t : Int} {back : Bool} (h : SBox W b S lo hi t back) (hb : Below W.heap.size W W') (hl : b + 5 ≤ W.heap.size) : SBox W' b S lo hi t back :=
 ⟨(hb.cell (p := ⟨b, 0, none⟩) (by show b < _; omega)).trans h.c0, (hb.cell (p := ⟨b + 1, 0, none⟩) (by show b + 1 < _; omega)).trans h.c1, (hb.cell (p := ⟨b + 2, 0, none⟩) (by show b + 2 < _; omega)).trans h.c2, (hb.cell (p := ⟨b + 4, 0, none⟩) (by show b + 4 < _; omega)).trans h.c3, (hb.cell (p := ⟨b + 3, 0, none⟩) (by show b + 3 < _; omega)).trans h.c4⟩
end Go.Proofs.YtilopjlcgmedgaaGreatDoor
namespace Go.Proofs.YtilopjlcgmedgaaGreatDoor
open Go.ChangeShapes Go.WideShapes Go.ChangeAt Go.RowKit Go.Deep Go.ChangeMaps Go.Shelf Go.Sort
set_option linter.unusedVariables false
set_option linter.unusedSimpArgs false
structure Gd (E : List En) : Prop where
 keys : (E.map (·.key)).Nodup
 ne : ∀ e ∈ E, e.vs ≠ []
theorem Sto.gd {B S m clock : Nat} {W : World} {E : List En} (h : Sto B W S m E clock) : Gd E := ⟨h.ok.keys, fun e he => (h.rows e he).2.1⟩
theorem lkL_of {E : List En} (hn : (E.map (·.key)).Nodup) {e : En} (he : e ∈ E) : lkL E e.key = e.vs := by unfold lkL; rw [lkE_of_mem hn he]
theorem lkL_absent {E : List En} {k : Bs} (h : ∀ e ∈ E, e.key ≠ k) : lkL E k = [] := by
 unfold lkL
 cases hl : lkE E k with
 | none => rfl
 | some x => exact absurd (lkE_mem hl).2 (h _ (lkE_mem hl).1)
theorem lkL_some {E : List En} {k : Bs} (h : lkL E k ≠ []) : ∃ e ∈ E, e.key = k ∧ e.vs = lkL E k := by
 unfold lkL at h ⊢
 cases hl : lkE E k with
 | none => rw [hl] at h; exact absurd rfl h
 | some x => exact ⟨x, (lkE_mem hl).1, (lkE_mem hl).2, rfl⟩
theorem mem_keys {E : List En} (g : Gd E) (k : Bs) : k ∈ E.map (·.key) ↔ lkL E k ≠ [] := by
 constructor
 ·intro h
  obtain ⟨e, he, rfl⟩ := List.mem_map.1 h
  rw [lkL_of g.keys he]
  exact g.ne e he
 ·intro h
  obtain ⟨e, he, hk, _⟩ := lkL_some h
  exact List.mem_map.2 ⟨e, he, hk⟩
theorem mem_put_self (E : List En) (c : Nat) (k : Bs) (val : Value) (vs : List Ver) : ∃ e ∈ putE E c k val vs, e.key = k ∧ e.vs = vs := by
 unfold putE
 cases hl : lkE E k with
 | some x =>
  obtain ⟨h1, h2⟩ := lkE_mem hl
  exact ⟨_, List.mem_map.2 ⟨x, h1, rfl⟩, by rw [if_pos h2]; exact h2, by rw [if_pos h2]⟩
 | none => exact ⟨_, List.mem_append_right _ (List.mem_singleton.2 rfl), rfl, rfl⟩
theorem mem_put_other {E : List En} {c : Nat} {k : Bs} {val : Value} {vs : List Ver} {e : En} (he : e ∈ E) (hk : e.key ≠ k) : e ∈ putE E c k val vs := by
 unfold putE
 cases hl : lkE E k with
 | some x => exact List.mem_map.2 ⟨e, he, by rw [if_neg hk]⟩
 | none => exact List.mem_append_left _ he
theorem put_lk {E : List En} {c : Nat} (h : EnOK E c) (k : Bs) (val : Value) (vs : List Ver) : lkL (putE E c k val vs) = fun k' => if k' = k then vs else lkL E k' := by
 have hn := (h.put k val vs).keys
 funext k'
 by_cases hk : k' = k
 ·subst hk
  obtain ⟨e, he, h1, h2⟩ := mem_put_self E c k' val vs
  have h3 := lkL_of hn he
  rw [h1] at h3
  rw [if_pos rfl, h3, h2]
 ·rw [if_neg hk]
  by_cases he : ∃ e ∈ E, e.key = k'
  ·obtain ⟨e, he, rfl⟩ := he
   rw [lkL_of h.keys he, lkL_of hn (mem_put_other he hk)]
  ·rw [lkL_absent (fun e h1 h2 => he ⟨e, h1, h2⟩)]
   refine lkL_absent fun e h1 h2 => ?_
   rcases putE_mem h.keys h1 with ⟨h3, _⟩ | ⟨h3, _⟩
   ·exact he ⟨e, h3, h2⟩
   ·exact hk (by rw [← h2, h3])
theorem sum_sub (f : Bs → Nat) : ∀ (l l' : List Bs), l.Nodup → (∀ x ∈ l, f x ≠ 0 → x ∈ l') → (l.map f).sum ≤ (l'.map f).sum
 | [], _, _, _ => Nat.zero_le _
 | a :: l, l', hn, h => by
  obtain ⟨h1, h2⟩ := List.nodup_cons.1 hn
  by_cases h0 : f a = 0
  ·have := sum_sub f l l' h2 (fun x hx => h x (List.mem_cons_of_mem _ hx))
   simpa [h0] using this
  ·have ha := h a (List.mem_cons_self ..) h0
   obtain ⟨u, v, rfl⟩ := List.append_of_mem ha
   have := sum_sub f l (u ++ v) h2 (fun x hx hx0 => by
    have h3 := h x (List.mem_cons_of_mem _ hx) hx0
    rcases List.mem_append.1 h3 with h3 | h3
    ·exact List.mem_append_left _ h3
    ·rcases List.mem_cons.1 h3 with h3 | h3
     ·exact absurd (by rw [← h3]; exact hx) h1
     ·exact List.mem_append_right _ h3)
   simp only [List.map_cons, List.sum_cons, List.map_append, List.sum_append] at this ⊢
   omega
theorem sum_add (f g : Bs → Nat) : ∀ l : List Bs, (l.map fun x => f x + g x).sum = (l.map f).sum + (l.map g).sum
 | [] => rfl
 | a :: l => by simp only [List.map_cons, List.sum_cons, sum_add f g l]; omega
theorem sum_mono (f g : Bs → Nat) (h : ∀ x, f x ≤ g x) : ∀ l : List Bs, (l.map f).sum ≤ (l.map g).sum
 | [] => Nat.le_refl _
 | a :: l => by have := sum_mono f g h l; have := h a; simp only [List.map_cons, List.sum_cons]; omega
theorem sum_ind (k : Bs) : ∀ l : List Bs, l.Nodup → (l.map fun x => if x = k then 1 else 0).sum ≤ 1
 | [], _ => Nat.zero_le _
 | a :: l, hn => by
  obtain ⟨h1, h2⟩ := List.nodup_cons.1 hn
  by_cases h : a = k
  ·have : (l.map fun x => if x = k then 1 else 0).sum ≤ (([] : List Bs).map fun x => if x = k then 1 else 0).sum := sum_sub _ l [] h2 (fun x hx hx0 => by
    by_cases e : x = k
    ·exact absurd (by rw [h, ← e]; exact hx) h1
    ·rw [if_neg e] at hx0; exact absurd rfl hx0)
   simp only [List.map_cons, List.sum_cons, if_pos h, List.map_nil, List.sum_nil] at this ⊢
   omega
  ·have := sum_ind k l h2
   simp only [List.map_cons, List.sum_cons, if_neg h] at this ⊢
   omega
theorem total_keys {E : List En} (g : Gd E) : total E = ((E.map (·.key)).map fun k => (lkL E k).length).sum := by
 unfold total
 rw [List.map_map]
 congr 1
 refine List.map_congr_left fun e he => ?_
 show e.vs.length = (lkL E e.key).length
 rw [lkL_of g.keys he]
theorem total_le {E E' : List En} (g : Gd E) (g' : Gd E') (k0 : Bs) (h : ∀ k, (lkL E' k).length ≤ (lkL E k).length + if k = k0 then 1 else 0) : total E' ≤ total E + 1 := by
 rw [total_keys g, total_keys g']
 have h1 := sum_mono _ _ h (E'.map (·.key))
 rw [sum_add (fun k => (lkL E k).length) (fun k => if k = k0 then 1 else 0)] at h1
 have h2 := sum_ind k0 (E'.map (·.key)) g'.keys
 have h3 := sum_sub (fun k => (lkL E k).length) (E'.map (·.key)) (E.map (·.key)) g'.keys (fun x _ hx => (mem_keys g x).2 (fun e => hx (by show (lkL E x).length = 0; rw [e]; rfl)))
 omega
theorem le_total {E : List En} {e : En} (he : e ∈ E) : e.vs.length ≤ total E := by
 unfold total
 obtain ⟨a, b, rfl⟩ := List.append_of_mem he
 simp only [List.map_append, List.map_cons, List.sum_append, List.sum_cons]
 omega
theorem lk_total (E : List En) (k : Bs) : (lkL E k).length ≤ total E := by
 by_cases h : lkL E k = []
 ·rw [h]; exact Nat.zero_le _
 ·obtain ⟨e, he, _, hv⟩ := lkL_some h
  rw [← hv]; exact le_total he
theorem len_total : ∀ {E : List En}, (∀ e ∈ E, e.vs ≠ []) → E.length ≤ total E
 | [], _ => Nat.zero_le _
 | e :: E, h => by
  have h1 := len_total (E := E) (fun x hx => h x (List.mem_cons_of_mem _ hx))
  have h2 : 0 < e.vs.length := List.length_pos_iff.2 (h e (List.mem_cons_self ..))
  unfold total at h1 ⊢
  simp only [List.map_cons, List.sum_cons, List.length_cons]
  omega
structure Opv where
 kind : Int
 key : Bs
 value : Bs
 stamp : Int
 back : Bool
def okT (L : List Ver) (s : Int) : Prop := ¬ s < 1 ∧ ¬ 1099511627776 < s ∧ ¬ s ≤ lastT L
instance (L : List Ver) (s : Int) : Decidable (okT L s) := by unfold okT; exact inferInstance
def addA (A : Bs → List Ver) (k : Bs) (x : Ver) : Bs → List Ver := if okT (A k) x.1 then fun k' => if k' = k then A k ++ [x] else A k' else A
theorem addA_len (A : Bs → List Ver) (k : Bs) (x : Ver) (k' : Bs) : (addA A k x k').length ≤ (A k').length + if k' = k then 1 else 0 := by
 unfold addA
 split
 ·by_cases h : k' = k
  ·subst h; simp
  ·simp [h]
 ·omega
theorem Turned.same {B S m clock : Nat} {E : List En} {W W' : World} (h : Sto B W S m E clock) (hb : Below W.heap.size W W') : Turned B S m E W W' E clock :=
 ⟨h.below hb, fun j hj => .inl hj, ⟨hb.os, hb.tape, hb.output, hb.size, fun j hj _ => hb.block j hj⟩⟩
def Done (B S m : Nat) (E : List En) (A : Bs → List Ver) (W W' : World) : Prop := ∃ E' clock', Turned B S m E W W' E' clock' ∧ lkL E' = A
def PutOut (B S m : Nat) (E : List En) (k : Bs) (x : Ver) (W : World) (e : Ending) (W' : World) : Prop :=
 e = .returned (.int .i64 (if okT (lkL E k) x.1 then 0 else 1)) ∧ Done B S m E (addA (lkL E) k x) W W'
theorem add_any (B S m clock : Nat) (E : List En) (k : Bs) (s : Int) (vl : Bs) (dl : Bool) (W : World) (h : Sto B W S m E clock) (hB : B ≤ W.heap.size) (hT : total E < 5000) :
  Calls Tryz.prog 66 #[.pointer (some ⟨S, 0, none⟩), .string k, .agg #[.int .i64 s, .string vl, .bool dl]] W (PutOut B S m E k (s, vl, dl) W) := by
 by_cases ho : okT (lkL E k) s
 ·have hl := lk_total E k
  refine (add_ok B S m clock E k s vl dl W h hB ho.1 ho.2.1 ho.2.2 (by omega)).mono ?_
  rintro e W' ⟨rfl, val, ht⟩
  refine ⟨by rw [if_pos ho], _, _, ht, ?_⟩
  rw [put_lk h.ok]
  unfold addA
  rw [if_pos ho]
 ·refine (add_bad B S m clock E k s vl dl W h (by unfold okT at ho; omega)).mono ?_
  rintro e W' ⟨rfl, hb⟩
  refine ⟨by rw [if_neg ho], E, clock, .same h hb, ?_⟩
  unfold addA
  rw [if_neg ho]
theorem put_any (B S m clock : Nat) (E : List En) (k vl : Bs) (s : Int) (W : World) (h : Sto B W S m E clock) (hB : B ≤ W.heap.size) (hT : total E < 5000) :
  Calls Tryz.prog 42 #[.pointer (some ⟨S, 0, none⟩), .string k, .string vl, .int .i64 s] W (PutOut B S m E k (s, vl, false) W) :=
 put_of S k vl s W _ _ (add_any B S m clock E k s vl false W h hB hT)
theorem del_any (B S m clock : Nat) (E : List En) (k : Bs) (s : Int) (W : World) (h : Sto B W S m E clock) (hB : B ≤ W.heap.size) (hT : total E < 5000) :
  Calls Tryz.prog 41 #[.pointer (some ⟨S, 0, none⟩), .string k, .int .i64 s] W (PutOut B S m E k (s, ⟨#[]⟩, true) W) :=
 del_of S k s W _ _ (add_any B S m clock E k s ⟨#[]⟩ true W h hB hT)
structure Wk (B S m : Nat) (E : List En) (clock : Nat) (A : Bs → List Ver) (N : Nat) (W0 W : World) : Prop where
 sto : Sto B W S m E clock
 lk : lkL E = A
 tot : total E ≤ N
 low : Below B W0 W
 bw : B ≤ W.heap.size
section
variable {B S m N clock : Nat} {E : List En} {A : Bs → List Ver} {W0 W : World}
end
theorem inR_all (k : Bs) : inR ⟨#[]⟩ ⟨#[]⟩ k = true := by
 have e : (⟨#[]⟩ : Bs).toList = [] := by rw [ByteArray.toList_eq]
 unfold inR
 rw [e]
 cases k.toList <;> rfl
theorem scanT_all (E : List En) (back : Bool) : scanT E ⟨#[]⟩ ⟨#[]⟩ back = if back = true then (ordE E).reverse else ordE E := by
 unfold scanT
 rw [List.filter_eq_self.2 (fun k _ => inR_all k)]
theorem ord_keys {E : List En} (g : Gd E) (k : Bs) : k ∈ ordE E ↔ lkL E k ≠ [] := by
 rw [(show (ordE E).Perm (E.map (fun e : En => e.key)) from sortB_perm _).mem_iff]
 exact mem_keys g k
theorem ord_srt {E : List En} (g : Gd E) : (ordE E).Pairwise fun a b => lB a b = true := sortB_srt g.keys
theorem filterMap_same {α β : Type} {f g : α → Option β} : ∀ (l : List α), (∀ x, f x = g x) → l.filterMap f = l.filterMap g := fun l h => by rw [show f = g from funext h]
theorem upto_full : ∀ (L : List Ver) (t : Int), (∀ y ∈ L, y.1 ≤ t) → upto L t = L.length
 | [], _, _ => rfl
 | a :: L, t, h => by
  show (if a.1 ≤ t then upto L t + 1 else 0) = _
  rw [if_pos (h a (List.mem_cons_self ..)), upto_full L t (fun y hy => h y (List.mem_cons_of_mem _ hy))]
  rfl
def KeepsX (w w' : World) : Prop := ∀ (k : Nat) (cs : Array Value) (T : TypeId) (fr : Nat × Nat), w.heap[k]? = some (Obj.cells cs T fr) → T ≠ 121 → T ≠ 5 → w'.heap[k]? = some (Obj.cells cs T fr)
theorem KeepsX.refl (w : World) : KeepsX w w := fun _ _ _ _ h _ _ => h
theorem KeepsX.trans {a b c : World} (h : KeepsX a b) (g : KeepsX b c) : KeepsX a c := fun k cs T fr h1 h2 h3 => g k cs T fr (h k cs T fr h1 h2 h3) h2 h3
theorem KeepsX.below {w w' : World} (h : Below w.heap.size w w') : KeepsX w w' := fun k cs T fr h1 _ _ => (h.block k (Array.getElem?_eq_some_iff.1 h1).1).trans h1
theorem KeepsX.set {w w' : World} (h : KeepsX w w') {b j : Nat} {v : Value} {cs : Array Value} {fr : Nat × Nat} (hb : w'.heap[b]? = some (Obj.cells cs 121 fr)) : KeepsX w (w'.setCell ⟨b, j, none⟩ v) := fun k cs2 T fr2 h1 h2 h3 => by
 have h4 := h k cs2 T fr2 h1 h2 h3
 rw [heap_setCell_other w' ⟨b, j, none⟩ k v (fun e => by rw [e] at h4; rw [hb] at h4; cases h4; exact h2 rfl)]
 exact h4
theorem KeepsX.grown {w w1 w2 : World} (h : KeepsX w w1) {B n : Nat} {v : Value} {xs : List Value} (hown : w1.ownsRow B 5 1 v n xs) {o : Obj} (hg : (w1.alloc o).grownBy w2 v.ownBlock) : KeepsX w w2 := fun k cs T fr h1 h2 h3 => by
 have h4 := h k cs T fr h1 h2 h3
 have hk := (Array.getElem?_eq_some_iff.1 h4).1
 rw [hg.block k (by rw [World.size_alloc]; omega) (fun e => ?_), heap_alloc_old _ _ hk]
 ·exact h4
 ·rcases hown.2 with ⟨rfl, _⟩ | ⟨g, cap, cur, rfl, _, e2, _⟩
  ·simp [Value.ownBlock] at e
  ·simp only [Value.ownBlock, Option.some.injEq] at e
   subst e
   rw [e2] at h4
   cases h4
   exact h3 rfl
theorem KeepsX.grown0 {w w1 w2 : World} (h : KeepsX w w1) {B n : Nat} {v : Value} {xs : List Value} (hown : w1.ownsRow B 5 1 v n xs) (hg : w1.grownBy w2 v.ownBlock) : KeepsX w w2 := fun k cs T fr h1 h2 h3 => by
 have h4 := h k cs T fr h1 h2 h3
 have hk := (Array.getElem?_eq_some_iff.1 h4).1
 rw [hg.block k hk (fun e => ?_)]
 ·exact h4
 ·rcases hown.2 with ⟨rfl, _⟩ | ⟨g, cap, cur, rfl, _, e2, _⟩
  ·simp [Value.ownBlock] at e
  ·simp only [Value.ownBlock, Option.some.injEq] at e
   subst e
   rw [e2] at h4
   cases h4
   exact h3 rfl
theorem KeepsX.alloc {w w' : World} (h : KeepsX w w') (o : Obj) : KeepsX w (w'.alloc o) := fun k cs T fr h1 h2 h3 => by
 have h4 := h k cs T fr h1 h2 h3
 rw [heap_alloc_old _ _ (Array.getElem?_eq_some_iff.1 h4).1]
 exact h4
set_option maxRecDepth 100000 in
theorem copyCheck_used (b : Nat) (w : World) (h0 : w.cell? ⟨b, 0, none⟩ = some (.pointer (some ⟨b, 0, none⟩))) :
  Calls Tryz.prog 89 #[.pointer (some ⟨b, 0, none⟩)] w fun e w' => e = .returned (.tuple #[]) ∧ w' = w := by
 obtain ⟨j, hj, _⟩ := Option.map_eq_some_iff.1 Tryz.Builder_Extra_169.sizeBuilder
 go_enter Tryz.func89, Tryz.ntmps89
 go_wp2
 rw [Lib.run_neq_ptr_same w _ Tryz.underlying119 hj]
 go_wp2
 go_end0
 exact ⟨rfl, rfl⟩
set_option maxRecDepth 100000 in
theorem copyCheck_fresh (b : Nat) (w : World) (h0 : w.cell? ⟨b, 0, none⟩ = some (.pointer none)) (hsh : w.shape? b = some (121, 2)) (hfz : w.frozen? ⟨b, 0, none⟩ = false) :
  Calls Tryz.prog 89 #[.pointer (some ⟨b, 0, none⟩)] w fun e w' => e = .returned (.tuple #[]) ∧ w' = w.setCell ⟨b, 0, none⟩ (.pointer (some ⟨b, 0, none⟩)) := by
 obtain ⟨j, hj, hjs⟩ := Option.map_eq_some_iff.1 Tryz.Builder_Extra_169.sizeBuilder
 go_enter Tryz.func89, Tryz.ntmps89
 go_wp2
 rw [Lib.run_to_unsafe w ⟨b, 0, none⟩ Tryz.underlying119 Tryz.underlying161 hj (by rw [hjs]; decide) hsh (Nat.zero_lt_succ 1)]
 simp only [Result.andThen]
 rw [Oper.upon_value]
 go_wp2
 rw [run_callFunc_extern Tryz.func102 (by kernel_rfl) (by kernel_rfl) (by kernel_rfl) (e := Extern.AbiNoEscape.same) (by kernel_rfl)]
 rw [Lib.run_noEscape]
 simp only [Result.andThen]
 rw [Oper.upon_value]
 go_wp2
 rw [Lib.run_from_unsafe w ⟨b, 0, none⟩ Tryz.underlying161 Tryz.underlying119 hj hsh Tryz.Builder_Extra_169.liesBuilder]
 simp only [Result.andThen]
 rw [Oper.upon_value]
 go_wp2
 go_end0
 exact ⟨rfl, rfl⟩
theorem copyCheck_any (B b : Nat) (bs : List Value) (w : World) (h : Lib.IsBuilder 121 5 B b bs w) :
  Calls Tryz.prog 89 #[.pointer (some ⟨b, 0, none⟩)] w fun e w' => e = .returned (.tuple #[]) ∧ (Lib.BuilderAt 121 5 B b (.pointer (some ⟨b, 0, none⟩)) bs w' ∧ Below B w w' ∧ KeepsX w w') := by
 rcases h with h | h
 ·refine (copyCheck_fresh b w h.cell0 h.shape h.frozen0).mono ?_
  rintro e w' ⟨rfl, rfl⟩
  obtain ⟨_, v, hb, _⟩ := id h
  exact ⟨rfl, h.used _, (Below.refl B w).setCell (p := ⟨b, 0, none⟩) h.1 _, (KeepsX.refl w).set hb⟩
 ·refine (copyCheck_used b w h.cell0).mono ?_
  rintro e w' ⟨rfl, rfl⟩
  exact ⟨rfl, h, Below.refl B _, KeepsX.refl _⟩
set_option maxRecDepth 100000 in
theorem writeByte_any (B b : Nat) (bs : List Value) (c : Int) (w : World) (h : Lib.IsBuilder 121 5 B b bs w) (hlen : bs.length + 1 ≤ 140737488355328) (hBw : B ≤ w.heap.size) :
  Calls Tryz.prog 61 #[.pointer (some ⟨b, 0, none⟩), .int .u8 c] w fun e w' => e = .returned .nilIface ∧ (Lib.BuilderAt 121 5 B b (.pointer (some ⟨b, 0, none⟩)) (bs ++ [.int .u8 c]) w' ∧ Below B w w' ∧ KeepsX w w') := by
 obtain ⟨i0, hi, hz0, hz1, hz2⟩ := info_parts Tryz.Builder_Extra_169.infoByte
 go_enter Tryz.func61, Tryz.ntmps61
 go_wp2_with (go_at_call 89; refine (copyCheck_any B b bs _ h).mono ?_)
 rintro e w1 ⟨rfl, h1, hb1, hx1⟩
 have HX1 := Lib.hid hx1
 clear hx1
 obtain ⟨hB, v, hbk, hown, hne⟩ := h1
 have c0 : w1.cell? ⟨b, 0, none⟩ = some (.pointer (some ⟨b, 0, none⟩)) := by rw [Lib.cell_of_heap hbk]; rfl
 have c1 : w1.cell? ⟨b, 1, none⟩ = some v := by rw [Lib.cell_of_heap hbk]; rfl
 go_wp2_with (at_builtin; refine wpList_append_own _ rfl _ _ 53 rfl B 5 i0 (.int .u8 0) 1 1 Tryz.underlying53 hi hz0 hz1 hz2 rfl (by decide) _ _ _ rfl (hown.alloc _) ⟨w1.heap.size, 0, none⟩ 1 1 [.int .u8 c] rfl rfl ?c1 ?c2 ?c3 ?c4 ?c5 ?_)
 case c1 =>
  intro j u hj
  match j, hj with
  | 0, hj => simp at hj; subst hj; simp [Addr.add]
 case c2 => intro u hu; simp at hu; subst hu; rfl
 case c3 => unfold maxLen; omega
 case c4 => omega
 case c5 => have := hb1.size; simp; omega
 intro v' w2 hown' hgrow _
 have hlt : b < w1.heap.size := by
  rcases Nat.lt_or_ge b w1.heap.size with h' | h'
  ·exact h'
  ·simp [Array.getElem?_eq_none h'] at hbk
 have hb2 : w2.heap[b]? = some (.cells #[.pointer (some ⟨b, 0, none⟩), v] 121 (0, 0)) := by
  rw [hgrow.block b (by simp; omega) (fun e => hne e.symm), Lib.alloc_old w1 _ b hlt]
  exact hbk
 have d0 : w2.cell? ⟨b, 0, none⟩ = some (.pointer (some ⟨b, 0, none⟩)) := by rw [Lib.cell_of_heap hb2]; rfl
 have d1 : w2.cell? ⟨b, 1, none⟩ = some v := by rw [Lib.cell_of_heap hb2]; rfl
 have f1 : w2.frozen? ⟨b, 1, none⟩ = false := Lib.frozen_of_heap hb2 1
 obtain ⟨g, cap, rfl⟩ : ∃ g cap, v' = .slice (some ⟨g, 0, none⟩) (bs.length + 1) cap := by
  rcases hown'.2 with ⟨_, h0⟩ | ⟨g, cap, cur, hv, _⟩
  ·omega
  ·exact ⟨g, cap, hv⟩
 go_wp2
 go_ret
 refine ⟨rfl, ?_, ?_, (HX1.out.grown hown hgrow).set hb2⟩
 ·exact Lib.BuilderAt.put (T := 121) (e := 5) hB hb2 (bs' := bs ++ [.int .u8 c]) (by simpa using hown') Tryz.Builder_Extra_169.neB5
 ·exact ((hb1.alloc (by have := hb1.size; omega) _).grown hgrow (by have := hb1.size; simp; omega) (fun k hk => (hown.lt k hk).1)).setCell (p := ⟨b, 1, none⟩) hB _
set_option maxRecDepth 100000 in
theorem writeStringB_any (B b : Nat) (bs : List Value) (s : ByteArray) (w : World) (h : Lib.IsBuilder 121 5 B b bs w) (hlen : bs.length + s.size ≤ 140737488355328) (hBw : B ≤ w.heap.size) :
  Calls Tryz.prog 62 #[.pointer (some ⟨b, 0, none⟩), .string s] w fun e w' => e = .returned (.tuple #[.int .i64 s.size, .nilIface]) ∧ (Lib.BuilderAt 121 5 B b (.pointer (some ⟨b, 0, none⟩)) (bs ++ Lib.strCells s) w' ∧ Below B w w' ∧ KeepsX w w') := by
 obtain ⟨i0, hi, hz0, hz1, hz2⟩ := info_parts Tryz.Builder_Extra_169.infoByte
 go_enter Tryz.func62, Tryz.ntmps62
 go_wp2_with (go_at_call 89; refine (copyCheck_any B b bs _ h).mono ?_)
 rintro e w1 ⟨rfl, h1, hb1, hx1⟩
 have HX1 := Lib.hid hx1
 clear hx1
 obtain ⟨hB, v, hbk, hown, hne⟩ := h1
 have c0 : w1.cell? ⟨b, 0, none⟩ = some (.pointer (some ⟨b, 0, none⟩)) := by rw [Lib.cell_of_heap hbk]; rfl
 have c1 : w1.cell? ⟨b, 1, none⟩ = some v := by rw [Lib.cell_of_heap hbk]; rfl
 go_wp2_with (at_builtin; refine Lib.wpList_append_own_string _ rfl _ _ 53 9 rfl B 5 i0 Tryz.underlying53 Tryz.underlying9 hi hz0 hz1 hz2 _ _ _ rfl hown s rfl ?c3 ?c4 ?c5 ?_)
 case c3 => unfold maxLen; omega
 case c4 => omega
 case c5 => have := hb1.size; omega
 intro v' w2 hown' hgrow _
 have hlt : b < w1.heap.size := by
  rcases Nat.lt_or_ge b w1.heap.size with h' | h'
  ·exact h'
  ·simp [Array.getElem?_eq_none h'] at hbk
 have hb2 : w2.heap[b]? = some (.cells #[.pointer (some ⟨b, 0, none⟩), v] 121 (0, 0)) := by
  rw [hgrow.block b hlt (fun e => hne e.symm)]
  exact hbk
 have d0 : w2.cell? ⟨b, 0, none⟩ = some (.pointer (some ⟨b, 0, none⟩)) := by rw [Lib.cell_of_heap hb2]; rfl
 have d1 : w2.cell? ⟨b, 1, none⟩ = some v := by rw [Lib.cell_of_heap hb2]; rfl
 have f1 : w2.frozen? ⟨b, 1, none⟩ = false := Lib.frozen_of_heap hb2 1
 obtain ⟨ao, n', cap, rfl⟩ : ∃ ao n' cap, v' = .slice ao n' cap := by
  rcases hown'.2 with ⟨hv, _⟩ | ⟨g, cap, cur, hv, _⟩
  ·exact ⟨_, _, _, hv⟩
  ·exact ⟨_, _, _, hv⟩
 go_wp2
 go_ret2
 refine ⟨rfl, ?_, ?_, (HX1.out.grown0 hown hgrow).set hb2⟩
 ·exact Lib.BuilderAt.put (T := 121) (e := 5) hB hb2 (bs' := bs ++ Lib.strCells s) (by simpa [Lib.strCells_length] using hown') Tryz.Builder_Extra_169.neB5
 ·exact (hb1.grown hgrow (by have := hb1.size; omega) (fun k hk => (hown.lt k hk).1)).setCell (p := ⟨b, 1, none⟩) hB _
end Go.Proofs.YtilopjlcgmedgaaGreatDoor
namespace Crc
def stp (r : Nat) : Nat := if r % 2 = 1 then (r / 2) ^^^ 2197175160 else r / 2
def stpN : Nat → Nat → Nat
 | 0, r => r
 | k + 1, r => stp (stpN k r)
def byteStep (r : Nat) (b : UInt8) : Nat := stpN 8 (r ^^^ b.toNat)
def reg (l : List UInt8) : Nat := l.foldl byteStep 4294967295
def sum (l : List UInt8) : Nat := reg l ^^^ 4294967295
theorem stp_lt {r : Nat} (h : r < 4294967296) : stp r < 4294967296 := by
 unfold stp
 split
 ·exact Nat.xor_lt_two_pow (n := 32) (by omega) (by omega)
 ·omega
theorem stpN_lt {r : Nat} (k : Nat) (h : r < 4294967296) : stpN k r < 4294967296 := by
 induction k with
 | zero => exact h
 | succ k ih => exact stp_lt ih
theorem byteStep_lt {r : Nat} (b : UInt8) (h : r < 4294967296) : byteStep r b < 4294967296 := by
 unfold byteStep
 refine stpN_lt 8 (Nat.xor_lt_two_pow (n := 32) h ?_)
 have := b.toNat_lt; omega
theorem foldl_lt (l : List UInt8) {r : Nat} (h : r < 4294967296) : l.foldl byteStep r < 4294967296 := by
 induction l generalizing r with
 | nil => exact h
 | cons b l ih => exact ih (byteStep_lt b h)
theorem reg_lt (l : List UInt8) : reg l < 4294967296 := foldl_lt l (by omega)
theorem sum_lt (l : List UInt8) : sum l < 4294967296 := Nat.xor_lt_two_pow (n := 32) (reg_lt l) (by omega)
theorem reg_snoc (l : List UInt8) (b : UInt8) : reg (l ++ [b]) = byteStep (reg l) b := by
 simp [reg, List.foldl_append]
theorem byteStep_lt' (l : List UInt8) (b : UInt8) (k : Nat) : stpN k (reg l ^^^ b.toNat) < 4294967296 := by
 refine stpN_lt k (Nat.xor_lt_two_pow (n := 32) (reg_lt l) ?_)
 have := b.toNat_lt; omega
def tail (l : List UInt8) : List UInt8 := [UInt8.ofNat (sum l), UInt8.ofNat (sum l / 256), UInt8.ofNat (sum l / 65536), UInt8.ofNat (sum l / 16777216)]
def seal4 (l : List UInt8) : List UInt8 := l ++ tail l
def openS (l : List UInt8) : List UInt8 := if l.length < 4 then [] else if tail (l.take (l.length - 4)) = l.drop (l.length - 4) then l.take (l.length - 4) else []
def openE (l : List UInt8) : Int := if l.length < 4 then 5 else if tail (l.take (l.length - 4)) = l.drop (l.length - 4) then 0 else 7
theorem tail_length (l : List UInt8) : (tail l).length = 4 := rfl
theorem seal4_length (l : List UInt8) : (seal4 l).length = l.length + 4 := by simp [seal4, tail_length]
def le4 (n : Nat) : List UInt8 := [UInt8.ofNat n, UInt8.ofNat (n / 256), UInt8.ofNat (n / 65536), UInt8.ofNat (n / 16777216)]
def frame (d : List UInt8) : List UInt8 := le4 d.length ++ seal4 d
theorem frame_length (d : List UInt8) : (frame d).length = d.length + 8 := by simp [frame, le4, seal4_length]
end Crc
namespace Go.Proofs.YtilopjlcgmedgaaGreatDoor
open Go.ChangeShapes Go.WideShapes Go.ChangeAt Go.RowKit
set_option linter.unusedVariables false
set_option linter.unusedSimpArgs false
theorem xor_byte (n : Nat) (b : UInt8) (h : n < 4294967296) : bits .xor .u32 (n : Int) ((b.toNat : Int) % 4294967296) = ((n ^^^ b.toNat : Nat) : Int) := by
 have hb := b.toNat_lt
 have e : ((b.toNat : Int) % 4294967296) = (b.toNat : Int) := by omega
 rw [e, u32_xor_nat _ _ h (by omega)]
theorem and_one (n : Nat) (h : n < 4294967296) : bits .and .u32 (n : Int) 1 = ((n % 2 : Nat) : Int) := by
 rw [show (1 : Int) = ((1 : Nat) : Int) from rfl, u32_and_nat _ _ h (by omega), Nat.and_one_is_mod]
theorem xor_poly (n : Nat) (h : n < 4294967296) : bits .xor .u32 ((n : Int) / 2) 2197175160 = (((n / 2) ^^^ 2197175160 : Nat) : Int) := by
 rw [show (2197175160 : Int) = ((2197175160 : Nat) : Int) from rfl, show ((n : Int) / 2) = ((n / 2 : Nat) : Int) from by omega, u32_xor_nat _ _ (by omega) (by omega)]
theorem xor_all (n : Nat) (h : n < 4294967296) : bits .xor .u32 IntKind.u32.max (n : Int) = ((n ^^^ 4294967295 : Nat) : Int) := by
 rw [show IntKind.u32.max = ((4294967295 : Nat) : Int) from rfl, u32_xor_nat _ _ (by omega) h, Nat.xor_comm]
theorem take_snoc (s : ByteArray) (k : Nat) (h : k < s.size) : s.data.toList.take (k + 1) = s.data.toList.take k ++ [s[k]] := by
 rw [List.take_succ_eq_append_getElem (by simpa using h)]; rfl
set_option maxHeartbeats 400000 in
theorem sum_any (s : ByteArray) (w : World) (hs : s.size ≤ maxLen) :
  Calls Tryz.prog 103 #[.string s] w fun e w' => e = .returned (.int .u32 (Crc.sum s.data.toList)) ∧ w = w' := by
 unfold maxLen at hs
 go_enter Tryz.func103, Tryz.ntmps103
 go_wp2
 go_loop [3, 8] (fun r i => ∃ k : Nat, k ≤ s.size ∧ i = .int .i64 k ∧ r = .int .u32 (Crc.reg (s.data.toList.take k))) (fun _ i => s.size - (intOf i).toNat)
 case atStart => exact ⟨0, Nat.zero_le _, rfl, rfl⟩
 case round =>
  obtain ⟨k, hk, rfl, rfl⟩ := hrel
  by_cases hlt : k < s.size
  ·have hx := xor_byte (Crc.reg (s.data.toList.take k)) s[k] (Crc.reg_lt _)
   go_wp2
   clear hx
   go_loop [3, 17] (fun r i => ∃ j : Nat, j ≤ 8 ∧ i = .int .i64 j ∧ r = .int .u32 (Crc.stpN j (Crc.reg (s.data.toList.take k) ^^^ s[k].toNat))) (fun _ i => 8 - (intOf i).toNat)
   case atStart => exact ⟨0, Nat.zero_le _, rfl, rfl⟩
   case round =>
    obtain ⟨j, hj, rfl, rfl⟩ := hrel
    have hr := Crc.byteStep_lt' (s.data.toList.take k) s[k] j
    by_cases hjl : j < 8
    ·generalize hn : Crc.stpN j (Crc.reg (s.data.toList.take k) ^^^ s[k].toNat) = n at *
     have hn2 : Crc.stpN (j + 1) (Crc.reg (s.data.toList.take k) ^^^ s[k].toNat) = Crc.stp n := by rw [← hn]; rfl
     have Hn := Lib.hid hn2
     clear hn hn2
     have ha := and_one n hr
     by_cases hp : n % 2 = 1
     ·have hp2 : ((↑(n % 2) : Int) == 1) = true := by rw [hp]; rfl
      have hx := xor_poly n hr
      go_wp2
      clear hp2 ha hx
      go_round
      case rel => exact ⟨j + 1, by omega, by go_num, by rw [Hn.out, Crc.stp, if_pos hp]⟩
      case measure => simp [intOf]; omega
     ·have hp2 : ((↑(n % 2) : Int) == 1) = false := by rw [beq_eq_false_iff_ne]; omega
      go_wp2
      clear hp2 ha
      go_round
      case rel => exact ⟨j + 1, by omega, by go_num, by rw [Hn.out, Crc.stp, if_neg hp]; go_num⟩
      case measure => simp [intOf]; omega
    ·have : j = 8 := by omega
     subst this
     go_wp2
     go_round
     case rel => exact ⟨k + 1, by omega, by go_num, by rw [take_snoc s k hlt, Crc.reg_snoc]; rfl⟩
     case measure => simp [intOf]; omega
  ·have hx := xor_all (Crc.reg (s.data.toList.take k)) (Crc.reg_lt _)
   go_wp2
   go_ret
   refine ⟨?_, rfl⟩
   rw [List.take_of_length_le (by simp; omega)]; rfl
theorem tail_nums (l : List UInt8) (h : Crc.sum l < 4294967296) :
  strOfNums [(Crc.sum l : Int) % 256, (Crc.sum l : Int) / 256 % 256, (Crc.sum l : Int) / 65536 % 256, (Crc.sum l : Int) / 16777216] = ⟨(Crc.tail l).toArray⟩ := by
 unfold strOfNums Crc.tail
 generalize Crc.sum l = n at *
 have e1 : ((n : Int) % 256).toNat = n % 256 := by omega
 have e2 : ((n : Int) / 256 % 256).toNat = n / 256 % 256 := by omega
 have e3 : ((n : Int) / 65536 % 256).toNat = n / 65536 % 256 := by omega
 have e4 : ((n : Int) / 16777216).toNat = n / 16777216 := by omega
 have m (k : Nat) : UInt8.ofNat (k % 256) = UInt8.ofNat k := by
  apply UInt8.toNat_inj.1; simp
 simp only [List.map_cons, List.map_nil, e1, e2, e3, e4, m]
theorem conv4 (w : World) (a b c d : Int) :
  (convert 53 9 (.slice (some ⟨w.heap.size, 0, none⟩) 4 4)).run Tryz.prog (w.alloc (.cells #[.int .u8 a, .int .u8 b, .int .u8 c, .int .u8 d] 5)) = .ok (.string (strOfNums [a, b, c, d])) (w.alloc (.cells #[.int .u8 a, .int .u8 b, .int .u8 c, .int .u8 d] 5)) := by
 refine run_convert_bytes_arg _ 53 5 (by kernel_rfl) (by kernel_rfl) w.heap.size 0 4 4 [a, b, c, d] rfl ?_ 9 (by kernel_rfl)
 intro i hi
 match i, hi with
 | 0, _ => simp [go_sem]
 | 1, _ => simp [go_sem]
 | 2, _ => simp [go_sem]
 | 3, _ => simp [go_sem]
set_option maxHeartbeats 400000 in
theorem tail_any (s : ByteArray) (w : World) (hs : s.size ≤ maxLen) :
  Calls Tryz.prog 91 #[.string s] w fun e w' => e = .returned (.string ⟨(Crc.tail s.data.toList).toArray⟩) ∧ Below w.heap.size w w' := by
 have hl := Crc.sum_lt s.data.toList
 have hcv := conv4 w
 go_enter Tryz.func91, Tryz.ntmps91
 go_wp2_with (go_at_call 103; refine (sum_any _ _ hs).mono ?_; rintro e w' ⟨rfl, rfl⟩)
 go_ret
 refine ⟨?_, (Below.refl _ _).alloc (Nat.le_refl _) _⟩
 exact congrArg (fun b => Ending.returned (.string b)) (tail_nums _ hl)
theorem tail_size (l : List UInt8) : (⟨(Crc.tail l).toArray⟩ : ByteArray).size = 4 := rfl
theorem append_str (s : ByteArray) (l : List UInt8) : s ++ (⟨l.toArray⟩ : ByteArray) = ⟨(s.data.toList ++ l).toArray⟩ := by
 apply ByteArray.ext
 simp
set_option maxHeartbeats 400000 in
theorem seal_any (s : ByteArray) (w : World) (hs : s.size ≤ 1000000000) :
  Calls Tryz.prog 73 #[.string s] w fun e w' => e = .returned (.string ⟨(Crc.seal4 s.data.toList).toArray⟩) ∧ Below w.heap.size w w' := by
 have ht := tail_size s.data.toList
 have hm : s.size ≤ maxLen := by unfold maxLen; omega
 go_enter Tryz.func73, Tryz.ntmps73
 go_wp2_with (go_at_call 91; refine (tail_any _ _ hm).mono ?_; rintro e w' ⟨rfl, hb⟩)
 go_ret
 refine ⟨?_, hb⟩
 exact congrArg (fun b => Ending.returned (.string b)) (append_str s _)
theorem size_list (s : ByteArray) : s.data.toList.length = s.size := Array.length_toList
theorem two_res (b : ByteArray) (n : Int) (c : ByteArray) (m : Int) (h : b = c) (k : n = m) : Ending.returned (.tuple #[.string b, .int .i64 n]) = .returned (.tuple #[.string c, .int .i64 m]) := by rw [h, k]
theorem le4_nums (n : Nat) (h : n ≤ 65536) :
  strOfNums [(n : Int) % 256, (n : Int) / 256 % 256, (n : Int) / 65536 % 256, (n : Int) / 16777216 % 256] = ⟨(Crc.le4 n).toArray⟩ := by
 unfold strOfNums Crc.le4
 have e1 : ((n : Int) % 256).toNat = n % 256 := by omega
 have e2 : ((n : Int) / 256 % 256).toNat = n / 256 % 256 := by omega
 have e3 : ((n : Int) / 65536 % 256).toNat = n / 65536 % 256 := by omega
 have e4 : ((n : Int) / 16777216 % 256).toNat = n / 16777216 % 256 := by omega
 have m (k : Nat) : UInt8.ofNat (k % 256) = UInt8.ofNat k := by
  apply UInt8.toNat_inj.1; simp
 simp only [List.map_cons, List.map_nil, e1, e2, e3, e4, m]
theorem conv4_at (W : World) (B cap : Nat) (a b c d : Int) (h0 : W.cell? ⟨B, 0, none⟩ = some (.int .u8 a)) (h1 : W.cell? ⟨B, 1, none⟩ = some (.int .u8 b)) (h2 : W.cell? ⟨B, 2, none⟩ = some (.int .u8 c)) (h3 : W.cell? ⟨B, 3, none⟩ = some (.int .u8 d)) :
  (convert 53 9 (.slice (some ⟨B, 0, none⟩) 4 cap)).run Tryz.prog W = .ok (.string (strOfNums [a, b, c, d])) W := by
 refine run_convert_bytes_arg _ 53 5 (by kernel_rfl) (by kernel_rfl) B 0 4 cap [a, b, c, d] rfl ?_ 9 (by kernel_rfl)
 intro i hi
 match i, hi with
 | 0, _ => simpa using h0
 | 1, _ => simpa using h1
 | 2, _ => simpa using h2
 | 3, _ => simpa using h3
theorem four_cells (w : World) (a b c d : Int) (T : TypeId) :
  (w.alloc (.cells #[.int .u8 a, .int .u8 b, .int .u8 c, .int .u8 d] T)).cell? ⟨w.heap.size, 0, none⟩ = some (.int .u8 a) ∧
  (w.alloc (.cells #[.int .u8 a, .int .u8 b, .int .u8 c, .int .u8 d] T)).cell? ⟨w.heap.size, 1, none⟩ = some (.int .u8 b) ∧
  (w.alloc (.cells #[.int .u8 a, .int .u8 b, .int .u8 c, .int .u8 d] T)).cell? ⟨w.heap.size, 2, none⟩ = some (.int .u8 c) ∧
  (w.alloc (.cells #[.int .u8 a, .int .u8 b, .int .u8 c, .int .u8 d] T)).cell? ⟨w.heap.size, 3, none⟩ = some (.int .u8 d) ∧
  Below w.heap.size w (w.alloc (.cells #[.int .u8 a, .int .u8 b, .int .u8 c, .int .u8 d] T)) ∧
  (w.alloc (.cells #[.int .u8 a, .int .u8 b, .int .u8 c, .int .u8 d] T)).heap.size = w.heap.size + 1 := by
 refine ⟨by simp [go_sem], by simp [go_sem], by simp [go_sem], by simp [go_sem], (Below.refl _ _).alloc (Nat.le_refl _) _, by simp⟩
theorem frame_str (s : ByteArray) (hs : s.size ≤ 65536) : strOfNums [(s.size : Int) % 256, (s.size : Int) / 256 % 256, (s.size : Int) / 65536, (s.size : Int) / 16777216] ++ (⟨(Crc.seal4 s.data.toList).toArray⟩ : ByteArray) = ⟨(Crc.frame s.data.toList).toArray⟩ := by
 have e3 : (s.size : Int) / 65536 % 256 = (s.size : Int) / 65536 := by omega
 have e4 : (s.size : Int) / 16777216 % 256 = (s.size : Int) / 16777216 := by omega
 have h := le4_nums s.size hs
 rw [e3, e4] at h
 rw [h, append_str]
 unfold Crc.frame
 rw [size_list]
set_option maxRecDepth 100000 in
set_option maxHeartbeats 400000 in
theorem frame_any (s : ByteArray) (w : World) (hs : s.size ≤ 65536) :
  Calls Tryz.prog 51 #[.string s] w fun e w' => e = .returned (.tuple #[.string ⟨(Crc.frame s.data.toList).toArray⟩, .int .i64 0]) ∧ Below w.heap.size w w' := by
 go_enter Tryz.func51, Tryz.ntmps51
 go_wp2
 have hx := Lib.hid (four_cells w (s.size % 256) (s.size / 256 % 256) (s.size / 65536) (s.size / 16777216) 133)
 generalize w.alloc _ = Wx at hx ⊢
 obtain ⟨hc0, hc1, hc2, hc3, hbx, hsx⟩ := hx.out
 have hcv := conv4_at Wx.drew w.heap.size 4 _ _ _ _ hc0 hc1 hc2 hc3
 have HC := Lib.hid (And.intro hc0 (And.intro hc1 (And.intro hc2 hc3)))
 have HSX := Lib.hid hsx
 have hz4 : ∀ a b c d : Int, (strOfNums [a, b, c, d]).size = 4 := fun _ _ _ _ => rfl
 have hzs : (⟨(Crc.seal4 s.data.toList).toArray⟩ : ByteArray).size = s.size + 4 := by show (Crc.seal4 s.data.toList).length = _; rw [Crc.seal4_length, size_list]
 clear hc0 hc1 hc2 hc3 hsx hx
 go_region_with (go_at_call 73; refine (seal_any _ _ (by omega)).mono ?_; rintro e w' ⟨rfl, hb⟩; have hcv' := conv4_at w' w.heap.size 4 _ _ _ _ ((hb.cell (p := ⟨w.heap.size, 0, none⟩) (by show _ < Wx.heap.size; rw [HSX.out]; exact Nat.lt_succ_self _)).trans HC.out.1) ((hb.cell (p := ⟨w.heap.size, 1, none⟩) (by show _ < Wx.heap.size; rw [HSX.out]; exact Nat.lt_succ_self _)).trans HC.out.2.1) ((hb.cell (p := ⟨w.heap.size, 2, none⟩) (by show _ < Wx.heap.size; rw [HSX.out]; exact Nat.lt_succ_self _)).trans HC.out.2.2.1) ((hb.cell (p := ⟨w.heap.size, 3, none⟩) (by show _ < Wx.heap.size; rw [HSX.out]; exact Nat.lt_succ_self _)).trans HC.out.2.2.2))
 all_goals go_wp2
 all_goals go_ret2
 all_goals refine ⟨two_res _ _ _ _ ?_ rfl, hbx.trans (((Below.refl _ _).drew.trans hb).mono hbx.size)⟩
 all_goals exact frame_str s hs
def framed (s : ByteArray) : ByteArray := ⟨(Crc.frame s.data.toList).toArray⟩
theorem framed_size (s : ByteArray) : (framed s).size = s.size + 8 := by show (Crc.frame s.data.toList).length = _; rw [Crc.frame_length, size_list]
theorem frame_call (s : ByteArray) (w : World) (hs : s.size ≤ 65536) :
  Calls Tryz.prog 51 #[.string s] w fun e w' => e = .returned (.tuple #[.string (framed s), .int .i64 0]) ∧ Below w.heap.size w w' := frame_any s w hs
set_option maxRecDepth 100000 in
theorem frame_long (s : ByteArray) (w : World) (hs : 65536 < s.size) (hs2 : s.size ≤ 1000000000) :
  Calls Tryz.prog 51 #[.string s] w fun e w' => e = .returned (.tuple #[.string ⟨#[]⟩, .int .i64 2]) ∧ w = w' := by
 have h1 : decide ((65536 : Int) < (s.size : Int)) = true := by simp; omega
 go_enter Tryz.func51, Tryz.ntmps51
 go_wp2
 go_ret2
 exact ⟨rfl, rfl⟩
theorem wapp_ok (a s : ByteArray) (w : World) (hs : s.size ≤ 65536) (ha : a.size + s.size + 8 ≤ 16777216) :
  Calls Tryz.prog 38 #[.string a, .string s] w fun e w' => e = .returned (.tuple #[.string (a ++ framed s), .int .i64 0]) ∧ Below w.heap.size w w' := by
 have hf := framed_size s
 have hn1 : decide ((16777216 : Int) < (a.size : Int) + ((s.size : Int) + 8)) = false := by simp; omega
 have hn2 : (a.size : Int) + ((s.size : Int) + 8) ≤ 16777216 := by omega
 go_enter Tryz.func38, Tryz.ntmps38
 go_wp2_with fail
 refine (frame_call _ _ (by omega)).mono ?_
 rintro e w1 ⟨rfl, hb⟩
 go_wp2_with fail
 go_ret2
 exact ⟨rfl, hb⟩
theorem wapp_full (a s : ByteArray) (w : World) (hs : s.size ≤ 65536) (ha : 16777216 < a.size + s.size + 8) (ha2 : a.size ≤ 1000000000) :
  Calls Tryz.prog 38 #[.string a, .string s] w fun e w' => e = .returned (.tuple #[.string ⟨#[]⟩, .int .i64 2]) ∧ Below w.heap.size w w' := by
 have hf := framed_size s
 have hn1 : decide ((16777216 : Int) < (a.size : Int) + ((s.size : Int) + 8)) = true := by simp; omega
 have hn2 : (16777216 : Int) < (a.size : Int) + ((s.size : Int) + 8) := by omega
 go_enter Tryz.func38, Tryz.ntmps38
 go_wp2_with fail
 refine (frame_call _ _ (by omega)).mono ?_
 rintro e w1 ⟨rfl, hb⟩
 go_wp2_with fail
 go_ret2
 exact ⟨rfl, hb⟩
theorem wapp_long (a s : ByteArray) (w : World) (hs : 65536 < s.size) (hs2 : s.size ≤ 1000000000) :
  Calls Tryz.prog 38 #[.string a, .string s] w fun e w' => e = .returned (.tuple #[.string ⟨#[]⟩, .int .i64 2]) ∧ Below w.heap.size w w' := by
 go_enter Tryz.func38, Tryz.ntmps38
 go_wp2_with fail
 refine (frame_long _ _ hs hs2).mono ?_
 rintro e w1 ⟨rfl, rfl⟩
 go_wp2_with fail
 go_ret2
 exact ⟨rfl, Below.refl _ _⟩
theorem wapp_any (a s : ByteArray) (w : World) (ha2 : a.size ≤ 1000000000) (hs2 : s.size ≤ 1000000000) :
  Calls Tryz.prog 38 #[.string a, .string s] w fun e w' => (e = .returned (.tuple #[.string (a ++ framed s), .int .i64 0]) ∧ s.size ≤ 65536 ∧ a.size + s.size + 8 ≤ 16777216 ∨ e = .returned (.tuple #[.string ⟨#[]⟩, .int .i64 2]) ∧ ¬ (s.size ≤ 65536 ∧ a.size + s.size + 8 ≤ 16777216)) ∧ Below w.heap.size w w' := by
 by_cases h : s.size ≤ 65536
 ·by_cases h2 : a.size + s.size + 8 ≤ 16777216
  ·refine (wapp_ok a s w h h2).mono ?_
   rintro e w1 ⟨rfl, hb⟩
   exact ⟨Or.inl ⟨rfl, h, h2⟩, hb⟩
  ·refine (wapp_full a s w h (by omega) ha2).mono ?_
   rintro e w1 ⟨rfl, hb⟩
   exact ⟨Or.inr ⟨rfl, fun h3 => h2 h3.2⟩, hb⟩
 ·refine (wapp_long a s w (by omega) hs2).mono ?_
  rintro e w1 ⟨rfl, hb⟩
  exact ⟨Or.inr ⟨rfl, fun h3 => h h3.1⟩, hb⟩
open Go.Deep Go.Shelf
def vlq (u : Nat) : List UInt8 := if h : u < 128 then [UInt8.ofNat u] else UInt8.ofNat (u % 128 + 128) :: vlq (u / 128)
termination_by u
decreasing_by omega
theorem vlq_small {u : Nat} (h : u < 128) : vlq u = [UInt8.ofNat u] := by unfold vlq; rw [dif_pos h]
theorem vlq_big {u : Nat} (h : ¬ u < 128) : vlq u = UInt8.ofNat (u % 128 + 128) :: vlq (u / 128) := by rw [vlq, dif_neg h]
theorem vlq_pos (u : Nat) : 0 < (vlq u).length := by
 by_cases h : u < 128
 ·rw [vlq_small h]; simp
 ·rw [vlq_big h]; simp
theorem vlq_len (n : Nat) : ∀ u, u < 128 ^ (n + 1) → (vlq u).length ≤ n + 1 := by
 induction n with
 | zero => intro u h; rw [vlq_small (by simpa using h)]; simp
 | succ n ih =>
  intro u h
  by_cases h1 : u < 128
  ·rw [vlq_small h1]; simp
  ·rw [vlq_big h1, List.length_cons]
   have := ih (u / 128) (by rw [Nat.div_lt_iff_lt_mul (by omega)]; rw [Nat.pow_succ] at h; exact h)
   omega
def numB (n : Nat) : List UInt8 := vlq (2 * n)
theorem numB_pos (n : Nat) : 0 < (numB n).length := vlq_pos _
theorem numB_len (n : Nat) (h : n < 4611686018427387904) : (numB n).length ≤ 9 := by
  unfold numB
  exact vlq_len 8 _ (by have : (128 : Nat) ^ (8 + 1) = 9223372036854775808 := by decide
                        omega)
set_option maxRecDepth 100000 in
theorem zigzag_any (n : Nat) (w : World) (h : n < 4611686018427387904) :
  Calls Tryz.prog 60 #[.int .i64 n] w fun e w' => e = .returned (.int .u64 ((2 * n : Nat) : Int)) ∧ w = w' := by
 have e1 : IntKind.u64.wrap (n : Int) = (n : Int) := by rw [IntKind.wrap_u64]; omega
 go_enter Tryz.func60, Tryz.ntmps60
 go_wp2
 go_ret
 refine ⟨?_, rfl⟩
 have e2 : ((n : Int) / 9223372036854775808) = ((0 : Nat) : Int) := by omega
 have e3 : ((n : Int) * 2) = ((2 * n : Nat) : Int) := by omega
 rw [e2, e3, u64_xor_nat _ _ (by omega) (by omega), Nat.xor_zero]
 rfl
set_option maxRecDepth 100000 in
theorem or128 : ∀ x : Nat, x < 256 → x ||| 128 = x % 128 + 128 := by decide
theorem byte_or (u : Nat) : bits .or .u8 ((u : Int) % 256) 128 = (((UInt8.ofNat (u % 128 + 128)).toNat : Nat) : Int) := by
 have e : ((u : Int) % 256) = ((u % 256 : Nat) : Int) := by omega
 rw [e, show (128 : Int) = ((128 : Nat) : Int) from rfl, u8_or_nat _ _ (by omega) (by omega), or128 _ (by omega)]
 have : u % 256 % 128 + 128 = u % 128 + 128 := by omega
 rw [this, UInt8.toNat_ofNat']
 omega
theorem byte_low (u : Nat) (h : u < 128) : (u : Int) = (((UInt8.ofNat u).toNat : Nat) : Int) := by
 rw [UInt8.toNat_ofNat']; omega
theorem bytes_snoc (l : List UInt8) (b : UInt8) : Lib.byteCells (l ++ [b]) = Lib.byteCells l ++ [.int .u8 b.toNat] := by simp [Lib.byteCells]
theorem infoU8 : (Tryz.prog.info? 5).map (fun i => (i.zero, i.size, i.bytes)) = some (some (.int .u8 0), 1, 1) := by kernel_rfl
set_option maxRecDepth 100000 in
set_option maxHeartbeats 1000000 in
theorem appendNum_any (n : Nat) (w : World) (h : n < 4611686018427387904) :
  Calls Tryz.prog 34 #[.slice none 0 0, .int .i64 n] w fun e w' => ∃ v, e = .returned v ∧ w'.ownsRow w.heap.size 5 1 v (numB n).length (Lib.byteCells (numB n)) ∧ Below w.heap.size w w' := by
 obtain ⟨i0, hi, hz0, hz1, hz2⟩ := info_parts infoU8
 have HN9 := Lib.hid (numB_len n h)
 go_enter Tryz.func34, Tryz.ntmps34
 go_wp2_with (go_at_call 60; refine (zigzag_any n _ h).mono ?_; rintro e w' ⟨rfl, rfl⟩)
 go_loopw [0, 5] (fun v uu wr => ∃ (pre : List UInt8) (u : Nat), uu = .int .u64 u ∧ u < 9223372036854775808 ∧ wr.ownsRow w.heap.size 5 1 v pre.length (Lib.byteCells pre) ∧ Below w.heap.size w wr ∧ pre ++ vlq u = numB n) (fun _ u _ => (intOf u).toNat)
 case atStart => exact ⟨[], 2 * n, rfl, by omega, World.ownsRow_nil _ _ _ _, Below.refl _ _, rfl⟩
 case round =>
  obtain ⟨pre, u, rfl, hu, hown, hb, hpre⟩ := hrel
  have HP := Lib.hid hpre
  have hlen : pre.length ≤ 9 := by have := congrArg List.length hpre; rw [List.length_append] at this; have := HN9.out; omega
  have hbs := hb.size
  clear hpre
  by_cases hlt : u < 128
  ·go_wp2_with (at_builtin; refine wpList_append_own _ rfl _ _ 53 rfl w.heap.size 5 i0 (.int .u8 0) 1 1 Tryz.underlying53 hi hz0 hz1 hz2 rfl (by decide) _ _ _ rfl (hown.alloc _) ⟨wr.heap.size, 0, none⟩ 1 1 [.int .u8 u] rfl rfl ?c1 ?c2 ?c3 ?c4 ?c5 ?_)
   case c1 =>
    intro j u hj
    match j, hj with
    | 0, hj => simp at hj; subst hj; simp [Addr.add]
   case c2 => intro u hu; simp at hu; subst hu; rfl
   case c3 => unfold maxLen; omega
   case c4 => omega
   case c5 => simp; omega
   intro v' w2 hown' hgrow _
   go_wp2_with fail
   go_ret
   refine ⟨_, rfl, ?_, (hb.alloc hbs _).grown hgrow (by simp; omega) (fun k hk => (hown.lt k hk).1)⟩
   have e : numB n = pre ++ [UInt8.ofNat u] := by rw [← HP.out, vlq_small hlt]
   rw [e, List.length_append, bytes_snoc, ← byte_low u hlt]
   exact hown'
  ·have hb0 := byte_or u
   go_wp2_with (at_builtin; refine wpList_append_own _ rfl _ _ 53 rfl w.heap.size 5 i0 (.int .u8 0) 1 1 Tryz.underlying53 hi hz0 hz1 hz2 rfl (by decide) _ _ _ rfl (hown.alloc _) ⟨wr.heap.size, 0, none⟩ 1 1 [.int .u8 (((UInt8.ofNat (u % 128 + 128)).toNat : Nat) : Int)] rfl rfl ?d1 ?d2 ?d3 ?d4 ?d5 ?_)
   case d1 =>
    intro j u hj
    match j, hj with
    | 0, hj => simp at hj; subst hj; simp [Addr.add]
   case d2 => intro u hu; simp at hu; subst hu; rfl
   case d3 => unfold maxLen; omega
   case d4 => omega
   case d5 => simp; omega
   intro v' w2 hown' hgrow _
   have hb2 := (hb.alloc hbs _).grown hgrow (by simp; omega) (fun k hk => (hown.lt k hk).1)
   go_wp2_with fail
   go_roundw
   case rel =>
    refine ⟨pre ++ [UInt8.ofNat (u % 128 + 128)], u / 128, by go_num, by omega, ?_, hb2, by rw [List.append_assoc, List.singleton_append, ← vlq_big hlt]; exact HP.out⟩
    rw [List.length_append, bytes_snoc]
    exact hown'
   case measure => simp [intOf]; omega
def mkS (l : List UInt8) : Bs := ⟨l.toArray⟩
theorem mkS_size (l : List UInt8) : (mkS l).size = l.length := by simp [mkS, ByteArray.size]
theorem strOf_bytes (l : List UInt8) : strOfNums (l.map fun b => (b.toNat : Int)) = mkS l := by
 unfold strOfNums mkS
 congr 2
 rw [List.map_map]
 conv => rhs; rw [← List.map_id l]
 refine List.map_congr_left fun b _ => ?_
 simp
theorem conv_row {B : Nat} {W : World} {v : Value} {l : List UInt8} (h : W.ownsRow B 5 1 v l.length (Lib.byteCells l)) (h0 : 0 < l.length) :
  (convert 53 9 v).run Tryz.prog W = .ok (.string (mkS l)) W := by
 rcases h.2 with ⟨rfl, h1⟩ | ⟨g, c, cur, rfl, h1⟩
 ·omega
 ·have e := run_convert_bytes_arg (P := Tryz.prog) (w := W) 53 5 (by kernel_rfl) (by kernel_rfl) g 0 l.length c (l.map fun b => (b.toNat : Int)) (by simp) (fun i hi => by
   have := h.cells (g := g) rfl i (.int .u8 (l[i]'(by simpa using hi)).toNat) (by simp [Lib.byteCells]; exact ⟨_, List.getElem?_eq_getElem hi, rfl⟩)
   rw [addr_add'] at this
   rw [this, List.getD_eq_getElem?_getD, List.getElem?_map, List.getElem?_eq_getElem hi]
   rfl) 9 (by kernel_rfl)
  rw [e, strOf_bytes]
set_option maxRecDepth 100000 in
theorem num_any (n : Nat) (w : World) (h : n < 4611686018427387904) :
  Calls Tryz.prog 63 #[.int .i64 n] w fun e w' => e = .returned (.string (mkS (numB n))) ∧ Below w.heap.size w w' := by
 go_enter Tryz.func63, Tryz.ntmps63
 go_wp2_with (go_at_call 34; refine (appendNum_any n _ h).mono ?_)
 rintro e w1 ⟨v, rfl, hown, hb⟩
 have hcv := conv_row hown (numB_pos n)
 have HB := Lib.hid hb
 clear hown hb
 go_wp2
 go_ret
 exact ⟨rfl, HB.out⟩
abbrev Chg := Bs × Bs × Bs × Bool
def strB (s : Bs) : List UInt8 := numB s.size ++ s.data.toList
def chB (x : Chg) : List UInt8 := strB x.1 ++ (strB x.2.1 ++ ((if x.2.2.2 then 1 else 0) :: strB x.2.2.1))
def chsB (l : List Chg) : List UInt8 := l.flatMap chB
def recB (kind stamp : Nat) (l : List Chg) : List UInt8 := UInt8.ofNat kind :: (numB stamp ++ if kind = 1 ∨ kind = 3 then numB l.length ++ chsB l else [])
def ChAt (W : World) (v : Value) (L : List Chg) : Prop :=
 (v = .slice none 0 0 ∧ L = []) ∨ ∃ g c, v = .slice (some ⟨g, 0, none⟩) L.length c ∧ L.length ≤ c ∧ c ≤ 9223372036854775807 ∧ g < W.heap.size ∧ ∀ j (h : j < L.length), W.cell? ⟨g, j * 4, none⟩ = some (.string L[j].1) ∧ W.cell? ⟨g, j * 4 + 1, none⟩ = some (.string L[j].2.1) ∧ W.cell? ⟨g, j * 4 + 2, none⟩ = some (.string L[j].2.2.1) ∧ W.cell? ⟨g, j * 4 + 3, none⟩ = some (.bool L[j].2.2.2)
theorem ChAt.below {W W' : World} {v : Value} {L : List Chg} {B : Nat} (h : ChAt W v L) (hb : Below B W W') (hB : ∀ k, v.ownBlock = some k → k < B) : ChAt W' v L := by
 rcases h with h | ⟨g, c, rfl, h1, h2, h3, h4⟩
 ·exact .inl h
 ·refine .inr ⟨g, c, rfl, h1, h2, Nat.lt_of_lt_of_le h3 hb.size, fun j hj => ?_⟩
  have hg := hB g rfl
  obtain ⟨a0, a1, a2, a3⟩ := h4 j hj
  exact ⟨(hb.cell (p := ⟨g, _, none⟩) hg).trans a0, (hb.cell (p := ⟨g, _, none⟩) hg).trans a1, (hb.cell (p := ⟨g, _, none⟩) hg).trans a2, (hb.cell (p := ⟨g, _, none⟩) hg).trans a3⟩
theorem ChAt.len {W : World} {v : Value} {L : List Chg} (h : ChAt W v L) : ∃ a c, v = .slice a L.length c := by
 rcases h with ⟨rfl, rfl⟩ | ⟨g, c, rfl, _⟩
 ·exact ⟨_, _, rfl⟩
 ·exact ⟨_, _, rfl⟩
theorem ChAt.lt {W : World} {v : Value} {L : List Chg} (h : ChAt W v L) : ∀ k, v.ownBlock = some k → k < W.heap.size := by
 rcases h with ⟨rfl, rfl⟩ | ⟨g, c, rfl, h1, h2, h3, h4⟩
 ·intro k hk; simp [Value.ownBlock] at hk
 ·intro k hk; simp only [Value.ownBlock, Option.some.injEq] at hk; omega
def Bld (B b : Nat) (l : List UInt8) (w0 w : World) : Prop := Lib.IsBuilder 121 5 B b (Lib.byteCells l) w ∧ Below B w0 w ∧ B ≤ w.heap.size ∧ KeepsX w0 w
theorem byteCells_app (a b : List UInt8) : Lib.byteCells (a ++ b) = Lib.byteCells a ++ Lib.byteCells b := by simp [Lib.byteCells]
theorem byteCells_len (a : List UInt8) : (Lib.byteCells a).length = a.length := by simp [Lib.byteCells]
theorem bld_byte (B b : Nat) (l : List UInt8) (x : UInt8) (c : Int) (hc : c = x.toNat) (w0 w : World) (h : Bld B b l w0 w) (hlen : l.length ≤ 100000000000) :
  Calls Tryz.prog 61 #[.pointer (some ⟨b, 0, none⟩), .int .u8 c] w fun e w' => e = .returned .nilIface ∧ Bld B b (l ++ [x]) w0 w' := by
 obtain ⟨h1, h2, h3, h4⟩ := h
 refine (writeByte_any B b _ c w h1 (by rw [byteCells_len]; omega) h3).mono ?_
 rintro e w' ⟨rfl, g1, g2, g3⟩
 refine ⟨rfl, .inr ?_, h2.trans g2, Nat.le_trans h3 g2.size, h4.trans g3⟩
 rw [byteCells_app]
 rw [hc] at g1
 exact g1
theorem bld_str (B b : Nat) (l : List UInt8) (s : Bs) (w0 w : World) (h : Bld B b l w0 w) (hlen : l.length ≤ 100000000000) (hs : s.size ≤ 1000000000) :
  Calls Tryz.prog 62 #[.pointer (some ⟨b, 0, none⟩), .string s] w fun e w' => e = .returned (.tuple #[.int .i64 s.size, .nilIface]) ∧ Bld B b (l ++ s.data.toList) w0 w' := by
 obtain ⟨h1, h2, h3, h4⟩ := h
 refine (writeStringB_any B b _ s w h1 (by rw [byteCells_len]; omega) h3).mono ?_
 rintro e w' ⟨rfl, g1, g2, g3⟩
 refine ⟨rfl, .inr ?_, h2.trans g2, Nat.le_trans h3 g2.size, h4.trans g3⟩
 rw [byteCells_app]
 exact g1
theorem Bld.below {B b : Nat} {l : List UInt8} {w0 w w' : World} (h : Bld B b l w0 w) (hb : Below w.heap.size w w') : Bld B b l w0 w' := by
 obtain ⟨h1, h2, h3, h4⟩ := h
 have key : ∀ p, Lib.BuilderAt 121 5 B b p (Lib.byteCells l) w → Lib.BuilderAt 121 5 B b p (Lib.byteCells l) w' := by
  rintro p ⟨hB, v, hbk, hown, hne⟩
  have hlt : b < w.heap.size := (Array.getElem?_eq_some_iff.1 hbk).1
  refine ⟨hB, v, (hb.block b hlt).trans hbk, ?_, hne⟩
  refine ⟨hown.1, ?_⟩
  rcases hown.2 with h | ⟨g, c, cur, rfl, q1, q2, q3⟩
  ·exact .inl h
  ·exact .inr ⟨g, c, cur, rfl, q1, (hb.block g (Array.getElem?_eq_some_iff.1 q2).1).trans q2, q3⟩
 exact ⟨h1.imp (key _) (key _), h2.trans (hb.mono h3), Nat.le_trans h3 hb.size, h4.trans (KeepsX.below hb)⟩
theorem mkS_list (l : List UInt8) : (mkS l).data.toList = l := by simp [mkS]
set_option maxRecDepth 100000 in
theorem writeString_any (B b : Nat) (l : List UInt8) (s : Bs) (w0 w : World) (h : Bld B b l w0 w) (hlen : l.length ≤ 10000000000) (hs : s.size ≤ 1000000000) :
  Calls Tryz.prog 65 #[.pointer (some ⟨b, 0, none⟩), .string s] w fun e w' => e = .returned (.tuple #[]) ∧ Bld B b (l ++ strB s) w0 w' := by
 have HH := Lib.hid h
 have HL := Lib.hid hlen
 have HN := Lib.hid (numB_len s.size (by omega))
 clear h hlen
 go_enter Tryz.func65, Tryz.ntmps65
 go_wp2_with (go_at_call 63; refine (num_any s.size _ (by omega)).mono ?_)
 rintro e w1 ⟨rfl, hb⟩
 have HB := Lib.hid (HH.out.below hb)
 clear hb
 go_wp2_with (go_at_call 62; refine (bld_str B b l _ w0 _ HB.out (by have := HL.out; omega) (by rw [mkS_size]; have := HN.out; omega)).mono ?_)
 rintro e w2 ⟨rfl, hb⟩
 rw [mkS_list] at hb
 have HB2 := Lib.hid hb
 clear hb
 go_wp2_with (go_at_call 62; refine (bld_str B b _ s w0 _ HB2.out (by rw [List.length_append]; have := HL.out; have := HN.out; omega) hs).mono ?_)
 rintro e w3 ⟨rfl, hb⟩
 have HB3 := Lib.hid hb
 clear hb
 go_wp2
 go_end0
 refine ⟨rfl, ?_⟩
 unfold strB
 rw [← List.append_assoc]
 exact HB3.out
theorem Bld.start {B b : Nat} {l : List UInt8} {w0 w : World} (h : Bld B b l w0 w) : Bld B b l w w := ⟨h.1, Below.refl _ _, h.2.2.1, KeepsX.refl _⟩
theorem Bld.trans {B b : Nat} {l l' : List UInt8} {w0 w w' : World} (h : Bld B b l w0 w) (g : Bld B b l' w w') : Bld B b l' w0 w' := ⟨g.1, h.2.1.trans g.2.1, g.2.2.1, h.2.2.2.trans g.2.2.2⟩
theorem Bld.cellX {B b : Nat} {l : List UInt8} {w0 w : World} (h : Bld B b l w0 w) {k : Nat} {cs : Array Value} {T : TypeId} (hb : w0.heap[k]? = some (.cells cs T (0, 0))) (h1 : T ≠ 121) (h2 : T ≠ 5) (j : Nat) : w.cell? ⟨k, j, none⟩ = cs[j]? := Lib.cell_of_heap (h.2.2.2 k cs T (0, 0) hb h1 h2) j
theorem Bld.new (W : World) : Bld W.heap.size W.heap.size [] W (W.alloc (.cells #[.pointer none, .slice none 0 0] 121)) :=
 ⟨Lib.fresh_isBuilder _ _ W, (Below.refl _ _).alloc (Nat.le_refl _) _, by simp, (KeepsX.refl W).alloc _⟩
theorem rec_cells (W : World) (a b c : Value) (T : TypeId) : (W.alloc (.cells #[a, b, c] T)).heap[W.heap.size]? = some (.cells #[a, b, c] T (0, 0)) := heap_alloc_new W _
theorem chsB_snoc (l : List Chg) (x : Chg) : chsB (l ++ [x]) = chsB l ++ chB x := by simp [chsB]
def Small (L : List Chg) : Prop := L.length ≤ 1000 ∧ ∀ x ∈ L, x.1.size ≤ 20000 ∧ x.2.1.size ≤ 20000 ∧ x.2.2.1.size ≤ 20000
theorem strB_len (s : Bs) (h : s.size ≤ 20000) : (strB s).length ≤ 20009 := by
 unfold strB
 rw [List.length_append]
 have := numB_len s.size (by omega)
 have e : s.data.toList.length = s.size := Array.length_toList
 omega
theorem chB_len (x : Chg) (h : x.1.size ≤ 20000 ∧ x.2.1.size ≤ 20000 ∧ x.2.2.1.size ≤ 20000) : (chB x).length ≤ 60100 := by
 unfold chB
 have h1 := strB_len x.1 h.1
 have h2 := strB_len x.2.1 h.2.1
 have h3 := strB_len x.2.2.1 h.2.2
 simp only [List.length_append, List.length_cons]
 omega
theorem chsB_len : ∀ (L : List Chg), (∀ x ∈ L, x.1.size ≤ 20000 ∧ x.2.1.size ≤ 20000 ∧ x.2.2.1.size ≤ 20000) → (chsB L).length ≤ 60100 * L.length
 | [], _ => Nat.zero_le _
 | x :: L, h => by
  have h1 := chB_len x (h x (List.mem_cons_self ..))
  have h2 := chsB_len L (fun y hy => h y (List.mem_cons_of_mem _ hy))
  have e : chsB (x :: L) = chB x ++ chsB L := by simp [chsB]
  rw [e, List.length_append, List.length_cons]
  omega
theorem Bld.rec {B b : Nat} {l : List UInt8} {W w' : World} {x y z : Value} {T : TypeId} (h : Bld B b l (W.alloc (.cells #[x, y, z] T)) w') (hB : W.heap.size < B) :
  w'.cell? ⟨W.heap.size, 0, none⟩ = some x ∧ w'.cell? ⟨W.heap.size, 1, none⟩ = some y ∧ w'.cell? ⟨W.heap.size, 2, none⟩ = some z := by
 have hb := h.2.1
 have e := rec_cells W x y z T
 exact ⟨(hb.cell (p := ⟨W.heap.size, 0, none⟩) hB).trans (Lib.cell_of_heap e 0), (hb.cell (p := ⟨W.heap.size, 1, none⟩) hB).trans (Lib.cell_of_heap e 1), (hb.cell (p := ⟨W.heap.size, 2, none⟩) hB).trans (Lib.cell_of_heap e 2)⟩
theorem Bld.low {B b : Nat} {l : List UInt8} {W w' : World} {o : Obj} (h : Bld B b l (W.alloc o) w') (hB : B = W.heap.size + 1) : Below W.heap.size W w' :=
 ((Below.refl _ W).alloc (Nat.le_refl _) o).trans (h.2.1.mono (by omega))
set_option maxRecDepth 100000 in
set_option maxHeartbeats 2000000 in
theorem text_short (k s : Nat) (v : Value) (w : World) (hk : k = 2 ∨ k = 4) (hs : s < 4611686018427387904) :
  Calls Tryz.prog 39 #[.agg #[.int .i64 k, .int .i64 s, v]] w fun e w' => e = .returned (.string (mkS (recB k s []))) ∧ Below w.heap.size w w' := by
 have HN := Lib.hid (numB_len s hs)
 have e2 : ((k : Int) != 1) = true := by rcases hk with rfl | rfl <;> rfl
 have e3 : ((k : Int) != 3) = true := by rcases hk with rfl | rfl <;> rfl
 have e4 : ((k : Int) % 256) = (((UInt8.ofNat k).toNat : Nat) : Int) := by rcases hk with rfl | rfl <;> rfl
 have HK := Lib.hid hk
 have HE4 := Lib.hid e4
 clear hk e4
 have HE : Bld _ _ _ _ _ := Bld.new (w.alloc (.cells #[.int .i64 k, .int .i64 s, v] 58))
 rw [World.size_alloc] at HE
 go_enter Tryz.func39, Tryz.ntmps39
 go_wp2_with fail
 refine (bld_byte _ _ [] (UInt8.ofNat k) _ HE4.out _ _ HE (by simp)).mono ?_
 rintro e w1 ⟨rfl, h1⟩
 obtain ⟨c0, c1, c2⟩ := h1.rec (Nat.lt_succ_self _)
 have H1 := Lib.hid h1
 clear h1 HE
 go_wp2_with fail
 refine (num_any s _ hs).mono ?_
 rintro e w2 ⟨rfl, hb2⟩
 have h2 := H1.out.below hb2
 obtain ⟨c0, c1, c2⟩ := h2.rec (Nat.lt_succ_self _)
 have H2 := Lib.hid h2
 clear h2 hb2
 go_wp2_with fail
 refine (bld_str _ _ _ _ _ _ H2.out (by simp) (by rw [mkS_size]; have := HN.out; omega)).mono ?_
 rintro e w3 ⟨rfl, h3⟩
 obtain ⟨c0, c1, c2⟩ := h3.rec (Nat.lt_succ_self _)
 rw [mkS_list] at h3
 have H3 := Lib.hid h3
 clear h3
 go_wp2_with fail
 refine (Tryz.Builder_String_any _ _ _ _ H3.out.1 H3.out.2.2.1).mono ?_
 rintro e w4 ⟨rfl, hb4⟩
 have HB4 := Lib.hid hb4
 clear hb4
 go_wp2_with fail
 go_ret
 refine ⟨?_, (H3.out.low rfl).trans (HB4.out.mono (Nat.le_succ _))⟩
 have e5 : recB k s [] = UInt8.ofNat k :: numB s := by
  unfold recB
  rw [if_neg (by have := HK.out; omega), List.append_nil]
 rw [e5]
 rfl
set_option maxRecDepth 100000 in
set_option maxHeartbeats 4000000 in
theorem text_1 (s : Nat) (v : Value) (L : List Chg) (w : World) (hs : s < 4611686018427387904) (hv : ChAt w v L) (hL : Small L) :
  Calls Tryz.prog 39 #[.agg #[.int .i64 1, .int .i64 s, v]] w fun e w' => e = .returned (.string (mkS (recB 1 s L))) ∧ Below w.heap.size w w' := by
 have HN := Lib.hid (numB_len s hs)
 have HL := Lib.hid hL
 have HNL := Lib.hid (numB_len L.length (by have := hL.1; omega))
 have HCL := Lib.hid (chsB_len L hL.2)
 obtain ⟨va, vc, rfl⟩ := hv.len
 have HV := Lib.hid hv
 clear hL hv
 have HE : Bld _ _ _ _ _ := Bld.new (w.alloc (.cells #[.int .i64 1, .int .i64 s, .slice va L.length vc] 58))
 rw [World.size_alloc] at HE
 go_enter Tryz.func39, Tryz.ntmps39
 go_wp2_with fail
 refine (bld_byte _ _ [] 1 _ rfl _ _ HE (by simp)).mono ?_
 rintro e w1 ⟨rfl, h1⟩
 obtain ⟨c0, c1, c2⟩ := h1.rec (Nat.lt_succ_self _)
 have H1 := Lib.hid h1
 clear h1 HE
 go_wp2_with fail
 refine (num_any s _ hs).mono ?_
 rintro e w2 ⟨rfl, hb2⟩
 have h2 := H1.out.below hb2
 obtain ⟨c0, c1, c2⟩ := h2.rec (Nat.lt_succ_self _)
 have H2 := Lib.hid h2
 clear h2 hb2
 go_wp2_with fail
 refine (bld_str _ _ _ _ _ _ H2.out (by simp) (by rw [mkS_size]; have := HN.out; omega)).mono ?_
 rintro e w3 ⟨rfl, h3⟩
 obtain ⟨c0, c1, c2⟩ := h3.rec (Nat.lt_succ_self _)
 rw [mkS_list] at h3
 have H3 := Lib.hid h3
 clear h3 H1 H2
 go_wp2_with fail
 refine (num_any L.length _ (by have := HL.out.1; omega)).mono ?_
 rintro e w4 ⟨rfl, hb4⟩
 have h4 := H3.out.below hb4
 obtain ⟨c0, c1, c2⟩ := h4.rec (Nat.lt_succ_self _)
 have H4 := Lib.hid h4
 clear h4 hb4
 go_wp2_with fail
 refine (bld_str _ _ _ _ _ _ H4.out (by simp only [List.length_append, List.length_cons, List.length_nil]; have := HN.out; omega) (by rw [mkS_size]; have := HNL.out; omega)).mono ?_
 rintro e w5 ⟨rfl, h5⟩
 obtain ⟨c0, c1, c2⟩ := h5.rec (Nat.lt_succ_self _)
 rw [mkS_list] at h5
 have H5 := Lib.hid h5
 clear h5 H3 H4
 obtain ⟨P0, hP0⟩ : ∃ P0, P0 = ([] ++ [1] ++ numB s ++ numB L.length : List UInt8) := ⟨_, rfl⟩
 rw [← hP0] at H5
 have HP0 := Lib.hid hP0
 have HPL := Lib.hid (show P0.length ≤ 100 by rw [hP0]; simp only [List.length_append, List.length_cons, List.length_nil]; have := HN.out; have := HNL.out; omega)
 clear hP0
 have HLOW := Lib.hid (show Below w.heap.size w w5 from H5.out.low rfl)
 go_wp2_with fail
 clear c0 c1 c2
 go_loopw [31] (fun i wr => ∃ k : Nat, k ≤ L.length ∧ i = .int .i64 k ∧ Bld (w.heap.size + 1) (w.heap.size + 1) (P0 ++ chsB (L.take k)) (w.alloc (.cells #[.int .i64 1, .int .i64 s, .slice va L.length vc] 58)) wr) (fun i _ => L.length - (intOf i).toNat)
 case atStart => exact ⟨0, Nat.zero_le _, rfl, by simpa [chsB] using H5.out⟩
 case round =>
  obtain ⟨k, hk, rfl, hB⟩ := hrel
  have HB := Lib.hid hB
  have HLW := Lib.hid (show Below w.heap.size w wr from hB.low rfl)
  have HCK := Lib.hid (chsB_len (L.take k) (fun x hx => HL.out.2 x (List.mem_of_mem_take hx)))
  clear hB H5
  by_cases hlt : k < L.length
  ·have HX := Lib.hid (HL.out.2 L[k] (List.getElem_mem hlt))
   have HTK := Lib.hid (show L.take (k + 1) = L.take k ++ [L[k]] by rw [List.take_succ_eq_append_getElem hlt])
   obtain ⟨g, c, hva, h1, h2, hgl, hc⟩ : ∃ g c, Value.slice va L.length vc = .slice (some ⟨g, 0, none⟩) L.length c ∧ L.length ≤ c ∧ c ≤ 9223372036854775807 ∧ g < w.heap.size ∧ _ := by
    rcases HV.out with ⟨_, h⟩ | h
    ·rw [h] at hlt; simp at hlt
    ·exact h
   cases hva
   obtain ⟨a0, a1, a2, a3⟩ := hc k hlt
   clear hc HV
   have b0 := (HLW.out.cell (p := ⟨g, k * 4, none⟩) hgl).trans a0
   have b1 := (HLW.out.cell (p := ⟨g, k * 4 + 1, none⟩) hgl).trans a1
   have b2 := (HLW.out.cell (p := ⟨g, k * 4 + 2, none⟩) hgl).trans a2
   have b3 := (HLW.out.cell (p := ⟨g, k * 4 + 3, none⟩) hgl).trans a3
   clear a0 a1 a2 a3
   generalize hxe : L[k] = x at *
   obtain ⟨tb, ky, vl, dl⟩ := x
   simp only at b0 b1 b2 b3
   have HXE := Lib.hid hxe
   clear hxe
   have HKL := Lib.hid (show L.length ≤ 1000 from HL.out.1)
   have HLL := Lib.hid (show (P0 ++ chsB (L.take k)).length ≤ 100000000 by rw [List.length_append]; have := HPL.out; have := HCK.out; rw [List.length_take] at this; have := HKL.out; omega)
   have hE : P0 ++ chsB (L.take (k + 1)) = P0 ++ chsB (L.take k) ++ strB tb ++ strB ky ++ [if dl = true then 1 else 0] ++ strB vl := by
    rw [HTK.out, chsB_snoc]
    simp [chB]
   have HE2 := Lib.hid hE
   clear hE
   have hB3 := (HB.out.below ((Below.refl _ wr).alloc (Nat.le_refl _) (.cells #[.string tb, .string ky, .string vl, .bool dl] 39)))
   generalize P0 ++ chsB (L.take k) = L0 at *
   have HB3 := Lib.hid hB3
   have HC := Lib.hid (heap_alloc_new wr (.cells #[.string tb, .string ky, .string vl, .bool dl] 39))
   obtain ⟨z1, z2, z3⟩ := HX.out
   have s1 := strB_len tb z1
   have s2 := strB_len ky z2
   have HS := Lib.hid (And.intro z1 (And.intro z2 (And.intro z3 (And.intro s1 s2))))
   clear hB3 HB z1 z2 z3 s1 s2 HX HLW
   go_wp2_with fail
   clear b0 b1 b2 b3
   refine (writeString_any _ _ _ tb _ _ HB3.out.start (by have := HLL.out; omega) (by have := HS.out; omega)).mono ?_
   rintro e w6 ⟨rfl, h6⟩
   have d1 := h6.cellX HC.out (by decide) (by decide) 1
   have H6 := Lib.hid h6
   clear h6
   go_wp2_with fail
   clear d1
   refine (writeString_any _ _ _ ky _ _ H6.out (by rw [List.length_append]; have := HLL.out; have := HS.out; omega) (by have := HS.out; omega)).mono ?_
   rintro e w7 ⟨rfl, h7⟩
   have d3 := h7.cellX HC.out (by decide) (by decide) 3
   have H7 := Lib.hid h7
   clear h7 H6
   cases dl with
   | true =>
    go_wp2_with fail
    clear d3
    refine (bld_byte _ _ _ 1 _ rfl _ _ H7.out (by simp only [List.length_append]; have := HLL.out; have := HS.out; omega)).mono ?_
    rintro e w8 ⟨rfl, h8⟩
    have d2 := h8.cellX HC.out (by decide) (by decide) 2
    have H8 := Lib.hid h8
    clear h8 H7
    go_wp2_with fail
    clear d2
    refine (writeString_any _ _ _ vl _ _ H8.out (by simp only [List.length_append, List.length_cons, List.length_nil]; have := HLL.out; have := HS.out; omega) (by have := HS.out; omega)).mono ?_
    rintro e w9 ⟨rfl, h9⟩
    have H9 := Lib.hid (HB3.out.trans h9)
    clear h9 H8
    go_wp2_with fail
    go_roundw
    case rel => exact ⟨k + 1, by omega, by go_num, by rw [HE2.out]; exact H9.out⟩
    case measure => simp [intOf]; omega
   | false =>
    go_wp2_with fail
    clear d3
    refine (bld_byte _ _ _ 0 _ rfl _ _ H7.out (by simp only [List.length_append]; have := HLL.out; have := HS.out; omega)).mono ?_
    rintro e w8 ⟨rfl, h8⟩
    have d2 := h8.cellX HC.out (by decide) (by decide) 2
    have H8 := Lib.hid h8
    clear h8 H7
    go_wp2_with fail
    clear d2
    refine (writeString_any _ _ _ vl _ _ H8.out (by simp only [List.length_append, List.length_cons, List.length_nil]; have := HLL.out; have := HS.out; omega) (by have := HS.out; omega)).mono ?_
    rintro e w9 ⟨rfl, h9⟩
    have H9 := Lib.hid (HB3.out.trans h9)
    clear h9 H8
    go_wp2_with fail
    go_roundw
    case rel => exact ⟨k + 1, by omega, by go_num, by rw [HE2.out]; exact H9.out⟩
    case measure => simp [intOf]; omega
  ·have HTK := Lib.hid (show L.take k = L from List.take_of_length_le (by omega))
   go_wp2_with fail
   refine (Tryz.Builder_String_any _ _ _ _ HB.out.1 HB.out.2.2.1).mono ?_
   rintro e w6 ⟨rfl, hb6⟩
   have HB6 := Lib.hid hb6
   clear hb6
   go_wp2_with fail
   go_ret
   refine ⟨?_, HLW.out.trans (HB6.out.mono (Nat.le_succ _))⟩
   have e5 : recB 1 s L = P0 ++ chsB (L.take k) := by
    rw [HTK.out, HP0.out]
    unfold recB
    rw [if_pos (by decide)]
    simp
   rw [e5]
   rfl
set_option maxRecDepth 100000 in
set_option maxHeartbeats 4000000 in
theorem text_3 (s : Nat) (v : Value) (L : List Chg) (w : World) (hs : s < 4611686018427387904) (hv : ChAt w v L) (hL : Small L) :
  Calls Tryz.prog 39 #[.agg #[.int .i64 3, .int .i64 s, v]] w fun e w' => e = .returned (.string (mkS (recB 3 s L))) ∧ Below w.heap.size w w' := by
 have HN := Lib.hid (numB_len s hs)
 have HL := Lib.hid hL
 have HNL := Lib.hid (numB_len L.length (by have := hL.1; omega))
 have HCL := Lib.hid (chsB_len L hL.2)
 obtain ⟨va, vc, rfl⟩ := hv.len
 have HV := Lib.hid hv
 clear hL hv
 have HE : Bld _ _ _ _ _ := Bld.new (w.alloc (.cells #[.int .i64 3, .int .i64 s, .slice va L.length vc] 58))
 rw [World.size_alloc] at HE
 go_enter Tryz.func39, Tryz.ntmps39
 go_wp2_with fail
 refine (bld_byte _ _ [] 3 _ rfl _ _ HE (by simp)).mono ?_
 rintro e w1 ⟨rfl, h1⟩
 obtain ⟨c0, c1, c2⟩ := h1.rec (Nat.lt_succ_self _)
 have H1 := Lib.hid h1
 clear h1 HE
 go_wp2_with fail
 refine (num_any s _ hs).mono ?_
 rintro e w2 ⟨rfl, hb2⟩
 have h2 := H1.out.below hb2
 obtain ⟨c0, c1, c2⟩ := h2.rec (Nat.lt_succ_self _)
 have H2 := Lib.hid h2
 clear h2 hb2
 go_wp2_with fail
 refine (bld_str _ _ _ _ _ _ H2.out (by simp) (by rw [mkS_size]; have := HN.out; omega)).mono ?_
 rintro e w3 ⟨rfl, h3⟩
 obtain ⟨c0, c1, c2⟩ := h3.rec (Nat.lt_succ_self _)
 rw [mkS_list] at h3
 have H3 := Lib.hid h3
 clear h3 H1 H2
 go_wp2_with fail
 refine (num_any L.length _ (by have := HL.out.1; omega)).mono ?_
 rintro e w4 ⟨rfl, hb4⟩
 have h4 := H3.out.below hb4
 obtain ⟨c0, c1, c2⟩ := h4.rec (Nat.lt_succ_self _)
 have H4 := Lib.hid h4
 clear h4 hb4
 go_wp2_with fail
 refine (bld_str _ _ _ _ _ _ H4.out (by simp only [List.length_append, List.length_cons, List.length_nil]; have := HN.out; omega) (by rw [mkS_size]; have := HNL.out; omega)).mono ?_
 rintro e w5 ⟨rfl, h5⟩
 obtain ⟨c0, c1, c2⟩ := h5.rec (Nat.lt_succ_self _)
 rw [mkS_list] at h5
 have H5 := Lib.hid h5
 clear h5 H3 H4
 obtain ⟨P0, hP0⟩ : ∃ P0, P0 = ([] ++ [3] ++ numB s ++ numB L.length : List UInt8) := ⟨_, rfl⟩
 rw [← hP0] at H5
 have HP0 := Lib.hid hP0
 have HPL := Lib.hid (show P0.length ≤ 100 by rw [hP0]; simp only [List.length_append, List.length_cons, List.length_nil]; have := HN.out; have := HNL.out; omega)
 clear hP0
 have HLOW := Lib.hid (show Below w.heap.size w w5 from H5.out.low rfl)
 go_wp2_with fail
 clear c0 c1 c2
 go_loopw [31] (fun i wr => ∃ k : Nat, k ≤ L.length ∧ i = .int .i64 k ∧ Bld (w.heap.size + 1) (w.heap.size + 1) (P0 ++ chsB (L.take k)) (w.alloc (.cells #[.int .i64 3, .int .i64 s, .slice va L.length vc] 58)) wr) (fun i _ => L.length - (intOf i).toNat)
 case atStart => exact ⟨0, Nat.zero_le _, rfl, by simpa [chsB] using H5.out⟩
 case round =>
  obtain ⟨k, hk, rfl, hB⟩ := hrel
  have HB := Lib.hid hB
  have HLW := Lib.hid (show Below w.heap.size w wr from hB.low rfl)
  have HCK := Lib.hid (chsB_len (L.take k) (fun x hx => HL.out.2 x (List.mem_of_mem_take hx)))
  clear hB H5
  by_cases hlt : k < L.length
  ·have HX := Lib.hid (HL.out.2 L[k] (List.getElem_mem hlt))
   have HTK := Lib.hid (show L.take (k + 1) = L.take k ++ [L[k]] by rw [List.take_succ_eq_append_getElem hlt])
   obtain ⟨g, c, hva, h1, h2, hgl, hc⟩ : ∃ g c, Value.slice va L.length vc = .slice (some ⟨g, 0, none⟩) L.length c ∧ L.length ≤ c ∧ c ≤ 9223372036854775807 ∧ g < w.heap.size ∧ _ := by
    rcases HV.out with ⟨_, h⟩ | h
    ·rw [h] at hlt; simp at hlt
    ·exact h
   cases hva
   obtain ⟨a0, a1, a2, a3⟩ := hc k hlt
   clear hc HV
   have b0 := (HLW.out.cell (p := ⟨g, k * 4, none⟩) hgl).trans a0
   have b1 := (HLW.out.cell (p := ⟨g, k * 4 + 1, none⟩) hgl).trans a1
   have b2 := (HLW.out.cell (p := ⟨g, k * 4 + 2, none⟩) hgl).trans a2
   have b3 := (HLW.out.cell (p := ⟨g, k * 4 + 3, none⟩) hgl).trans a3
   clear a0 a1 a2 a3
   generalize hxe : L[k] = x at *
   obtain ⟨tb, ky, vl, dl⟩ := x
   simp only at b0 b1 b2 b3
   have HXE := Lib.hid hxe
   clear hxe
   have HKL := Lib.hid (show L.length ≤ 1000 from HL.out.1)
   have HLL := Lib.hid (show (P0 ++ chsB (L.take k)).length ≤ 100000000 by rw [List.length_append]; have := HPL.out; have := HCK.out; rw [List.length_take] at this; have := HKL.out; omega)
   have hE : P0 ++ chsB (L.take (k + 1)) = P0 ++ chsB (L.take k) ++ strB tb ++ strB ky ++ [if dl = true then 1 else 0] ++ strB vl := by
    rw [HTK.out, chsB_snoc]
    simp [chB]
   have HE2 := Lib.hid hE
   clear hE
   have hB3 := (HB.out.below ((Below.refl _ wr).alloc (Nat.le_refl _) (.cells #[.string tb, .string ky, .string vl, .bool dl] 39)))
   generalize P0 ++ chsB (L.take k) = L0 at *
   have HB3 := Lib.hid hB3
   have HC := Lib.hid (heap_alloc_new wr (.cells #[.string tb, .string ky, .string vl, .bool dl] 39))
   obtain ⟨z1, z2, z3⟩ := HX.out
   have s1 := strB_len tb z1
   have s2 := strB_len ky z2
   have HS := Lib.hid (And.intro z1 (And.intro z2 (And.intro z3 (And.intro s1 s2))))
   clear hB3 HB z1 z2 z3 s1 s2 HX HLW
   go_wp2_with fail
   clear b0 b1 b2 b3
   refine (writeString_any _ _ _ tb _ _ HB3.out.start (by have := HLL.out; omega) (by have := HS.out; omega)).mono ?_
   rintro e w6 ⟨rfl, h6⟩
   have d1 := h6.cellX HC.out (by decide) (by decide) 1
   have H6 := Lib.hid h6
   clear h6
   go_wp2_with fail
   clear d1
   refine (writeString_any _ _ _ ky _ _ H6.out (by rw [List.length_append]; have := HLL.out; have := HS.out; omega) (by have := HS.out; omega)).mono ?_
   rintro e w7 ⟨rfl, h7⟩
   have d3 := h7.cellX HC.out (by decide) (by decide) 3
   have H7 := Lib.hid h7
   clear h7 H6
   cases dl with
   | true =>
    go_wp2_with fail
    clear d3
    refine (bld_byte _ _ _ 1 _ rfl _ _ H7.out (by simp only [List.length_append]; have := HLL.out; have := HS.out; omega)).mono ?_
    rintro e w8 ⟨rfl, h8⟩
    have d2 := h8.cellX HC.out (by decide) (by decide) 2
    have H8 := Lib.hid h8
    clear h8 H7
    go_wp2_with fail
    clear d2
    refine (writeString_any _ _ _ vl _ _ H8.out (by simp only [List.length_append, List.length_cons, List.length_nil]; have := HLL.out; have := HS.out; omega) (by have := HS.out; omega)).mono ?_
    rintro e w9 ⟨rfl, h9⟩
    have H9 := Lib.hid (HB3.out.trans h9)
    clear h9 H8
    go_wp2_with fail
    go_roundw
    case rel => exact ⟨k + 1, by omega, by go_num, by rw [HE2.out]; exact H9.out⟩
    case measure => simp [intOf]; omega
   | false =>
    go_wp2_with fail
    clear d3
    refine (bld_byte _ _ _ 0 _ rfl _ _ H7.out (by simp only [List.length_append]; have := HLL.out; have := HS.out; omega)).mono ?_
    rintro e w8 ⟨rfl, h8⟩
    have d2 := h8.cellX HC.out (by decide) (by decide) 2
    have H8 := Lib.hid h8
    clear h8 H7
    go_wp2_with fail
    clear d2
    refine (writeString_any _ _ _ vl _ _ H8.out (by simp only [List.length_append, List.length_cons, List.length_nil]; have := HLL.out; have := HS.out; omega) (by have := HS.out; omega)).mono ?_
    rintro e w9 ⟨rfl, h9⟩
    have H9 := Lib.hid (HB3.out.trans h9)
    clear h9 H8
    go_wp2_with fail
    go_roundw
    case rel => exact ⟨k + 1, by omega, by go_num, by rw [HE2.out]; exact H9.out⟩
    case measure => simp [intOf]; omega
  ·have HTK := Lib.hid (show L.take k = L from List.take_of_length_le (by omega))
   go_wp2_with fail
   refine (Tryz.Builder_String_any _ _ _ _ HB.out.1 HB.out.2.2.1).mono ?_
   rintro e w6 ⟨rfl, hb6⟩
   have HB6 := Lib.hid hb6
   clear hb6
   go_wp2_with fail
   go_ret
   refine ⟨?_, HLW.out.trans (HB6.out.mono (Nat.le_succ _))⟩
   have e5 : recB 3 s L = P0 ++ chsB (L.take k) := by
    rw [HTK.out, HP0.out]
    unfold recB
    rw [if_pos (by decide)]
    simp
   rw [e5]
   rfl
open Go.ChangeMaps
theorem und9' : Tryz.prog.underlying 9 = some .string := by kernel_rfl
theorem key9 : Tryz.prog.plainKey 9 = true := by kernel_rfl
theorem inj_toList (a c : Bs) : (a.toList = c.toList) = (a = c) := by
 rw [ByteArray.toList_eq, ByteArray.toList_eq]
 obtain ⟨⟨x⟩⟩ := a
 obtain ⟨⟨y⟩⟩ := c
 by_cases h : x = y
 ·subst h; simp
 ·have h2 : ¬ (ByteArray.mk ⟨x⟩ = ByteArray.mk ⟨y⟩) := fun e => h (by cases e; rfl)
  simp [h]
abbrev Plc := Bs × Bs
def plV (p : Plc) : Value := .agg #[.string p.1, .string p.2]
theorem plc_struct : Tryz.prog.underlying 85 = some (.struct (Tryz.prog.fieldsOf 85)) := by kernel_rfl
theorem eq_plc (p q : Plc) (w : World) : (Op.equalIn 10000 85 (plV p) (plV q)).run Tryz.prog w = .ok (decide (p = q)) w := by
 obtain ⟨a, b⟩ := p
 obtain ⟨c, d⟩ := q
 have u9 := und9'
 unfold plV
 rw [show (10000 : Nat) = 9999 + 1 from rfl, run_equalIn_agg w 9999 _ _ _ plc_struct (by kernel_rfl)]
 simp only [Program.fieldsOf, Tryz.underlying85]
 go_simp
 simp only [inj_toList]
 by_cases h1 : a = c <;> by_cases h2 : b = d <;> simp [h1, h2]
theorem check_plc (p : Plc) (e : Bool) (w : World) : (Instr.checkKey e 10000 85 (plV p)).run Tryz.prog w = .ok () w := by
 obtain ⟨a, b⟩ := p
 have u9 := und9'
 have p0 : ∀ o, (part 9 #[.string a, .string b] 0).run Tryz.prog o = .ok (.string a) o := fun o => run_part_plain o key9 rfl
 have p1 : ∀ o, (part 9 #[.string a, .string b] 1).run Tryz.prog o = .ok (.string b) o := fun o => run_part_plain o key9 rfl
 have hk : ∀ (s : Bs) (n : Nat), (Instr.checkKey e (n + 1) 9 (.string s)).run Tryz.prog w = .ok () w := fun s n => MapKept.run_checkKey (k := .string s) (d := .string) und9' (show MapKept.IsKey .string (.string s) from trivial) e n
 unfold plV
 rw [show (10000 : Nat) = 9998 + 1 + 1 from rfl]
 unfold Instr.checkKey
 simp [run_underlying Tryz.underlying85, p0, p1, hk, Result.andThen]
theorem findNow_struct (k : Value) (d : Array Field) : ∀ (es : List MapEntry) (e : MapEntry), Instr.findNow (.struct d) k (e :: es) 0 = none := fun es e => by
 unfold Instr.findNow Instr.sameNow
 rfl
def fndP (p : Plc) : List Plc → Nat → Option (Nat × Value)
 | [], _ => none
 | q :: P, i => if p = q then some (i, .bool true) else fndP p P (i + 1)
def plE : List Plc → Nat → List MapEntry
 | [], _ => []
 | q :: P, i => ⟨plV q, .bool true, i⟩ :: plE P (i + 1)
theorem findAsking_plc (p : Plc) (w : World) : ∀ (P : List Plc) (i j : Nat), (Instr.findAsking 85 (plV p) (plE P j) i).run Tryz.prog w = .ok (fndP p P i) w
 | [], i, j => by unfold plE Instr.findAsking fndP; rfl
 | q :: P, i, j => by
  have ih := findAsking_plc p w P (i + 1) (j + 1)
  unfold plE Instr.findAsking fndP
  simp only [Op.equal, Op.maxDepth, Sem.run_bind, eq_plc, Result.andThen_ok]
  by_cases h : p = q
  ·simp [h]
  ·simp [h, ih]
theorem find_plc (p : Plc) (w : World) (P : List Plc) (j : Nat) : (Instr.findKey 85 (plV p) (plE P j)).run Tryz.prog w = .ok (fndP p P 0) w := by
 unfold Instr.findKey
 simp only [Sem.run_bind, run_underlying plc_struct, Result.andThen_ok]
 cases P with
 | nil => rfl
 | cons q P =>
  have e : plE (q :: P) j = ⟨plV q, .bool true, j⟩ :: plE P (j + 1) := rfl
  rw [e, findNow_struct, ← e]
  exact findAsking_plc p w (q :: P) 0 j
theorem fndP_none {p : Plc} : ∀ (P : List Plc) (i : Nat), p ∉ P → fndP p P i = none
 | [], _, _ => rfl
 | q :: P, i, h => by
  unfold fndP
  rw [if_neg (fun e => h (by rw [e]; exact List.mem_cons_self ..)), fndP_none P (i + 1) (fun e => h (List.mem_cons_of_mem _ e))]
theorem fndP_some {p : Plc} : ∀ (P : List Plc) (i : Nat), p ∈ P → ∃ j, fndP p P i = some (j, .bool true)
 | q :: P, i, h => by
  unfold fndP
  by_cases e : p = q
  ·exact ⟨i, if_pos e⟩
  ·rw [if_neg e]
   exact fndP_some P (i + 1) ((List.mem_cons.1 h).resolve_left e)
def PlAt (W : World) (m : Nat) (P : List Plc) : Prop := W.heap[m]? = some (.map (plE P 0).toArray P.length)
def inP (p : Plc) (P : List Plc) : Bool := P.any fun q => decide (p = q)
theorem inP_iff (p : Plc) (P : List Plc) : inP p P = true ↔ p ∈ P := by
 unfold inP
 rw [List.any_eq_true]
 constructor
 ·rintro ⟨q, hq, h⟩
  rw [of_decide_eq_true h]; exact hq
 ·exact fun h => ⟨p, h, by simp⟩
theorem zero_b (W : World) : (zeroValue 4).run Tryz.prog W = .ok (.bool false) W := by kernel_rfl
theorem run_lookP {W : World} {m : Nat} {P : List Plc} (h : PlAt W m P) (p : Plc) :
  (Instr.lookup 82 (.map (some m)) (plV p) false).run Tryz.prog W = .ok (.bool (inP p P)) W := by
 simp only [Instr.lookup, Sem.run_bind, run_underlying Tryz.underlying82, MapKept.run_getObj_map h, Result.andThen, Sem.run_pure]
 rw [check_plc]
 simp only [Result.andThen, Sem.run_bind]
 rw [find_plc]
 by_cases hp : p ∈ P
 ·obtain ⟨j, hj⟩ := fndP_some P 0 hp
  rw [hj, (inP_iff p P).2 hp]
  simp [Result.andThen]
 ·have hf : inP p P = false := by
   cases h2 : inP p P with
   | false => rfl
   | true => exact absurd ((inP_iff p P).1 h2) hp
  rw [fndP_none P 0 hp, hf]
  simp [Result.andThen, zero_b]
theorem plE_snoc (p : Plc) : ∀ (P : List Plc) (i : Nat), plE (P ++ [p]) i = plE P i ++ [⟨plV p, .bool true, i + P.length⟩]
 | [], i => rfl
 | q :: P, i => by
  show _ :: plE (P ++ [p]) (i + 1) = _
  rw [plE_snoc p P (i + 1), List.length_cons]
  show _ = _ :: (plE P (i + 1) ++ _)
  rw [show i + 1 + P.length = i + (P.length + 1) by omega]
theorem run_updP {W : World} {m : Nat} {P : List Plc} (h : PlAt W m P) (p : Plc) (hp : p ∉ P) :
  (Instr.mapUpdate 82 (.map (some m)) (plV p) (.bool true)).run Tryz.prog W = .ok () (setBlock W m (.map (plE (P ++ [p]) 0).toArray (P ++ [p]).length)) := by
 simp only [Instr.mapUpdate, Sem.run_bind, run_underlying Tryz.underlying82, MapKept.run_getObj_map h, Result.andThen, Sem.run_pure]
 rw [check_plc]
 simp only [Result.andThen, Sem.run_bind]
 rw [find_plc, fndP_none P 0 hp]
 simp [Result.andThen, MapKept.run_setObj_map _ h, setBlock, plE_snoc]
def okB (b : UInt8) : Bool := !(decide (b.toNat < 33) || decide (126 < b.toNat) || decide (b.toNat = 46))
def isNm (s : Bs) : Bool := decide (0 < s.size) && decide (s.size ≤ 32) && !(decide (s.data.toList.head? = some 36)) && s.data.toList.all okB
theorem bs_get (s : Bs) (j : Nat) (h : j < s.size) : s.data.toList[j]? = some s[j] := by
 rw [List.getElem?_eq_getElem (by rw [Array.length_toList]; exact h)]; rfl
set_option maxRecDepth 100000 in
set_option maxHeartbeats 1000000 in
theorem isName_any (s : Bs) (w : World) :
  Calls Tryz.prog 36 #[.string s] w fun e w' => e = .returned (.bool (isNm s)) ∧ w' = w := by
 rcases Nat.eq_zero_or_pos s.size with h0 | h0
 ·have e1 : isNm s = false := by unfold isNm; rw [h0]; rfl
  have e2 : s = ⟨#[]⟩ := by
   obtain ⟨d⟩ := s
   have : d.size = 0 := h0
   rw [Array.eq_empty_of_size_eq_zero this]
  rw [e1, e2]
  go_enter Tryz.func36, Tryz.ntmps36
  go_wp2
  go_ret
  exact ⟨rfl, rfl⟩
 ·have d1 : (ByteArray.toList s).isEmpty = false := by
   rw [ByteArray.toList_eq]
   cases hq : s.data.toList with
   | nil =>
    have : s.data.toList.length = s.size := Array.length_toList
    rw [hq] at this
    simp at this
    omega
   | cons a b => rfl
  by_cases h32 : 32 < s.size
  ·have e1 : isNm s = false := by unfold isNm; rw [decide_eq_false (show ¬ s.size ≤ 32 by omega)]; simp
   have d2 : decide ((32 : Int) < (s.size : Int)) = true := decide_eq_true (by omega)
   rw [e1]
   go_enter Tryz.func36, Tryz.ntmps36
   go_wp2
   go_ret
   exact ⟨rfl, rfl⟩
  ·have d2 : decide ((32 : Int) < (s.size : Int)) = false := decide_eq_false (by omega)
   have hb := bs_get s 0 h0
   by_cases h36 : s[0] = 36
   ·have e1 : isNm s = false := by
     unfold isNm
     rw [List.head?_eq_getElem?, hb, h36]
     simp
    rw [e1]
    have d3 : ((s[0].toNat : Int) == 36) = true := by rw [h36]; rfl
    go_enter Tryz.func36, Tryz.ntmps36
    go_wp2
    go_ret
    exact ⟨rfl, rfl⟩
   ·have d3 : ((s[0].toNat : Int) == 36) = false := beq_eq_false_iff_ne.2 (fun e => h36 (UInt8.toNat_inj.1 (show s[0].toNat = 36 by omega)))
    have e1 : isNm s = s.data.toList.all okB := by
     unfold isNm
     rw [List.head?_eq_getElem?, hb, decide_eq_true h0, decide_eq_true (show s.size ≤ 32 by omega)]
     simp [h36]
    rw [e1]
    obtain ⟨R, hR⟩ : ∃ R, R = s.data.toList.all okB := ⟨_, rfl⟩
    rw [← hR]
    have HRR := Lib.hid hR
    clear e1 hb hR
    have hsl : s.data.toList.length = s.size := Array.length_toList
    go_enter Tryz.func36, Tryz.ntmps36
    go_wp2
    have HH := Lib.hid (And.intro h36 hsl)
    clear d1 d2 d3 h36 hsl
    go_loop [18] (fun i => ∃ k : Nat, k ≤ s.size ∧ i = .int .i64 k ∧ Hid ((s.data.toList.take k).all okB = true)) (fun i => s.size - (intOf i).toNat)
    case atStart => exact ⟨0, Nat.zero_le _, rfl, Lib.hid rfl⟩
    case round =>
     obtain ⟨k, hk, rfl, HA⟩ := hrel
     by_cases hlt : k < s.size
     ·have hg := bs_get s k hlt
      have HG := Lib.hid hg
      have HT := Lib.hid (show s.data.toList.take (k + 1) = s.data.toList.take k ++ [s[k]] from take_snoc s k hlt)
      have HB := Lib.hid (fun hb : okB s[k] = false => (show s.data.toList.all okB = false by
       rw [List.all_eq_false]
       exact ⟨s[k], List.mem_of_getElem? hg, by rw [hb]; decide⟩))
      clear hg HG
      generalize hc : s[k] = c at *
      have hcl := c.toNat_lt
      by_cases q1 : c.toNat < 33
      ·have hb := HB.out (by unfold okB; simp [q1])
       have HR := Lib.hid hb
       clear hb HB HT
       have e1 : decide ((c.toNat : Int) < 33) = true := decide_eq_true (by omega)
       go_wp2
       go_ret
       exact ⟨by rw [HRR.out, HR.out]; rfl, rfl⟩
      ·have e1 : decide ((c.toNat : Int) < 33) = false := decide_eq_false (by omega)
       by_cases q2 : 126 < c.toNat
       ·have hb := HB.out (by unfold okB; simp [q2])
        have HR := Lib.hid hb
        clear hb HB HT
        have e2 : decide (126 < (c.toNat : Int)) = true := decide_eq_true (by omega)
        go_wp2
        go_ret
        exact ⟨by rw [HRR.out, HR.out]; rfl, rfl⟩
       ·have e2 : decide (126 < (c.toNat : Int)) = false := decide_eq_false (by omega)
        by_cases q3 : c.toNat = 46
        ·have hb := HB.out (by unfold okB; simp [q3])
         have HR := Lib.hid hb
         clear hb HB HT
         have e3 : ((c.toNat : Int) == 46) = true := by rw [q3]; rfl
         go_wp2
         go_ret
         exact ⟨by rw [HRR.out, HR.out]; rfl, rfl⟩
        ·have e3 : ((c.toNat : Int) == 46) = false := beq_eq_false_iff_ne.2 (by omega)
         have hb : okB c = true := by unfold okB; simp [q3]; omega
         have HR := Lib.hid (show (s.data.toList.take (k + 1)).all okB = true by rw [HT.out, List.all_append, HA.out]; simp [hb])
         clear hb HB HT
         go_wp2
         go_round
         case rel => exact ⟨k + 1, by omega, by go_num, HR⟩
         case measure => simp [intOf]; omega
     ·have HR := Lib.hid (show s.data.toList.all okB = true by have := HA.out; rwa [List.take_of_length_le (by rw [HH.out.2]; omega)] at this)
      go_wp2
      go_ret
      exact ⟨by rw [HRR.out, HR.out]; rfl, rfl⟩
structure Tb where
 key : Bs
 S : Nat
 m : Nat
 E : List En
 clock : Nat
 born : Nat
def Tb.en (t : Tb) : En := ⟨t.key, [], .pointer (some ⟨t.S, 0, none⟩), t.born⟩
def ens (T : List Tb) : List En := T.map Tb.en
def tbOf (T : List Tb) (k : Bs) : Option Tb := T.find? fun t => decide (k = t.key)
def tbP (o : Option Tb) : Value := match o with
 | some t => .pointer (some ⟨t.S, 0, none⟩)
 | none => .pointer none
theorem fnd_ens (k : Bs) : ∀ (T : List Tb) (i : Nat), (fnd k (ens T) i).map (·.2) = (tbOf T k).map Tb.en
 | [], _ => rfl
 | t :: T, i => by
  show (fnd k (t.en :: ens T) i).map (·.2) = ((t :: T).find? fun t => decide (k = t.key)).map Tb.en
  unfold fnd
  rw [List.find?_cons]
  by_cases h : k = t.key
  ·rw [if_pos (show k = t.en.key from h), decide_eq_true h]; rfl
  ·rw [if_neg (show ¬ k = t.en.key from h), decide_eq_false h]; exact fnd_ens k T (i + 1)
theorem tbOf_mem {T : List Tb} {k : Bs} {t : Tb} (h : tbOf T k = some t) : t ∈ T ∧ t.key = k :=
 ⟨List.mem_of_find?_eq_some h, (of_decide_eq_true (List.find?_some (p := fun t : Tb => decide (k = t.key)) h)).symm⟩
theorem tbOf_none {T : List Tb} {k : Bs} (h : tbOf T k = none) : ∀ t ∈ T, t.key ≠ k := fun t ht e => by
 have := List.find?_eq_none.1 h t ht
 simp [e] at this
theorem zero_st (W : World) : (zeroValue 86).run Tryz.prog W = .ok (.pointer none) W := by kernel_rfl
theorem run_lookT {W : World} {m clock : Nat} {T : List Tb} (h : MapAt W m (ens T) clock) (k : Bs) :
  (Instr.lookup 50 (.map (some m)) (.string k) false).run Tryz.prog W = .ok (tbP (tbOf T k)) W := by
 have h1 := findNow_E k (ens T) 0
 rw [← esOf_list] at h1
 have h2 := fnd_ens k T 0
 simp only [Instr.lookup, Sem.run_bind, run_underlying Tryz.underlying50, MapKept.run_getObj_map h, Result.andThen, Sem.run_pure]
 rw [MapKept.run_checkKey (d := .string) Tryz.underlying9 (isKeyS k)]
 simp only [Result.andThen, Sem.run_bind]
 rw [MapKept.run_findKey (d := .string) Tryz.underlying9 h1]
 cases hf : fnd k (ens T) 0 with
 | none =>
  rw [hf] at h2
  cases ht : tbOf T k with
  | none => simp [Result.andThen, zero_st, tbP]
  | some t => rw [ht] at h2; cases h2
 | some p =>
  rw [hf] at h2
  cases ht : tbOf T k with
  | none => rw [ht] at h2; cases h2
  | some t =>
   rw [ht] at h2
   have e : p.2 = t.en := by simpa using h2
   simp [Result.andThen, tbP, e, Tb.en]
theorem run_newT {W : World} {m clock : Nat} {T : List Tb} (h : MapAt W m (ens T) clock) (t : Tb) (hn : tbOf T t.key = none) (hb : t.born = clock) :
  (Instr.mapUpdate 50 (.map (some m)) (.string t.key) (.pointer (some ⟨t.S, 0, none⟩))).run Tryz.prog W = .ok () (setBlock W m (.map (esOf (ens (T ++ [t]))) (clock + 1))) := by
 have h1 := findNow_E t.key (ens T) 0
 rw [← esOf_list] at h1
 have h2 := fnd_ens t.key T 0
 rw [hn] at h2
 have hf : fnd t.key (ens T) 0 = none := by
  cases hf : fnd t.key (ens T) 0 with
  | none => rfl
  | some p => rw [hf] at h2; cases h2
 rw [hf] at h1
 have e : (esOf (ens T)).push ⟨.string t.key, .pointer (some ⟨t.S, 0, none⟩), clock⟩ = esOf (ens (T ++ [t])) := by
  apply Array.toList_inj.1
  rw [Array.toList_push, esOf_list, esOf_list]
  unfold ens
  rw [List.map_append, List.map_append]
  simp [Tb.en, En.entry, hb]
 simp [Instr.mapUpdate, run_underlying Tryz.underlying50, MapKept.run_getObj_map h, MapKept.run_checkKey (d := .string) Tryz.underlying9 (isKeyS t.key), MapKept.run_findKey (d := .string) Tryz.underlying9 h1, MapKept.run_setObj_map _ h, Result.andThen, setBlock, e]
structure Egs (B : Nat) (W : World) (b mt : Nat) (T : List Tb) (tc : Nat) (st : Int) (dk : Bs) (sy : Int) : Prop where
 box : Box W b [.map (some mt), .int .i64 st, .string dk, .int .i64 sy]
 map : MapAt W mt (ens T) tc
 ok : EnOK (ens T) tc
 sto : ∀ t ∈ T, Sto B W t.S t.m t.E t.clock
 apart : T.Pairwise fun a c => ∀ k, Foot a.S a.m a.E k → ¬ Foot c.S c.m c.E k
 off : ∀ t ∈ T, ∀ k, Foot t.S t.m t.E k → k ≠ b ∧ k ≠ mt
 mb : mt ≠ b
 bb : B ≤ b
 bm : B ≤ mt
def FootE (b mt : Nat) (T : List Tb) (k : Nat) : Prop := k = b ∨ k = mt ∨ ∃ t ∈ T, Foot t.S t.m t.E k
section
variable {B b mt tc : Nat} {W W' : World} {T : List Tb} {st sy : Int} {dk : Bs}
theorem Egs.foot (h : Egs B W b mt T tc st dk sy) {k : Nat} (hk : FootE b mt T k) : B ≤ k ∧ k < W.heap.size := by
 rcases hk with rfl | rfl | ⟨t, ht, hk⟩
 ·exact ⟨h.bb, h.box.lt⟩
 ·exact ⟨h.bm, h.map.lt⟩
 ·exact (h.sto t ht).foot hk
theorem Egs.kept {F : Nat → Prop} (h : Egs B W b mt T tc st dk sy) (hk : Kept F W W') (hF : ∀ k, FootE b mt T k → ¬ F k) : Egs B W' b mt T tc st dk sy :=
 ⟨h.box.kept' hk (hF b (.inl rfl)), h.map.kept hk (hF mt (.inr (.inl rfl))), h.ok, fun t ht => (h.sto t ht).kept hk (fun k hk2 => hF k (.inr (.inr ⟨t, ht, hk2⟩))), h.apart, h.off, h.mb, h.bb, h.bm⟩
theorem Egs.below (h : Egs B W b mt T tc st dk sy) (hb : Below W.heap.size W W') : Egs B W' b mt T tc st dk sy := h.kept (kept_below hb) (fun _ _ h => h)
theorem Egs.drew (h : Egs B W b mt T tc st dk sy) : Egs B W.drew b mt T tc st dk sy := h.below ⟨rfl, rfl, rfl, Nat.le_refl _, fun _ _ => rfl⟩
theorem Egs.drewN (h : Egs B W b mt T tc st dk sy) (q : Nat) : Egs B (W.drewN q) b mt T tc st dk sy := h.below ⟨rfl, rfl, rfl, Nat.le_refl _, fun _ _ => rfl⟩
theorem Egs.base {B' : Nat} (h : Egs B' W b mt T tc st dk sy) (hb : B ≤ B') : Egs B W b mt T tc st dk sy :=
 ⟨h.box, h.map, h.ok, fun t ht => (h.sto t ht).base hb, h.apart, h.off, h.mb, Nat.le_trans hb h.bb, Nat.le_trans hb h.bm⟩
theorem Egs.c0 (h : Egs B W b mt T tc st dk sy) : W.cell? ⟨b, 0, none⟩ = some (.map (some mt)) := h.box.cell 0 _ rfl
theorem Egs.c1 (h : Egs B W b mt T tc st dk sy) : W.cell? ⟨b, 1, none⟩ = some (.int .i64 st) := h.box.cell 1 _ rfl
theorem Egs.c2 (h : Egs B W b mt T tc st dk sy) : W.cell? ⟨b, 2, none⟩ = some (.string dk) := h.box.cell 2 _ rfl
theorem Egs.c3 (h : Egs B W b mt T tc st dk sy) : W.cell? ⟨b, 3, none⟩ = some (.int .i64 sy) := h.box.cell 3 _ rfl
theorem ens_keys (T : List Tb) : (ens T).map (·.key) = T.map (·.key) := by unfold ens; rw [List.map_map]; rfl
theorem Egs.keys (h : Egs B W b mt T tc st dk sy) : (T.map (·.key)).Nodup := by have := h.ok.keys; rwa [ens_keys] at this
theorem Egs.rebox {st' sy' : Int} {dk' : Bs} (h : Egs B W b mt T tc st dk sy) (ho : Only W W' b) (hb : Box W' b [.map (some mt), .int .i64 st', .string dk', .int .i64 sy']) : Egs B W' b mt T tc st' dk' sy' := by
 have hk : Kept (fun k => k = b) W W' := ⟨(ho.below b (Nat.le_refl _)).os, (ho.below b (Nat.le_refl _)).tape, (ho.below b (Nat.le_refl _)).output, (ho.below b (Nat.le_refl _)).size, fun k _ hk => ho.heap k hk⟩
 exact ⟨hb, h.map.kept hk (fun e => h.mb e), h.ok, fun t ht => (h.sto t ht).kept hk (fun k hk2 e => (h.off t ht k hk2).1 e), h.apart, h.off, h.mb, h.bb, h.bm⟩
theorem Egs.fr (h : Egs B W b mt T tc st dk sy) (j : Nat) : W.frozen? ⟨b, j, none⟩ = false := h.box.free j
end
def updT (T : List Tb) (k : Bs) (E : List En) (c : Nat) : List Tb := T.map fun t => if t.key = k then { t with E := E, clock := c } else t
theorem updT_ens (T : List Tb) (k : Bs) (E : List En) (c : Nat) : ens (updT T k E c) = ens T := by
 unfold ens updT
 rw [List.map_map]
 refine List.map_congr_left fun t _ => ?_
 show Tb.en (if t.key = k then _ else t) = t.en
 split <;> rfl
theorem updT_mem {T : List Tb} {k : Bs} {E : List En} {c : Nat} {x : Tb} (h : x ∈ updT T k E c) : (x ∈ T ∧ x.key ≠ k) ∨ ∃ t ∈ T, t.key = k ∧ x = { t with E := E, clock := c } := by
 obtain ⟨t, ht, rfl⟩ := List.mem_map.1 h
 by_cases hk : t.key = k
 ·rw [if_pos hk]; exact .inr ⟨t, ht, hk, rfl⟩
 ·rw [if_neg hk]; exact .inl ⟨ht, hk⟩
structure ETurn (B b : Nat) (F : Nat → Prop) (W W' : World) (mt : Nat) (T : List Tb) (tc : Nat) (st : Int) (dk : Bs) (sy : Int) : Prop where
 egs : Egs B W' b mt T tc st dk sy
 foot : ∀ k, FootE b mt T k → F k ∨ W.heap.size ≤ k
 kept : Kept F W W'
theorem ETurn.trans {B b mt mt' tc tc' : Nat} {F : Nat → Prop} {W W' W'' : World} {T T' : List Tb} {st st' sy sy' : Int} {dk dk' : Bs} (h : ETurn B b F W W' mt T tc st dk sy) (g : ETurn B b (FootE b mt T) W' W'' mt' T' tc' st' dk' sy') : ETurn B b F W W'' mt' T' tc' st' dk' sy' :=
 ⟨g.egs, fun k hk => (g.foot k hk).elim (fun h1 => h.foot k h1) (fun h1 => .inr (Nat.le_trans h.kept.size h1)), h.kept.trans g.kept (fun k hk => h.foot k hk)⟩
theorem ETurn.same {B b mt tc : Nat} {W W' : World} {T : List Tb} {st sy : Int} {dk : Bs} (h : Egs B W b mt T tc st dk sy) (hb : Below W.heap.size W W') : ETurn B b (FootE b mt T) W W' mt T tc st dk sy :=
 ⟨h.below hb, fun k hk => .inl hk, ⟨hb.os, hb.tape, hb.output, hb.size, fun k hk _ => hb.block k hk⟩⟩
section
variable {B b mt tc : Nat} {W W' : World} {T : List Tb} {st sy : Int} {dk : Bs}
theorem Egs.ne_foot (h : Egs B W b mt T tc st dk sy) {x y : Tb} (hx : x ∈ T) (hy : y ∈ T) (hne : x.key ≠ y.key) : ∀ k, Foot x.S x.m x.E k → ¬ Foot y.S y.m y.E k := by
 obtain ⟨i, hi, rfl⟩ := List.mem_iff_getElem.1 hx
 obtain ⟨l, hl, rfl⟩ := List.mem_iff_getElem.1 hy
 have hp := List.pairwise_iff_getElem.1 h.apart
 intro j h1 h2
 rcases Nat.lt_trichotomy i l with h3 | h3 | h3
 ·exact hp i l hi hl h3 j h1 h2
 ·subst h3; exact hne rfl
 ·exact hp l i hl hi h3 j h2 h1
theorem Egs.turn (h : Egs B W b mt T tc st dk sy) {t : Tb} (ht : t ∈ T) {E' : List En} {c' : Nat} (hT : Turned B t.S t.m t.E W W' E' c') : ETurn B b (FootE b mt T) W W' mt (updT T t.key E' c') tc st dk sy := by
 obtain ⟨h1, h2, h3⟩ := hT
 have hsub : ∀ k, Foot t.S t.m t.E k → FootE b mt T k := fun k hk => .inr (.inr ⟨t, ht, hk⟩)
 have hfoot : ∀ x ∈ updT T t.key E' c', (x ∈ T ∧ x.key ≠ t.key) ∨ (x.S = t.S ∧ x.m = t.m ∧ x.E = E' ∧ x.clock = c' ∧ x.key = t.key) := fun x hx => by
  rcases updT_mem hx with hx | ⟨u, hu, hk, rfl⟩
  ·exact .inl hx
  ·have : u = t := nodup_inj h.keys hu ht hk
   subst this
   exact .inr ⟨rfl, rfl, rfl, rfl, rfl⟩
 refine ⟨⟨h.box.kept' h3 (fun hk => (h.off t ht b hk).1 rfl), ?_, by rw [updT_ens]; exact h.ok, fun x hx => ?_, ?_, fun x hx k hk => ?_, h.mb, h.bb, h.bm⟩, fun k hk => ?_, ⟨h3.os, h3.tape, h3.output, h3.size, fun k hk hs => h3.block k hk (fun hf => hs (hsub k hf))⟩⟩
 ·rw [updT_ens]; exact h.map.kept h3 (fun hk => (h.off t ht mt hk).2 rfl)
 ·rcases hfoot x hx with ⟨hx, hne⟩ | ⟨e1, e2, e3, e4, e5⟩
  ·exact (h.sto x hx).kept h3 (fun k hk hk2 => h.ne_foot hx ht hne k hk hk2)
  ·rw [e1, e2, e3, e4]; exact h1
 ·have hkk : T.Pairwise fun a b => a.key ≠ b.key := by
   have := h.keys
   unfold List.Nodup at this
   rwa [List.pairwise_map] at this
  unfold updT
  refine List.pairwise_map.2 ((h.apart.and (hkk.and (List.pairwise_of_forall_mem_list (l := T) (r := fun a b => a ∈ T ∧ b ∈ T) (fun a ha b hb => ⟨ha, hb⟩)))).imp ?_)
  rintro a c ⟨hac, hne2, haT, hcT⟩ k hk hk2
  by_cases hak : a.key = t.key
  ·have e : a = t := nodup_inj h.keys haT ht hak
   subst e
   rw [if_pos rfl] at hk
   rw [if_neg (fun e => hne2 e.symm)] at hk2
   rcases h2 k hk with h4 | h4
   ·exact hac k h4 hk2
   ·have := ((h.sto c hcT).foot hk2).2; omega
  ·rw [if_neg hak] at hk
   by_cases hck : c.key = t.key
   ·have e : c = t := nodup_inj h.keys hcT ht hck
    subst e
    rw [if_pos rfl] at hk2
    rcases h2 k hk2 with h4 | h4
    ·exact hac k hk h4
    ·have := ((h.sto a haT).foot hk).2; omega
   ·rw [if_neg hck] at hk2; exact hac k hk hk2
 ·rcases hfoot x hx with ⟨hx, hne⟩ | ⟨e1, e2, e3, e4, e5⟩
  ·exact h.off x hx k hk
  ·rw [e1, e2, e3] at hk
   rcases h2 k hk with h4 | h4
   ·exact h.off t ht k h4
   ·exact ⟨fun e => by have := h.box.lt; omega, fun e => by have := h.map.lt; omega⟩
 ·rcases hk with hk | hk | ⟨x, hx, hk⟩
  ·exact .inl (.inl hk)
  ·exact .inl (.inr (.inl hk))
  ·rcases hfoot x hx with ⟨hx, hne⟩ | ⟨e1, e2, e3, e4, e5⟩
   ·exact .inl (.inr (.inr ⟨x, hx, hk⟩))
   ·rw [e1, e2, e3] at hk
    exact (h2 k hk).imp (hsub k) id
theorem Egs.add (h : Egs B W b mt T tc st dk sy) {t : Tb} (hn : tbOf T t.key = none) (hb : t.born = tc) {W1 : World} (hw : Below W.heap.size W W1) (hs : Sto W.heap.size W1 t.S t.m t.E t.clock) (hB : B ≤ W.heap.size) :
  ETurn B b (FootE b mt T) W (setBlock W1 mt (.map (esOf (ens (T ++ [t]))) (tc + 1))) mt (T ++ [t]) (tc + 1) st dk sy := by
 have h1 := h.below hw
 have hks : Kept (fun k => k = mt) W1 (setBlock W1 mt (.map (esOf (ens (T ++ [t]))) (tc + 1))) := setBlock_kept (Kept.refl _ W1) mt _ (.inl rfl)
 have hnew : ∀ k, Foot t.S t.m t.E k → W.heap.size ≤ k := fun k hk => (hs.foot hk).1
 have hno := tbOf_none hn
 have hmlt := h.map.lt
 have hblt := h.box.lt
 refine ⟨⟨h1.box.kept' hks (fun e => h.mb e.symm), setBlock_at h1.map, ?_, fun x hx => ?_, ?_, fun x hx k hk => ?_, h.mb, h.bb, h.bm⟩, fun k hk => ?_, ?_⟩
 ·have e : ens (T ++ [t]) = ens T ++ [t.en] := by simp [ens]
  rw [e]
  refine ⟨?_, ?_, fun x hx => ?_⟩
  ·rw [List.map_append, List.nodup_append]
   refine ⟨h.ok.keys, by simp, fun a ha c hc => ?_⟩
   rw [ens_keys] at ha
   obtain ⟨u, hu, rfl⟩ := List.mem_map.1 ha
   have hc' : c = t.key := by simpa [Tb.en] using hc
   rw [hc']
   exact hno u hu
  ·rw [List.map_append, List.nodup_append]
   refine ⟨h.ok.borns, by simp, fun a ha c hc => ?_⟩
   obtain ⟨u, hu, rfl⟩ := List.mem_map.1 ha
   have hc' : c = tc := by simpa [Tb.en, hb] using hc
   have := h.ok.lt u hu
   omega
  ·rcases List.mem_append.1 hx with hx | hx
   ·have := h.ok.lt x hx; omega
   ·rw [List.mem_singleton.1 hx]; show t.born < tc + 1; omega
 ·rcases List.mem_append.1 hx with hx | hx
  ·exact (h1.sto x hx).kept hks (fun k hk => (h.off x hx k hk).2)
  ·rw [List.mem_singleton.1 hx]
   exact (hs.kept hks (fun k hk e => by have := hnew k hk; omega)).base hB
 ·rw [List.pairwise_append]
  refine ⟨h.apart, List.pairwise_singleton _ _, fun a ha c hc k hk hk2 => ?_⟩
  rw [List.mem_singleton.1 hc] at hk2
  have := hnew k hk2
  have := ((h.sto a ha).foot hk).2
  omega
 ·rcases List.mem_append.1 hx with hx | hx
  ·exact h.off x hx k hk
  ·rw [List.mem_singleton.1 hx] at hk
   have := hnew k hk
   exact ⟨by omega, by omega⟩
 ·rcases hk with hk | hk | ⟨x, hx, hk⟩
  ·exact .inl (.inl hk)
  ·exact .inl (.inr (.inl hk))
  ·rcases List.mem_append.1 hx with hx | hx
   ·exact .inl (.inr (.inr ⟨x, hx, hk⟩))
   ·rw [List.mem_singleton.1 hx] at hk; exact .inr (hnew k hk)
 ·have h2 : Kept (FootE b mt T) W W1 := ⟨hw.os, hw.tape, hw.output, hw.size, fun k hk _ => hw.block k hk⟩
  exact h2.trans hks (fun k hk => .inl (.inr (.inl hk)))
end
def cont (T : List Tb) (tb : Bs) : Bs → List Ver := match tbOf T tb with
 | some t => lkL t.E
 | none => fun _ => []
theorem tbOf_upd (T : List Tb) (k : Bs) (E : List En) (c : Nat) (tb : Bs) : tbOf (updT T k E c) tb = (tbOf T tb).map fun t => if t.key = k then { t with E := E, clock := c } else t := by
 unfold tbOf updT
 rw [List.find?_map]
 congr 1
 refine congrArg (fun p => T.find? p) (funext fun t => ?_)
 show decide (tb = (if t.key = k then { t with E := E, clock := c } else t : Tb).key) = decide (tb = t.key)
 split <;> rfl
theorem cont_upd {T : List Tb} {k : Bs} {t : Tb} (ht : tbOf T k = some t) (E : List En) (c : Nat) : cont (updT T k E c) = fun tb => if tb = k then lkL E else cont T tb := by
 funext tb
 unfold cont
 rw [tbOf_upd]
 by_cases h : tb = k
 ·subst h
  rw [ht]
  simp [(tbOf_mem ht).2]
 ·rw [if_neg h]
  cases hu : tbOf T tb with
  | none => rfl
  | some u =>
   have : u.key ≠ k := by rw [(tbOf_mem hu).2]; exact h
   simp [this]
theorem cont_add {T : List Tb} {t : Tb} (hn : tbOf T t.key = none) : cont (T ++ [t]) = fun tb => if tb = t.key then lkL t.E else cont T tb := by
 funext tb
 unfold cont tbOf
 rw [List.find?_append]
 by_cases h : tb = t.key
 ·subst h
  have : T.find? (fun u => decide (t.key = u.key)) = none := hn
  rw [this]
  simp
 ·rw [if_neg h]
  cases hu : T.find? (fun t => decide (tb = t.key)) with
  | none => simp [h]
  | some u => rfl
end Go.Proofs.YtilopjlcgmedgaaGreatDoor
