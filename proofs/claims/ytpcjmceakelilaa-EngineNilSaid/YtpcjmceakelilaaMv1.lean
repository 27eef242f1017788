/- Mvcc: what a call may have changed; the order of keys; lists of versions and rows of them. -/
import Derived.Test.YtpcjmceakelilaaRows
import Derived.Test.YtpcjmceakelilaaShelf
import Derived.Test.YtpcjmceakelilaaBox
import Derived.WalkKit
import Derived.ProofKit
import Derived.Below
import Derived.Outline
import Derived.OwnWalk
import Derived.Laws.AppendOwn
import Derived.Laws.OwnMore
import Derived.Deep.Slices
import Derived.Deep.MidRow
import Derived.Lib.Hide
import Derived.IntWalk
import Derived.Deep.QuietTactic
import Derived.BigQuiet
import Derived.StillTailTactics
import Derived.Maps.AppendAt
import Derived.Laws.Cover1
namespace Go.Proofs.Ytpcjmceakelilaa
open Go.ChangeShapes Go.WideShapes Go.ChangeAt Go.RowKit Go.Deep
set_option linter.unusedVariables false
set_option linter.unusedSimpArgs false
abbrev Bs := ByteArray
/-- what a call may have changed: the blocks of S alone -/
structure Kept (S : Nat → Prop) (W W' : World) : Prop where
  os : W'.os = W.os
  tape : W'.tape = W.tape
  output : W'.output = W.output
  size : W.heap.size ≤ W'.heap.size
  block : ∀ k, k < W.heap.size → ¬ S k → W'.heap[k]? = W.heap[k]?
theorem Kept.refl (S : Nat → Prop) (W : World) : Kept S W W := ⟨rfl, rfl, rfl, Nat.le_refl _, fun _ _ _ => rfl⟩
theorem Kept.below {S : Nat → Prop} {W W' : World} {B : Nat} (h : Kept S W W') (hB : B ≤ W.heap.size) (hS : ∀ k, S k → B ≤ k) : Below B W W' := ⟨h.os, h.tape, h.output, h.size, fun k hk => h.block k (by omega) (fun hs => by have := hS k hs; omega)⟩
theorem Kept.drew {S : Nat → Prop} {W W' : World} (h : Kept S W W') : Kept S W W'.drew := ⟨h.os, h.tape, h.output, h.size, h.block⟩
theorem Kept.drewN {S : Nat → Prop} {W W' : World} (h : Kept S W W') (n : Nat) : Kept S W (W'.drewN n) := ⟨h.os, h.tape, h.output, h.size, h.block⟩
theorem heap_setCells (g : Nat) : ∀ (vs : List Value) (o : Nat) (W : World) (k : Nat), k ≠ g → (W.setCells g o vs).heap[k]? = W.heap[k]?
  | [], _, _, _, _ => rfl
  | v :: r, o, W, k, h => by
    rw [World.setCells, heap_setCells g r (o + 1) _ k h]
    simp only [World.setCell]
    rw [Array.getElem?_modify, if_neg (fun e => h e.symm)]
theorem size_setCells' (g : Nat) : ∀ (vs : List Value) (o : Nat) (W : World), (W.setCells g o vs).heap.size = W.heap.size
  | [], _, _ => rfl
  | v :: r, o, W => by rw [World.setCells, size_setCells' g r (o + 1)]; simp [World.setCell]
theorem rest_setCells (g : Nat) : ∀ (vs : List Value) (o : Nat) (W : World), (W.setCells g o vs).os = W.os ∧ (W.setCells g o vs).tape = W.tape ∧ (W.setCells g o vs).output = W.output
  | [], _, _ => ⟨rfl, rfl, rfl⟩
  | v :: r, o, W => by rw [World.setCells]; exact rest_setCells g r (o + 1) _
theorem Kept.setCells {S : Nat → Prop} {W W' : World} (h : Kept S W W') (g o : Nat) (vs : List Value) (hg : S g ∨ W.heap.size ≤ g) : Kept S W (W'.setCells g o vs) := by
  obtain ⟨h1, h2, h3⟩ := rest_setCells g vs o W'
  refine ⟨h1.trans h.os, h2.trans h.tape, h3.trans h.output, by rw [size_setCells']; exact h.size, fun k hk hs => ?_⟩
  rw [heap_setCells g vs o W' k (fun e => by subst e; rcases hg with hg | hg; exact hs hg; omega)]
  exact h.block k hk hs
theorem Kept.alloc {S : Nat → Prop} {W W' : World} (h : Kept S W W') (ob : Obj) : Kept S W (W'.alloc ob) := by
  refine ⟨h.os, h.tape, h.output, ?_, fun k hk hs => ?_⟩
  · have := h.size; rw [World.size_alloc]; omega
  · rw [← h.block k hk hs]
    show (W'.heap.push ob)[k]? = _
    have := h.size
    rw [Array.getElem?_push, if_neg (by omega)]
theorem Kept.trans {S T : Nat → Prop} {W W' W'' : World} (h : Kept S W W') (h2 : Kept T W' W'') (hT : ∀ k, T k → S k ∨ W.heap.size ≤ k) : Kept S W W'' :=
  ⟨h2.os.trans h.os, h2.tape.trans h.tape, h2.output.trans h.output, Nat.le_trans h.size h2.size, fun k hk hs => (h2.block k (Nat.lt_of_lt_of_le hk h.size) (fun ht => by rcases hT k ht with h3 | h3; exact hs h3; omega)).trans (h.block k hk hs)⟩
def lB (a b : Bs) : Bool := Op.bytesLess a.toList b.toList
theorem less_irrefl : ∀ x : List UInt8, Op.bytesLess x x = false
  | [] => rfl
  | a :: x => by simp [Op.bytesLess, less_irrefl x]
theorem less_trans : ∀ x y z : List UInt8, Op.bytesLess x y = true → Op.bytesLess y z = true → Op.bytesLess x z = true
  | _, [], _, h, _ => by simp [Op.bytesLess] at h
  | [], _ :: _, [], _, h => by simp [Op.bytesLess] at h
  | [], _ :: _, _ :: _, _, _ => rfl
  | _ :: _, _ :: _, [], _, h => by simp [Op.bytesLess] at h
  | a :: x, b :: y, c :: z, h1, h2 => by
    simp only [Op.bytesLess, Bool.or_eq_true, decide_eq_true_eq, Bool.and_eq_true, beq_iff_eq] at *
    rcases h1 with h1 | ⟨rfl, h1⟩
    · rcases h2 with h2 | ⟨rfl, h2⟩
      · exact .inl (UInt8.lt_trans h1 h2)
      · exact .inl h1
    · rcases h2 with h2 | ⟨rfl, h2⟩
      · exact .inl h2
      · exact .inr ⟨rfl, less_trans x y z h1 h2⟩
theorem less_tri : ∀ x y : List UInt8, Op.bytesLess x y = false → Op.bytesLess y x = false → x = y
  | [], [], _, _ => rfl
  | [], _ :: _, h, _ => by simp [Op.bytesLess] at h
  | _ :: _, [], _, h => by simp [Op.bytesLess] at h
  | a :: x, b :: y, h1, h2 => by
    simp only [Op.bytesLess, Bool.or_eq_false_iff, decide_eq_false_iff_not, Bool.and_eq_false_iff, beq_eq_false_iff_ne] at *
    have hab : a = b := UInt8.le_antisymm (UInt8.not_lt.1 h2.1) (UInt8.not_lt.1 h1.1)
    subst hab
    rw [less_tri x y (h1.2.resolve_left (fun h => h rfl)) (h2.2.resolve_left (fun h => h rfl))]
theorem lB_irrefl (a : Bs) : lB a a = false := less_irrefl _
theorem lB_trans {a b c : Bs} (h1 : lB a b = true) (h2 : lB b c = true) : lB a c = true := less_trans _ _ _ h1 h2
theorem lB_tri {a b : Bs} (h1 : lB a b = false) (h2 : lB b a = false) : a = b := by
  have := less_tri _ _ h1 h2
  rw [ByteArray.toList_eq, ByteArray.toList_eq] at this
  cases a; cases b
  simp at this
  exact congrArg _ this
theorem lB_asymm {a b : Bs} (h : lB a b = true) : lB b a = false := by
  cases h2 : lB b a with
  | false => rfl
  | true => have := lB_trans h h2; rw [lB_irrefl] at this; cases this
theorem lB_ne {a b : Bs} (h : lB a b = true) : a ≠ b := fun e => by rw [e, lB_irrefl] at h; cases h
theorem ca {W : World} {ob : Obj} {g j : Nat} {v : Value} (hg : g < W.heap.size) (h : W.cell? ⟨g, j, none⟩ = some v) : (W.alloc ob).cell? ⟨g, j, none⟩ = some v :=
  (((Below.refl W.heap.size W).alloc (Nat.le_refl _) ob).cell (p := ⟨g, j, none⟩) hg).trans h
theorem kept_below {W W' : World} (h : Below W.heap.size W W') : Kept (fun _ => False) W W' := ⟨h.os, h.tape, h.output, h.size, fun k hk _ => h.block k hk⟩
theorem cell_kept2 {S : Nat → Prop} {W W' : World} {b j : Nat} {v : Value} (hk : Kept S W W') (hb : b < W.heap.size) (hs : ¬ S b) (h : W.cell? ⟨b, j, none⟩ = some v) : W'.cell? ⟨b, j, none⟩ = some v := by
  rw [World.cell?_of_block (a := ⟨b, j, none⟩) (hk.block b hb hs)]; exact h
theorem addr_add' (B o j : Nat) : (⟨B, o, none⟩ : Addr).add j = ⟨B, o + j, none⟩ := by
  by_cases hj : j = 0 <;> simp [Addr.add, hj]
/-- a version: its time, its value, whether it is a deletion -/
abbrev Ver := Int × Bs × Bool
def verc (x : Ver) : List Value := [.int .i64 x.1, .string x.2.1, .bool x.2.2]
def vrv (L : List Ver) : List Value := L.flatMap verc
theorem vrv_cons (a : Ver) (L : List Ver) : vrv (a :: L) = verc a ++ vrv L := rfl
theorem vrv_app (A B : List Ver) : vrv (A ++ B) = vrv A ++ vrv B := List.flatMap_append ..
theorem vrv_len (L : List Ver) : (vrv L).length = L.length * 3 := by
  induction L with
  | nil => rfl
  | cons a L ih => rw [vrv_cons, List.length_append, ih, List.length_cons]; simp [verc]; omega
theorem vrv_one (L : List Ver) : ∀ u ∈ vrv L, u.oneCell' = true := fun u hu => by
  obtain ⟨x, _, hx⟩ := List.mem_flatMap.1 hu
  simp [verc] at hx
  rcases hx with rfl | rfl | rfl <;> rfl
theorem vrv_at (L : List Ver) (j : Nat) (h : j < L.length) : (vrv L)[j * 3]? = some (.int .i64 L[j].1) ∧ (vrv L)[j * 3 + 1]? = some (.string L[j].2.1) ∧ (vrv L)[j * 3 + 2]? = some (.bool L[j].2.2) := by
  induction L generalizing j with
  | nil => simp at h
  | cons a L ih =>
    have e : vrv (a :: L) = .int .i64 a.1 :: .string a.2.1 :: .bool a.2.2 :: vrv L := rfl
    rw [e]
    match j, h with
    | 0, _ => exact ⟨rfl, rfl, rfl⟩
    | j + 1, h =>
      have h2 : j < L.length := by simpa using h
      rw [show (j + 1) * 3 = j * 3 + 1 + 1 + 1 by omega]
      simp only [List.getElem?_cons_succ, List.getElem_cons_succ]
      exact ih j h2
/-- a slice of versions in a row of its own -/
def VRow (B : Nat) (W : World) (v : Value) (L : List Ver) : Prop := W.ownsRow B 72 3 v L.length (vrv L)
/-- a slice of versions that is read -/
def VrAt (W : World) (v : Value) (L : List Ver) : Prop :=
  (v = .slice none 0 0 ∧ L = []) ∨ ∃ g c, v = .slice (some ⟨g, 0, none⟩) L.length c ∧ L.length ≤ c ∧ c ≤ 9223372036854775807 ∧ g < W.heap.size ∧ ∀ j (h : j < L.length), W.cell? ⟨g, j * 3, none⟩ = some (.int .i64 L[j].1) ∧ W.cell? ⟨g, j * 3 + 1, none⟩ = some (.string L[j].2.1) ∧ W.cell? ⟨g, j * 3 + 2, none⟩ = some (.bool L[j].2.2)
theorem VRow.at_ {B : Nat} {W : World} {v : Value} {L : List Ver} (h : VRow B W v L) : VrAt W v L := by
  have h0 : W.ownsRow B 72 3 v L.length (vrv L) := h
  rcases h.2 with ⟨rfl, h1⟩ | ⟨g, c, cur, rfl, h1, h2, h3, h4, h5, h6⟩
  · exact .inl ⟨rfl, List.eq_nil_of_length_eq_zero h1⟩
  · refine .inr ⟨g, c, rfl, h3, by unfold maxLen at h4; omega, (h0.lt g rfl).2, fun j hj => ?_⟩
    have a0 := h0.cellAt (j * 3) (by omega)
    have a1 := h0.cellAt (j * 3 + 1) (by omega)
    have a2 := h0.cellAt (j * 3 + 2) (by omega)
    rw [a0, a1, a2]
    exact vrv_at L j hj
theorem VRow.same {B : Nat} {W W' : World} {v : Value} {L : List Ver} (h : VRow B W v L) (hk : ∀ k, v.ownBlock = some k → W'.heap[k]? = W.heap[k]?) : VRow B W' v L := by
  refine ⟨h.1, ?_⟩
  rcases h.2 with h1 | ⟨g, c, cur, rfl, h1, h2, h3⟩
  · exact .inl h1
  · exact .inr ⟨g, c, cur, rfl, h1, by rw [hk g rfl]; exact h2, h3⟩
theorem VRow.lt {B : Nat} {W : World} {v : Value} {L : List Ver} (h : VRow B W v L) : ∀ k, v.ownBlock = some k → B ≤ k ∧ k < W.heap.size := World.ownsRow.lt h
theorem VRow.kept {B : Nat} {S : Nat → Prop} {W W' : World} {v : Value} {L : List Ver} (h : VRow B W v L) (hk : Kept S W W') (hS : ∀ k, v.ownBlock = some k → ¬ S k) : VRow B W' v L := h.same (fun k e => hk.block k (h.lt k e).2 (hS k e))
theorem VRow.base {B B' : Nat} {W : World} {v : Value} {L : List Ver} (h : VRow B' W v L) (hb : B ≤ B') : VRow B W v L := by
  refine ⟨h.1, ?_⟩
  rcases h.2 with h1 | ⟨g, c, cur, rfl, h1, h2⟩
  · exact .inl h1
  · exact .inr ⟨g, c, cur, rfl, Nat.le_trans hb h1, h2⟩
theorem VRow.len {B : Nat} {W : World} {v : Value} {L : List Ver} (h : VRow B W v L) : ∃ a c, v = .slice a L.length c := by
  rcases h.2 with ⟨rfl, h1⟩ | ⟨g, c, cur, rfl, _⟩
  · rw [h1]; exact ⟨none, 0, rfl⟩
  · exact ⟨_, _, rfl⟩
theorem VRow.get {B : Nat} {W : World} {v : Value} {L : List Ver} (h : VRow B W v L) (h0 : 0 < L.length) : ∃ g c, v = .slice (some ⟨g, 0, none⟩) L.length c ∧ L.length ≤ c ∧ c ≤ 9223372036854775807 ∧ g < W.heap.size ∧ ∀ j (h : j < L.length), W.cell? ⟨g, j * 3, none⟩ = some (.int .i64 L[j].1) ∧ W.cell? ⟨g, j * 3 + 1, none⟩ = some (.string L[j].2.1) ∧ W.cell? ⟨g, j * 3 + 2, none⟩ = some (.bool L[j].2.2) := by
  rcases h.at_ with ⟨rfl, rfl⟩ | h
  · simp at h0
  · exact h
theorem VRow.nil (B : Nat) (W : World) : VRow B W (.slice none 0 0) [] := World.ownsRow_nil _ _ _ _
end Go.Proofs.Ytpcjmceakelilaa
