/- Balance: a slice of ints that the call made. -/
import Derived.Test.YtimhokilicogdaaBal1
import Derived.WalkKit
import Derived.Laws.MakeOwn
import Derived.Laws.OwnMore
namespace Go.Proofs.Ytimhokilicogdaa
open Go.ChangeShapes Go.WideShapes Go.ChangeAt Go.RowKit
set_option linter.unusedVariables false
set_option linter.unusedSimpArgs false
/-- an operation by its run -/
theorem wpList_val {P : Program} {ops : Array Oper} {rest : List Oper} {o : Oper} {a : Act} {w w' : World} {Q : Exit → Act → World → Prop} {v : Value} (hg : o.guard = none)
    (hr : (execOp a.eval o).run P w = .ok (.value v) w') (h : wpList P ops Q rest (a.put o.dst v) w') : wpList P ops Q (o :: rest) a w :=
  wpList_plain hg fun K hK => by
    unfold Oper.wp
    rw [hr]
    exact hK _ _ h
/-- block B begins with the numbers l, and these can be written -/
structure NumsAt (w : World) (B : Nat) (l : List Int) : Prop where
  cell : ∀ j (h : j < l.length), w.cell? ⟨B, j, none⟩ = some (.int .i64 l[j])
  free : ∀ j, j < l.length → w.frozen? ⟨B, j, none⟩ = false
theorem NumsAt.drew {w : World} {B : Nat} {l : List Int} (h : NumsAt w B l) : NumsAt w.drew B l := ⟨h.cell, h.free⟩
theorem NumsAt.below {w w' : World} {B B' : Nat} {l : List Int} (h : NumsAt w B l) (hb : Below B' w w') (hB : B < B') : NumsAt w' B l :=
  ⟨fun j hj => by rw [hb.cell (p := ⟨B, j, none⟩) hB]; exact h.cell j hj, fun j hj => by rw [hb.frozen (p := ⟨B, j, none⟩) hB]; exact h.free j hj⟩
theorem NumsAt.set {w : World} {B : Nat} {l : List Int} (h : NumsAt w B l) (k : Nat) (v : Int) (hk : k < l.length) : NumsAt (w.setCell ⟨B, k, none⟩ (.int .i64 v)) B (l.set k v) := by
  refine ⟨fun j hj => ?_, fun j hj => ?_⟩
  · have hj' : j < l.length := by simpa using hj
    by_cases e : k = j
    · subst e
      rw [World.cell?_setCell_same _ _ _ (h.cell k hk)]
      simp
    · rw [World.cell?_setCell_other _ _ _ _ (by intro hc; injection hc; omega), h.cell j hj']
      simp [e]
  · have hj' : j < l.length := by simpa using hj
    simpa using h.free j hj'
theorem info3 : (Try.prog.info? 3).map (fun i => (i.zero, i.size, i.bytes)) = some (some (.int .i64 0), 1, 8) := by kernel_rfl
theorem make_ints (n : Nat) (w : World) (hn : n ≤ 100000000) : ∃ W1 : World,
    (Instr.makeSlice 30 (.int .i64 (n : Int)) (.int .i64 (n : Int))).run Try.prog w = .ok (.slice (some ⟨w.heap.size, 0, none⟩) n n) W1 ∧
    NumsAt W1 w.heap.size (List.replicate n 0) ∧ Below w.heap.size w W1 ∧ W1.heap.size = w.heap.size + 1 := by
  obtain ⟨i0, hi, hz0, hz1, hz2⟩ := info_parts info3
  have hr := run_make (P := Try.prog) w 30 3 i0 (.int .i64 0) (by kernel_rfl) hi hz0 .i64 .i64 n n (by omega) (by omega) (by rw [hz2]; omega) (by omega)
  simp only [Int.toNat_natCast, hz1, Nat.mul_one] at hr
  refine ⟨_, hr, ⟨fun j hj => ?_, fun j hj => ?_⟩, (Below.refl _ _).alloc (Nat.le_refl _) _, by simp⟩
  · have hj' : j < n := by simpa using hj
    have hmc : madeCells (Value.int .i64 0).cells n = (List.replicate n (Value.int .i64 0)).toArray := Array.ext' (toList_madeCells_one _ _)
    rw [hmc]
    simp [go_sem, hj']
  · simp [go_sem]
theorem wpList_mkInts {ops : Array Oper} {rest : List Oper} {Q : Exit → Act → World → Prop} (x n : Nat) (d : Option Nat) (pos : String) (af) (a : Act) (w : World) (hn : n ≤ 100000000) (hx : a.eval (.tmp x) = .int .i64 (n : Int))
    (h : ∀ w', NumsAt w' w.heap.size (List.replicate n 0) → Below w.heap.size w w' → w'.heap.size = w.heap.size + 1 → wpList Try.prog ops Q rest (a.put d (.slice (some ⟨w.heap.size, 0, none⟩) n n)) w') :
    wpList Try.prog ops Q ({ dst := d, op := Op.makeSlice 30 (Operand.tmp x) (Operand.tmp x), type := 30, pos := pos, after := af, guard := none } :: rest) a w := by
  obtain ⟨W1, hr, h1, h2, h3⟩ := make_ints n w hn
  refine wpList_val rfl ?_ (h W1 h1 h2 h3)
  simp [execOp, hx, hr]
/-- routes as a value -/
abbrev rts (sp : ByteArray) (ks : Value) (hs : Bool) (ep vr : Int) (ch : Value) : Value := .agg #[.string sp, ks, .bool hs, .int .i64 ep, .int .i64 vr, ch]
end Go.Proofs.Ytimhokilicogdaa
