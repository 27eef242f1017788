/- An operation by its run; the making of an entry and of the log in awake. -/
import Derived.Test.YtiimcffagchneaaSes7a
namespace Go.Proofs.Ytiimcffagchneaa
open Go.ChangeShapes Go.WideShapes Go.ChangeAt Go.RowKit
theorem wpList_val {P : Program} {ops : Array Oper} {rest : List Oper} {o : Oper} {a : Act} {w w' : World} {Q : Exit → Act → World → Prop} {v : Value} (hg : o.guard = none)
    (hr : (execOp a.eval o).run P w = .ok (.value v) w') (h : wpList P ops Q rest (a.put o.dst v) w') : wpList P ops Q (o :: rest) a w :=
  wpList_plain hg fun K hK => by
    unfold Oper.wp
    rw [hr]
    exact hK _ _ h
theorem exec_ent (x y : Int) (d : Option Nat) (pos : String) (af) (a : Act) (w : World) :
    (execOp a.eval { dst := d, op := Op.build 74 #[(0, Operand.const (Value.int IntKind.i64 x)), (1, Operand.const (Value.int IntKind.i64 y))], type := 74, pos := pos, after := af, guard := none }).run Try.prog w = .ok (.value (ent x y)) w := by
  kernel_rfl
theorem exec_log (i0 i1 i2 i3 : Nat) (d : Option Nat) (pos : String) (af) (a : Act) (w : World) (h0 : a.eval (.tmp i0) = ent 1 1) (h1 : a.eval (.tmp i1) = ent 1 2) (h2 : a.eval (.tmp i2) = ent 1 5) (h3 : a.eval (.tmp i3) = ent 1 7) :
    (execOp a.eval { dst := d, op := Op.buildSlice 34 4 #[(0, Operand.tmp i0), (1, Operand.tmp i1), (2, Operand.tmp i2), (3, Operand.tmp i3)], type := 34, pos := pos, after := af, guard := none }).run Try.prog w = .ok (.value (.slice (some ⟨w.heap.size, 0, none⟩) 4 4)) (w.alloc (.cells logCells 74)) := by
  have e := build_log w
  simp [execOp, h0, h1, h2, h3, e]
end Go.Proofs.Ytiimcffagchneaa
