/- Closed facts: how the program's text makes the entries of a log. -/
import Derived.Test.YtiimcffagchneaaSes6
namespace Go.Proofs.Ytiimcffagchneaa
open Go.ChangeShapes Go.WideShapes Go.ChangeAt Go.RowKit
/-- the entry's cells behind the first two -/
noncomputable def rest74 : List Value := (((Try.prog.info? 74).bind (fun i => i.zero.map (fun z => z.cells.toList))).getD []).drop 2
noncomputable def ent (a b : Int) : Value := .agg (.int .i64 a :: .int .i64 b :: rest74).toArray
theorem build_ent (a b : Int) (w : World) : (Instr.build 74 #[(0, .int .i64 a), (1, .int .i64 b)]).run Try.prog w = .ok (ent a b) w := by kernel_rfl
noncomputable def logCells : Array Value := (ent 1 1).cells ++ (ent 1 2).cells ++ (ent 1 5).cells ++ (ent 1 7).cells
theorem build_log (w : World) : (Instr.buildSlice 34 4 #[(0, ent 1 1), (1, ent 1 2), (2, ent 1 5), (3, ent 1 7)]).run Try.prog w = .ok (.slice (some ⟨w.heap.size, 0, none⟩) 4 4) (w.alloc (.cells logCells 74)) := by kernel_rfl
theorem log_cell : logCells[83]? = some (.int .i64 2) := by kernel_rfl
end Go.Proofs.Ytiimcffagchneaa
