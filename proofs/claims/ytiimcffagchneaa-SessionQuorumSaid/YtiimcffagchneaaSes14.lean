/- Members: the reference's 'Valid' returns, and what it says. -/
import Derived.Test.YtiimcffagchneaaSes13
import Derived.Deep.RegionHeld3
import Derived.StillTailTactics
namespace Go.Proofs.Ytiimcffagchneaa
open Go.ChangeShapes Go.WideShapes Go.ChangeAt Go.RowKit
set_option linter.unusedVariables false
set_option linter.unusedSimpArgs false
/-- a boxed member stands in its block; nothing of before has turned -/
def MB (w : World) (id sz tm vt rl ld ti vs : Int) (lg : Value) (cm : Int) (nx mt : Value) (W : World) : Prop := W.cell? ⟨w.heap.size, 0, none⟩ = some (.int .i64 id) ∧ W.cell? ⟨w.heap.size, 1, none⟩ = some (.int .i64 sz) ∧ W.cell? ⟨w.heap.size, 2, none⟩ = some (.int .i64 tm) ∧ W.cell? ⟨w.heap.size, 3, none⟩ = some (.int .i64 vt) ∧ W.cell? ⟨w.heap.size, 4, none⟩ = some (.int .i64 rl) ∧ W.cell? ⟨w.heap.size, 5, none⟩ = some (.int .i64 ld) ∧ W.cell? ⟨w.heap.size, 6, none⟩ = some (.int .i64 ti) ∧ W.cell? ⟨w.heap.size, 7, none⟩ = some (.int .i64 vs) ∧ W.cell? ⟨w.heap.size, 8, none⟩ = some (lg) ∧ W.cell? ⟨w.heap.size, 9, none⟩ = some (.int .i64 cm) ∧ W.cell? ⟨w.heap.size, 10, none⟩ = some (nx) ∧ W.cell? ⟨w.heap.size, 11, none⟩ = some (mt) ∧ w.heap.size < W.heap.size ∧ Below w.heap.size w W
theorem MB.next {w : World} {id sz tm vt rl ld ti vs : Int} {lg : Value} {cm : Int} {nx mt : Value} {W : World} (h : MB w id sz tm vt rl ld ti vs lg cm nx mt W) {P : Program} {f : Nat} {args : Array Value} {F : Ending → Prop} (hc : Calls P f args W fun e w' => F e ∧ Below W.heap.size W w') :
    Calls P f args W fun e w' => F e ∧ MB w id sz tm vt rl ld ti vs lg cm nx mt w' := by
  refine hc.mono ?_
  rintro e W' ⟨he, hb⟩
  obtain ⟨c0, c1, c2, c3, c4, c5, c6, c7, c8, c9, c10, c11, hz, hB⟩ := h
  obtain ⟨g, _⟩ := bcell hb
  exact ⟨he, (g _ _ hz).trans c0, (g _ _ hz).trans c1, (g _ _ hz).trans c2, (g _ _ hz).trans c3, (g _ _ hz).trans c4, (g _ _ hz).trans c5, (g _ _ hz).trans c6, (g _ _ hz).trans c7, (g _ _ hz).trans c8, (g _ _ hz).trans c9, (g _ _ hz).trans c10, (g _ _ hz).trans c11, Nat.lt_of_lt_of_le hz hb.size, hB.trans (hb.mono (Nat.le_of_lt hz))⟩
theorem MB.start (w : World) (id sz tm vt rl ld ti vs : Int) (lg : Value) (cm : Int) (nx mt : Value) : MB w id sz tm vt rl ld ti vs lg cm nx mt (w.alloc (.cells #[.int .i64 id, .int .i64 sz, .int .i64 tm, .int .i64 vt, .int .i64 rl, .int .i64 ld, .int .i64 ti, .int .i64 vs, lg, .int .i64 cm, nx, mt] 37)) :=
  ⟨by simp [go_sem], by simp [go_sem], by simp [go_sem], by simp [go_sem], by simp [go_sem], by simp [go_sem], by simp [go_sem], by simp [go_sem], by simp [go_sem], by simp [go_sem], by simp [go_sem], by simp [go_sem], by simp, (Below.refl _ _).alloc (Nat.le_refl _) _⟩
theorem wpList_named {P : Program} {ops : Array Oper} {l : List Oper} {Q : Exit → Act → World → Prop} {a : Act} {w : World} (F : World → Prop) (hF : F w) (h : ∀ w', F w' → wpList P ops Q l a w') : wpList P ops Q l a w := h w hF
end Go.Proofs.Ytiimcffagchneaa
