/- A slice of bytes that the call made: what its cells hold, through stores and draws. -/
import Derived.Test.YtjedhlgflocjoaaDoorRows
import Derived.WalkKit
import Derived.ProofKit
import Derived.Laws.MakeOwn
import Derived.Laws.OwnMore
import Derived.Laws.BytesArg
import Derived.Laws.BitsAllLaws
import Derived.Laws.IdiomStrings
namespace Go.Proofs.YtjedhlgflocjoaaDoor
open Go.ChangeShapes Go.WideShapes Go.ChangeAt Go.RowKit
set_option linter.unusedVariables false

/-- block B begins with the bytes l, and these can be written -/
structure BytesAt (w : World) (B : Nat) (l : List UInt8) : Prop where
  cell : ∀ j (h : j < l.length), w.cell? ⟨B, j, none⟩ = some (.int .u8 (l[j].toNat : Int))
  free : ∀ j, j < l.length → w.frozen? ⟨B, j, none⟩ = false

theorem BytesAt.drew {w : World} {B : Nat} {l : List UInt8} (h : BytesAt w B l) : BytesAt w.drew B l := ⟨h.cell, h.free⟩
theorem BytesAt.below {w w' : World} {B B' : Nat} {l : List UInt8} (h : BytesAt w B l) (hb : Below B' w w') (hB : B < B') : BytesAt w' B l :=
  ⟨fun j hj => by rw [hb.cell (p := ⟨B, j, none⟩) hB]; exact h.cell j hj, fun j hj => by rw [hb.frozen (p := ⟨B, j, none⟩) hB]; exact h.free j hj⟩
theorem BytesAt.set {w : World} {B : Nat} {l : List UInt8} (h : BytesAt w B l) (k : Nat) (v : UInt8) (hk : k < l.length) : BytesAt (w.setCell ⟨B, k, none⟩ (.int .u8 (v.toNat : Int))) B (l.set k v) := by
  refine ⟨fun j hj => ?_, fun j hj => ?_⟩
  · have hj' : j < l.length := by simpa using hj
    by_cases e : k = j
    · subst e
      rw [World.cell?_setCell_same _ _ _ (h.cell k hk)]
      simp
    · rw [World.cell?_setCell_other _ _ _ _ (by intro hc; injection hc; omega), h.cell j hj']
      simp [e]
  · have hj' : j < l.length := by simpa using hj
    simpa using h.free j hj'

theorem info5 : (Tryd.prog.info? 5).map (fun i => (i.zero, i.size, i.bytes)) = some (some (.int .u8 0), 1, 1) := by kernel_rfl

theorem make_bytes (n : Nat) (w : World) (hn : n ≤ 100000000) : ∃ W1 : World,
    (Instr.makeSlice 33 (.int .i64 (n : Int)) (.int .i64 (n : Int))).run Tryd.prog w = .ok (.slice (some ⟨w.heap.size, 0, none⟩) n n) W1 ∧
    BytesAt W1 w.heap.size (List.replicate n 0) ∧ Below w.heap.size w W1 ∧ W1.heap.size = w.heap.size + 1 := by
  obtain ⟨i0, hi, hz0, hz1, hz2⟩ := info_parts info5
  have hr := run_make (P := Tryd.prog) w 33 5 i0 (.int .u8 0) (by kernel_rfl) hi hz0 .i64 .i64 n n (by omega) (by omega) (by rw [hz2]; omega) (by omega)
  simp only [Int.toNat_natCast, hz1, Nat.mul_one] at hr
  refine ⟨_, hr, ⟨fun j hj => ?_, fun j hj => ?_⟩, (Below.refl _ _).alloc (Nat.le_refl _) _, by simp⟩
  · have hj' : j < n := by simpa using hj
    have hmc : madeCells (Value.int .u8 0).cells n = (List.replicate n (Value.int .u8 0)).toArray := Array.ext' (toList_madeCells_one _ _)
    rw [hmc]
    simp [go_sem, hj']
  · simp [go_sem]

theorem conv_bytes {w : World} {B : Nat} {l : List UInt8} (cap : Nat) (h : BytesAt w B l) :
    (convert 33 9 (.slice (some ⟨B, 0, none⟩) l.length cap)).run Tryd.prog w = .ok (.string ⟨l.toArray⟩) w :=
  run_convert_bytes_back w 33 9 5 ⟨B, 0, none⟩ cap l (by kernel_rfl) (by kernel_rfl) (by kernel_rfl) (fun j hj => by
    have e : (⟨B, 0, none⟩ : Addr).add j = ⟨B, j, none⟩ := by simp [Addr.add]; omega
    rw [e]; exact h.cell j hj)
end Go.Proofs.YtjedhlgflocjoaaDoor
