/- '[]byte(s)' of a string that is no constant. -/
import Derived.Test.YtjedhlgflocjoaaDoorBytes
import Derived.Lib.ConvBytes
import Derived.Lib.AtoiErrMem
namespace Go.Proofs.YtjedhlgflocjoaaDoor
open Go.ChangeShapes Go.WideShapes Go.ChangeAt Go.RowKit
set_option linter.unusedVariables false

theorem bytes_of_string (s : ByteArray) (w : World) : ∃ (W1 : World) (cap : Nat),
    (convert 9 33 (.string s)).run Tryd.prog w = .ok (.slice (some ⟨w.heap.size, 0, none⟩) s.size cap) W1 ∧
    BytesAt W1 w.heap.size s.data.toList ∧ Below w.heap.size w W1 ∧ W1.heap.size = w.heap.size + 1 := by
  have hr := Lib.run_convert_string_bytes (P := Tryd.prog) w 9 33 5 s (u := .string) (by kernel_rfl) (by kernel_rfl) (by kernel_rfl)
  refine ⟨_, _, hr, ⟨fun j hj => ?_, fun j hj => ?_⟩, Lib.bytesWorld_below w 5 s, Lib.bytesWorld_size w 5 s⟩
  · have hj' : j < s.size := by have e : s.data.toList.length = s.size := Array.length_toList; omega
    rw [Lib.bytesWorld_cell w 5 s j hj', List.getD_eq_getElem?_getD, List.getElem?_eq_getElem hj]
    rfl
  · have hj' : j < s.size := by have e : s.data.toList.length = s.size := Array.length_toList; omega
    have hz : s.size ≤ (Lib.bytesCells w 5 s).size := by simp [Lib.bytesCells]
    simp [World.frozen?, Lib.bytesWorld_at_new]
    omega
end Go.Proofs.YtjedhlgflocjoaaDoor
