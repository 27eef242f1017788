/- Engine: codec.Num; a row of bytes as a string. -/
import Derived.Test.YtpcjmceakelilaaEn3
namespace Go.Proofs.Ytpcjmceakelilaa
open Go.ChangeShapes Go.WideShapes Go.ChangeAt Go.RowKit Go.Deep Go.Shelf
set_option linter.unusedVariables false
set_option linter.unusedSimpArgs false
/-- bytes as a string -/
def mkS (l : List UInt8) : Bs := ⟨l.toArray⟩
theorem mkS_size (l : List UInt8) : (mkS l).size = l.length := by simp [mkS, ByteArray.size]
theorem strOf_bytes (l : List UInt8) : strOfNums (l.map fun b => (b.toNat : Int)) = mkS l := by
  unfold strOfNums mkS
  congr 2
  rw [List.map_map]
  conv => rhs; rw [← List.map_id l]
  refine List.map_congr_left fun b _ => ?_
  simp
theorem conv_row {B : Nat} {W : World} {v : Value} {l : List UInt8} (h : W.ownsRow B 5 1 v l.length (Lib.byteCells l)) (h0 : 0 < l.length) :
    (convert 97 9 v).run Try.prog W = .ok (.string (mkS l)) W := by
  rcases h.2 with ⟨rfl, h1⟩ | ⟨g, c, cur, rfl, h1⟩
  · omega
  · have e := run_convert_bytes_arg (P := Try.prog) (w := W) 97 5 (by kernel_rfl) (by kernel_rfl) g 0 l.length c (l.map fun b => (b.toNat : Int)) (by simp) (fun i hi => by
      have := h.cells (g := g) rfl i (.int .u8 (l[i]'(by simpa using hi)).toNat) (by simp [Lib.byteCells]; exact ⟨_, List.getElem?_eq_getElem hi, rfl⟩)
      rw [addr_add'] at this
      rw [this, List.getD_eq_getElem?_getD, List.getElem?_map, List.getElem?_eq_getElem hi]
      rfl) 9 (by kernel_rfl)
    rw [e, strOf_bytes]
set_option maxRecDepth 100000 in
theorem num_any (n : Nat) (w : World) (h : n < 4611686018427387904) :
    Calls Try.prog 55 #[.int .i64 n] w fun e w' => e = .returned (.string (mkS (numB n))) ∧ Below w.heap.size w w' := by
  go_enter Try.func55, Try.ntmps55
  go_wp2_with (go_at_call 66; refine (appendNum_any n _ h).mono ?_)
  rintro e w1 ⟨v, rfl, hown, hb⟩
  have hcv := conv_row hown (numB_pos n)
  have HB := Lib.hid hb
  clear hown hb
  go_wp2
  go_ret
  exact ⟨rfl, HB.out⟩
end Go.Proofs.Ytpcjmceakelilaa
