/- Sessions: the time of a read (exploration). -/
import Derived.Test.YtiimcffagchneaaSes5
namespace Go.Proofs.Ytiimcffagchneaa
open Go.ChangeShapes Go.WideShapes Go.ChangeAt Go.RowKit
set_option linter.unusedVariables false

set_option maxRecDepth 100000 in
set_option maxHeartbeats 400000 in
theorem point_maj (id sz tm vt rl ld ti vs : Int) (a : Option Addr) (len cap : Nat) (cm : Int) (nx mt : Value) (ts : List Int) (after pos x y : Int) (w : World) (hln : ts.length = len) (hl : ts.length ≤ 1000000)
    (hv : StampsAt w (.slice a len cap) ts) (hx : stampOf ts len = x) (hy : stampOf ts cm = y) (hw : ¬ y < after) :
    Calls Try.prog 22 #[mem id sz tm vt rl ld ti vs (.slice a len cap) cm nx mt, .int .i64 2, .int .i64 after, .int .i64 pos] w fun e w' => e = .returned (.tuple #[.int .i64 y, .bool false, .int .i64 0]) ∧ Below w.heap.size w w' := by
  have HS := Lib.hid hv
  have HX := Lib.hid hx
  have HY := Lib.hid hy
  have HL := Lib.hid hln
  have hll : len ≤ 1000000 := by omega
  clear hv hx hy hln
  have hbw : Below w.heap.size w (w.alloc (.cells #[.int .i64 id, .int .i64 sz, .int .i64 tm, .int .i64 vt, .int .i64 rl, .int .i64 ld, .int .i64 ti, .int .i64 vs, .slice a len cap, .int .i64 cm, nx, mt] 37)) := (Below.refl _ _).alloc (Nat.le_refl _) _
  have HB := Lib.hid hbw
  clear hbw
  go_enter Try.func22, Try.ntmps22
  go_wp2_with fail
  refine (stamp_any _ ts _ _ hl (HS.out.below HB.out)).mono ?_
  rw [HX.out]
  rintro e w1 ⟨rfl, rfl⟩
  go_wp2_with fail
  refine (stamp_any _ ts _ _ hl (HS.out.below HB.out)).mono ?_
  rw [HY.out]
  rintro e w1 ⟨rfl, rfl⟩
  go_wp2_with fail
  go_ret3
  exact ⟨rfl, HB.out⟩
end Go.Proofs.Ytiimcffagchneaa
