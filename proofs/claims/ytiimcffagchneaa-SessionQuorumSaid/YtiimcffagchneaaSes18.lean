/- Members: 'Valid' whatever the member; 'fits'. -/
import Derived.Test.YtiimcffagchneaaSes17
import Derived.Test.YtiimcffagchneaaSes14n1
import Derived.Test.YtiimcffagchneaaSes14n2
import Derived.Test.YtiimcffagchneaaSes14n3
import Derived.Test.YtiimcffagchneaaSes14n4
import Derived.Test.YtiimcffagchneaaSes14n5
import Derived.Test.YtiimcffagchneaaSes14y
namespace Go.Proofs.Ytiimcffagchneaa
open Go.ChangeShapes Go.WideShapes Go.ChangeAt Go.RowKit
set_option linter.unusedVariables false
set_option linter.unusedSimpArgs false
theorem rvalid_any (id sz tm vt rl ld ti vs : Int) (lg : Value) (cm : Int) (nx mt : Value) (es : List (List Value)) (w : World) (hl : es.length ≤ 100) (he : EntArg w lg es) (hn : IntArg w nx) (hm : IntArg w mt) :
    Calls Try.prog 26 #[mem id sz tm vt rl ld ti vs lg cm nx mt] w fun e w' => Says (1 ≤ sz ∧ sz ≤ 7 ∧ 0 ≤ cm ∧ cm ≤ es.length) e ∧ Below w.heap.size w w' := by
  by_cases hG : 1 ≤ sz ∧ sz ≤ 7 ∧ 0 ≤ id ∧ id < sz ∧ 0 ≤ tm ∧ -1 ≤ vt ∧ vt < sz ∧ -1 ≤ ld ∧ ld < sz
  · obtain ⟨a1, a2, a3, a4, a5, a6, a7, a8, a9⟩ := hG
    by_cases b1 : rl < 0
    · exact rvalid_no1 id sz tm vt rl ld ti vs lg cm nx mt es w hl he hn hm a1 a2 a3 a4 a5 a6 a7 a8 a9 b1
    by_cases b2 : 2 < rl
    · exact rvalid_no2 id sz tm vt rl ld ti vs lg cm nx mt es w hl he hn hm a1 a2 a3 a4 a5 a6 a7 a8 a9 b1 b2
    by_cases b3 : ti < 0
    · exact rvalid_no3 id sz tm vt rl ld ti vs lg cm nx mt es w hl he hn hm a1 a2 a3 a4 a5 a6 a7 a8 a9 b1 b2 b3
    by_cases b4 : vs < 0
    · exact rvalid_no4 id sz tm vt rl ld ti vs lg cm nx mt es w hl he hn hm a1 a2 a3 a4 a5 a6 a7 a8 a9 b1 b2 b3 b4
    by_cases b5 : IntKind.i64.wrap (2 ^ sz.toNat) ≤ vs
    · exact rvalid_no5 id sz tm vt rl ld ti vs lg cm nx mt es w hl he hn hm a1 a2 a3 a4 a5 a6 a7 a8 a9 b1 b2 b3 b4 b5
    · exact rvalid_yes id sz tm vt rl ld ti vs lg cm nx mt es w hl he hn hm a1 a2 a3 a4 a5 a6 a7 a8 a9 b1 b2 b3 b4 b5
  · exact rvalid_0 id sz tm vt rl ld ti vs lg cm nx mt es w hG
theorem EntArg.le {w : World} {v : Value} {es : List (List Value)} (h : EntArg w v es) : es.length ≤ 9223372036854775807 := by
  rcases h with ⟨rfl, _⟩ | ⟨_, _, _, _, _, _, h, _⟩
  · simp
  · exact h
set_option maxHeartbeats 400000 in
theorem fits_any (id sz tm vt rl ld ti vs : Int) (lg : Value) (cm : Int) (nx mt : Value) (es : List (List Value)) (w : World) (hm0 : es.length ≤ 9223372036854775807) (he : EntArg w lg es) (hn : IntArg w nx) (hm : IntArg w mt) :
    Calls Try.prog 19 #[mem id sz tm vt rl ld ti vs lg cm nx mt] w fun e w' => Says (es.length ≤ 100 ∧ 1 ≤ sz ∧ sz ≤ 7 ∧ 0 ≤ cm ∧ cm ≤ es.length) e ∧ Below w.heap.size w w' := by
  obtain ⟨ga, gc, rfl⟩ := he.len
  have HE := Lib.hid he
  have HN := Lib.hid hn
  have HM := Lib.hid hm
  clear he hn hm
  have hbw : Below w.heap.size w (w.alloc (.cells #[.int .i64 id, .int .i64 sz, .int .i64 tm, .int .i64 vt, .int .i64 rl, .int .i64 ld, .int .i64 ti, .int .i64 vs, .slice ga es.length gc, .int .i64 cm, nx, mt] 37)) := (Below.refl _ _).alloc (Nat.le_refl _) _
  have HB := Lib.hid hbw
  clear hbw
  by_cases h : es.length ≤ 100
  · go_enter Try.func19, Try.ntmps19
    go_wp2_with fail
    refine (rvalid_any _ _ _ _ _ _ _ _ _ _ _ _ es _ h (HE.out.below HB.out) (HN.out.below HB.out) (HM.out.below HB.out)).mono ?_
    rintro e w1 ⟨⟨b, hee, hF⟩, hb1⟩
    subst hee
    have HF := Lib.hid hF
    have HB1 : Hid (Below w.heap.size w w1) := Lib.hid (HB.out.trans (hb1.mono HB.out.size))
    clear hF hb1
    go_wp2_with fail
    go_ret
    exact ⟨⟨_, rfl, fun hh => ⟨h, HF.out (by simpa using hh)⟩⟩, HB1.out⟩
  · have q : decide ((es.length : Int) ≤ 100) = false := by simp; omega
    go_enter Try.func19, Try.ntmps19
    go_wp2_with fail
    go_ret
    exact ⟨⟨_, rfl, fun hh => by simp at hh⟩, HB.out⟩
end Go.Proofs.Ytiimcffagchneaa
