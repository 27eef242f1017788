/- Sessions: the laws with a member. -/
import Derived.Test.YtiimcffagchneaaSes22a
import Derived.Test.YtiimcffagchneaaSes22b
import Derived.Test.YtiimcffagchneaaSes22c
import Derived.Deep.RegionHeld3
namespace Go.Proofs.Ytiimcffagchneaa
open Go.ChangeShapes Go.WideShapes Go.ChangeAt Go.RowKit
set_option linter.unusedVariables false
set_option linter.unusedSimpArgs false
theorem quorum_law (id sz tm vt rl ld ti vs : Int) (lg : Value) (cm : Int) (nx mt : Value) (es : List (List Value)) (want index : Int) (w0 : 0 ≤ want) (w255 : want ≤ 255) (i0 : 0 ≤ index) (i255 : index ≤ 255) (w : World) (hm0 : es.length ≤ 9223372036854775807) (he : EntArg w lg es) (hn : IntArg w nx) (hm : IntArg w mt) :
    Calls Try.prog 9 #[mem id sz tm vt rl ld ti vs lg cm nx mt, .int .u8 want, .int .u8 index] w fun e w' => e = .returned (.bool true) ∧ Below w.heap.size w w' := by
  obtain ⟨xs, hi⟩ := hm.ints
  by_cases hr : rl = 2
  · cases hs : ackB 2 sz xs sz index with
    | false =>
      cases hz : ackB 2 sz xs 0 index with
      | false => 
        cases ha : ackB 2 sz xs (want % (sz + 1)) index with
        | false => exact quorum_a0 id sz tm vt rl ld ti vs lg cm nx mt es w want index w0 w255 i0 i255 hr xs hi ha hs hz hm0 he hn hm
        | true =>
          by_cases hN1 : 1 < want % (sz + 1)
          · exact quorum_b0 id sz tm vt rl ld ti vs lg cm nx mt es w want index w0 w255 i0 i255 hr xs hi ha hN1 hs hz hm0 he hn hm
          · exact quorum_c0 id sz tm vt rl ld ti vs lg cm nx mt es w want index w0 w255 i0 i255 hr xs hi ha hN1 hs hz hm0 he hn hm
      | true => 
        cases ha : ackB 2 sz xs (want % (sz + 1)) index with
        | false => exact quorum_a1 id sz tm vt rl ld ti vs lg cm nx mt es w want index w0 w255 i0 i255 hr xs hi ha hs hz hm0 he hn hm
        | true =>
          by_cases hN1 : 1 < want % (sz + 1)
          · exact quorum_b1 id sz tm vt rl ld ti vs lg cm nx mt es w want index w0 w255 i0 i255 hr xs hi ha hN1 hs hz hm0 he hn hm
          · exact quorum_c1 id sz tm vt rl ld ti vs lg cm nx mt es w want index w0 w255 i0 i255 hr xs hi ha hN1 hs hz hm0 he hn hm
    | true =>
      cases hz : ackB 2 sz xs 0 index with
      | false =>
        exfalso
        have h0 := (ackB_2.1 hs).1
        by_cases hz0 : sz = 0
        · rw [hz0] at hs hz
          rw [hs] at hz
          cases hz
        · rw [ack_sz hs (by omega)] at hz
          cases hz
      | true => 
        cases ha : ackB 2 sz xs (want % (sz + 1)) index with
        | false => exact quorum_a2 id sz tm vt rl ld ti vs lg cm nx mt es w want index w0 w255 i0 i255 hr xs hi ha hs hz hm0 he hn hm
        | true =>
          by_cases hN1 : 1 < want % (sz + 1)
          · exact quorum_b2 id sz tm vt rl ld ti vs lg cm nx mt es w want index w0 w255 i0 i255 hr xs hi ha hN1 hs hz hm0 he hn hm
          · exact quorum_c2 id sz tm vt rl ld ti vs lg cm nx mt es w want index w0 w255 i0 i255 hr xs hi ha hN1 hs hz hm0 he hn hm
  · exact quorum_d0 id sz tm vt rl ld ti vs lg cm nx mt es w want index w0 w255 i0 i255 hr xs hi hm0 he hn hm
end Go.Proofs.Ytiimcffagchneaa
