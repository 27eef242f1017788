/- Sessions: the laws with a member. -/
import Derived.Test.YtiimcffagchneaaSes22p
import Derived.Deep.RegionHeld3
namespace Go.Proofs.Ytiimcffagchneaa
open Go.ChangeShapes Go.WideShapes Go.ChangeAt Go.RowKit
set_option linter.unusedVariables false
set_option linter.unusedSimpArgs false

set_option maxRecDepth 100000 in
set_option maxHeartbeats 8000000 in
theorem quorum_b0 (id sz tm vt rl ld ti vs : Int) (lg : Value) (cm : Int) (nx mt : Value) (es : List (List Value)) (w : World) (want index : Int) (w0 : 0 ≤ want) (w255 : want ≤ 255) (i0 : 0 ≤ index) (i255 : index ≤ 255) (hr : rl = 2) (xs : List Int) (hi : IntsIn w mt xs) (ha : ackB 2 sz xs (want % (sz + 1)) index = true) (hN1 : 1 < want % (sz + 1)) (hs : ackB 2 sz xs sz index = false) (hz : ackB 2 sz xs 0 index = false) (hm0 : es.length ≤ 9223372036854775807) (he : EntArg w lg es) (hn : IntArg w nx) (hm : IntArg w mt) :
    Calls Try.prog 9 #[mem id sz tm vt rl ld ti vs lg cm nx mt, .int .u8 want, .int .u8 index] w fun e w' => e = .returned (.bool true) ∧ Below w.heap.size w w' := by
  have HE := Lib.hid he
  have HN := Lib.hid hn
  have HM := Lib.hid hm
  have HI := Lib.hid hi
  clear he hn hm hi
  subst hr
  go_enter Try.func9, Try.ntmps9
  go_wp2_with fail
  refine (MB.next (MB.start w id sz tm vt 2 ld ti vs lg cm nx mt) (fits_any _ _ _ _ _ _ _ _ _ _ _ _ es _ hm0 (HE.out.below (MB.start w id sz tm vt 2 ld ti vs lg cm nx mt).2.2.2.2.2.2.2.2.2.2.2.2.2) (HN.out.below (MB.start w id sz tm vt 2 ld ti vs lg cm nx mt).2.2.2.2.2.2.2.2.2.2.2.2.2) (HM.out.below (MB.start w id sz tm vt 2 ld ti vs lg cm nx mt).2.2.2.2.2.2.2.2.2.2.2.2.2))).mono ?_
  rintro e w1 ⟨⟨b, hee, hF⟩, d0, d1, d2, d3, d4, d5, d6, d7, d8, d9, d10, d11, dz, dB⟩
  subst hee
  have HF := Lib.hid hF
  clear hF
  cases b
  · go_wp2_with fail
    refine (MB.next (w := w) (id := id) (sz := sz) (tm := tm) (vt := vt) (rl := 2) (ld := ld) (ti := ti) (vs := vs) (lg := lg) (cm := cm) (nx := nx) (mt := mt) ⟨d0, d1, d2, d3, d4, d5, d6, d7, d8, d9, d10, d11, dz, dB⟩ (awake_any _)).mono ?_
    rintro e w2 ⟨hee, g0, g1, g2, g3, g4, g5, g6, g7, g8, g9, g10, g11, gz, gB⟩
    subst hee
    go_wp2_with fail
    go_ret
    exact ⟨rfl, gB⟩
  · obtain ⟨q0, q1, q2, q3, q4⟩ := HF.out rfl
    clear HF
    have n0 : 0 ≤ want % (sz + 1) := Int.emod_nonneg _ (by omega)
    have n1 : want % (sz + 1) ≤ sz := by have := Int.emod_lt_of_pos want (show 0 < sz + 1 by omega); omega
    have hbig := ack_big sz xs
    have hneg := ack_neg sz xs
    have hai := ack_i ha
    have han := ack_n ha hN1
    go_wp2_with (first | (go_at_call 20; refine (MB.next (w := w) (id := id) (sz := sz) (tm := tm) (vt := vt) (rl := 2) (ld := ld) (ti := ti) (vs := vs) (lg := lg) (cm := cm) (nx := nx) (mt := mt) ⟨by assumption, by assumption, by assumption, by assumption, by assumption, by assumption, by assumption, by assumption, by assumption, by assumption, by assumption, by assumption, by assumption, by assumption⟩ (acked_all _ _ _ _ _ _ _ _ _ _ _ _ xs _ _ _ q1 q2 (HI.out.below (by assumption)))).mono ?_; rintro e wn ⟨hee, g0, g1, g2, g3, g4, g5, g6, g7, g8, g9, g10, g11, gz, gB⟩; subst hee) | (go_at_call 12; refine (MB.next (w := w) (id := id) (sz := sz) (tm := tm) (vt := vt) (rl := 2) (ld := ld) (ti := ti) (vs := vs) (lg := lg) (cm := cm) (nx := nx) (mt := mt) ⟨by assumption, by assumption, by assumption, by assumption, by assumption, by assumption, by assumption, by assumption, by assumption, by assumption, by assumption, by assumption, by assumption, by assumption⟩ (awake_any _)).mono ?_; rintro e wn ⟨hee, g0, g1, g2, g3, g4, g5, g6, g7, g8, g9, g10, g11, gz, gB⟩; subst hee))
    all_goals (go_ret; exact ⟨rfl, by assumption⟩)

set_option maxRecDepth 100000 in
set_option maxHeartbeats 8000000 in
theorem quorum_b1 (id sz tm vt rl ld ti vs : Int) (lg : Value) (cm : Int) (nx mt : Value) (es : List (List Value)) (w : World) (want index : Int) (w0 : 0 ≤ want) (w255 : want ≤ 255) (i0 : 0 ≤ index) (i255 : index ≤ 255) (hr : rl = 2) (xs : List Int) (hi : IntsIn w mt xs) (ha : ackB 2 sz xs (want % (sz + 1)) index = true) (hN1 : 1 < want % (sz + 1)) (hs : ackB 2 sz xs sz index = false) (hz : ackB 2 sz xs 0 index = true) (hm0 : es.length ≤ 9223372036854775807) (he : EntArg w lg es) (hn : IntArg w nx) (hm : IntArg w mt) :
    Calls Try.prog 9 #[mem id sz tm vt rl ld ti vs lg cm nx mt, .int .u8 want, .int .u8 index] w fun e w' => e = .returned (.bool true) ∧ Below w.heap.size w w' := by
  have HE := Lib.hid he
  have HN := Lib.hid hn
  have HM := Lib.hid hm
  have HI := Lib.hid hi
  clear he hn hm hi
  subst hr
  go_enter Try.func9, Try.ntmps9
  go_wp2_with fail
  refine (MB.next (MB.start w id sz tm vt 2 ld ti vs lg cm nx mt) (fits_any _ _ _ _ _ _ _ _ _ _ _ _ es _ hm0 (HE.out.below (MB.start w id sz tm vt 2 ld ti vs lg cm nx mt).2.2.2.2.2.2.2.2.2.2.2.2.2) (HN.out.below (MB.start w id sz tm vt 2 ld ti vs lg cm nx mt).2.2.2.2.2.2.2.2.2.2.2.2.2) (HM.out.below (MB.start w id sz tm vt 2 ld ti vs lg cm nx mt).2.2.2.2.2.2.2.2.2.2.2.2.2))).mono ?_
  rintro e w1 ⟨⟨b, hee, hF⟩, d0, d1, d2, d3, d4, d5, d6, d7, d8, d9, d10, d11, dz, dB⟩
  subst hee
  have HF := Lib.hid hF
  clear hF
  cases b
  · go_wp2_with fail
    refine (MB.next (w := w) (id := id) (sz := sz) (tm := tm) (vt := vt) (rl := 2) (ld := ld) (ti := ti) (vs := vs) (lg := lg) (cm := cm) (nx := nx) (mt := mt) ⟨d0, d1, d2, d3, d4, d5, d6, d7, d8, d9, d10, d11, dz, dB⟩ (awake_any _)).mono ?_
    rintro e w2 ⟨hee, g0, g1, g2, g3, g4, g5, g6, g7, g8, g9, g10, g11, gz, gB⟩
    subst hee
    go_wp2_with fail
    go_ret
    exact ⟨rfl, gB⟩
  · obtain ⟨q0, q1, q2, q3, q4⟩ := HF.out rfl
    clear HF
    have n0 : 0 ≤ want % (sz + 1) := Int.emod_nonneg _ (by omega)
    have n1 : want % (sz + 1) ≤ sz := by have := Int.emod_lt_of_pos want (show 0 < sz + 1 by omega); omega
    have hbig := ack_big sz xs
    have hneg := ack_neg sz xs
    have hai := ack_i ha
    have han := ack_n ha hN1
    have ho := ack_0 hz q1
    go_wp2_with (first | (go_at_call 20; refine (MB.next (w := w) (id := id) (sz := sz) (tm := tm) (vt := vt) (rl := 2) (ld := ld) (ti := ti) (vs := vs) (lg := lg) (cm := cm) (nx := nx) (mt := mt) ⟨by assumption, by assumption, by assumption, by assumption, by assumption, by assumption, by assumption, by assumption, by assumption, by assumption, by assumption, by assumption, by assumption, by assumption⟩ (acked_all _ _ _ _ _ _ _ _ _ _ _ _ xs _ _ _ q1 q2 (HI.out.below (by assumption)))).mono ?_; rintro e wn ⟨hee, g0, g1, g2, g3, g4, g5, g6, g7, g8, g9, g10, g11, gz, gB⟩; subst hee) | (go_at_call 12; refine (MB.next (w := w) (id := id) (sz := sz) (tm := tm) (vt := vt) (rl := 2) (ld := ld) (ti := ti) (vs := vs) (lg := lg) (cm := cm) (nx := nx) (mt := mt) ⟨by assumption, by assumption, by assumption, by assumption, by assumption, by assumption, by assumption, by assumption, by assumption, by assumption, by assumption, by assumption, by assumption, by assumption⟩ (awake_any _)).mono ?_; rintro e wn ⟨hee, g0, g1, g2, g3, g4, g5, g6, g7, g8, g9, g10, g11, gz, gB⟩; subst hee))
    all_goals (go_ret; exact ⟨rfl, by assumption⟩)

set_option maxRecDepth 100000 in
set_option maxHeartbeats 8000000 in
theorem quorum_b2 (id sz tm vt rl ld ti vs : Int) (lg : Value) (cm : Int) (nx mt : Value) (es : List (List Value)) (w : World) (want index : Int) (w0 : 0 ≤ want) (w255 : want ≤ 255) (i0 : 0 ≤ index) (i255 : index ≤ 255) (hr : rl = 2) (xs : List Int) (hi : IntsIn w mt xs) (ha : ackB 2 sz xs (want % (sz + 1)) index = true) (hN1 : 1 < want % (sz + 1)) (hs : ackB 2 sz xs sz index = true) (hz : ackB 2 sz xs 0 index = true) (hm0 : es.length ≤ 9223372036854775807) (he : EntArg w lg es) (hn : IntArg w nx) (hm : IntArg w mt) :
    Calls Try.prog 9 #[mem id sz tm vt rl ld ti vs lg cm nx mt, .int .u8 want, .int .u8 index] w fun e w' => e = .returned (.bool true) ∧ Below w.heap.size w w' := by
  have HE := Lib.hid he
  have HN := Lib.hid hn
  have HM := Lib.hid hm
  have HI := Lib.hid hi
  clear he hn hm hi
  subst hr
  go_enter Try.func9, Try.ntmps9
  go_wp2_with fail
  refine (MB.next (MB.start w id sz tm vt 2 ld ti vs lg cm nx mt) (fits_any _ _ _ _ _ _ _ _ _ _ _ _ es _ hm0 (HE.out.below (MB.start w id sz tm vt 2 ld ti vs lg cm nx mt).2.2.2.2.2.2.2.2.2.2.2.2.2) (HN.out.below (MB.start w id sz tm vt 2 ld ti vs lg cm nx mt).2.2.2.2.2.2.2.2.2.2.2.2.2) (HM.out.below (MB.start w id sz tm vt 2 ld ti vs lg cm nx mt).2.2.2.2.2.2.2.2.2.2.2.2.2))).mono ?_
  rintro e w1 ⟨⟨b, hee, hF⟩, d0, d1, d2, d3, d4, d5, d6, d7, d8, d9, d10, d11, dz, dB⟩
  subst hee
  have HF := Lib.hid hF
  clear hF
  cases b
  · go_wp2_with fail
    refine (MB.next (w := w) (id := id) (sz := sz) (tm := tm) (vt := vt) (rl := 2) (ld := ld) (ti := ti) (vs := vs) (lg := lg) (cm := cm) (nx := nx) (mt := mt) ⟨d0, d1, d2, d3, d4, d5, d6, d7, d8, d9, d10, d11, dz, dB⟩ (awake_any _)).mono ?_
    rintro e w2 ⟨hee, g0, g1, g2, g3, g4, g5, g6, g7, g8, g9, g10, g11, gz, gB⟩
    subst hee
    go_wp2_with fail
    go_ret
    exact ⟨rfl, gB⟩
  · obtain ⟨q0, q1, q2, q3, q4⟩ := HF.out rfl
    clear HF
    have n0 : 0 ≤ want % (sz + 1) := Int.emod_nonneg _ (by omega)
    have n1 : want % (sz + 1) ≤ sz := by have := Int.emod_lt_of_pos want (show 0 < sz + 1 by omega); omega
    have hbig := ack_big sz xs
    have hneg := ack_neg sz xs
    have hai := ack_i ha
    have han := ack_n ha hN1
    have ho := ack_0 hz q1
    go_wp2_with (first | (go_at_call 20; refine (MB.next (w := w) (id := id) (sz := sz) (tm := tm) (vt := vt) (rl := 2) (ld := ld) (ti := ti) (vs := vs) (lg := lg) (cm := cm) (nx := nx) (mt := mt) ⟨by assumption, by assumption, by assumption, by assumption, by assumption, by assumption, by assumption, by assumption, by assumption, by assumption, by assumption, by assumption, by assumption, by assumption⟩ (acked_all _ _ _ _ _ _ _ _ _ _ _ _ xs _ _ _ q1 q2 (HI.out.below (by assumption)))).mono ?_; rintro e wn ⟨hee, g0, g1, g2, g3, g4, g5, g6, g7, g8, g9, g10, g11, gz, gB⟩; subst hee) | (go_at_call 12; refine (MB.next (w := w) (id := id) (sz := sz) (tm := tm) (vt := vt) (rl := 2) (ld := ld) (ti := ti) (vs := vs) (lg := lg) (cm := cm) (nx := nx) (mt := mt) ⟨by assumption, by assumption, by assumption, by assumption, by assumption, by assumption, by assumption, by assumption, by assumption, by assumption, by assumption, by assumption, by assumption, by assumption⟩ (awake_any _)).mono ?_; rintro e wn ⟨hee, g0, g1, g2, g3, g4, g5, g6, g7, g8, g9, g10, g11, gz, gB⟩; subst hee))
    all_goals (go_ret; exact ⟨rfl, by assumption⟩)
end Go.Proofs.Ytiimcffagchneaa
