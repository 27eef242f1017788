/- Sessions: the laws with a member. -/
import Derived.Test.YtiimcffagchneaaSes18
import Derived.Deep.RegionHeld3
namespace Go.Proofs.Ytiimcffagchneaa
open Go.ChangeShapes Go.WideShapes Go.ChangeAt Go.RowKit
set_option linter.unusedVariables false
set_option linter.unusedSimpArgs false
theorem stampOf_0 (ts : List Int) : stampOf ts 0 = 0 := stampOf_out _ _ (by omega)
theorem stampOf_s (ts : List Int) (k : Nat) (h : k < ts.length) : stampOf ts ((k : Int) + 1) = ts[k] := by
  have := stampOf_in ts (k + 1) (by omega) (by omega) (by omega)
  simpa using this

set_option maxRecDepth 100000 in
set_option maxHeartbeats 8000000 in
theorem reads_law (id sz tm vt rl ld ti vs : Int) (lg : Value) (cm : Int) (nx mt : Value) (es : List (List Value)) (after pos : Int) (w : World) (hm0 : es.length ≤ 9223372036854775807) (he : EntArg w lg es) (hn : IntArg w nx) (hm : IntArg w mt) :
    Calls Try.prog 8 #[mem id sz tm vt rl ld ti vs lg cm nx mt, .int .i64 after, .int .i64 pos] w fun e w' => e = .returned (.bool true) ∧ Below w.heap.size w w' := by
  obtain ⟨xs, hi⟩ := hm.ints
  have HE := Lib.hid he
  have HN := Lib.hid hn
  have HM := Lib.hid hm
  have HI := Lib.hid hi
  clear he hn hm hi
  obtain ⟨ga, gc, rfl⟩ := HE.out.len
  go_enter Try.func8, Try.ntmps8
  go_wp2_with fail
  refine (MB.next (MB.start w id sz tm vt rl ld ti vs (.slice ga es.length gc) cm nx mt) (fits_any _ _ _ _ _ _ _ _ _ _ _ _ es _ hm0 (HE.out.below (MB.start w id sz tm vt rl ld ti vs (.slice ga es.length gc) cm nx mt).2.2.2.2.2.2.2.2.2.2.2.2.2) (HN.out.below (MB.start w id sz tm vt rl ld ti vs (.slice ga es.length gc) cm nx mt).2.2.2.2.2.2.2.2.2.2.2.2.2) (HM.out.below (MB.start w id sz tm vt rl ld ti vs (.slice ga es.length gc) cm nx mt).2.2.2.2.2.2.2.2.2.2.2.2.2))).mono ?_
  rintro e w1 ⟨⟨b, hee, hF⟩, d0, d1, d2, d3, d4, d5, d6, d7, d8, d9, d10, d11, dz, dB⟩
  subst hee
  have HF := Lib.hid hF
  clear hF
  cases b
  · go_wp2_with fail
    refine (MB.next (w := w) (id := id) (sz := sz) (tm := tm) (vt := vt) (rl := rl) (ld := ld) (ti := ti) (vs := vs) (lg := (.slice ga es.length gc)) (cm := cm) (nx := nx) (mt := mt) ⟨d0, d1, d2, d3, d4, d5, d6, d7, d8, d9, d10, d11, dz, dB⟩ (awake_any _)).mono ?_
    rintro e w2 ⟨hee, g0, g1, g2, g3, g4, g5, g6, g7, g8, g9, g10, g11, gz, gB⟩
    subst hee
    go_wp2_with fail
    go_ret
    exact ⟨rfl, gB⟩
  · obtain ⟨q0, q1, q2, q3, q4⟩ := HF.out rfl
    clear HF
    generalize hx : stampOf (stps es) es.length = x
    generalize hy : stampOf (stps es) cm = y
    have HX := Lib.hid hx
    have HY := Lib.hid hy
    clear hx hy
    have hsl := stps_len es
    go_wp2_with fail
    go_loopw [7, 8, 9] (fun en dn i W => ∃ k : Nat, k ≤ es.length ∧ en = .int .i64 (stampOf (stps es) k) ∧ dn = .int .i64 (stampOf (stps es) (min (k : Int) cm)) ∧ i = .int .i64 k ∧ MB w id sz tm vt rl ld ti vs (.slice ga es.length gc) cm nx mt W) (fun _ _ i _ => es.length - (intOf i).toNat)
    case atStart => exact ⟨0, Nat.zero_le _, by rw [show ((0 : Nat) : Int) = 0 from rfl, stampOf_0], by rw [show min ((0 : Nat) : Int) cm = 0 by omega, stampOf_0], rfl, d0, d1, d2, d3, d4, d5, d6, d7, d8, d9, d10, d11, dz, dB⟩
    case round =>
      obtain ⟨k, hk, rfl, rfl, rfl, c0, c1, c2, c3, c4, c5, c6, c7, c8, c9, c10, c11, cz, gB0⟩ := hrel
      clear d0 d1 d2 d3 d4 d5 d6 d7 d8 d9 d10 d11 dz dB
      by_cases hlt : k < es.length
      · obtain ⟨B, o, hga, hcell⟩ : ∃ B o, ga = some ⟨B, o, none⟩ ∧ wr.cell? ⟨B, o + k * 82 + 1, none⟩ = some (.int .i64 (stps es)[k]) := by
          rcases HE.out.below gB0 with ⟨he0, _⟩ | ⟨B, o, cap, hv, hB, _, _, hc⟩
          · rw [he0] at hlt; simp at hlt
          · obtain ⟨hr, he, _, t, s, r, hes⟩ := hc k hlt
            injection hv with hv1 hv2 hv3
            exact ⟨B, o, hv1, by rw [hr 1 (.int .i64 s) (by rw [hes]; rfl)]; simp [stps, hes, stp]⟩
        subst hga
        have HE1 : Hid (stampOf (stps es) ((k : Int) + 1) = (stps es)[k]) := Lib.hid (stampOf_s _ _ (by omega))
        generalize (stps es)[k] = z at hcell HE1
        generalize stampOf (stps es) k = en at *
        by_cases hcm : (k : Int) < cm
        · have HD : Hid (stampOf (stps es) (min ((k : Int) + 1) cm) = z) := Lib.hid (by rw [show min ((k : Int) + 1) cm = (k : Int) + 1 by omega]; exact HE1.out)
          generalize stampOf (stps es) (min (k : Int) cm) = dn at *
          go_wp2_with fail
          go_roundw
          case rel => exact ⟨k + 1, by omega, by rw [show ((k + 1 : Nat) : Int) = (k : Int) + 1 by omega, HE1.out], by rw [show ((k + 1 : Nat) : Int) = (k : Int) + 1 by omega, HD.out], by go_num, c0, c1, c2, c3, c4, c5, c6, c7, c8, c9, c10, c11, cz, gB0⟩
          case measure => simp [intOf]; omega
        · have HD : Hid (min ((k : Int) + 1) cm = min (k : Int) cm) := Lib.hid (by omega)
          go_wp2_with fail
          go_roundw
          case rel => exact ⟨k + 1, by omega, by rw [show ((k + 1 : Nat) : Int) = (k : Int) + 1 by omega, HE1.out], by rw [show ((k + 1 : Nat) : Int) = (k : Int) + 1 by omega, HD.out], by go_num, c0, c1, c2, c3, c4, c5, c6, c7, c8, c9, c10, c11, cz, gB0⟩
          case measure => simp [intOf]; omega
      · have hke : k = es.length := by omega
        subst hke
        rw [HX.out, show min ((es.length : Nat) : Int) cm = cm by omega, HY.out]
        by_cases s1 : x < after
        · by_cases s2 : y < after
          · by_cases s3 : y < pos
            · have P1 : ptOf x y 1 after pos = (0, true, 0) := by simp [ptOf, s1]
              have P2 : ptOf x y 2 after pos = (0, true, 0) := by simp [ptOf, s2]
              have P3 : ptOf x y 3 after pos = (0, true, 0) := by simp [ptOf, s2, s3]
              go_wp2_with fail
              refine (MB.next (w := w) (id := id) (sz := sz) (tm := tm) (vt := vt) (rl := rl) (ld := ld) (ti := ti) (vs := vs) (lg := (.slice ga es.length gc)) (cm := cm) (nx := nx) (mt := mt) ⟨by assumption, by assumption, by assumption, by assumption, by assumption, by assumption, by assumption, by assumption, by assumption, by assumption, by assumption, by assumption, by assumption, by assumption⟩ (point_all _ _ _ _ _ _ _ _ _ _ _ _ es 1 after pos x y _ q0 (HE.out.below gB0) HX.out HY.out)).mono ?_
              rw [P1]
              rintro e w2 ⟨hee, g0_2, g1_2, g2_2, g3_2, g4_2, g5_2, g6_2, g7_2, g8_2, g9_2, g10_2, g11_2, gz_2, gB_2⟩
              subst hee
              go_wp2_with fail
              refine (MB.next (w := w) (id := id) (sz := sz) (tm := tm) (vt := vt) (rl := rl) (ld := ld) (ti := ti) (vs := vs) (lg := (.slice ga es.length gc)) (cm := cm) (nx := nx) (mt := mt) ⟨by assumption, by assumption, by assumption, by assumption, by assumption, by assumption, by assumption, by assumption, by assumption, by assumption, by assumption, by assumption, by assumption, by assumption⟩ (point_all _ _ _ _ _ _ _ _ _ _ _ _ es 2 after pos x y _ q0 (HE.out.below gB_2) HX.out HY.out)).mono ?_
              rw [P2]
              rintro e w3 ⟨hee, g0_3, g1_3, g2_3, g3_3, g4_3, g5_3, g6_3, g7_3, g8_3, g9_3, g10_3, g11_3, gz_3, gB_3⟩
              subst hee
              go_wp2_with fail
              refine (MB.next (w := w) (id := id) (sz := sz) (tm := tm) (vt := vt) (rl := rl) (ld := ld) (ti := ti) (vs := vs) (lg := (.slice ga es.length gc)) (cm := cm) (nx := nx) (mt := mt) ⟨by assumption, by assumption, by assumption, by assumption, by assumption, by assumption, by assumption, by assumption, by assumption, by assumption, by assumption, by assumption, by assumption, by assumption⟩ (point_all _ _ _ _ _ _ _ _ _ _ _ _ es 3 after pos x y _ q0 (HE.out.below gB_3) HX.out HY.out)).mono ?_
              rw [P3]
              rintro e w4 ⟨hee, g0_4, g1_4, g2_4, g3_4, g4_4, g5_4, g6_4, g7_4, g8_4, g9_4, g10_4, g11_4, gz_4, gB_4⟩
              subst hee
              go_wp2_with (first | (go_at_call 12; refine (MB.next (w := w) (id := id) (sz := sz) (tm := tm) (vt := vt) (rl := rl) (ld := ld) (ti := ti) (vs := vs) (lg := (.slice ga es.length gc)) (cm := cm) (nx := nx) (mt := mt) ⟨by assumption, by assumption, by assumption, by assumption, by assumption, by assumption, by assumption, by assumption, by assumption, by assumption, by assumption, by assumption, by assumption, by assumption⟩ (awake_any _)).mono ?_; rintro e wn ⟨hee, g0, g1, g2, g3, g4, g5, g6, g7, g8, g9, g10, g11, gz, gB⟩; subst hee))
              all_goals (go_ret; exact ⟨rfl, by assumption⟩)
            · have P1 : ptOf x y 1 after pos = (0, true, 0) := by simp [ptOf, s1]
              have P2 : ptOf x y 2 after pos = (0, true, 0) := by simp [ptOf, s2]
              have P3 : ptOf x y 3 after pos = (0, true, 0) := by simp [ptOf, s2, s3]
              go_wp2_with fail
              refine (MB.next (w := w) (id := id) (sz := sz) (tm := tm) (vt := vt) (rl := rl) (ld := ld) (ti := ti) (vs := vs) (lg := (.slice ga es.length gc)) (cm := cm) (nx := nx) (mt := mt) ⟨by assumption, by assumption, by assumption, by assumption, by assumption, by assumption, by assumption, by assumption, by assumption, by assumption, by assumption, by assumption, by assumption, by assumption⟩ (point_all _ _ _ _ _ _ _ _ _ _ _ _ es 1 after pos x y _ q0 (HE.out.below gB0) HX.out HY.out)).mono ?_
              rw [P1]
              rintro e w2 ⟨hee, g0_2, g1_2, g2_2, g3_2, g4_2, g5_2, g6_2, g7_2, g8_2, g9_2, g10_2, g11_2, gz_2, gB_2⟩
              subst hee
              go_wp2_with fail
              refine (MB.next (w := w) (id := id) (sz := sz) (tm := tm) (vt := vt) (rl := rl) (ld := ld) (ti := ti) (vs := vs) (lg := (.slice ga es.length gc)) (cm := cm) (nx := nx) (mt := mt) ⟨by assumption, by assumption, by assumption, by assumption, by assumption, by assumption, by assumption, by assumption, by assumption, by assumption, by assumption, by assumption, by assumption, by assumption⟩ (point_all _ _ _ _ _ _ _ _ _ _ _ _ es 2 after pos x y _ q0 (HE.out.below gB_2) HX.out HY.out)).mono ?_
              rw [P2]
              rintro e w3 ⟨hee, g0_3, g1_3, g2_3, g3_3, g4_3, g5_3, g6_3, g7_3, g8_3, g9_3, g10_3, g11_3, gz_3, gB_3⟩
              subst hee
              go_wp2_with fail
              refine (MB.next (w := w) (id := id) (sz := sz) (tm := tm) (vt := vt) (rl := rl) (ld := ld) (ti := ti) (vs := vs) (lg := (.slice ga es.length gc)) (cm := cm) (nx := nx) (mt := mt) ⟨by assumption, by assumption, by assumption, by assumption, by assumption, by assumption, by assumption, by assumption, by assumption, by assumption, by assumption, by assumption, by assumption, by assumption⟩ (point_all _ _ _ _ _ _ _ _ _ _ _ _ es 3 after pos x y _ q0 (HE.out.below gB_3) HX.out HY.out)).mono ?_
              rw [P3]
              rintro e w4 ⟨hee, g0_4, g1_4, g2_4, g3_4, g4_4, g5_4, g6_4, g7_4, g8_4, g9_4, g10_4, g11_4, gz_4, gB_4⟩
              subst hee
              go_wp2_with (first | (go_at_call 12; refine (MB.next (w := w) (id := id) (sz := sz) (tm := tm) (vt := vt) (rl := rl) (ld := ld) (ti := ti) (vs := vs) (lg := (.slice ga es.length gc)) (cm := cm) (nx := nx) (mt := mt) ⟨by assumption, by assumption, by assumption, by assumption, by assumption, by assumption, by assumption, by assumption, by assumption, by assumption, by assumption, by assumption, by assumption, by assumption⟩ (awake_any _)).mono ?_; rintro e wn ⟨hee, g0, g1, g2, g3, g4, g5, g6, g7, g8, g9, g10, g11, gz, gB⟩; subst hee))
              all_goals (go_ret; exact ⟨rfl, by assumption⟩)
          · by_cases s3 : y < pos
            · have P1 : ptOf x y 1 after pos = (0, true, 0) := by simp [ptOf, s1]
              have P2 : ptOf x y 2 after pos = (y, false, 0) := by simp [ptOf, s2]
              have P3 : ptOf x y 3 after pos = (0, true, 0) := by simp [ptOf, s2, s3]
              go_wp2_with fail
              refine (MB.next (w := w) (id := id) (sz := sz) (tm := tm) (vt := vt) (rl := rl) (ld := ld) (ti := ti) (vs := vs) (lg := (.slice ga es.length gc)) (cm := cm) (nx := nx) (mt := mt) ⟨by assumption, by assumption, by assumption, by assumption, by assumption, by assumption, by assumption, by assumption, by assumption, by assumption, by assumption, by assumption, by assumption, by assumption⟩ (point_all _ _ _ _ _ _ _ _ _ _ _ _ es 1 after pos x y _ q0 (HE.out.below gB0) HX.out HY.out)).mono ?_
              rw [P1]
              rintro e w2 ⟨hee, g0_2, g1_2, g2_2, g3_2, g4_2, g5_2, g6_2, g7_2, g8_2, g9_2, g10_2, g11_2, gz_2, gB_2⟩
              subst hee
              go_wp2_with fail
              refine (MB.next (w := w) (id := id) (sz := sz) (tm := tm) (vt := vt) (rl := rl) (ld := ld) (ti := ti) (vs := vs) (lg := (.slice ga es.length gc)) (cm := cm) (nx := nx) (mt := mt) ⟨by assumption, by assumption, by assumption, by assumption, by assumption, by assumption, by assumption, by assumption, by assumption, by assumption, by assumption, by assumption, by assumption, by assumption⟩ (point_all _ _ _ _ _ _ _ _ _ _ _ _ es 2 after pos x y _ q0 (HE.out.below gB_2) HX.out HY.out)).mono ?_
              rw [P2]
              rintro e w3 ⟨hee, g0_3, g1_3, g2_3, g3_3, g4_3, g5_3, g6_3, g7_3, g8_3, g9_3, g10_3, g11_3, gz_3, gB_3⟩
              subst hee
              go_wp2_with fail
              refine (MB.next (w := w) (id := id) (sz := sz) (tm := tm) (vt := vt) (rl := rl) (ld := ld) (ti := ti) (vs := vs) (lg := (.slice ga es.length gc)) (cm := cm) (nx := nx) (mt := mt) ⟨by assumption, by assumption, by assumption, by assumption, by assumption, by assumption, by assumption, by assumption, by assumption, by assumption, by assumption, by assumption, by assumption, by assumption⟩ (point_all _ _ _ _ _ _ _ _ _ _ _ _ es 3 after pos x y _ q0 (HE.out.below gB_3) HX.out HY.out)).mono ?_
              rw [P3]
              rintro e w4 ⟨hee, g0_4, g1_4, g2_4, g3_4, g4_4, g5_4, g6_4, g7_4, g8_4, g9_4, g10_4, g11_4, gz_4, gB_4⟩
              subst hee
              go_wp2_with (first | (go_at_call 12; refine (MB.next (w := w) (id := id) (sz := sz) (tm := tm) (vt := vt) (rl := rl) (ld := ld) (ti := ti) (vs := vs) (lg := (.slice ga es.length gc)) (cm := cm) (nx := nx) (mt := mt) ⟨by assumption, by assumption, by assumption, by assumption, by assumption, by assumption, by assumption, by assumption, by assumption, by assumption, by assumption, by assumption, by assumption, by assumption⟩ (awake_any _)).mono ?_; rintro e wn ⟨hee, g0, g1, g2, g3, g4, g5, g6, g7, g8, g9, g10, g11, gz, gB⟩; subst hee))
              all_goals (go_ret; exact ⟨rfl, by assumption⟩)
            · have P1 : ptOf x y 1 after pos = (0, true, 0) := by simp [ptOf, s1]
              have P2 : ptOf x y 2 after pos = (y, false, 0) := by simp [ptOf, s2]
              have P3 : ptOf x y 3 after pos = (pos, false, 0) := by simp [ptOf, s2, s3]
              go_wp2_with fail
              refine (MB.next (w := w) (id := id) (sz := sz) (tm := tm) (vt := vt) (rl := rl) (ld := ld) (ti := ti) (vs := vs) (lg := (.slice ga es.length gc)) (cm := cm) (nx := nx) (mt := mt) ⟨by assumption, by assumption, by assumption, by assumption, by assumption, by assumption, by assumption, by assumption, by assumption, by assumption, by assumption, by assumption, by assumption, by assumption⟩ (point_all _ _ _ _ _ _ _ _ _ _ _ _ es 1 after pos x y _ q0 (HE.out.below gB0) HX.out HY.out)).mono ?_
              rw [P1]
              rintro e w2 ⟨hee, g0_2, g1_2, g2_2, g3_2, g4_2, g5_2, g6_2, g7_2, g8_2, g9_2, g10_2, g11_2, gz_2, gB_2⟩
              subst hee
              go_wp2_with fail
              refine (MB.next (w := w) (id := id) (sz := sz) (tm := tm) (vt := vt) (rl := rl) (ld := ld) (ti := ti) (vs := vs) (lg := (.slice ga es.length gc)) (cm := cm) (nx := nx) (mt := mt) ⟨by assumption, by assumption, by assumption, by assumption, by assumption, by assumption, by assumption, by assumption, by assumption, by assumption, by assumption, by assumption, by assumption, by assumption⟩ (point_all _ _ _ _ _ _ _ _ _ _ _ _ es 2 after pos x y _ q0 (HE.out.below gB_2) HX.out HY.out)).mono ?_
              rw [P2]
              rintro e w3 ⟨hee, g0_3, g1_3, g2_3, g3_3, g4_3, g5_3, g6_3, g7_3, g8_3, g9_3, g10_3, g11_3, gz_3, gB_3⟩
              subst hee
              go_wp2_with fail
              refine (MB.next (w := w) (id := id) (sz := sz) (tm := tm) (vt := vt) (rl := rl) (ld := ld) (ti := ti) (vs := vs) (lg := (.slice ga es.length gc)) (cm := cm) (nx := nx) (mt := mt) ⟨by assumption, by assumption, by assumption, by assumption, by assumption, by assumption, by assumption, by assumption, by assumption, by assumption, by assumption, by assumption, by assumption, by assumption⟩ (point_all _ _ _ _ _ _ _ _ _ _ _ _ es 3 after pos x y _ q0 (HE.out.below gB_3) HX.out HY.out)).mono ?_
              rw [P3]
              rintro e w4 ⟨hee, g0_4, g1_4, g2_4, g3_4, g4_4, g5_4, g6_4, g7_4, g8_4, g9_4, g10_4, g11_4, gz_4, gB_4⟩
              subst hee
              go_wp2_with (first | (go_at_call 12; refine (MB.next (w := w) (id := id) (sz := sz) (tm := tm) (vt := vt) (rl := rl) (ld := ld) (ti := ti) (vs := vs) (lg := (.slice ga es.length gc)) (cm := cm) (nx := nx) (mt := mt) ⟨by assumption, by assumption, by assumption, by assumption, by assumption, by assumption, by assumption, by assumption, by assumption, by assumption, by assumption, by assumption, by assumption, by assumption⟩ (awake_any _)).mono ?_; rintro e wn ⟨hee, g0, g1, g2, g3, g4, g5, g6, g7, g8, g9, g10, g11, gz, gB⟩; subst hee))
              all_goals (go_ret; exact ⟨rfl, by assumption⟩)
        · by_cases s2 : y < after
          · by_cases s3 : y < pos
            · have P1 : ptOf x y 1 after pos = (x, false, 0) := by simp [ptOf, s1]
              have P2 : ptOf x y 2 after pos = (0, true, 0) := by simp [ptOf, s2]
              have P3 : ptOf x y 3 after pos = (0, true, 0) := by simp [ptOf, s2, s3]
              go_wp2_with fail
              refine (MB.next (w := w) (id := id) (sz := sz) (tm := tm) (vt := vt) (rl := rl) (ld := ld) (ti := ti) (vs := vs) (lg := (.slice ga es.length gc)) (cm := cm) (nx := nx) (mt := mt) ⟨by assumption, by assumption, by assumption, by assumption, by assumption, by assumption, by assumption, by assumption, by assumption, by assumption, by assumption, by assumption, by assumption, by assumption⟩ (point_all _ _ _ _ _ _ _ _ _ _ _ _ es 1 after pos x y _ q0 (HE.out.below gB0) HX.out HY.out)).mono ?_
              rw [P1]
              rintro e w2 ⟨hee, g0_2, g1_2, g2_2, g3_2, g4_2, g5_2, g6_2, g7_2, g8_2, g9_2, g10_2, g11_2, gz_2, gB_2⟩
              subst hee
              go_wp2_with fail
              refine (MB.next (w := w) (id := id) (sz := sz) (tm := tm) (vt := vt) (rl := rl) (ld := ld) (ti := ti) (vs := vs) (lg := (.slice ga es.length gc)) (cm := cm) (nx := nx) (mt := mt) ⟨by assumption, by assumption, by assumption, by assumption, by assumption, by assumption, by assumption, by assumption, by assumption, by assumption, by assumption, by assumption, by assumption, by assumption⟩ (point_all _ _ _ _ _ _ _ _ _ _ _ _ es 2 after pos x y _ q0 (HE.out.below gB_2) HX.out HY.out)).mono ?_
              rw [P2]
              rintro e w3 ⟨hee, g0_3, g1_3, g2_3, g3_3, g4_3, g5_3, g6_3, g7_3, g8_3, g9_3, g10_3, g11_3, gz_3, gB_3⟩
              subst hee
              go_wp2_with fail
              refine (MB.next (w := w) (id := id) (sz := sz) (tm := tm) (vt := vt) (rl := rl) (ld := ld) (ti := ti) (vs := vs) (lg := (.slice ga es.length gc)) (cm := cm) (nx := nx) (mt := mt) ⟨by assumption, by assumption, by assumption, by assumption, by assumption, by assumption, by assumption, by assumption, by assumption, by assumption, by assumption, by assumption, by assumption, by assumption⟩ (point_all _ _ _ _ _ _ _ _ _ _ _ _ es 3 after pos x y _ q0 (HE.out.below gB_3) HX.out HY.out)).mono ?_
              rw [P3]
              rintro e w4 ⟨hee, g0_4, g1_4, g2_4, g3_4, g4_4, g5_4, g6_4, g7_4, g8_4, g9_4, g10_4, g11_4, gz_4, gB_4⟩
              subst hee
              go_wp2_with (first | (go_at_call 12; refine (MB.next (w := w) (id := id) (sz := sz) (tm := tm) (vt := vt) (rl := rl) (ld := ld) (ti := ti) (vs := vs) (lg := (.slice ga es.length gc)) (cm := cm) (nx := nx) (mt := mt) ⟨by assumption, by assumption, by assumption, by assumption, by assumption, by assumption, by assumption, by assumption, by assumption, by assumption, by assumption, by assumption, by assumption, by assumption⟩ (awake_any _)).mono ?_; rintro e wn ⟨hee, g0, g1, g2, g3, g4, g5, g6, g7, g8, g9, g10, g11, gz, gB⟩; subst hee))
              all_goals (go_ret; exact ⟨rfl, by assumption⟩)
            · have P1 : ptOf x y 1 after pos = (x, false, 0) := by simp [ptOf, s1]
              have P2 : ptOf x y 2 after pos = (0, true, 0) := by simp [ptOf, s2]
              have P3 : ptOf x y 3 after pos = (0, true, 0) := by simp [ptOf, s2, s3]
              go_wp2_with fail
              refine (MB.next (w := w) (id := id) (sz := sz) (tm := tm) (vt := vt) (rl := rl) (ld := ld) (ti := ti) (vs := vs) (lg := (.slice ga es.length gc)) (cm := cm) (nx := nx) (mt := mt) ⟨by assumption, by assumption, by assumption, by assumption, by assumption, by assumption, by assumption, by assumption, by assumption, by assumption, by assumption, by assumption, by assumption, by assumption⟩ (point_all _ _ _ _ _ _ _ _ _ _ _ _ es 1 after pos x y _ q0 (HE.out.below gB0) HX.out HY.out)).mono ?_
              rw [P1]
              rintro e w2 ⟨hee, g0_2, g1_2, g2_2, g3_2, g4_2, g5_2, g6_2, g7_2, g8_2, g9_2, g10_2, g11_2, gz_2, gB_2⟩
              subst hee
              go_wp2_with fail
              refine (MB.next (w := w) (id := id) (sz := sz) (tm := tm) (vt := vt) (rl := rl) (ld := ld) (ti := ti) (vs := vs) (lg := (.slice ga es.length gc)) (cm := cm) (nx := nx) (mt := mt) ⟨by assumption, by assumption, by assumption, by assumption, by assumption, by assumption, by assumption, by assumption, by assumption, by assumption, by assumption, by assumption, by assumption, by assumption⟩ (point_all _ _ _ _ _ _ _ _ _ _ _ _ es 2 after pos x y _ q0 (HE.out.below gB_2) HX.out HY.out)).mono ?_
              rw [P2]
              rintro e w3 ⟨hee, g0_3, g1_3, g2_3, g3_3, g4_3, g5_3, g6_3, g7_3, g8_3, g9_3, g10_3, g11_3, gz_3, gB_3⟩
              subst hee
              go_wp2_with fail
              refine (MB.next (w := w) (id := id) (sz := sz) (tm := tm) (vt := vt) (rl := rl) (ld := ld) (ti := ti) (vs := vs) (lg := (.slice ga es.length gc)) (cm := cm) (nx := nx) (mt := mt) ⟨by assumption, by assumption, by assumption, by assumption, by assumption, by assumption, by assumption, by assumption, by assumption, by assumption, by assumption, by assumption, by assumption, by assumption⟩ (point_all _ _ _ _ _ _ _ _ _ _ _ _ es 3 after pos x y _ q0 (HE.out.below gB_3) HX.out HY.out)).mono ?_
              rw [P3]
              rintro e w4 ⟨hee, g0_4, g1_4, g2_4, g3_4, g4_4, g5_4, g6_4, g7_4, g8_4, g9_4, g10_4, g11_4, gz_4, gB_4⟩
              subst hee
              go_wp2_with (first | (go_at_call 12; refine (MB.next (w := w) (id := id) (sz := sz) (tm := tm) (vt := vt) (rl := rl) (ld := ld) (ti := ti) (vs := vs) (lg := (.slice ga es.length gc)) (cm := cm) (nx := nx) (mt := mt) ⟨by assumption, by assumption, by assumption, by assumption, by assumption, by assumption, by assumption, by assumption, by assumption, by assumption, by assumption, by assumption, by assumption, by assumption⟩ (awake_any _)).mono ?_; rintro e wn ⟨hee, g0, g1, g2, g3, g4, g5, g6, g7, g8, g9, g10, g11, gz, gB⟩; subst hee))
              all_goals (go_ret; exact ⟨rfl, by assumption⟩)
          · by_cases s3 : y < pos
            · have P1 : ptOf x y 1 after pos = (x, false, 0) := by simp [ptOf, s1]
              have P2 : ptOf x y 2 after pos = (y, false, 0) := by simp [ptOf, s2]
              have P3 : ptOf x y 3 after pos = (0, true, 0) := by simp [ptOf, s2, s3]
              go_wp2_with fail
              refine (MB.next (w := w) (id := id) (sz := sz) (tm := tm) (vt := vt) (rl := rl) (ld := ld) (ti := ti) (vs := vs) (lg := (.slice ga es.length gc)) (cm := cm) (nx := nx) (mt := mt) ⟨by assumption, by assumption, by assumption, by assumption, by assumption, by assumption, by assumption, by assumption, by assumption, by assumption, by assumption, by assumption, by assumption, by assumption⟩ (point_all _ _ _ _ _ _ _ _ _ _ _ _ es 1 after pos x y _ q0 (HE.out.below gB0) HX.out HY.out)).mono ?_
              rw [P1]
              rintro e w2 ⟨hee, g0_2, g1_2, g2_2, g3_2, g4_2, g5_2, g6_2, g7_2, g8_2, g9_2, g10_2, g11_2, gz_2, gB_2⟩
              subst hee
              go_wp2_with fail
              refine (MB.next (w := w) (id := id) (sz := sz) (tm := tm) (vt := vt) (rl := rl) (ld := ld) (ti := ti) (vs := vs) (lg := (.slice ga es.length gc)) (cm := cm) (nx := nx) (mt := mt) ⟨by assumption, by assumption, by assumption, by assumption, by assumption, by assumption, by assumption, by assumption, by assumption, by assumption, by assumption, by assumption, by assumption, by assumption⟩ (point_all _ _ _ _ _ _ _ _ _ _ _ _ es 2 after pos x y _ q0 (HE.out.below gB_2) HX.out HY.out)).mono ?_
              rw [P2]
              rintro e w3 ⟨hee, g0_3, g1_3, g2_3, g3_3, g4_3, g5_3, g6_3, g7_3, g8_3, g9_3, g10_3, g11_3, gz_3, gB_3⟩
              subst hee
              go_wp2_with fail
              refine (MB.next (w := w) (id := id) (sz := sz) (tm := tm) (vt := vt) (rl := rl) (ld := ld) (ti := ti) (vs := vs) (lg := (.slice ga es.length gc)) (cm := cm) (nx := nx) (mt := mt) ⟨by assumption, by assumption, by assumption, by assumption, by assumption, by assumption, by assumption, by assumption, by assumption, by assumption, by assumption, by assumption, by assumption, by assumption⟩ (point_all _ _ _ _ _ _ _ _ _ _ _ _ es 3 after pos x y _ q0 (HE.out.below gB_3) HX.out HY.out)).mono ?_
              rw [P3]
              rintro e w4 ⟨hee, g0_4, g1_4, g2_4, g3_4, g4_4, g5_4, g6_4, g7_4, g8_4, g9_4, g10_4, g11_4, gz_4, gB_4⟩
              subst hee
              go_wp2_with (first | (go_at_call 12; refine (MB.next (w := w) (id := id) (sz := sz) (tm := tm) (vt := vt) (rl := rl) (ld := ld) (ti := ti) (vs := vs) (lg := (.slice ga es.length gc)) (cm := cm) (nx := nx) (mt := mt) ⟨by assumption, by assumption, by assumption, by assumption, by assumption, by assumption, by assumption, by assumption, by assumption, by assumption, by assumption, by assumption, by assumption, by assumption⟩ (awake_any _)).mono ?_; rintro e wn ⟨hee, g0, g1, g2, g3, g4, g5, g6, g7, g8, g9, g10, g11, gz, gB⟩; subst hee))
              all_goals (go_ret; exact ⟨rfl, by assumption⟩)
            · have P1 : ptOf x y 1 after pos = (x, false, 0) := by simp [ptOf, s1]
              have P2 : ptOf x y 2 after pos = (y, false, 0) := by simp [ptOf, s2]
              have P3 : ptOf x y 3 after pos = (pos, false, 0) := by simp [ptOf, s2, s3]
              go_wp2_with fail
              refine (MB.next (w := w) (id := id) (sz := sz) (tm := tm) (vt := vt) (rl := rl) (ld := ld) (ti := ti) (vs := vs) (lg := (.slice ga es.length gc)) (cm := cm) (nx := nx) (mt := mt) ⟨by assumption, by assumption, by assumption, by assumption, by assumption, by assumption, by assumption, by assumption, by assumption, by assumption, by assumption, by assumption, by assumption, by assumption⟩ (point_all _ _ _ _ _ _ _ _ _ _ _ _ es 1 after pos x y _ q0 (HE.out.below gB0) HX.out HY.out)).mono ?_
              rw [P1]
              rintro e w2 ⟨hee, g0_2, g1_2, g2_2, g3_2, g4_2, g5_2, g6_2, g7_2, g8_2, g9_2, g10_2, g11_2, gz_2, gB_2⟩
              subst hee
              go_wp2_with fail
              refine (MB.next (w := w) (id := id) (sz := sz) (tm := tm) (vt := vt) (rl := rl) (ld := ld) (ti := ti) (vs := vs) (lg := (.slice ga es.length gc)) (cm := cm) (nx := nx) (mt := mt) ⟨by assumption, by assumption, by assumption, by assumption, by assumption, by assumption, by assumption, by assumption, by assumption, by assumption, by assumption, by assumption, by assumption, by assumption⟩ (point_all _ _ _ _ _ _ _ _ _ _ _ _ es 2 after pos x y _ q0 (HE.out.below gB_2) HX.out HY.out)).mono ?_
              rw [P2]
              rintro e w3 ⟨hee, g0_3, g1_3, g2_3, g3_3, g4_3, g5_3, g6_3, g7_3, g8_3, g9_3, g10_3, g11_3, gz_3, gB_3⟩
              subst hee
              go_wp2_with fail
              refine (MB.next (w := w) (id := id) (sz := sz) (tm := tm) (vt := vt) (rl := rl) (ld := ld) (ti := ti) (vs := vs) (lg := (.slice ga es.length gc)) (cm := cm) (nx := nx) (mt := mt) ⟨by assumption, by assumption, by assumption, by assumption, by assumption, by assumption, by assumption, by assumption, by assumption, by assumption, by assumption, by assumption, by assumption, by assumption⟩ (point_all _ _ _ _ _ _ _ _ _ _ _ _ es 3 after pos x y _ q0 (HE.out.below gB_3) HX.out HY.out)).mono ?_
              rw [P3]
              rintro e w4 ⟨hee, g0_4, g1_4, g2_4, g3_4, g4_4, g5_4, g6_4, g7_4, g8_4, g9_4, g10_4, g11_4, gz_4, gB_4⟩
              subst hee
              go_wp2_with (first | (go_at_call 12; refine (MB.next (w := w) (id := id) (sz := sz) (tm := tm) (vt := vt) (rl := rl) (ld := ld) (ti := ti) (vs := vs) (lg := (.slice ga es.length gc)) (cm := cm) (nx := nx) (mt := mt) ⟨by assumption, by assumption, by assumption, by assumption, by assumption, by assumption, by assumption, by assumption, by assumption, by assumption, by assumption, by assumption, by assumption, by assumption⟩ (awake_any _)).mono ?_; rintro e wn ⟨hee, g0, g1, g2, g3, g4, g5, g6, g7, g8, g9, g10, g11, gz, gB⟩; subst hee))
              all_goals (go_ret; exact ⟨rfl, by assumption⟩)
end Go.Proofs.Ytiimcffagchneaa
