/- Sessions: Point in all cases, and the reference's. -/
import Derived.Test.YtiimcffagchneaaSes14
namespace Go.Proofs.Ytiimcffagchneaa
open Go.ChangeShapes Go.WideShapes Go.ChangeAt Go.RowKit
set_option linter.unusedVariables false
set_option linter.unusedSimpArgs false
def stps (es : List (List Value)) : List Int := es.map stp
theorem stps_len (es : List (List Value)) : (stps es).length = es.length := List.length_map ..
theorem stamp_ent (v : Value) (es : List (List Value)) (n : Int) (w : World) (hl : es.length ≤ 1000000) (hv : EntArg w v es) :
    Calls Try.prog 29 #[v, .int .i64 n] w fun e w' => e = .returned (.int .i64 (stampOf (stps es) n)) ∧ w = w' := by
  rcases hv with ⟨rfl, a, cap, rfl⟩ | ⟨B, o, cap, rfl, hB, h0, _, hc⟩
  · rw [stampOf_out _ _ (by simp [stps]; omega)]
    cases a with
    | none =>
      go_enter Try.func29, Try.ntmps29
      by_cases h : n < 1
      · go_wp2
        go_ret
        exact ⟨rfl, rfl⟩
      · have h2 : (0 : Int) < n := by omega
        go_wp2
        go_ret
        exact ⟨rfl, rfl⟩
    | some a => exact stamp_out _ 0 n w (by omega) (.inr ⟨a, cap, rfl⟩) (by omega)
  · refine stamp_any _ (stps es) n w (by rw [stps_len]; exact hl) (.inr ⟨B, o, cap, by rw [stps_len], hB, fun j hj => ?_⟩)
    have hj' : j < es.length := by rw [stps_len] at hj; exact hj
    obtain ⟨hr, he, _, t, s, r, hes⟩ := hc j hj'
    have := hr 1 (.int .i64 s) (by rw [hes]; rfl)
    rw [this]
    simp [stps, hes, stp]
theorem rstamp_ent (v : Value) (es : List (List Value)) (n : Int) (w : World) (hl : es.length ≤ 1000000) (hv : EntArg w v es) :
    Calls Try.prog 30 #[v, .int .i64 n] w fun e w' => e = .returned (.int .i64 (stampOf (stps es) n)) ∧ w = w' := by
  rcases hv with ⟨rfl, a, cap, rfl⟩ | ⟨B, o, cap, rfl, hB, h0, _, hc⟩
  · rw [stampOf_out _ _ (by simp [stps]; omega)]
    cases a with
    | none =>
      go_enter Try.func30, Try.ntmps30
      by_cases h : n < 1
      · go_wp2
        go_ret
        exact ⟨rfl, rfl⟩
      · have h2 : (0 : Int) < n := by omega
        go_wp2
        go_ret
        exact ⟨rfl, rfl⟩
    | some a => exact rstamp_out _ 0 n w (by omega) (.inr ⟨a, cap, rfl⟩) (by omega)
  · refine rstamp_any _ (stps es) n w (by rw [stps_len]; exact hl) (.inr ⟨B, o, cap, by rw [stps_len], hB, fun j hj => ?_⟩)
    have hj' : j < es.length := by rw [stps_len] at hj; exact hj
    obtain ⟨hr, he, _, t, s, r, hes⟩ := hc j hj'
    have := hr 1 (.int .i64 s) (by rw [hes]; rfl)
    rw [this]
    simp [stps, hes, stp]
theorem EntArg.len {w : World} {v : Value} {es : List (List Value)} (h : EntArg w v es) : ∃ a cap, v = .slice a es.length cap := by
  rcases h with ⟨rfl, a, cap, rfl⟩ | ⟨B, o, cap, rfl, _⟩
  · exact ⟨a, cap, rfl⟩
  · exact ⟨_, cap, rfl⟩
/-- what Point answers -/
def ptOf (x y : Int) (c after pos : Int) : Int × Bool × Int :=
  if c = 1 then (if x < after then (0, true, 0) else (x, false, 0))
  else if c = 2 then (if y < after then (0, true, 0) else (y, false, 0))
  else if c = 3 then (if y < pos ∨ y < after then (0, true, 0) else (pos, false, 0))
  else (0, false, 1)

set_option maxRecDepth 100000 in
set_option maxHeartbeats 1600000 in
theorem point_all (id sz tm vt rl ld ti vs : Int) (lg : Value) (cm : Int) (nx mt : Value) (es : List (List Value)) (c after pos x y : Int) (w : World) (hl : es.length ≤ 100) (hv : EntArg w lg es) (hx : stampOf (stps es) es.length = x) (hy : stampOf (stps es) cm = y) :
    Calls Try.prog 22 #[mem id sz tm vt rl ld ti vs lg cm nx mt, .int .i64 c, .int .i64 after, .int .i64 pos] w fun e w' => e = .returned (.tuple #[.int .i64 (ptOf x y c after pos).1, .bool (ptOf x y c after pos).2.1, .int .i64 (ptOf x y c after pos).2.2]) ∧ Below w.heap.size w w' := by
  have HXX := Lib.hid hx
  have HYY := Lib.hid hy
  clear hx hy
  obtain ⟨ga, gc, rfl⟩ := hv.len
  have HS := Lib.hid hv
  clear hv
  have hl2 : es.length ≤ 1000000 := by omega
  have hbw : Below w.heap.size w (w.alloc (.cells #[.int .i64 id, .int .i64 sz, .int .i64 tm, .int .i64 vt, .int .i64 rl, .int .i64 ld, .int .i64 ti, .int .i64 vs, .slice ga es.length gc, .int .i64 cm, nx, mt] 37)) := (Below.refl _ _).alloc (Nat.le_refl _) _
  have HB := Lib.hid hbw
  clear hbw
  by_cases h1 : c = 1
  · subst h1
    by_cases h : x < after
    · go_enter Try.func22, Try.ntmps22
      go_wp2_with fail
      refine (stamp_ent _ es _ _ hl2 (HS.out.below HB.out)).mono ?_
      rw [HXX.out]
      rintro e w1 ⟨rfl, rfl⟩
      go_wp2_with fail
      refine (stamp_ent _ es _ _ hl2 (HS.out.below HB.out)).mono ?_
      rw [HYY.out]
      rintro e w1 ⟨rfl, rfl⟩
      go_wp2_with fail
      all_goals (go_ret3; exact ⟨by simp [ptOf, h], HB.out⟩)
    · go_enter Try.func22, Try.ntmps22
      go_wp2_with fail
      refine (stamp_ent _ es _ _ hl2 (HS.out.below HB.out)).mono ?_
      rw [HXX.out]
      rintro e w1 ⟨rfl, rfl⟩
      go_wp2_with fail
      refine (stamp_ent _ es _ _ hl2 (HS.out.below HB.out)).mono ?_
      rw [HYY.out]
      rintro e w1 ⟨rfl, rfl⟩
      go_wp2_with fail
      all_goals (go_ret3; exact ⟨by simp [ptOf, show ¬ x < after by omega], HB.out⟩)
  · by_cases h2 : c = 2
    · subst h2
      by_cases h : y < after
      · go_enter Try.func22, Try.ntmps22
        go_wp2_with fail
        refine (stamp_ent _ es _ _ hl2 (HS.out.below HB.out)).mono ?_
        rw [HXX.out]
        rintro e w1 ⟨rfl, rfl⟩
        go_wp2_with fail
        refine (stamp_ent _ es _ _ hl2 (HS.out.below HB.out)).mono ?_
        rw [HYY.out]
        rintro e w1 ⟨rfl, rfl⟩
        go_wp2_with fail
        all_goals (go_ret3; exact ⟨by simp [ptOf, h], HB.out⟩)
      · go_enter Try.func22, Try.ntmps22
        go_wp2_with fail
        refine (stamp_ent _ es _ _ hl2 (HS.out.below HB.out)).mono ?_
        rw [HXX.out]
        rintro e w1 ⟨rfl, rfl⟩
        go_wp2_with fail
        refine (stamp_ent _ es _ _ hl2 (HS.out.below HB.out)).mono ?_
        rw [HYY.out]
        rintro e w1 ⟨rfl, rfl⟩
        go_wp2_with fail
        all_goals (go_ret3; exact ⟨by simp [ptOf, show ¬ y < after by omega], HB.out⟩)
    · by_cases h3 : c = 3
      · subst h3
        by_cases h : y < pos
        · by_cases h' : y < after
          · go_enter Try.func22, Try.ntmps22
            go_wp2_with fail
            refine (stamp_ent _ es _ _ hl2 (HS.out.below HB.out)).mono ?_
            rw [HXX.out]
            rintro e w1 ⟨rfl, rfl⟩
            go_wp2_with fail
            refine (stamp_ent _ es _ _ hl2 (HS.out.below HB.out)).mono ?_
            rw [HYY.out]
            rintro e w1 ⟨rfl, rfl⟩
            go_wp2_with fail
            all_goals (go_ret3; exact ⟨by simp [ptOf, h, h'], HB.out⟩)
          · go_enter Try.func22, Try.ntmps22
            go_wp2_with fail
            refine (stamp_ent _ es _ _ hl2 (HS.out.below HB.out)).mono ?_
            rw [HXX.out]
            rintro e w1 ⟨rfl, rfl⟩
            go_wp2_with fail
            refine (stamp_ent _ es _ _ hl2 (HS.out.below HB.out)).mono ?_
            rw [HYY.out]
            rintro e w1 ⟨rfl, rfl⟩
            go_wp2_with fail
            all_goals (go_ret3; exact ⟨by simp [ptOf, h, show ¬ y < after by omega], HB.out⟩)
        · by_cases h' : y < after
          · go_enter Try.func22, Try.ntmps22
            go_wp2_with fail
            refine (stamp_ent _ es _ _ hl2 (HS.out.below HB.out)).mono ?_
            rw [HXX.out]
            rintro e w1 ⟨rfl, rfl⟩
            go_wp2_with fail
            refine (stamp_ent _ es _ _ hl2 (HS.out.below HB.out)).mono ?_
            rw [HYY.out]
            rintro e w1 ⟨rfl, rfl⟩
            go_wp2_with fail
            all_goals (go_ret3; exact ⟨by simp [ptOf, show ¬ y < pos by omega, h'], HB.out⟩)
          · go_enter Try.func22, Try.ntmps22
            go_wp2_with fail
            refine (stamp_ent _ es _ _ hl2 (HS.out.below HB.out)).mono ?_
            rw [HXX.out]
            rintro e w1 ⟨rfl, rfl⟩
            go_wp2_with fail
            refine (stamp_ent _ es _ _ hl2 (HS.out.below HB.out)).mono ?_
            rw [HYY.out]
            rintro e w1 ⟨rfl, rfl⟩
            go_wp2_with fail
            all_goals (go_ret3; exact ⟨by simp [ptOf, show ¬ y < pos by omega, show ¬ y < after by omega], HB.out⟩)
      · have q1 : (c == 1) = false := by simpa using h1
        have q2 : (c == 2) = false := by simpa using h2
        have q3 : (c == 3) = false := by simpa using h3
        go_enter Try.func22, Try.ntmps22
        go_wp2_with fail
        refine (stamp_ent _ es _ _ hl2 (HS.out.below HB.out)).mono ?_
        rw [HXX.out]
        rintro e w1 ⟨rfl, rfl⟩
        go_wp2_with fail
        refine (stamp_ent _ es _ _ hl2 (HS.out.below HB.out)).mono ?_
        rw [HYY.out]
        rintro e w1 ⟨rfl, rfl⟩
        go_wp2_with fail
        all_goals (go_ret3; exact ⟨by simp [ptOf, h1, h2, h3], HB.out⟩)

set_option maxRecDepth 100000 in
set_option maxHeartbeats 1600000 in
theorem rpoint_all (id sz tm vt rl ld ti vs : Int) (lg : Value) (cm : Int) (nx mt : Value) (es : List (List Value)) (c after pos x y : Int) (w : World) (hl : es.length ≤ 100) (hv : EntArg w lg es) (hx : stampOf (stps es) es.length = x) (hy : stampOf (stps es) cm = y) :
    Calls Try.prog 23 #[mem id sz tm vt rl ld ti vs lg cm nx mt, .int .i64 c, .int .i64 after, .int .i64 pos] w fun e w' => e = .returned (.tuple #[.int .i64 (ptOf x y c after pos).1, .bool (ptOf x y c after pos).2.1, .int .i64 (ptOf x y c after pos).2.2]) ∧ Below w.heap.size w w' := by
  have HXX := Lib.hid hx
  have HYY := Lib.hid hy
  clear hx hy
  obtain ⟨ga, gc, rfl⟩ := hv.len
  have HS := Lib.hid hv
  clear hv
  have hl2 : es.length ≤ 1000000 := by omega
  have hbw : Below w.heap.size w (w.alloc (.cells #[.int .i64 id, .int .i64 sz, .int .i64 tm, .int .i64 vt, .int .i64 rl, .int .i64 ld, .int .i64 ti, .int .i64 vs, .slice ga es.length gc, .int .i64 cm, nx, mt] 37)) := (Below.refl _ _).alloc (Nat.le_refl _) _
  have HB := Lib.hid hbw
  clear hbw
  by_cases h1 : c = 1
  · subst h1
    by_cases h : x < after
    · go_enter Try.func23, Try.ntmps23
      go_wp2_with fail
      refine (rstamp_ent _ es _ _ hl2 (HS.out.below HB.out)).mono ?_
      rw [HYY.out]
      rintro e w1 ⟨rfl, rfl⟩
      go_wp2_with fail
      refine (rstamp_ent _ es _ _ hl2 (HS.out.below HB.out)).mono ?_
      rw [HXX.out]
      rintro e w1 ⟨rfl, rfl⟩
      go_wp2_with fail
      all_goals (go_ret3; exact ⟨by simp [ptOf, h], HB.out⟩)
    · go_enter Try.func23, Try.ntmps23
      go_wp2_with fail
      refine (rstamp_ent _ es _ _ hl2 (HS.out.below HB.out)).mono ?_
      rw [HYY.out]
      rintro e w1 ⟨rfl, rfl⟩
      go_wp2_with fail
      refine (rstamp_ent _ es _ _ hl2 (HS.out.below HB.out)).mono ?_
      rw [HXX.out]
      rintro e w1 ⟨rfl, rfl⟩
      go_wp2_with fail
      all_goals (go_ret3; exact ⟨by simp [ptOf, show ¬ x < after by omega], HB.out⟩)
  · by_cases h2 : c = 2
    · subst h2
      by_cases h : y < after
      · go_enter Try.func23, Try.ntmps23
        go_wp2_with fail
        refine (rstamp_ent _ es _ _ hl2 (HS.out.below HB.out)).mono ?_
        rw [HYY.out]
        rintro e w1 ⟨rfl, rfl⟩
        go_wp2_with fail
        all_goals (go_ret3; exact ⟨by simp [ptOf, h], HB.out⟩)
      · go_enter Try.func23, Try.ntmps23
        go_wp2_with fail
        refine (rstamp_ent _ es _ _ hl2 (HS.out.below HB.out)).mono ?_
        rw [HYY.out]
        rintro e w1 ⟨rfl, rfl⟩
        go_wp2_with fail
        all_goals (go_ret3; exact ⟨by simp [ptOf, show ¬ y < after by omega], HB.out⟩)
    · by_cases h3 : c = 3
      · subst h3
        by_cases h : y < pos
        · by_cases h' : y < after
          · go_enter Try.func23, Try.ntmps23
            go_wp2_with fail
            refine (rstamp_ent _ es _ _ hl2 (HS.out.below HB.out)).mono ?_
            rw [HYY.out]
            rintro e w1 ⟨rfl, rfl⟩
            go_wp2_with fail
            all_goals (go_ret3; exact ⟨by simp [ptOf, h, h'], HB.out⟩)
          · go_enter Try.func23, Try.ntmps23
            go_wp2_with fail
            refine (rstamp_ent _ es _ _ hl2 (HS.out.below HB.out)).mono ?_
            rw [HYY.out]
            rintro e w1 ⟨rfl, rfl⟩
            go_wp2_with fail
            all_goals (go_ret3; exact ⟨by simp [ptOf, h, show ¬ y < after by omega], HB.out⟩)
        · by_cases h' : y < after
          · go_enter Try.func23, Try.ntmps23
            go_wp2_with fail
            refine (rstamp_ent _ es _ _ hl2 (HS.out.below HB.out)).mono ?_
            rw [HYY.out]
            rintro e w1 ⟨rfl, rfl⟩
            go_wp2_with fail
            all_goals (go_ret3; exact ⟨by simp [ptOf, show ¬ y < pos by omega, h'], HB.out⟩)
          · go_enter Try.func23, Try.ntmps23
            go_wp2_with fail
            refine (rstamp_ent _ es _ _ hl2 (HS.out.below HB.out)).mono ?_
            rw [HYY.out]
            rintro e w1 ⟨rfl, rfl⟩
            go_wp2_with fail
            all_goals (go_ret3; exact ⟨by simp [ptOf, show ¬ y < pos by omega, show ¬ y < after by omega], HB.out⟩)
      · have q1 : (c == 1) = false := by simpa using h1
        have q2 : (c == 2) = false := by simpa using h2
        have q3 : (c == 3) = false := by simpa using h3
        go_enter Try.func23, Try.ntmps23
        go_wp2_with fail
        refine (rstamp_ent _ es _ _ hl2 (HS.out.below HB.out)).mono ?_
        rw [HYY.out]
        rintro e w1 ⟨rfl, rfl⟩
        go_wp2_with fail
        all_goals (go_ret3; exact ⟨by simp [ptOf, h1, h2, h3], HB.out⟩)
end Go.Proofs.Ytiimcffagchneaa
