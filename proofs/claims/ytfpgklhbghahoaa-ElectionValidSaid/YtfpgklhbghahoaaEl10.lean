/- Election: the law ElectionNew. -/
import Derived.Test.YtfpgklhbghahoaaEl9
namespace Go.Proofs.Ytfpgklhbghahoaa
open Go.ChangeShapes Go.WideShapes Go.ChangeAt Go.RowKit Go.Deep
set_option linter.unusedVariables false
set_option linter.unusedSimpArgs false
set_option maxHeartbeats 400000 in
theorem numbers_nil (w : World) : Calls Try.prog 29 #[nil, nil] w fun e w' => e = .returned (.bool true) ∧ w = w' := by
  go_enter Try.func29, Try.ntmps29
  go_wp2_with fail
  go_loop [5] (fun i => i = .int .i64 0) (fun i => 0)
  case atStart => rfl
  case round =>
    obtain rfl := hrel
    go_wp2_with fail
    go_ret
    exact ⟨rfl, rfl⟩
set_option maxHeartbeats 400000 in
theorem sameLog_nil (w : World) : Calls Try.prog 25 #[nil, nil] w fun e w' => e = .returned (.bool true) ∧ w = w' := by
  go_enter Try.func25, Try.ntmps25
  go_wp2_with fail
  go_loop [5] (fun i => i = .int .i64 0) (fun i => 0)
  case atStart => rfl
  case round =>
    obtain rfl := hrel
    go_wp2_with fail
    go_ret
    exact ⟨rfl, rfl⟩
set_option maxRecDepth 100000 in
set_option maxHeartbeats 2000000 in
theorem same_nil (id sz tm vt rl ld ti vs cm : Int) (w : World) : Calls Try.prog 11 #[mem id sz tm vt rl ld ti vs nil cm nil nil, mem id sz tm vt rl ld ti vs nil cm nil nil] w fun e w' => e = .returned (.bool true) ∧ Below w.heap.size w w' := by
  have hb : Below w.heap.size w ((w.alloc (.cells (memL id sz tm vt rl ld ti vs nil cm nil nil).toArray 25)).alloc (.cells (memL id sz tm vt rl ld ti vs nil cm nil nil).toArray 25)) := ((Below.refl _ _).alloc (Nat.le_refl _) _).alloc (by simp) _
  go_enter Try.func11, Try.ntmps11
  go_wp2_with (first
    | (go_at_call 29; refine (numbers_nil _).mono ?_; rintro e w1 ⟨rfl, rfl⟩)
    | (go_at_call 25; refine (sameLog_nil _).mono ?_; rintro e w1 ⟨rfl, rfl⟩))
  go_ret
  exact ⟨rfl, hb⟩
theorem newV_form (id sz : Int) : ∃ a b c d e f g h cm k : Int, newV id sz = .tuple #[mem a b c d e f g h nil cm nil nil, .int .i64 k] := by
  unfold newV
  split
  · exact ⟨_, _, _, _, _, _, _, _, _, _, rfl⟩
  · exact ⟨_, _, _, _, _, _, _, _, _, _, rfl⟩
theorem new_is {id sz a b c d e f g h cm k : Int} (hv : newV id sz = .tuple #[mem a b c d e f g h nil cm nil nil, .int .i64 k]) (w : World) :
    Calls Try.prog 9 #[.int .i64 id, .int .i64 sz] w fun e' w' => e' = .returned (.tuple #[mem a b c d e f g h nil cm nil nil, .int .i64 k]) ∧ Below w.heap.size w w' := by
  rw [← hv]; exact new_any id sz w
theorem rnew_is {id sz a b c d e f g h cm k : Int} (hv : newV id sz = .tuple #[mem a b c d e f g h nil cm nil nil, .int .i64 k]) (w : World) :
    Calls Try.prog 10 #[.int .i64 id, .int .i64 sz] w fun e' w' => e' = .returned (.tuple #[mem a b c d e f g h nil cm nil nil, .int .i64 k]) ∧ Below w.heap.size w w' := by
  rw [← hv]; exact rnew_any id sz w
set_option maxRecDepth 100000 in
set_option maxHeartbeats 4000000 in
theorem law_new (id sz : Int) (w : World) : Calls Try.prog 3 #[.int .i64 id, .int .i64 sz] w fun e w' => e = .returned (.bool true) ∧ Below w.heap.size w w' := by
  obtain ⟨a, b, c, d, e, f, g, h, cm, k, hv⟩ := newV_form id sz
  have HV := Lib.hid hv
  clear hv
  go_enter Try.func3, Try.ntmps3
  go_wp2_with fail
  refine (new_is HV.out _).mono ?_
  rintro e' w1 ⟨rfl, hb1⟩
  have HA1 := Lib.hid (AK.start hb1)
  clear hb1
  have HX := Lib.hid (HA1.out.box)
  have hX := HX.out.b0
  go_wp2_with (with_reducible refine wpList_box_store 25 5 (.tmp 13) w1.heap.size zL (memL a b c d e f g h nil cm nil nil) _ _ _ _ _ _ ?_ ?_ hX (memOk _ _ _ _ _ _ _ _ _ _ _ _ _ _ _ _ _ _) wideMem ?_)
  · rfl
  · rfl
  rintro w2 hB hO
  have HA2 := Lib.hid (AK.put HA1.out HX.out hB hO)
  clear HA1 HX hX hB hO
  go_wp2_with fail
  refine (rnew_is HV.out _).mono ?_
  rintro e' w3 ⟨rfl, hb⟩
  have HA3 := Lib.hid (HA2.out.keep hb)
  clear hb HA2
  have HX := Lib.hid (HA3.out.box)
  have hX := HX.out.b0
  go_wp2_with (with_reducible refine wpList_box_store 25 7 (.tmp 19) w3.heap.size zL (memL a b c d e f g h nil cm nil nil) _ _ _ _ _ _ ?_ ?_ hX (memOk _ _ _ _ _ _ _ _ _ _ _ _ _ _ _ _ _ _) wideMem ?_)
  · rfl
  · rfl
  rintro w4 hB hO
  have HA4 := Lib.hid (AK.put HA3.out HX.out hB hO)
  clear HA3 HX hX hB hO
  have hL5 := HA4.out.tl.b0
  have hL7 := HA4.out.b0
  go_wp2_with (first
    | (with_reducible refine wpList_box_load 25 5 w1.heap.size (memL a b c d e f g h nil cm nil nil) _ _ _ _ _ _ ?_ hL5 wideMem ?_)
    | (with_reducible refine wpList_box_load 25 7 w3.heap.size (memL a b c d e f g h nil cm nil nil) _ _ _ _ _ _ ?_ hL7 wideMem ?_))
  · rfl
  · rfl
  go_wp2_with fail
  refine (same_nil a b c d e f g h cm _).mono ?_
  rintro e' w5 ⟨rfl, hb⟩
  have HA5 := Lib.hid (HA4.out.keep hb)
  clear hb HA4 hL5 hL7
  go_wp2_with fail
  refine (maj_any sz _).mono ?_
  rintro e' w6 ⟨rfl, rfl⟩
  go_wp2_with fail
  refine (rmaj_any sz _).mono ?_
  rintro e' w7 ⟨rfl, rfl⟩
  go_wp2_with fail
  refine (awake_any _).mono ?_
  rintro e' w8 ⟨rfl, hb⟩
  have HA8 := Lib.hid (HA5.out.keep hb)
  go_wp2_with fail
  go_ret
  exact ⟨rfl, HA8.out.2.2⟩
end Go.Proofs.Ytfpgklhbghahoaa
