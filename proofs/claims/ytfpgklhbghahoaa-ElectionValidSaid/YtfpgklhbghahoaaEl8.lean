/- Election: Valid and Step of the law's example. -/
import Derived.Test.YtfpgklhbghahoaaEl7
namespace Go.Proofs.Ytfpgklhbghahoaa
open Go.ChangeShapes Go.WideShapes Go.ChangeAt Go.RowKit Go.Deep
set_option linter.unusedVariables false
set_option linter.unusedSimpArgs false
abbrev s3 (g : Nat) : Value := .slice (some ⟨g, 0, none⟩) 3 3
abbrev pV (g h : Nat) : Value := mem 1 3 1 1 2 1 1 3 nil 0 (s3 g) (s3 h)
abbrev pL (g h : Nat) : List Value := memL 1 3 1 1 2 1 1 3 nil 0 (s3 g) (s3 h)
set_option maxRecDepth 100000 in
set_option maxHeartbeats 400000 in
theorem places_ex (g h k : Nat) (w : World) (hk : w.rangeAt k 0 z3) (lk : k < w.heap.size) : Calls Try.prog 46 #[pV g h, s3 k] w fun e w' => e = .returned (.bool true) ∧ Below w.heap.size w w' := by
  have c0 : (w.alloc (.cells (pL g h).toArray 25)).cell? ⟨k, 0, none⟩ = some (.int .i64 0) := (World.cell?_alloc_old _ _ _ (Nat.ne_of_lt lk)).trans (hk 0 _ rfl)
  have c1 : (w.alloc (.cells (pL g h).toArray 25)).cell? ⟨k, 1, none⟩ = some (.int .i64 0) := (World.cell?_alloc_old _ _ _ (Nat.ne_of_lt lk)).trans (hk 1 _ rfl)
  have c2 : (w.alloc (.cells (pL g h).toArray 25)).cell? ⟨k, 2, none⟩ = some (.int .i64 0) := (World.cell?_alloc_old _ _ _ (Nat.ne_of_lt lk)).trans (hk 2 _ rfl)
  have hB : BoxN 12 (w.alloc (.cells (pL g h).toArray 25)) w.heap.size (pL g h) := BoxN.new w _ 12 _ rfl
  have hb : Below w.heap.size w (w.alloc (.cells (pL g h).toArray 25)) := (Below.refl _ _).alloc (Nat.le_refl _) _
  go_enter Try.func46, Try.ntmps46
  go_wp2_with fail
  refine wp_named (fun W => W.cell? ⟨k, 0, none⟩ = some (.int .i64 0) ∧ W.cell? ⟨k, 1, none⟩ = some (.int .i64 0) ∧ W.cell? ⟨k, 2, none⟩ = some (.int .i64 0) ∧ BoxN 12 W w.heap.size (pL g h) ∧ Below w.heap.size w W) ⟨c0, c1, c2, hB, hb⟩ ?_
  clear c0 c1 c2 hB hb
  rintro w1 ⟨c0, c1, c2, hB, hb⟩
  have a8 := hB.cell 8 _ rfl
  have a1 := hB.cell 1 _ rfl
  clear hB
  go_loop [9] (fun i => ∃ j : Nat, j ≤ 3 ∧ i = .int .i64 j) (fun i => 3 - (intOf i).toNat)
  case atStart => exact ⟨0, by omega, rfl⟩
  case round =>
    obtain ⟨j, hj, rfl⟩ := hrel
    have hj4 : j = 0 ∨ j = 1 ∨ j = 2 ∨ j = 3 := by omega
    rcases hj4 with rfl | rfl | rfl | rfl
    · go_wp2_with fail
      go_round
      case rel => exact ⟨1, by omega, rfl⟩
      case measure => simp [intOf]
    · go_wp2_with fail
      go_round
      case rel => exact ⟨2, by omega, rfl⟩
      case measure => simp [intOf]
    · go_wp2_with fail
      go_round
      case rel => exact ⟨3, by omega, rfl⟩
      case measure => simp [intOf]
    · go_wp2_with fail
      go_ret
      exact ⟨rfl, hb⟩
set_option maxRecDepth 100000 in
set_option maxHeartbeats 400000 in
theorem log_ex (g h : Nat) (w : World) : Calls Try.prog 31 #[pV g h] w fun e w' => e = .returned (.bool true) ∧ Below w.heap.size w w' := by
  go_enter Try.func31, Try.ntmps31
  go_wp2_with fail
  go_loop [27] (fun i => i = .int .i64 0) (fun i => 0)
  case atStart => rfl
  case round =>
    obtain rfl := hrel
    go_wp2_with fail
    go_ret
    exact ⟨rfl, (Below.refl _ _).alloc (Nat.le_refl _) _⟩
def VM (w : World) (cs : List Value) (W : World) : Prop := BoxN 12 W w.heap.size cs ∧ Below w.heap.size w W
theorem VM.keep {w W W' : World} {cs : List Value} (h : VM w cs W) (hb : Below W.heap.size W W') : VM w cs W' := ⟨h.1.keep hb, h.2.trans (hb.mono h.2.size)⟩
theorem VM.drewN {w W : World} {cs : List Value} (h : VM w cs W) (n : Nat) : VM w cs (W.drewN n) := ⟨⟨h.1.1.drewN n, h.1.2⟩, ⟨h.2.os, h.2.tape, h.2.output, h.2.size, h.2.block⟩⟩
theorem VM.start (w : World) (cs : List Value) (T : TypeId) (h : cs.length = 12) : VM w cs (w.alloc (.cells cs.toArray T)) := ⟨BoxN.new w _ 12 _ h, (Below.refl _ _).alloc (Nat.le_refl _) _⟩
theorem z3_keep {w W : World} {g : Nat} (h : w.rangeAt g 0 z3) (lg : g < w.heap.size) (hb : Below w.heap.size w W) : W.rangeAt g 0 z3 ∧ g < W.heap.size := ⟨fun j v hv => (hb.cell (p := ⟨g, 0 + j, none⟩) lg).trans (h j v hv), Nat.lt_of_lt_of_le lg hb.size⟩
theorem maj3 (w : World) : Calls Try.prog 12 #[.int .i64 3] w fun e w' => e = .returned (.int .i64 2) ∧ w = w' := maj_any 3 w
theorem maj4 (w : World) : Calls Try.prog 12 #[.int .i64 4] w fun e w' => e = .returned (.int .i64 3) ∧ w = w' := maj_any 4 w
set_option maxRecDepth 100000 in
set_option maxHeartbeats 800000 in
theorem role_ex (g h : Nat) (w : World) (hg : w.rangeAt g 0 z3) (lg : g < w.heap.size) (hh : w.rangeAt h 0 z3) (lh : h < w.heap.size) : Calls Try.prog 32 #[pV g h] w fun e w' => e = .returned (.bool true) ∧ Below w.heap.size w w' := by
  have hor : bits .and .i64 3 2 = 2 := by kernel_rfl
  have hB0 : BoxN 12 (w.alloc (.cells (pL g h).toArray 25)) w.heap.size (pL g h) := BoxN.new w _ 12 _ rfl
  have hb0 : Below w.heap.size w (w.alloc (.cells (pL g h).toArray 25)) := (Below.refl _ _).alloc (Nat.le_refl _) _
  have HG := Lib.hid (And.intro hg hh)
  have HL := Lib.hid (And.intro lg lh)
  clear hg hh lg lh
  go_enter Try.func32, Try.ntmps32
  go_wp2_with fail
  refine calls_named (fun W => BoxN 12 W w.heap.size (pL g h) ∧ Below w.heap.size w W) ⟨hB0, hb0⟩ ?_
  clear hB0 hb0
  rintro w1 ⟨hB, hb⟩
  have a0 := hB.cell 0 _ rfl
  have a1 := hB.cell 1 _ rfl
  have a2 := hB.cell 2 _ rfl
  have a3 := hB.cell 3 _ rfl
  have a4 := hB.cell 4 _ rfl
  have a5 := hB.cell 5 _ rfl
  have a7 := hB.cell 7 _ rfl
  have a10 := hB.cell 10 _ rfl
  have a11 := hB.cell 11 _ rfl
  refine (ones3 _).mono ?_
  rintro e w2 ⟨rfl, rfl⟩
  go_wp2_with fail
  go_quiet (fail)
  go_wp2_with fail
  refine (maj3 _).mono ?_
  rintro e w3 ⟨rfl, rfl⟩
  have HM := Lib.hid (VM.drewN (⟨hB, hb⟩ : VM w (pL g h) w1) nq)
  clear hB hb a0 a1 a2 a3 a4 a5 a7 a10 a11 hor
  have hA := HM.out.1
  have a10 := hA.cell 10 _ rfl
  go_wp2_with (with_reducible refine wpList_box_load_g 25 1 w.heap.size (pL g h) _ _ _ _ _ _ _ ?_ hA wideMem ?_ ?_)
  · rfl
  go_wp2_with fail
  refine (places_ex g h g _ (z3_keep HG.out.1 HL.out.1 HM.out.2).1 (z3_keep HG.out.1 HL.out.1 HM.out.2).2).mono ?_
  rintro e w5 ⟨rfl, hb5⟩
  have HM5 := Lib.hid (HM.out.keep hb5)
  clear hb5 hA a10 HM
  have hA := HM5.out.1
  have a11 := hA.cell 11 _ rfl
  go_wp2_with (with_reducible refine wpList_box_load_g 25 1 w.heap.size (pL g h) _ _ _ _ _ _ _ ?_ hA wideMem ?_ ?_)
  · rfl
  go_wp2_with fail
  refine (places_ex g h h _ (z3_keep HG.out.2 HL.out.2 HM5.out.2).1 (z3_keep HG.out.2 HL.out.2 HM5.out.2).2).mono ?_
  rintro e w6 ⟨rfl, hb6⟩
  have HM6 := Lib.hid (HM5.out.keep hb6)
  clear hb6 hA a11
  go_wp2_with fail
  go_ret
  exact ⟨rfl, HM6.out.2⟩
set_option maxRecDepth 100000 in
set_option maxHeartbeats 800000 in
theorem valid_ex (g h : Nat) (w : World) (hg : w.rangeAt g 0 z3) (lg : g < w.heap.size) (hh : w.rangeAt h 0 z3) (lh : h < w.heap.size) : Calls Try.prog 16 #[pV g h] w fun e w' => e = .returned (.bool true) ∧ Below w.heap.size w w' := by
  have HM0 := Lib.hid (VM.start w (pL g h) 25 rfl)
  have HG := Lib.hid (And.intro hg hh)
  have HL := Lib.hid (And.intro lg lh)
  clear hg hh lg lh
  go_enter Try.func16, Try.ntmps16
  go_wp2_with fail
  go_quiet (fail)
  have HM1 := Lib.hid (HM0.out.drewN nq)
  clear HM0
  have hA := HM1.out.1
  go_wp2_with (with_reducible refine wpList_box_load 25 1 w.heap.size (pL g h) _ _ _ _ _ _ ?_ hA wideMem ?_)
  · rfl
  go_wp2_with fail
  refine (log_ex g h _).mono ?_
  rintro e w2 ⟨rfl, hb2⟩
  have HM2 := Lib.hid (HM1.out.keep hb2)
  clear hb2 hA HM1
  have hA := HM2.out.1
  go_wp2_with (with_reducible refine wpList_box_load_g 25 1 w.heap.size (pL g h) _ _ _ _ _ _ _ ?_ hA wideMem ?_ ?_)
  · rfl
  go_wp2_with fail
  refine (role_ex g h _ (z3_keep HG.out.1 HL.out.1 HM2.out.2).1 (z3_keep HG.out.1 HL.out.1 HM2.out.2).2 (z3_keep HG.out.2 HL.out.2 HM2.out.2).1 (z3_keep HG.out.2 HL.out.2 HM2.out.2).2).mono ?_
  rintro e w3 ⟨rfl, hb3⟩
  have HM3 := Lib.hid (HM2.out.keep hb3)
  clear hb3 hA
  go_wp2_with fail
  go_ret
  exact ⟨rfl, HM3.out.2⟩
theorem copyInts_z3 (g : Nat) (w : World) (hg : w.rangeAt g 0 z3) : Calls Try.prog 49 #[s3 g] w fun e w' => (∃ a n c, e = .returned (.slice a n c)) ∧ Below w.heap.size w w' := by
  refine (copyInts_some g 0 3 [0, 0, 0] w (by decide) (fun j hj => ?_)).mono ?_
  · have := hg j (.int .i64 ([0, 0, 0][j])) (by match j, hj with | 0, _ => rfl | 1, _ => rfl | 2, _ => rfl)
    simpa using this
  · rintro e w' ⟨⟨v, rfl, ho⟩, hb⟩
    refine ⟨?_, hb⟩
    rcases ho.2 with ⟨rfl, _⟩ | ⟨g, cap, cur, rfl, _⟩
    · exact ⟨_, _, _, rfl⟩
    · exact ⟨_, _, _, rfl⟩
def CopyOut (w : World) (e : Ending) (w' : World) : Prop := ∃ a n c a2 n2 c2, e = .returned (mem 1 3 1 1 2 1 1 3 nil 0 (.slice a n c) (.slice a2 n2 c2)) ∧ Below w.heap.size w w'
set_option maxRecDepth 100000 in
set_option maxHeartbeats 800000 in
theorem copyMember_p (g h : Nat) (w : World) (hg : w.rangeAt g 0 z3) (lg : g < w.heap.size) (hh : w.rangeAt h 0 z3) (lh : h < w.heap.size) :
    Calls Try.prog 36 #[pV g h] w (CopyOut w) := by
  have HM0 := Lib.hid (MM.start w (pL g h) 25 rfl)
  have HG := Lib.hid (And.intro hg hh)
  have HL := Lib.hid (And.intro lg lh)
  clear hg hh lg lh
  go_enter Try.func36, Try.ntmps36
  go_wp2_with fail
  refine (copyAll_nil _ _).mono ?_
  rintro e w1 ⟨rfl, rfl⟩
  go_wp2_with fail
  refine (copyInts_z3 g _ (z3_keep HG.out.1 HL.out.1 HM0.out.2.2).1).mono ?_
  rintro e w2 ⟨⟨a, n, c, rfl⟩, hb2⟩
  have HM2 := Lib.hid (HM0.out.keep hb2)
  clear hb2 HM0
  have a10 := HM2.out.1.cell 10 _ rfl
  have a11 := HM2.out.1.cell 11 _ rfl
  have f10 := HM2.out.1.1.free 10
  go_wp2_with fail
  have HM3 := Lib.hid (HM2.out.set 10 (.slice a n c) (by omega))
  clear a10 a11 f10 HM2
  refine (copyInts_z3 h _ (z3_keep HG.out.2 HL.out.2 HM3.out.2.2).1).mono ?_
  rintro e w4 ⟨⟨a2, n2, c2, rfl⟩, hb4⟩
  have HM4 := Lib.hid (HM3.out.keep hb4)
  clear hb4 HM3
  have a11 := HM4.out.1.cell 11 _ rfl
  have f11 := HM4.out.1.1.free 11
  have HM5 := Lib.hid (HM4.out.set 11 (.slice a2 n2 c2) (by omega))
  have hA := HM5.out.1
  have hR := HM5.out.2.1
  go_wp2_with (first
    | (with_reducible refine wpList_box_load 25 1 w.heap.size (memL 1 3 1 1 2 1 1 3 nil 0 (.slice a n c) (.slice a2 n2 c2)) _ _ _ _ _ _ ?_ hA wideMem ?_)
    | (with_reducible refine wpList_box_store 25 2 (.tmp 15) (w.heap.size + 1) zL (memL 1 3 1 1 2 1 1 3 nil 0 (.slice a n c) (.slice a2 n2 c2)) _ _ _ _ _ _ ?_ ?_ hR (memOk _ _ _ _ _ _ _ _ _ _ _ _ _ _ _ _ _ _) wideMem ?_))
  · rfl
  · rfl
  · rfl
  rintro w6 hB hO
  have r0 := hB.cell 0 _ rfl
  have r1 := hB.cell 1 _ rfl
  have r2 := hB.cell 2 _ rfl
  have r3 := hB.cell 3 _ rfl
  have r4 := hB.cell 4 _ rfl
  have r5 := hB.cell 5 _ rfl
  have r6 := hB.cell 6 _ rfl
  have r7 := hB.cell 7 _ rfl
  have r8 := hB.cell 8 _ rfl
  have r9 := hB.cell 9 _ rfl
  have r10 := hB.cell 10 _ rfl
  have r11 := hB.cell 11 _ rfl
  go_wp2_with fail
  exact bodyPost_ret (v := mem 1 3 1 1 2 1 1 3 nil 0 (.slice a n c) (.slice a2 n2 c2)) (by simp [results, Try.results36, go_sem, r0, r1, r2, r3, r4, r5, r6, r7, r8, r9, r10, r11]) rfl ⟨a, n, c, a2, n2, c2, rfl, HM5.out.2.2.trans (hO.below _ (by omega))⟩
set_option maxRecDepth 100000 in
set_option maxHeartbeats 800000 in
theorem step_p (g h : Nat) (w : World) (hg : w.rangeAt g 0 z3) (lg : g < w.heap.size) (hh : w.rangeAt h 0 z3) (lh : h < w.heap.size) :
    Calls Try.prog 30 #[pV g h, .int .i64 2] w fun e w' => e = .returned (mem 1 3 2 (-1) 0 (-1) 13 0 nil 0 nil nil) ∧ Below w.heap.size w w' := by
  have HM0 := Lib.hid (MM.start w (pL g h) 25 rfl)
  have HG := Lib.hid (And.intro hg hh)
  have HL := Lib.hid (And.intro lg lh)
  clear hg hh lg lh
  go_enter Try.func30, Try.ntmps30
  go_wp2_with fail
  refine (copyMember_p g h _ (z3_keep HG.out.1 HL.out.1 HM0.out.2.2).1 (z3_keep HG.out.1 HL.out.1 HM0.out.2.2).2 (z3_keep HG.out.2 HL.out.2 HM0.out.2.2).1 (z3_keep HG.out.2 HL.out.2 HM0.out.2.2).2).mono ?_
  rintro e w1 ⟨a, n, c, a2, n2, c2, rfl, hb1⟩
  have HM1 := Lib.hid (HM0.out.keep hb1)
  clear hb1 HM0
  go_wp2_with fail
  refine (follow_any 1 3 1 1 2 1 1 3 none 0 0 0 a n c a2 n2 c2 2 _ (by omega) (by omega)).mono ?_
  rintro e w2 ⟨he, hb2⟩
  rw [if_neg (by decide), if_pos (by decide)] at he
  subst he
  have HM2 := Lib.hid (HM1.out.keep hb2)
  clear hb2 HM1
  have hR := HM2.out.2.1
  go_wp2_with (with_reducible refine wpList_box_store 25 4 (.tmp 8) (w.heap.size + 1) zL (memL 1 3 2 (-1) 0 (-1) 13 0 nil 0 nil nil) _ _ _ _ _ _ ?_ ?_ hR (memOk _ _ _ _ _ _ _ _ _ _ _ _ _ _ _ _ _ _) wideMem ?_)
  · rfl
  · rfl
  rintro w3 hB hO
  have r0 := hB.cell 0 _ rfl
  have r1 := hB.cell 1 _ rfl
  have r2 := hB.cell 2 _ rfl
  have r3 := hB.cell 3 _ rfl
  have r4 := hB.cell 4 _ rfl
  have r5 := hB.cell 5 _ rfl
  have r6 := hB.cell 6 _ rfl
  have r7 := hB.cell 7 _ rfl
  have r8 := hB.cell 8 _ rfl
  have r9 := hB.cell 9 _ rfl
  have r10 := hB.cell 10 _ rfl
  have r11 := hB.cell 11 _ rfl
  go_wp2_with fail
  exact bodyPost_ret (v := mem 1 3 2 (-1) 0 (-1) 13 0 nil 0 nil nil) (by simp [results, Try.results30, go_sem, r0, r1, r2, r3, r4, r5, r6, r7, r8, r9, r10, r11]) rfl ⟨rfl, HM2.out.2.2.trans (hO.below _ (by omega))⟩
set_option maxRecDepth 100000 in
set_option maxHeartbeats 800000 in
theorem step_c (w : World) : Calls Try.prog 30 #[mem 1 3 1 1 1 (-1) 13 2 nil 0 nil nil, .int .i64 1] w fun e w' => e = .returned (mem 1 3 1 1 1 (-1) 13 2 nil 0 nil nil) ∧ Below w.heap.size w w' := by
  have HM0 := Lib.hid (MM.start w (memL 1 3 1 1 1 (-1) 13 2 nil 0 nil nil) 25 rfl)
  go_enter Try.func30, Try.ntmps30
  go_wp2_with fail
  refine (copyMember_nil _ _ _ _ _ _ _ _ _ _).mono ?_
  rintro e w1 ⟨rfl, hb1⟩
  have HM1 := Lib.hid (HM0.out.keep hb1)
  clear hb1 HM0
  go_wp2_with fail
  refine (follow_any 1 3 1 1 1 (-1) 13 2 none 0 0 0 none 0 0 none 0 0 1 _ (by omega) (by omega)).mono ?_
  rintro e w2 ⟨he, hb2⟩
  rw [if_pos (by decide)] at he
  subst he
  have HM2 := Lib.hid (HM1.out.keep hb2)
  clear hb2 HM1
  have hR := HM2.out.2.1
  go_wp2_with (with_reducible refine wpList_box_store 25 4 (.tmp 8) (w.heap.size + 1) zL (memL 1 3 1 1 1 (-1) 13 2 nil 0 nil nil) _ _ _ _ _ _ ?_ ?_ hR (memOk _ _ _ _ _ _ _ _ _ _ _ _ _ _ _ _ _ _) wideMem ?_)
  · rfl
  · rfl
  rintro w3 hB hO
  have r0 := hB.cell 0 _ rfl
  have r1 := hB.cell 1 _ rfl
  have r2 := hB.cell 2 _ rfl
  have r3 := hB.cell 3 _ rfl
  have r4 := hB.cell 4 _ rfl
  have r5 := hB.cell 5 _ rfl
  have r6 := hB.cell 6 _ rfl
  have r7 := hB.cell 7 _ rfl
  have r8 := hB.cell 8 _ rfl
  have r9 := hB.cell 9 _ rfl
  have r10 := hB.cell 10 _ rfl
  have r11 := hB.cell 11 _ rfl
  go_wp2_with fail
  exact bodyPost_ret (v := mem 1 3 1 1 1 (-1) 13 2 nil 0 nil nil) (by simp [results, Try.results30, go_sem, r0, r1, r2, r3, r4, r5, r6, r7, r8, r9, r10, r11]) rfl ⟨rfl, HM2.out.2.2.trans (hO.below _ (by omega))⟩
end Go.Proofs.Ytfpgklhbghahoaa
