/- Merged texts: El9, El10, Ev1, Ev2, Ev3, Ev4, Ev5, Ev6. -/
import Derived.Test.YtfpgklhbghahoaaVo5
import Derived.ChangeSlices
import Derived.Deep.MidRow
import Derived.Deep.Slices
import Derived.Deep.Fields
import Derived.Lib.SmallJoins
import Derived.Outline
/- Election: the law's example. -/
namespace Go.Proofs.Ytfpgklhbghahoaa
open Go.ChangeShapes Go.WideShapes Go.ChangeAt Go.RowKit Go.Deep
set_option linter.unusedVariables false
set_option linter.unusedSimpArgs false
theorem new13 (w : World) : Calls Try.prog 9 #[.int .i64 1, .int .i64 3] w fun e w' => e = .returned (.tuple #[m0, .int .i64 0]) ∧ Below w.heap.size w w' := new_any 1 3 w
theorem new33 (w : World) : Calls Try.prog 9 #[.int .i64 3, .int .i64 3] w fun e w' => e = .returned (.tuple #[mem 0 0 0 0 0 0 0 0 nil 0 nil nil, .int .i64 1]) ∧ Below w.heap.size w w' := new_any 3 3 w
/-- the boxes so far, each with a member's cells; the ranges so far -/
def AK (w : World) (l r : List (Nat × List Value)) (W : World) : Prop := (∀ x ∈ l, BoxN 12 W x.1 x.2) ∧ (∀ x ∈ r, W.rangeAt x.1 0 x.2 ∧ x.1 < W.heap.size) ∧ Below w.heap.size w W
theorem range_keep {w W : World} {g : Nat} {cs : List Value} (h : w.rangeAt g 0 cs ∧ g < w.heap.size) (hb : Below w.heap.size w W) : W.rangeAt g 0 cs ∧ g < W.heap.size := ⟨fun j v hv => (hb.cell (p := ⟨g, 0 + j, none⟩) h.2).trans (h.1 j v hv), Nat.lt_of_lt_of_le h.2 hb.size⟩
theorem AK.keep {w : World} {l r : List (Nat × List Value)} {W W' : World} (h : AK w l r W) (hb : Below W.heap.size W W') : AK w l r W' := ⟨fun x hx => (h.1 x hx).keep hb, fun x hx => range_keep (h.2.1 x hx) hb, h.2.2.trans (hb.mono h.2.2.size)⟩
theorem AK.more {w : World} {l r : List (Nat × List Value)} {W : World} {g : Nat} {cs : List Value} (h : AK w l r W) (h1 : W.rangeAt g 0 cs) (h2 : g < W.heap.size) : AK w l ((g, cs) :: r) W :=
  ⟨h.1, fun x hx => by rcases List.mem_cons.1 hx with rfl | hx; exact ⟨h1, h2⟩; exact h.2.1 x hx, h.2.2⟩
theorem AK.box {w : World} {l r : List (Nat × List Value)} {W : World} (h : AK w l r W) : AK w ((W.heap.size, zL) :: l) r (W.alloc (.cells zL.toArray 25)) := by
  have hb : Below W.heap.size W (W.alloc (.cells zL.toArray 25)) := (Below.refl _ _).alloc (Nat.le_refl _) _
  refine ⟨fun x hx => ?_, fun x hx => range_keep (h.2.1 x hx) hb, h.2.2.trans (hb.mono h.2.2.size)⟩
  rcases List.mem_cons.1 hx with rfl | hx
  · exact BoxN.new W _ 12 _ rfl
  · exact (h.1 x hx).keep hb
theorem AK.put {w : World} {l r : List (Nat × List Value)} {W0 W W' : World} {cs vs : List Value} (h0 : AK w l r W0) (h : AK w ((W0.heap.size, cs) :: l) r W) (h1 : BoxN 12 W' W0.heap.size vs) (h2 : Only W W' W0.heap.size) : AK w ((W0.heap.size, vs) :: l) r W' := by
  refine ⟨fun x hx => ?_, fun x hx => ?_, h.2.2.trans (h2.below _ h0.2.2.size)⟩
  · rcases List.mem_cons.1 hx with rfl | hx
    · exact h1
    · exact (h.1 x (List.mem_cons_of_mem _ hx)).other h2 (by have := (h0.1 x hx).1.lt; omega)
  · have hx0 := h0.2.1 x hx
    have hx1 := h.2.1 x hx
    exact ⟨rangeAt.other hx1.1 h2 (by have := hx0.2; omega), by rw [h2.size]; exact hx1.2⟩
theorem AK.b0 {w : World} {a : Nat} {cs : List Value} {l r : List (Nat × List Value)} {W : World} (h : AK w ((a, cs) :: l) r W) : BoxN 12 W a cs := h.1 _ (List.mem_cons_self ..)
theorem AK.tl {w : World} {a : Nat × List Value} {l r : List (Nat × List Value)} {W : World} (h : AK w (a :: l) r W) : AK w l r W := ⟨fun x hx => h.1 x (List.mem_cons_of_mem _ hx), h.2⟩
theorem AK.r0 {w : World} {a : Nat} {cs : List Value} {l r : List (Nat × List Value)} {W : World} (h : AK w l ((a, cs) :: r) W) (j : Nat) (v : Value) (hv : cs[j]? = some v) : W.cell? ⟨a, j, none⟩ = some v := by
  have := (h.2.1 _ (List.mem_cons_self ..)).1 j v hv
  rwa [Nat.zero_add] at this
theorem AK.rtl {w : World} {a : Nat × List Value} {l r : List (Nat × List Value)} {W : World} (h : AK w l (a :: r) W) : AK w l r W := ⟨h.1, fun x hx => h.2.1 x (List.mem_cons_of_mem _ hx), h.2.2⟩
theorem camp_call (w : World) : Calls Try.prog 24 #[m0] w fun e w' => ∃ g cap, e = .returned (.tuple #[m1, .slice (some ⟨g, 0, none⟩) 2 cap]) ∧ w'.rangeAt g 0 (msgs [0, 2]) ∧ g < w'.heap.size ∧ Below w.heap.size w w' := by
  refine (campaign_ex w).mono ?_
  rintro e w' ⟨g, cap, rfl, ho, hb⟩
  refine ⟨g, cap, rfl, fun j v hv => ?_, (ho.lt g rfl).2, hb⟩
  have := ho.cells (g := g) rfl j v hv
  by_cases h0 : j = 0 <;> simpa [Addr.add, h0] using this
theorem AK.start {w w1 : World} (hb : Below w.heap.size w w1) : AK w [] [] w1 := ⟨fun x hx => (by cases hx), fun x hx => (by cases hx), hb⟩
set_option maxRecDepth 100000 in
set_option maxHeartbeats 4000000 in
theorem awake_any (w : World) : Calls Try.prog 14 #[] w fun e w' => e = .returned (.bool true) ∧ Below w.heap.size w w' := by
  have hf1 : ∀ w, (Instr.field 25 (mem 1 3 2 (-1) 0 (-1) 13 0 nil 0 nil nil) 4).run Try.prog w = .ok (.int .i64 0) w := fun w => by kernel_rfl
  have hf2 : ∀ w, (Instr.field 25 (mem 1 3 1 1 1 (-1) 13 2 nil 0 nil nil) 4).run Try.prog w = .ok (.int .i64 1) w := fun w => by kernel_rfl
  go_enter Try.func14, Try.ntmps14
  go_wp2_with fail
  refine (new13 _).mono ?_
  rintro e w1 ⟨rfl, hb1⟩
  have HA1 := Lib.hid (AK.start hb1)
  clear hb1
  have HX := Lib.hid (HA1.out.box)
  have hX := HX.out.b0
  go_wp2_with (with_reducible refine wpList_box_store 25 1 (.tmp 14) w1.heap.size zL (memL 1 3 0 (-1) 0 (-1) 13 0 nil 0 nil nil) _ _ _ _ _ _ ?_ ?_ hX (memOk _ _ _ _ _ _ _ _ _ _ _ _ _ _ _ _ _ _) wideMem ?_)
  · rfl
  · rfl
  rintro w2 hB hO
  have HA2 := Lib.hid (AK.put HA1.out HX.out hB hO)
  clear HA1 HX hX hB hO
  go_wp2_with fail
  refine (new33 _).mono ?_
  rintro e w3 ⟨rfl, hb⟩
  have HA3 := Lib.hid (HA2.out.keep hb)
  clear hb HA2
  have HX := Lib.hid (HA3.out.box)
  have hX := HX.out.b0
  go_wp2_with (with_reducible refine wpList_box_store 25 3 (.tmp 18) w3.heap.size zL (memL 0 0 0 0 0 0 0 0 nil 0 nil nil) _ _ _ _ _ _ ?_ ?_ hX (memOk _ _ _ _ _ _ _ _ _ _ _ _ _ _ _ _ _ _) wideMem ?_)
  · rfl
  · rfl
  rintro w4 hB hO
  have HA4 := Lib.hid (AK.put HA3.out HX.out hB hO)
  clear HA3 HX hX hB hO
  have hL := HA4.out.tl.b0
  go_wp2_with (with_reducible refine wpList_box_load 25 1 w1.heap.size (memL 1 3 0 (-1) 0 (-1) 13 0 nil 0 nil nil) _ _ _ _ _ _ ?_ hL wideMem ?_)
  · rfl
  clear hL
  go_wp2_with fail
  refine (camp_call _).mono ?_
  rintro e w5 ⟨gl, cl, rfl, hr, hl, hb⟩
  have HA5 := Lib.hid ((HA4.out.keep hb).more hr hl)
  clear hb hr hl HA4
  have HX := Lib.hid (HA5.out.box)
  have hX := HX.out.b0
  go_wp2_with (with_reducible refine wpList_box_store 25 5 (.tmp 23) w5.heap.size zL (memL 1 3 1 1 1 (-1) 13 2 nil 0 nil nil) _ _ _ _ _ _ ?_ ?_ hX (memOk _ _ _ _ _ _ _ _ _ _ _ _ _ _ _ _ _ _) wideMem ?_)
  · rfl
  · rfl
  rintro w6 hB hO
  have HA6 := Lib.hid (AK.put HA5.out HX.out hB hO)
  clear HA5 HX hX hB hO
  have hL := HA6.out.tl.tl.b0
  go_wp2_with (with_reducible refine wpList_box_load 25 1 w1.heap.size (memL 1 3 0 (-1) 0 (-1) 13 0 nil 0 nil nil) _ _ _ _ _ _ ?_ hL wideMem ?_)
  · rfl
  clear hL
  go_wp2_with fail
  refine (vote_ex1 _).mono ?_
  rintro e w7 ⟨ga, rfl, hr, hl, hb⟩
  have HA7 := Lib.hid ((HA6.out.keep hb).more hr hl)
  clear hb hr hl HA6
  have HX := Lib.hid (HA7.out.box)
  have hX := HX.out.b0
  go_wp2_with (with_reducible refine wpList_box_store 25 7 (.tmp 29) w7.heap.size zL (memL 1 3 1 0 0 (-1) 13 0 nil 0 nil nil) _ _ _ _ _ _ ?_ ?_ hX (memOk _ _ _ _ _ _ _ _ _ _ _ _ _ _ _ _ _ _) wideMem ?_)
  · rfl
  · rfl
  rintro w8 hB hO
  have HA8 := Lib.hid (AK.put HA7.out HX.out hB hO)
  clear HA7 HX hX hB hO
  have hL := HA8.out.b0
  go_wp2_with (with_reducible refine wpList_box_load 25 7 w7.heap.size (memL 1 3 1 0 0 (-1) 13 0 nil 0 nil nil) _ _ _ _ _ _ ?_ hL wideMem ?_)
  · rfl
  clear hL
  go_wp2_with fail
  refine (vote_ex2 _).mono ?_
  rintro e w9 ⟨gb, rfl, hr, hl, hb⟩
  have HA9 := Lib.hid ((HA8.out.keep hb).more hr hl)
  clear hb hr hl HA8
  have HX := Lib.hid (HA9.out.box)
  have hX := HX.out.b0
  go_wp2_with (with_reducible refine wpList_box_store 25 9 (.tmp 35) w9.heap.size zL (memL 1 3 1 0 0 (-1) 13 0 nil 0 nil nil) _ _ _ _ _ _ ?_ ?_ hX (memOk _ _ _ _ _ _ _ _ _ _ _ _ _ _ _ _ _ _) wideMem ?_)
  · rfl
  · rfl
  rintro w10 hB hO
  have HA10 := Lib.hid (AK.put HA9.out HX.out hB hO)
  clear HA9 HX hX hB hO
  have hL := HA10.out.tl.tl.b0
  go_wp2_with (with_reducible refine wpList_box_load 25 5 w5.heap.size (memL 1 3 1 1 1 (-1) 13 2 nil 0 nil nil) _ _ _ _ _ _ ?_ hL wideMem ?_)
  · rfl
  clear hL
  go_wp2_with fail
  refine (voted_ex _).mono ?_
  rintro e w11 ⟨g, h, rfl, hr, hr2, hl, hl2, _, _, hb⟩
  have HA11 := Lib.hid (((HA10.out.keep hb).more hr hl).more hr2 hl2)
  clear hb hr hl hr2 hl2 HA10
  have HX := Lib.hid (HA11.out.box)
  have hX := HX.out.b0
  go_wp2_with (with_reducible refine wpList_box_store 25 11 (.tmp 39) w11.heap.size zL (pL g h) _ _ _ _ _ _ ?_ ?_ hX (memOk _ _ _ _ _ _ _ _ _ _ _ _ _ _ _ _ _ _) wideMem ?_)
  · rfl
  · rfl
  rintro w12 hB hO
  have HA12 := Lib.hid (AK.put HA11.out HX.out hB hO)
  clear HA11 HX hX hB hO
  have c1 := HA12.out.tl.tl.tl.tl.tl.b0.cell 6 _ rfl
  have c5 := HA12.out.tl.tl.tl.b0.cell 2 _ rfl
  have d1 := HA12.out.rtl.rtl.rtl.rtl.r0 1 (.int .i64 0) rfl
  have d2 := HA12.out.rtl.rtl.rtl.rtl.r0 10 (.int .i64 2) rfl
  have e1 := HA12.out.rtl.rtl.rtl.r0 8 (.bool true) rfl
  have e2 := HA12.out.rtl.rtl.r0 8 (.bool false) rfl
  have p4 := HA12.out.b0.cell 4 _ rfl
  have p5 := HA12.out.b0.cell 5 _ rfl
  go_wp2_with fail
  refine (maj4 _).mono ?_
  rintro e w13 ⟨rfl, rfl⟩
  clear c1 c5 d1 d2 e1 e2
  have hL := HA12.out.b0
  go_wp2_with (with_reducible refine wpList_box_load_g 25 11 w11.heap.size (pL g h) _ _ _ _ _ _ _ ?_ hL wideMem ?_ ?_)
  · rfl
  clear hL
  go_wp2_with fail
  refine (valid_ex g h _ (HA12.out.2.1 _ (List.mem_cons_of_mem _ (List.mem_cons_self ..))).1 (HA12.out.2.1 _ (List.mem_cons_of_mem _ (List.mem_cons_self ..))).2 (HA12.out.2.1 _ (List.mem_cons_self ..)).1 (HA12.out.2.1 _ (List.mem_cons_self ..)).2).mono ?_
  rintro e w14 ⟨rfl, hb⟩
  have HA14 := Lib.hid (HA12.out.keep hb)
  clear hb HA12 p4 p5
  have hL := HA14.out.b0
  go_wp2_with (with_reducible refine wpList_box_load_g 25 11 w11.heap.size (pL g h) _ _ _ _ _ _ _ ?_ hL wideMem ?_ ?_)
  · rfl
  clear hL
  go_wp2_with fail
  refine (step_p g h _ (HA14.out.2.1 _ (List.mem_cons_of_mem _ (List.mem_cons_self ..))).1 (HA14.out.2.1 _ (List.mem_cons_of_mem _ (List.mem_cons_self ..))).2 (HA14.out.2.1 _ (List.mem_cons_self ..)).1 (HA14.out.2.1 _ (List.mem_cons_self ..)).2).mono ?_
  rintro e w15 ⟨rfl, hb⟩
  have HA15 := Lib.hid (HA14.out.keep hb)
  clear hb HA14
  have hL := HA15.out.tl.tl.tl.b0
  go_wp2_with (with_reducible refine wpList_box_load_g 25 5 w5.heap.size (memL 1 3 1 1 1 (-1) 13 2 nil 0 nil nil) _ _ _ _ _ _ _ ?_ hL wideMem ?_ ?_)
  · rfl
  clear hL
  go_wp2_with fail
  refine (step_c _).mono ?_
  rintro e w16 ⟨rfl, hb⟩
  have HA16 := Lib.hid (HA15.out.keep hb)
  clear hb HA15
  go_wp2_with fail
  go_ret
  exact ⟨rfl, HA16.out.2.2⟩
end Go.Proofs.Ytfpgklhbghahoaa
/- Election: the law ElectionNew. -/
namespace Go.Proofs.Ytfpgklhbghahoaa
open Go.ChangeShapes Go.WideShapes Go.ChangeAt Go.RowKit Go.Deep
set_option linter.unusedVariables false
set_option linter.unusedSimpArgs false
set_option maxHeartbeats 400000 in
theorem numbers_nil (w : World) : Calls Try.prog 29 #[nil, nil] w fun e w' => e = .returned (.bool true) ∧ w = w' := by
  go_enter Try.func29, Try.ntmps29
  go_wp2_with fail
  go_loop [5] (fun i => i = .int .i64 0) (fun i => 0)
  case atStart => rfl
  case round =>
    obtain rfl := hrel
    go_wp2_with fail
    go_ret
    exact ⟨rfl, rfl⟩
set_option maxHeartbeats 400000 in
theorem sameLog_nil (w : World) : Calls Try.prog 25 #[nil, nil] w fun e w' => e = .returned (.bool true) ∧ w = w' := by
  go_enter Try.func25, Try.ntmps25
  go_wp2_with fail
  go_loop [5] (fun i => i = .int .i64 0) (fun i => 0)
  case atStart => rfl
  case round =>
    obtain rfl := hrel
    go_wp2_with fail
    go_ret
    exact ⟨rfl, rfl⟩
set_option maxRecDepth 100000 in
set_option maxHeartbeats 2000000 in
theorem same_nil (id sz tm vt rl ld ti vs cm : Int) (w : World) : Calls Try.prog 11 #[mem id sz tm vt rl ld ti vs nil cm nil nil, mem id sz tm vt rl ld ti vs nil cm nil nil] w fun e w' => e = .returned (.bool true) ∧ Below w.heap.size w w' := by
  have hb : Below w.heap.size w ((w.alloc (.cells (memL id sz tm vt rl ld ti vs nil cm nil nil).toArray 25)).alloc (.cells (memL id sz tm vt rl ld ti vs nil cm nil nil).toArray 25)) := ((Below.refl _ _).alloc (Nat.le_refl _) _).alloc (by simp) _
  go_enter Try.func11, Try.ntmps11
  go_wp2_with (first
    | (go_at_call 29; refine (numbers_nil _).mono ?_; rintro e w1 ⟨rfl, rfl⟩)
    | (go_at_call 25; refine (sameLog_nil _).mono ?_; rintro e w1 ⟨rfl, rfl⟩))
  go_ret
  exact ⟨rfl, hb⟩
theorem newV_form (id sz : Int) : ∃ a b c d e f g h cm k : Int, newV id sz = .tuple #[mem a b c d e f g h nil cm nil nil, .int .i64 k] := by
  unfold newV
  split
  · exact ⟨_, _, _, _, _, _, _, _, _, _, rfl⟩
  · exact ⟨_, _, _, _, _, _, _, _, _, _, rfl⟩
theorem new_is {id sz a b c d e f g h cm k : Int} (hv : newV id sz = .tuple #[mem a b c d e f g h nil cm nil nil, .int .i64 k]) (w : World) :
    Calls Try.prog 9 #[.int .i64 id, .int .i64 sz] w fun e' w' => e' = .returned (.tuple #[mem a b c d e f g h nil cm nil nil, .int .i64 k]) ∧ Below w.heap.size w w' := by
  rw [← hv]; exact new_any id sz w
theorem rnew_is {id sz a b c d e f g h cm k : Int} (hv : newV id sz = .tuple #[mem a b c d e f g h nil cm nil nil, .int .i64 k]) (w : World) :
    Calls Try.prog 10 #[.int .i64 id, .int .i64 sz] w fun e' w' => e' = .returned (.tuple #[mem a b c d e f g h nil cm nil nil, .int .i64 k]) ∧ Below w.heap.size w w' := by
  rw [← hv]; exact rnew_any id sz w
set_option maxRecDepth 100000 in
set_option maxHeartbeats 4000000 in
theorem law_new (id sz : Int) (w : World) : Calls Try.prog 3 #[.int .i64 id, .int .i64 sz] w fun e w' => e = .returned (.bool true) ∧ Below w.heap.size w w' := by
  obtain ⟨a, b, c, d, e, f, g, h, cm, k, hv⟩ := newV_form id sz
  have HV := Lib.hid hv
  clear hv
  go_enter Try.func3, Try.ntmps3
  go_wp2_with fail
  refine (new_is HV.out _).mono ?_
  rintro e' w1 ⟨rfl, hb1⟩
  have HA1 := Lib.hid (AK.start hb1)
  clear hb1
  have HX := Lib.hid (HA1.out.box)
  have hX := HX.out.b0
  go_wp2_with (with_reducible refine wpList_box_store 25 5 (.tmp 13) w1.heap.size zL (memL a b c d e f g h nil cm nil nil) _ _ _ _ _ _ ?_ ?_ hX (memOk _ _ _ _ _ _ _ _ _ _ _ _ _ _ _ _ _ _) wideMem ?_)
  · rfl
  · rfl
  rintro w2 hB hO
  have HA2 := Lib.hid (AK.put HA1.out HX.out hB hO)
  clear HA1 HX hX hB hO
  go_wp2_with fail
  refine (rnew_is HV.out _).mono ?_
  rintro e' w3 ⟨rfl, hb⟩
  have HA3 := Lib.hid (HA2.out.keep hb)
  clear hb HA2
  have HX := Lib.hid (HA3.out.box)
  have hX := HX.out.b0
  go_wp2_with (with_reducible refine wpList_box_store 25 7 (.tmp 19) w3.heap.size zL (memL a b c d e f g h nil cm nil nil) _ _ _ _ _ _ ?_ ?_ hX (memOk _ _ _ _ _ _ _ _ _ _ _ _ _ _ _ _ _ _) wideMem ?_)
  · rfl
  · rfl
  rintro w4 hB hO
  have HA4 := Lib.hid (AK.put HA3.out HX.out hB hO)
  clear HA3 HX hX hB hO
  have hL5 := HA4.out.tl.b0
  have hL7 := HA4.out.b0
  go_wp2_with (first
    | (with_reducible refine wpList_box_load 25 5 w1.heap.size (memL a b c d e f g h nil cm nil nil) _ _ _ _ _ _ ?_ hL5 wideMem ?_)
    | (with_reducible refine wpList_box_load 25 7 w3.heap.size (memL a b c d e f g h nil cm nil nil) _ _ _ _ _ _ ?_ hL7 wideMem ?_))
  · rfl
  · rfl
  go_wp2_with fail
  refine (same_nil a b c d e f g h cm _).mono ?_
  rintro e' w5 ⟨rfl, hb⟩
  have HA5 := Lib.hid (HA4.out.keep hb)
  clear hb HA4 hL5 hL7
  go_wp2_with fail
  refine (maj_any sz _).mono ?_
  rintro e' w6 ⟨rfl, rfl⟩
  go_wp2_with fail
  refine (rmaj_any sz _).mono ?_
  rintro e' w7 ⟨rfl, rfl⟩
  go_wp2_with fail
  refine (awake_any _).mono ?_
  rintro e' w8 ⟨rfl, hb⟩
  have HA8 := Lib.hid (HA5.out.keep hb)
  go_wp2_with fail
  go_ret
  exact ⟨rfl, HA8.out.2.2⟩
end Go.Proofs.Ytfpgklhbghahoaa
/- Election: values that came in: ints, a log, a member; the cells of a struct are single cells. -/
namespace Go.Proofs.Ytfpgklhbghahoaa
open Go.ChangeShapes Go.WideShapes Go.ChangeAt Go.RowKit Go.ChangeMaps Go.Joins Go.Deep
set_option linter.unusedVariables false
set_option linter.unusedSimpArgs false
/-- a slice of ints that came in: nil, empty, or cells that read as xs -/
def IntArg (w : World) (v : Value) : Prop :=
  v = .slice none 0 0 ∨ (∃ a cap, v = .slice (some a) 0 cap) ∨ ∃ (B o cap : Nat) (xs : List Int), v = .slice (some ⟨B, o, none⟩) xs.length cap ∧ B < w.heap.size ∧ xs.length ≤ cap ∧ 0 < xs.length ∧ xs.length ≤ 9223372036854775807 ∧
    (∀ x ∈ xs, (Lit.int .i64 x).wf = true) ∧ ∀ j (h : j < xs.length), w.cell? ⟨B, o + j, none⟩ = some (.int .i64 xs[j])
theorem addr_plain {w : World} {a : Addr} {v : Value} (h : w.cell? (a.add 0) = some v) : ∃ B o, a = ⟨B, o, none⟩ := by
  have e : a.add 0 = a := by simp [Addr.add]
  rw [e] at h
  obtain ⟨B, o, s⟩ := a
  cases s with
  | none => exact ⟨B, o, rfl⟩
  | some s =>
    unfold World.cell? at h
    split at h
    · simp at h
    · simp at h
theorem addr_add (B o j : Nat) : (⟨B, o, none⟩ : Addr).add j = ⟨B, o + j, none⟩ := by
  by_cases hj : j = 0 <;> simp [Addr.add, hj]
theorem intArg_trod {H : Type} {enc : TypeId × Value → H} {P : Program} {w : World} {t e : TypeId} {v : Value} {x : DataW H × List MemPlace} {fuel : Nat} (ht : P.underlying t = some (.slice e)) (he : P.underlying e = some (.int .i64)) (hc : P.cellsOf e = 1)
    (hf : DataW.trod enc P w 0 (fun _ => true) true fuel t [v] = some x) : IntArg w v := by
  rcases open_ints ht he hc hf with ⟨hcs, hx⟩ | ⟨a, len, cap, zs, hcs, _, hl, hm, hz, hx, hcell, hws⟩
  · exact .inl (List.cons.inj hcs).1
  · obtain rfl := (List.cons.inj hcs).1
    simp only [if_true] at hz
    by_cases h0 : len = 0
    · subst h0; exact .inr (.inl ⟨_, _, rfl⟩)
    · have hc0 := hcell 0 (by omega)
      obtain ⟨B, o, rfl⟩ := addr_plain hc0
      have hB : B < w.heap.size := by
        rcases Nat.lt_or_ge B w.heap.size with h | h
        · exact h
        · rw [addr_add] at hc0
          simp [World.cell?, Array.getElem?_eq_none h] at hc0
      have hlen : (zs.take len).length = len := by simp; omega
      unfold maxLen at hm
      refine .inr (.inr ⟨B, o, cap, zs.take len, by rw [hlen], hB, by omega, by omega, by omega, fun x hx => hws x (List.mem_of_mem_take hx), fun j hj => ?_⟩)
      have hj' : j < zs.length := by omega
      have := hcell j hj'
      rw [addr_add] at this
      rw [this]
      simp [hj']
theorem intArg_of {H : Type} {enc : TypeId × Value → H} {P : Program} {w : World} {t e : TypeId} {v : Value} {d : DataW H} {ps : List MemPlace} {r : Reach} {b0 : Nat} (ht : P.underlying t = some (.slice e)) (he : P.underlying e = some (.int .i64)) (hc : P.cellsOf e = 1)
    (hv : Value.okWide P w r b0 t v) (h : DataW.Trod enc P w 0 (fun _ => true) true t v d ps) : IntArg w v := by
  obtain ⟨a, len, cap, rfl⟩ := okWide_slice ht hv
  obtain ⟨fuel, hf⟩ := h
  exact intArg_trod ht he hc (by simpa [Value.cells] using hf)

def cover (P : Program) (p : TypeId → Bool) : List Field → Nat → Nat → Bool
  | [], o, m => o == m
  | f :: r, o, m => f.offset == o && p f.type && cover P p r (o + P.cellsOf f.type) m
def leafOK (P : Program) : Nat → TypeId → Bool
  | 0, _ => false
  | n + 1, t => match P.underlying t with
    | some .bool => true
    | some (.int _) => true
    | some .string => true
    | some (.slice _) => true
    | some (.struct fs) => cover P (leafOK P n) fs.toList 0 (P.cellsOf t)
    | _ => false
theorem cover_all {P : Program} {p : TypeId → Bool} {cs : List Value} {good : Value → Prop} : ∀ (l : List Field) (o m : Nat), cover P p l o m = true → m = cs.length → o ≤ m →
    (∀ f ∈ l, p f.type = true → ∀ v ∈ (cs.drop f.offset).take (P.cellsOf f.type), good v) → ∀ v ∈ cs.drop o, good v
  | [], o, m, h, hm, ho, hf => by
    simp [cover] at h
    subst h
    rw [List.drop_eq_nil_of_le (by omega)]
    intro v hv; cases hv
  | f :: r, o, m, h, hm, ho, hf => by
    simp only [cover, Bool.and_eq_true, beq_iff_eq] at h
    obtain ⟨⟨h1, h2⟩, h3⟩ := h
    intro v hv
    rw [← List.take_append_drop (P.cellsOf f.type) (cs.drop o), List.mem_append] at hv
    rcases hv with hv | hv
    · exact hf f List.mem_cons_self h2 v (by rw [h1]; exact hv)
    · rw [List.drop_drop] at hv
      by_cases hle : o + P.cellsOf f.type ≤ m
      · exact cover_all r _ m h3 hm hle (fun g hg => hf g (List.mem_cons_of_mem _ hg)) v hv
      · rw [List.drop_eq_nil_of_le (by omega)] at hv; cases hv
theorem leaf_one {H : Type} {enc : TypeId × Value → H} {P : Program} {w : World} {base : Nat} {spare : Nat → Bool} {held : Bool} : ∀ (n : Nat) (t : TypeId), leafOK P n t = true → ∀ (fuel : Nat) (cs : List Value) (x : DataW H × List MemPlace), DataW.trod enc P w base spare held fuel t cs = some x → ∀ v ∈ cs, v.oneCell' = true
  | 0, t, h => by simp [leafOK] at h
  | n + 1, t, h => by
    intro fuel cs x hx
    unfold leafOK at h
    split at h
    · rename_i hu
      obtain ⟨b, rfl, _⟩ := DataW.trod_bool hu hx
      simp [Value.oneCell']
    · rename_i hu
      obtain ⟨b, rfl, _⟩ := DataW.trod_int hu hx
      simp [Value.oneCell']
    · rename_i hu
      obtain ⟨b, rfl, _⟩ := DataW.trod_string hu hx
      simp [Value.oneCell']
    · rename_i hu
      rcases DataW.trod_slice hu hx with ⟨rfl, _⟩ | ⟨a, len, cap, el, re, n', _, rfl, _⟩ <;> simp [Value.oneCell']
    · rename_i fs hu
      obtain ⟨xs, n', _, _, hlen, hxs, hf⟩ := DataW.trod_struct hu hx
      have := cover_all (good := fun v => v.oneCell' = true) (cs := cs) fs.toList 0 _ h hlen.symm (Nat.zero_le _) (fun f hmem hp v hv => by
        obtain ⟨i, hi, he⟩ := List.mem_iff_getElem.1 hmem
        have hfi : fs[i]? = some f := by rw [← Array.getElem?_toList, List.getElem?_eq_getElem hi, he]
        have h1 := hf i f hfi
        have hil : i < xs.length := by rw [hxs]; simpa using hi
        rw [List.getElem?_eq_getElem hil] at h1
        exact leaf_one n f.type hp n' _ _ h1 v hv)
      simpa using this
    · simp at h

/-- the cells of an entry: its term, its time, and what else -/
def Ent (cs : List Value) : Prop := cs.length = 82 ∧ (∀ v ∈ cs, v.oneCell' = true) ∧ ∃ (t s : Int) (r : List Value), cs = .int .i64 t :: .int .i64 s :: r
def stp : List Value → Int
  | _ :: .int _ s :: _ => s
  | _ => 0
/-- a log that came in -/
def EntArg (w : World) (v : Value) (es : List (List Value)) : Prop :=
  (es = [] ∧ ∃ a cap, v = .slice a 0 cap) ∨ (∃ (B o cap : Nat), v = .slice (some ⟨B, o, none⟩) es.length cap ∧ B < w.heap.size ∧ 0 < es.length ∧ es.length ≤ 9223372036854775807 ∧
    ∀ j (h : j < es.length), w.rangeAt B (o + j * 82) es[j] ∧ Ent es[j])
theorem EntArg.below {w w' : World} {v : Value} {es : List (List Value)} (h : EntArg w v es) (hb : Below w.heap.size w w') : EntArg w' v es := by
  rcases h with h | ⟨B, o, cap, h1, h2, h3, h4, h5⟩
  · exact .inl h
  · exact .inr ⟨B, o, cap, h1, Nat.lt_of_lt_of_le h2 hb.size, h3, h4, fun j hj => ⟨fun i u hu => by rw [hb.cell (p := ⟨B, o + j * 82 + i, none⟩) h2]; exact (h5 j hj).1 i u hu, (h5 j hj).2⟩⟩
theorem leaf74 : leafOK Try.prog 8 73 = true := by kernel_rfl
theorem cells74 : Try.prog.cellsOf 73 = 82 := by kernel_rfl
set_option maxRecDepth 100000 in
theorem ent_of_trod {H : Type} {enc : TypeId × Value → H} {w : World} {fuel : Nat} {cs : List Value} {x : DataW H × List MemPlace} {base : Nat} {spare : Nat → Bool} {held : Bool} (h : DataW.trod enc Try.prog w base spare held fuel 73 cs = some x) : Ent cs := by
  refine ⟨?_, leaf_one 8 _ leaf74 _ _ _ h, ?_⟩
  · obtain ⟨_, _, _, _, hl, _⟩ := DataW.trod_struct Try.underlying73 h
    rw [hl, cells74]
  · obtain ⟨xs, n', _, _, hl, hxs, hf⟩ := DataW.trod_struct Try.underlying73 h
    rw [cells74] at hl
    have hx5 : xs.length = 5 := hxs
    have h0 := hf 0 { name := "Term", type := 3, offset := 0, embedded := false, tag := "", pkgPath := "", byteOffset := 0 } rfl
    have h1 := hf 1 { name := "Stamp", type := 3, offset := 1, embedded := false, tag := "", pkgPath := "", byteOffset := 8 } rfl
    rw [List.getElem?_eq_getElem (by omega)] at h0 h1
    have e1 : Try.prog.cellsOf 3 = 1 := by kernel_rfl
    dsimp only at h0 h1
    rw [e1] at h0 h1
    obtain ⟨t, ht, _⟩ := DataW.trod_int Try.underlying3 h0
    obtain ⟨s, hs, _⟩ := DataW.trod_int Try.underlying3 h1
    match cs, hl with
    | a :: b :: r, _ =>
      simp at ht hs
      exact ⟨t, s, r, by rw [ht, hs]⟩
theorem entArg_trod {H : Type} {enc : TypeId × Value → H} {w : World} {v : Value} {x : DataW H × List MemPlace} {fuel : Nat} (hf : DataW.trod enc Try.prog w 0 (fun _ => true) true fuel 22 [v] = some x) : ∃ es, EntArg w v es := by
  rcases DataW.trod_slice Try.underlying22 hf with ⟨hcs, hx⟩ | ⟨a, len, cap, el, re, n, _, hcs, hx, _, hl, hm, hel, hi, _⟩
  · exact ⟨[], .inl ⟨rfl, none, 0, (List.cons.inj hcs).1⟩⟩
  · obtain rfl := (List.cons.inj hcs).1
    by_cases h0 : len = 0
    · subst h0; exact ⟨[], .inl ⟨rfl, _, _, rfl⟩⟩
    · rw [cells74] at hi
      have key : ∀ i, i < len → ∃ cs y, w.cells? 0 (a.add (i * 82)) 82 = some cs ∧ DataW.trod enc Try.prog w 0 (fun _ => true) true n 73 cs = some y := by
        intro i hil
        have := hi i hil
        rw [List.getElem?_eq_getElem (by omega)] at this
        obtain ⟨cs, h1, h2⟩ := Option.bind_eq_some_iff.1 this
        exact ⟨cs, _, h1, h2⟩
      have fn : ∀ i : Nat, ∃ cs : List Value, i < len → w.cells? 0 (a.add (i * 82)) 82 = some cs ∧ Ent cs := fun i => by
        by_cases hil : i < len
        · obtain ⟨cs, y, h1, h2⟩ := key i hil
          exact ⟨cs, fun _ => ⟨h1, ent_of_trod h2⟩⟩
        · exact ⟨[], fun h => absurd h hil⟩
      obtain ⟨F, hF⟩ := Classical.axiomOfChoice fn
      have hc0 : ∃ u, w.cell? (a.add 0) = some u := by
        obtain ⟨h1, h2⟩ := hF 0 (by omega)
        obtain ⟨_, hcl, hat⟩ := World.cells?_some h1
        have h3 := hat 0 (by omega)
        obtain ⟨hl2, _, _⟩ := h2
        rw [List.getElem?_eq_getElem (by omega)] at h3
        have e : (a.add (0 * 82)).add 0 = a.add 0 := by simp [Addr.add]
        rw [e] at h3
        exact ⟨_, h3⟩
      obtain ⟨u, hu⟩ := hc0
      obtain ⟨B, o, rfl⟩ := addr_plain hu
      have hB : B < w.heap.size := by
        rcases Nat.lt_or_ge B w.heap.size with h | h
        · exact h
        · rw [addr_add] at hu
          simp [World.cell?, Array.getElem?_eq_none h] at hu
      refine ⟨(List.range len).map F, .inr ⟨B, o, cap, by simp, hB, by simp; omega, by simp; unfold maxLen at hm; omega, fun j hj => ?_⟩⟩
      simp at hj
      obtain ⟨h1, h2⟩ := hF j hj
      obtain ⟨_, hcl, hat⟩ := World.cells?_some h1
      simp only [List.getElem_map, List.getElem_range]
      refine ⟨fun i v hv => ?_, h2⟩
      have hil : i < 82 := by
        have := (List.getElem?_eq_some_iff.1 hv).1
        obtain ⟨hl2, _, _⟩ := h2
        omega
      have := hat i hil
      rw [addr_add, addr_add] at this
      rw [this, hv]
section
variable {H : Type} {enc : TypeId × Value → H} {P : Program} {w : World} {base : Nat} {spare : Nat → Bool} {held : Bool}
theorem open_agg12 {r : Reach} {b0 : Nat} {t : TypeId} {f0 f1 f2 f3 f4 f5 f6 f7 f8 f9 f10 f11 : Field} {v : Value} {d : DataW H} {p : List MemPlace} (hs : P.underlying t = some (.struct #[f0, f1, f2, f3, f4, f5, f6, f7, f8, f9, f10, f11])) (hone : oneCellFields P #[f0, f1, f2, f3, f4, f5, f6, f7, f8, f9, f10, f11] = true) (hC : P.cellsOf t = 12)
    (hv : Value.okWide P w r b0 t v) (h : DataW.Trod enc P w base spare held t v d p) :
    ∃ (v0 v1 v2 v3 v4 v5 v6 v7 v8 v9 v10 v11 : Value) (y0 y1 y2 y3 y4 y5 y6 y7 y8 y9 y10 y11 : DataW H × List MemPlace) (n : Nat), v = .agg #[v0, v1, v2, v3, v4, v5, v6, v7, v8, v9, v10, v11] ∧ DataW.trod enc P w base spare held n f0.type [v0] = some y0 ∧ DataW.trod enc P w base spare held n f1.type [v1] = some y1 ∧ DataW.trod enc P w base spare held n f2.type [v2] = some y2 ∧ DataW.trod enc P w base spare held n f3.type [v3] = some y3 ∧ DataW.trod enc P w base spare held n f4.type [v4] = some y4 ∧ DataW.trod enc P w base spare held n f5.type [v5] = some y5 ∧ DataW.trod enc P w base spare held n f6.type [v6] = some y6 ∧ DataW.trod enc P w base spare held n f7.type [v7] = some y7 ∧ DataW.trod enc P w base spare held n f8.type [v8] = some y8 ∧ DataW.trod enc P w base spare held n f9.type [v9] = some y9 ∧ DataW.trod enc P w base spare held n f10.type [v10] = some y10 ∧ DataW.trod enc P w base spare held n f11.type [v11] = some y11 := by
  obtain ⟨cs, rfl, hsz⟩ := okWide_struct hs hv
  obtain ⟨l⟩ := cs
  match l, hsz.trans hC with
  | [c0, c1, c2, c3, c4, c5, c6, c7, c8, c9, c10, c11], _ =>
    obtain ⟨fuel, hf⟩ := h
    obtain ⟨xs, n, _, hx, _, hlen, hg⟩ := DataW.trod_struct hs hf
    obtain ⟨o0, k0⟩ := hone_of hone 0 f0 rfl
    obtain ⟨o1, k1⟩ := hone_of hone 1 f1 rfl
    obtain ⟨o2, k2⟩ := hone_of hone 2 f2 rfl
    obtain ⟨o3, k3⟩ := hone_of hone 3 f3 rfl
    obtain ⟨o4, k4⟩ := hone_of hone 4 f4 rfl
    obtain ⟨o5, k5⟩ := hone_of hone 5 f5 rfl
    obtain ⟨o6, k6⟩ := hone_of hone 6 f6 rfl
    obtain ⟨o7, k7⟩ := hone_of hone 7 f7 rfl
    obtain ⟨o8, k8⟩ := hone_of hone 8 f8 rfl
    obtain ⟨o9, k9⟩ := hone_of hone 9 f9 rfl
    obtain ⟨o10, k10⟩ := hone_of hone 10 f10 rfl
    obtain ⟨o11, k11⟩ := hone_of hone 11 f11 rfl
    match xs, hlen with
    | [y0, y1, y2, y3, y4, y5, y6, y7, y8, y9, y10, y11], _ =>
      exact ⟨c0, c1, c2, c3, c4, c5, c6, c7, c8, c9, c10, c11, y0, y1, y2, y3, y4, y5, y6, y7, y8, y9, y10, y11, n, rfl, by simpa [Value.cells, o0, k0] using hg 0 f0 rfl, by simpa [Value.cells, o1, k1] using hg 1 f1 rfl, by simpa [Value.cells, o2, k2] using hg 2 f2 rfl, by simpa [Value.cells, o3, k3] using hg 3 f3 rfl, by simpa [Value.cells, o4, k4] using hg 4 f4 rfl, by simpa [Value.cells, o5, k5] using hg 5 f5 rfl, by simpa [Value.cells, o6, k6] using hg 6 f6 rfl, by simpa [Value.cells, o7, k7] using hg 7 f7 rfl, by simpa [Value.cells, o8, k8] using hg 8 f8 rfl, by simpa [Value.cells, o9, k9] using hg 9 f9 rfl, by simpa [Value.cells, o10, k10] using hg 10 f10 rfl, by simpa [Value.cells, o11, k11] using hg 11 f11 rfl⟩
end
/-- a member that came in -/
def MemArg (w : World) (v : Value) (es : List (List Value)) : Prop :=
  ∃ (id sz tm vt rl ld ti vs : Int) (lg : Value) (cm : Int) (nx mt : Value), v = mem id sz tm vt rl ld ti vs lg cm nx mt ∧ EntArg w lg es ∧ IntArg w nx ∧ IntArg w mt ∧ (Lit.int .i64 cm).wf = true ∧ (Lit.int .i64 vs).wf = true
set_option maxRecDepth 100000 in
theorem memArg_of {H : Type} {enc : TypeId × Value → H} {w : World} {v : Value} {d : DataW H} {ps : List MemPlace} {r : Reach} {b0 : Nat}
    (hv : Value.okWide Try.prog w r b0 25 v) (h : DataW.Trod enc Try.prog w 0 (fun _ => true) true 25 v d ps) : ∃ es, MemArg w v es := by
  obtain ⟨v0, v1, v2, v3, v4, v5, v6, v7, v8, v9, v10, v11, y0, y1, y2, y3, y4, y5, y6, y7, y8, y9, y10, y11, n, rfl, t0, t1, t2, t3, t4, t5, t6, t7, t8, t9, t10, t11⟩ := open_agg12 Try.underlying25 (by kernel_rfl) (by kernel_rfl) hv h
  obtain ⟨s0, e0, _, g0⟩ := DataW.trod_int Try.underlying3 t0
  obtain rfl := (List.cons.inj e0).1
  obtain ⟨s1, e1, _, g1⟩ := DataW.trod_int Try.underlying3 t1
  obtain rfl := (List.cons.inj e1).1
  obtain ⟨s2, e2, _, g2⟩ := DataW.trod_int Try.underlying3 t2
  obtain rfl := (List.cons.inj e2).1
  obtain ⟨s3, e3, _, g3⟩ := DataW.trod_int Try.underlying3 t3
  obtain rfl := (List.cons.inj e3).1
  obtain ⟨s4, e4, _, g4⟩ := DataW.trod_int Try.underlying3 t4
  obtain rfl := (List.cons.inj e4).1
  obtain ⟨s5, e5, _, g5⟩ := DataW.trod_int Try.underlying3 t5
  obtain rfl := (List.cons.inj e5).1
  obtain ⟨s6, e6, _, g6⟩ := DataW.trod_int Try.underlying3 t6
  obtain rfl := (List.cons.inj e6).1
  obtain ⟨s7, e7, _, g7⟩ := DataW.trod_int Try.underlying3 t7
  obtain rfl := (List.cons.inj e7).1
  obtain ⟨s9, e9, _, g9⟩ := DataW.trod_int Try.underlying3 t9
  obtain rfl := (List.cons.inj e9).1
  obtain ⟨es, he⟩ := entArg_trod t8
  exact ⟨es, s0, s1, s2, s3, s4, s5, s6, s7, v8, s9, v10, v11, rfl, he, intArg_trod Try.underlying23 Try.underlying3 (by kernel_rfl) t10, intArg_trod Try.underlying23 Try.underlying3 (by kernel_rfl) t11, g9, g7⟩
theorem IntArg.below {w w' : World} {v : Value} (h : IntArg w v) (hb : Below w.heap.size w w') : IntArg w' v := by
  rcases h with h | h | ⟨B, o, cap, xs, h1, h2, h3, h4, h5, h6, h7⟩
  · exact .inl h
  · exact .inr (.inl h)
  · exact .inr (.inr ⟨B, o, cap, xs, h1, Nat.lt_of_lt_of_le h2 hb.size, h3, h4, h5, h6, fun j hj => by rw [hb.cell (p := ⟨B, o + j, none⟩) h2]; exact h7 j hj⟩)
theorem IntArg.len {w : World} {v : Value} (h : IntArg w v) : ∃ a len cap, v = .slice a len cap ∧ len ≤ 9223372036854775807 := by
  rcases h with rfl | ⟨a, cap, rfl⟩ | ⟨B, o, cap, xs, rfl, _, _, _, h5, _⟩
  · exact ⟨_, _, _, rfl, by omega⟩
  · exact ⟨_, _, _, rfl, by omega⟩
  · exact ⟨_, _, _, rfl, h5⟩
/-- the numbers of a slice that came in -/
def IntsIn (w : World) (v : Value) (xs : List Int) : Prop :=
  (xs = [] ∧ ∃ a cap, v = .slice a 0 cap) ∨ ∃ (B o cap : Nat), v = .slice (some ⟨B, o, none⟩) xs.length cap ∧ B < w.heap.size ∧ 0 < xs.length ∧ xs.length ≤ 9223372036854775807 ∧ ∀ j (h : j < xs.length), w.cell? ⟨B, o + j, none⟩ = some (.int .i64 xs[j])
theorem IntArg.ints {w : World} {v : Value} (h : IntArg w v) : ∃ xs, IntsIn w v xs := by
  rcases h with rfl | ⟨a, cap, rfl⟩ | ⟨B, o, cap, xs, h1, h2, h3, h4, h5, h6, h7⟩
  · exact ⟨[], .inl ⟨rfl, _, _, rfl⟩⟩
  · exact ⟨[], .inl ⟨rfl, _, _, rfl⟩⟩
  · exact ⟨xs, .inr ⟨B, o, cap, h1, h2, h4, h5, h7⟩⟩
theorem IntsIn.below {w w' : World} {v : Value} {xs : List Int} (h : IntsIn w v xs) (hb : Below w.heap.size w w') : IntsIn w' v xs := by
  rcases h with h | ⟨B, o, cap, h1, h2, h4, h5, h7⟩
  · exact .inl h
  · exact .inr ⟨B, o, cap, h1, Nat.lt_of_lt_of_le h2 hb.size, h4, h5, fun j hj => by rw [hb.cell (p := ⟨B, o + j, none⟩) h2]; exact h7 j hj⟩
theorem EntArg.le {w : World} {v : Value} {es : List (List Value)} (h : EntArg w v es) : es.length ≤ 9223372036854775807 := by
  rcases h with ⟨rfl, _⟩ | ⟨_, _, _, _, _, _, h, _⟩
  · simp
  · exact h
theorem EntArg.len {w : World} {v : Value} {es : List (List Value)} (h : EntArg w v es) : ∃ a cap, v = .slice a es.length cap := by
  rcases h with ⟨rfl, a, cap, rfl⟩ | ⟨B, o, cap, rfl, _⟩
  · exact ⟨a, cap, rfl⟩
  · exact ⟨_, cap, rfl⟩
end Go.Proofs.Ytfpgklhbghahoaa
/- Election: what a log must be; the reference's 'logged' decides it. -/
namespace Go.Proofs.Ytfpgklhbghahoaa
open Go.ChangeShapes Go.WideShapes Go.ChangeAt Go.RowKit
set_option linter.unusedVariables false
set_option linter.unusedSimpArgs false
theorem ret_b {a b : Bool} (h : b = a) : Ending.returned (.bool a) = Ending.returned (.bool b) := by rw [h]
def trm : List Value → Int
  | .int _ t :: _ => t
  | _ => 0
/-- the terms do not fall, and the times ascend -/
def logB (tm : Int) : Int → Int → List (List Value) → Bool
  | _, _, [] => true
  | t, s, e :: r => if trm e < t ∨ tm < trm e ∨ stp e ≤ s ∨ 1099511627776 < stp e then false else logB tm (trm e) (stp e) r
def lgB (tm cm : Int) (es : List (List Value)) : Bool := logB tm 0 0 es && decide (0 ≤ cm ∧ cm ≤ es.length)
theorem lg_no {tm : Int} {es : List (List Value)} (cm : Int) (h : logB tm 0 0 es = false) : lgB tm cm es = false := by unfold lgB; rw [h]; rfl
theorem lg_at {tm : Int} {es : List (List Value)} (cm : Int) (h : logB tm 0 0 es = true) : lgB tm cm es = decide (0 ≤ cm ∧ cm ≤ es.length) := by unfold lgB; rw [h]; rfl
theorem lg_out {tm cm : Int} {es : List (List Value)} (h : ¬ (0 ≤ cm ∧ cm ≤ es.length)) : lgB tm cm es = false := by unfold lgB; rw [decide_eq_false h, Bool.and_false]
theorem log_step {tm tz sz t0 s0 : Int} {k : Nat} {es : List (List Value)} {r0 : List Value} (hk : k < es.length) (h : logB tm tz sz (es.drop k) = logB tm 0 0 es) (hes : es[k] = .int .i64 t0 :: .int .i64 s0 :: r0) :
    ((t0 < tz ∨ tm < t0 ∨ s0 ≤ sz ∨ 1099511627776 < s0) → logB tm 0 0 es = false) ∧ (¬ (t0 < tz ∨ tm < t0 ∨ s0 ≤ sz ∨ 1099511627776 < s0) → logB tm t0 s0 (es.drop (k + 1)) = logB tm 0 0 es) := by
  rw [List.drop_eq_getElem_cons hk, hes] at h
  have e : logB tm tz sz ((.int .i64 t0 :: .int .i64 s0 :: r0) :: es.drop (k + 1)) = if t0 < tz ∨ tm < t0 ∨ s0 ≤ sz ∨ 1099511627776 < s0 then false else logB tm t0 s0 (es.drop (k + 1)) := rfl
  rw [e] at h
  refine ⟨fun h2 => ?_, fun h2 => ?_⟩
  · rw [if_pos h2] at h; exact h.symm
  · rw [if_neg h2] at h; exact h
noncomputable def z74 : Array Value := ((Try.prog.info? 73).bind (fun i => i.zero.map (fun z => z.cells))).getD #[]
theorem z74_size : z74.size = 82 := by kernel_rfl
theorem info74 : (Try.prog.info? 73).map (·.size) = some 82 := by kernel_rfl
theorem exec_alloc74 (d : Option Nat) (pos : String) (af) (a : Act) (w : World) :
    (execOp a.eval { dst := d, op := Op.alloc 73, type := 0, pos := pos, after := af, guard := none }).run Try.prog w = .ok (.value (.pointer (some ⟨w.heap.size, 0, none⟩))) (w.alloc (.cells z74 73)) := by kernel_rfl
theorem wpList_alloc74 {ops : Array Oper} {rest : List Oper} {Q : Exit → Act → World → Prop} (d : Option Nat) (pos : String) (af) (a : Act) (w : World) (h : wpList Try.prog ops Q rest (a.put d (.pointer (some ⟨w.heap.size, 0, none⟩))) (w.alloc (.cells z74 73))) :
    wpList Try.prog ops Q ({ dst := d, op := Op.alloc 73, type := 0, pos := pos, after := af, guard := none } :: rest) a w :=
  wpList_val rfl (exec_alloc74 _ _ _ _ _) h
theorem wpList_load74 {ops : Array Oper} {rest : List Oper} {Q : Exit → Act → World → Prop} (x : Nat) (B O : Nat) (cs : List Value) (d : Option Nat) (pos : String) (af) (a : Act) (w : World) (hx : a.eval (.tmp x) = .pointer (some ⟨B, O, none⟩)) (hr : w.rangeAt B O cs) (hE : Ent cs)
    (h : wpList Try.prog ops Q rest (a.put d (.agg cs.toArray)) w) :
    wpList Try.prog ops Q ({ dst := d, op := Op.load 73 (Operand.tmp x), type := 73, pos := pos, after := af, guard := none } :: rest) a w :=
  wpList_load_mid rfl _ _ rfl B O hx cs _ hr Try.underlying73 rfl (by rw [hE.1]; exact info74) h
theorem there_new (w : World) : (w.alloc (.cells z74 73)).there w.heap.size 0 82 := fun j hj => by
  rw [Nat.zero_add]
  refine ⟨?_, by simp [go_sem]⟩
  rw [World.cell?_alloc_new, Array.getElem?_eq_getElem (by rw [z74_size]; exact hj)]
  rfl
theorem Below.setCells {a : World} {B : Nat} (b : Nat) (hb : B ≤ b) : ∀ (vs : List Value) (o : Nat) (w : World), Below B a w → Below B a (w.setCells b o vs)
  | [], _, _, h => h
  | v :: r, o, w, h => Below.setCells b hb r (o + 1) _ (h.setCell hb v)
theorem setCells_size (b : Nat) : ∀ (vs : List Value) (o : Nat) (w : World), (w.setCells b o vs).heap.size = w.heap.size
  | [], _, _ => rfl
  | v :: r, o, w => by rw [World.setCells, setCells_size b r (o + 1)]; simp
theorem wpList_store74 {ops : Array Oper} {rest : List Oper} {Q : Exit → Act → World → Prop} (x y : Nat) (cs : List Value) (d : Option Nat) (pos : String) (af) (a : Act) (w : World) (hx : a.eval (.tmp x) = .pointer (some ⟨w.heap.size, 0, none⟩)) (hy : a.eval (.tmp y) = .agg cs.toArray) (hE : Ent cs)
    (h : ∀ w', w'.rangeAt w.heap.size 0 cs → Below w.heap.size w w' → w.heap.size < w'.heap.size → wpList Try.prog ops Q rest (a.put d undef) w') :
    wpList Try.prog ops Q ({ dst := d, op := Op.store 73 (Operand.tmp x) (Operand.tmp y), type := 0, pos := pos, after := af, guard := none } :: rest) a (w.alloc (.cells z74 73)) := by
  have hz : cs.toArray.size = 82 := by simpa using hE.1
  refine wpList_store_mid rfl _ _ _ rfl w.heap.size 0 cs.toArray hx hy (by rw [hz]; exact there_new w) (by rw [hz]; exact info74) (all_oneCell_toArray hE.2.1) ?_
  refine h _ ?_ ?_ ?_
  · exact World.rangeAt_setCells_same _ _ _ _ (by have := there_new w; rw [hE.1]; exact this)
  · exact Below.setCells _ (Nat.le_refl _) _ _ _ ((Below.refl _ _).alloc (Nat.le_refl _) _)
  · rw [setCells_size]; simp

set_option maxRecDepth 100000 in
set_option maxHeartbeats 800000 in
theorem logged_in (id sz tm vt rl ld ti vs : Int) (B o cap : Nat) (es : List (List Value)) (cm : Int) (nx mt : Value) (w : World) (hl : es.length ≤ 100) (hB : B < w.heap.size) (he : ∀ j (h : j < es.length), w.rangeAt B (o + j * 82) es[j] ∧ Ent es[j]) :
    Calls Try.prog 33 #[mem id sz tm vt rl ld ti vs (.slice (some ⟨B, o, none⟩) es.length cap) cm nx mt] w fun e w' => e = .returned (.bool (lgB tm cm es)) ∧ Below w.heap.size w w' := by
  have HE := Lib.hid he
  clear he
  go_enter Try.func33, Try.ntmps33
  go_wp2_with fail
  go_loopw [3, 4, 5, 6] (fun t s i p W => ∃ (k : Nat) (tz sz : Int), k ≤ es.length ∧ t = .int .i64 tz ∧ s = .int .i64 sz ∧ i = .int .i64 k ∧ W.cell? ⟨w.heap.size, 2, none⟩ = some (.int .i64 tm) ∧ W.cell? ⟨w.heap.size, 8, none⟩ = some (.slice (some ⟨B, o, none⟩) es.length cap) ∧ W.cell? ⟨w.heap.size, 9, none⟩ = some (.int .i64 cm) ∧ w.heap.size < W.heap.size ∧ Below w.heap.size w W ∧ Hid (logB tm tz sz (es.drop k) = logB tm 0 0 es)) (fun _ _ i _ _ => es.length - (intOf i).toNat)
  case atStart => exact ⟨0, 0, 0, Nat.zero_le _, rfl, rfl, rfl, by simp [go_sem], by simp [go_sem], by simp [go_sem], by simp, (Below.refl _ _).alloc (Nat.le_refl _) _, Lib.hid rfl⟩
  case round =>
    obtain ⟨k, tz, sz', hk, rfl, rfl, rfl, c2, c8, c9, hz, hB0, HI⟩ := hrel
    by_cases hlt : k < es.length
    · have HR : Hid (wr.rangeAt B (o + k * 82) es[k]) := Lib.hid (fun j v hv => (hB0.cell (p := ⟨B, o + k * 82 + j, none⟩) hB).trans ((HE.out k hlt).1 j v hv))
      have HN : Hid (Ent es[k]) := Lib.hid (HE.out k hlt).2
      obtain ⟨t0, s0, r0, hes⟩ := HN.out.2.2
      have HST := Lib.hid (log_step hlt HI.out hes)
      clear HI
      have HES := Lib.hid hes
      clear hes
      generalize es[k] = cs at HR HN HES
      go_wp2_with (first | (with_reducible refine wpList_load74 _ _ _ cs _ _ _ _ _ rfl HR.out HN.out ?_) | (with_reducible refine wpList_alloc74 _ _ _ _ _ ?_) | (with_reducible refine wpList_store74 _ _ cs _ _ _ _ _ rfl rfl HN.out ?_))
      rintro w2 hr2 hb2 hs2
      have g0 : w2.cell? ⟨wr.heap.size, 0, none⟩ = some (.int .i64 t0) := hr2 0 _ (by rw [HES.out]; rfl)
      have g1 : w2.cell? ⟨wr.heap.size, 1, none⟩ = some (.int .i64 s0) := hr2 1 _ (by rw [HES.out]; rfl)
      clear hr2
      obtain ⟨hc, _⟩ := bcell hb2
      have d2 : w2.cell? ⟨w.heap.size, 2, none⟩ = some (.int .i64 tm) := (hc _ _ hz).trans c2
      have d8 : w2.cell? ⟨w.heap.size, 8, none⟩ = some (.slice (some ⟨B, o, none⟩) es.length cap) := (hc _ _ hz).trans c8
      have d9 : w2.cell? ⟨w.heap.size, 9, none⟩ = some (.int .i64 cm) := (hc _ _ hz).trans c9
      have HBN : Hid (Below w.heap.size w w2) := Lib.hid (hB0.trans (hb2.mono (Nat.le_of_lt hz)))
      have hz2 : w.heap.size < w2.heap.size := by omega
      clear hc c2 c8 c9 hB0 hb2 HR HN HES
      go_wp2_with fail
      all_goals first
        | (go_ret; exact ⟨ret_b (lg_no cm (HST.out.1 (by omega))), HBN.out⟩)
        | (go_roundw
           case rel => exact ⟨k + 1, t0, s0, by omega, rfl, rfl, by go_num, d2, d8, d9, hz2, HBN.out, Lib.hid (HST.out.2 (by omega))⟩
           case measure => simp [intOf]; omega)
    · have HT : Hid (logB tm 0 0 es = true) := Lib.hid (by rw [← HI.out, List.drop_eq_nil_of_le (by omega)]; rfl)
      clear HI
      by_cases hc0 : 0 ≤ cm
      · have q0 : decide (0 ≤ cm) = true := decide_eq_true hc0
        by_cases hc1 : cm ≤ es.length
        · have q1 : decide (cm ≤ (es.length : Int)) = true := decide_eq_true hc1
          go_wp2_with fail
          go_ret
          exact ⟨ret_b ((lg_at cm HT.out).trans (decide_eq_true (by omega))), hB0⟩
        · have q1 : decide (cm ≤ (es.length : Int)) = false := decide_eq_false hc1
          go_wp2_with fail
          go_ret
          exact ⟨ret_b (lg_out (by omega)), hB0⟩
      · have q0 : decide (0 ≤ cm) = false := decide_eq_false hc0
        go_wp2_with fail
        go_ret
        exact ⟨ret_b (lg_out (by omega)), hB0⟩
set_option maxHeartbeats 400000 in
theorem logged_0 (id sz tm vt rl ld ti vs : Int) (a : Option Addr) (cap : Nat) (cm : Int) (nx mt : Value) (w : World) :
    Calls Try.prog 33 #[mem id sz tm vt rl ld ti vs (.slice a 0 cap) cm nx mt] w fun e w' => e = .returned (.bool (lgB tm cm [])) ∧ Below w.heap.size w w' := by
  go_enter Try.func33, Try.ntmps33
  go_wp2_with fail
  have hbw : Below w.heap.size w (w.alloc (.cells #[.int .i64 id, .int .i64 sz, .int .i64 tm, .int .i64 vt, .int .i64 rl, .int .i64 ld, .int .i64 ti, .int .i64 vs, .slice a 0 cap, .int .i64 cm, nx, mt] 25)) := (Below.refl _ _).alloc (Nat.le_refl _) _
  have c8 : (w.alloc (.cells #[.int .i64 id, .int .i64 sz, .int .i64 tm, .int .i64 vt, .int .i64 rl, .int .i64 ld, .int .i64 ti, .int .i64 vs, .slice a 0 cap, .int .i64 cm, nx, mt] 25)).cell? ⟨w.heap.size, 8, none⟩ = some (.slice a 0 cap) := by simp [go_sem]
  have c9 : (w.alloc (.cells #[.int .i64 id, .int .i64 sz, .int .i64 tm, .int .i64 vt, .int .i64 rl, .int .i64 ld, .int .i64 ti, .int .i64 vs, .slice a 0 cap, .int .i64 cm, nx, mt] 25)).cell? ⟨w.heap.size, 9, none⟩ = some (.int .i64 cm) := by simp [go_sem]
  generalize w.alloc _ = W0 at hbw c8 c9 ⊢
  go_loop [5] (fun i => i = .int .i64 0) (fun _ => 0)
  case atStart => rfl
  case round =>
    subst hrel
    by_cases hc0 : 0 ≤ cm
    · have q0 : decide (0 ≤ cm) = true := decide_eq_true hc0
      by_cases hc1 : cm ≤ 0
      · have q1 : decide (cm ≤ 0) = true := decide_eq_true hc1
        go_wp2_with fail
        go_ret
        exact ⟨ret_b ((lg_at cm rfl).trans (decide_eq_true (by simp only [List.length_nil]; omega))), hbw⟩
      · have q1 : decide (cm ≤ 0) = false := decide_eq_false hc1
        go_wp2_with fail
        go_ret
        exact ⟨ret_b (lg_out (by simp only [List.length_nil]; omega)), hbw⟩
    · have q0 : decide (0 ≤ cm) = false := decide_eq_false hc0
      go_wp2_with fail
      go_ret
      exact ⟨ret_b (lg_out (by omega)), hbw⟩
theorem logged_any (id sz tm vt rl ld ti vs : Int) (lg : Value) (es : List (List Value)) (cm : Int) (nx mt : Value) (w : World) (hl : es.length ≤ 100) (he : EntArg w lg es) :
    Calls Try.prog 33 #[mem id sz tm vt rl ld ti vs lg cm nx mt] w fun e w' => e = .returned (.bool (lgB tm cm es)) ∧ Below w.heap.size w w' := by
  rcases he with ⟨rfl, a, cap, rfl⟩ | ⟨B, o, cap, rfl, hB, h0, _, hc⟩
  · exact logged_0 id sz tm vt rl ld ti vs a cap cm nx mt w
  · exact logged_in id sz tm vt rl ld ti vs B o cap es cm nx mt w hl hB hc
end Go.Proofs.Ytfpgklhbghahoaa
/- Election: the numbers of votes and the places, exactly. -/
namespace Go.Proofs.Ytfpgklhbghahoaa
open Go.ChangeShapes Go.WideShapes Go.ChangeAt Go.RowKit
set_option linter.unusedVariables false
set_option linter.unusedSimpArgs false
/-- how many of the first k bits stand -/
def cntB (vs : Int) : Nat → Int
  | 0 => 0
  | k + 1 => cntB vs k + (vs / 2 ^ k).tmod 2
theorem bit_le (vs : Int) (h0 : 0 ≤ vs) (k : Nat) : 0 ≤ (vs / 2 ^ k).tmod 2 ∧ (vs / 2 ^ k).tmod 2 ≤ 1 := by
  have h : 0 ≤ vs / 2 ^ k := Int.ediv_nonneg h0 (Int.le_of_lt (Int.pow_pos (by decide)))
  have h1 := Int.tmod_nonneg 2 h
  have h2 := Int.tmod_lt_of_pos (vs / 2 ^ k) (show (0 : Int) < 2 by decide)
  omega
theorem cntB_le (vs : Int) (h0 : 0 ≤ vs) : ∀ k, 0 ≤ cntB vs k ∧ cntB vs k ≤ k
  | 0 => ⟨Int.le_refl _, Int.le_refl _⟩
  | k + 1 => by
    have h := cntB_le vs h0 k
    have h2 := bit_le vs h0 k
    show 0 ≤ cntB vs k + (vs / 2 ^ k).tmod 2 ∧ cntB vs k + (vs / 2 ^ k).tmod 2 ≤ ((k + 1 : Nat) : Int)
    omega
set_option maxRecDepth 100000 in
theorem votes_at (vs sz : Int) (w : World) (h0 : 0 ≤ vs) (h1 : 1 ≤ sz) (h7 : sz ≤ 7) :
    Calls Try.prog 34 #[.int .i64 vs, .int .i64 sz] w fun e w' => e = .returned (.int .i64 (cntB vs sz.toNat)) ∧ w = w' := by
  go_enter Try.func34, Try.ntmps34
  go_wp2_with fail
  go_loop [5, 6] (fun n i => ∃ (k : Nat), (k : Int) ≤ sz ∧ n = .int .i64 (cntB vs k) ∧ i = .int .i64 k) (fun _ i => sz.toNat - (intOf i).toNat)
  case atStart => exact ⟨0, by omega, rfl, rfl⟩
  case round =>
    obtain ⟨k, hk, rfl, rfl⟩ := hrel
    by_cases hlt : (k : Int) < sz
    · have hb := bit_le vs h0 k
      have hc := cntB_le vs h0 k
      have HN : Hid (cntB vs (k + 1) = cntB vs k + (vs / 2 ^ k).tmod 2) := Lib.hid rfl
      have hk7 : k ≤ 7 := by omega
      generalize cntB vs k = c at *
      go_wp2_with fail
      go_round
      case rel => exact ⟨k + 1, by omega, by (try rw [HN.out]) <;> (try go_num), by go_num⟩
      case measure => simp [intOf]; omega
    · obtain rfl : sz = k := by omega
      go_wp2_with fail
      go_ret
      exact ⟨rfl, rfl⟩
set_option maxRecDepth 100000 in
theorem ones64 (vs : Int) (w : World) (h0 : 0 ≤ vs) (h1 : vs < 128) : Calls Try.prog 51 #[.int .u64 vs] w fun e w' => e = .returned (.int .i64 (cntB vs 7)) ∧ w = w' := by
  obtain ⟨n, rfl⟩ : ∃ n : Nat, vs = n := ⟨vs.toNat, by omega⟩
  have hn : n < 128 := by omega
  clear h0 h1
  go_enter Try.func51, Try.ntmps51
  go_wp2_with fail
  go_ret
  refine ⟨congrArg (fun x => Ending.returned (.int .i64 x)) ?_, rfl⟩
  clear w
  revert hn
  revert n
  decide +kernel
set_option maxRecDepth 100000 in
theorem ones_at (vs : Int) (w : World) (h0 : 0 ≤ vs) (h1 : vs < 128) : Calls Try.prog 42 #[.int .u64 vs] w fun e w' => e = .returned (.int .i64 (cntB vs 7)) ∧ w = w' := by
  have H := Lib.hid (ones64 vs w h0 h1)
  go_enter Try.func42, Try.ntmps42
  go_wp2_with fail
  refine H.out.mono ?_
  rintro e w1 ⟨rfl, rfl⟩
  have := cntB_le vs h0 7
  go_wp2_with fail
  go_ret
  exact ⟨rfl, rfl⟩
theorem cntB_small : ∀ sz < 8, ∀ vs < 128, vs < 2 ^ sz → cntB (vs : Nat) 7 = cntB (vs : Nat) sz := by decide +kernel
theorem cntB_all (vs sz : Int) (h0 : 0 ≤ vs) (h1 : 1 ≤ sz) (h7 : sz ≤ 7) (h : vs < 2 ^ sz.toNat) : cntB vs 7 = cntB vs sz.toNat := by
  obtain ⟨n, rfl⟩ : ∃ n : Nat, vs = n := ⟨vs.toNat, by omega⟩
  have h2 : n < 2 ^ sz.toNat := by exact_mod_cast h
  have h3 : 2 ^ sz.toNat ≤ 2 ^ 7 := Nat.pow_le_pow_right (by decide) (by omega)
  exact cntB_small sz.toNat (by omega) n (by omega) h2
/-- all numbers are from 0 to most -/
def inB (most : Int) (xs : List Int) : Bool := xs.all (fun x => decide (0 ≤ x ∧ x ≤ most))
theorem inB_no {most : Int} {xs : List Int} {k : Nat} (hk : k < xs.length) (h : ¬ (0 ≤ xs[k] ∧ xs[k] ≤ most)) : inB most xs = false := by
  unfold inB
  rw [List.all_eq_false]
  exact ⟨xs[k], List.getElem_mem hk, by simp; omega⟩
theorem inB_take {most : Int} {xs : List Int} {k : Nat} (hk : k < xs.length) (h0 : inB most (xs.take k) = true) (h : 0 ≤ xs[k] ∧ xs[k] ≤ most) : inB most (xs.take (k + 1)) = true := by
  unfold inB at *
  rw [List.take_succ_eq_append_getElem hk, List.all_append, h0]
  simp [h]
set_option maxRecDepth 100000 in
theorem rplaces_in (B o cap : Nat) (xs : List Int) (m : Int) (w : World) (hl : xs.length ≤ 9223372036854775807)
    (hc : ∀ j (h : j < xs.length), w.cell? ⟨B, o + j, none⟩ = some (.int .i64 xs[j])) :
    Calls Try.prog 35 #[.slice (some ⟨B, o, none⟩) xs.length cap, .int .i64 m] w fun e w' => e = .returned (.bool (inB m xs)) ∧ w = w' := by
  have HC := Lib.hid hc
  clear hc
  go_enter Try.func35, Try.ntmps35
  go_wp2_with fail
  go_loop [5] (fun i => ∃ (k : Nat), k ≤ xs.length ∧ i = .int .i64 k ∧ Hid (inB m (xs.take k) = true)) (fun i => xs.length - (intOf i).toNat)
  case atStart => exact ⟨0, Nat.zero_le _, rfl, Lib.hid rfl⟩
  case round =>
    obtain ⟨k, hk, rfl, HI⟩ := hrel
    by_cases hlt : k < xs.length
    · have hcell := HC.out k hlt
      have HNO := Lib.hid (fun h => inB_no (most := m) hlt h)
      have HYES := Lib.hid (fun h => inB_take hlt HI.out h)
      generalize xs[k] = x at *
      by_cases h0 : x < 0
      · go_wp2_with fail
        go_ret
        exact ⟨ret_b (HNO.out (by omega)), rfl⟩
      · by_cases h1 : m < x
        · go_wp2_with fail
          go_ret
          exact ⟨ret_b (HNO.out (by omega)), rfl⟩
        · go_wp2_with fail
          go_round
          case rel => exact ⟨k + 1, by omega, by go_num, Lib.hid (HYES.out (by omega))⟩
          case measure => simp [intOf]; omega
    · have HT : Hid (inB m xs = true) := Lib.hid (by rw [← HI.out, List.take_of_length_le (by omega)])
      go_wp2_with fail
      go_ret
      exact ⟨ret_b HT.out, rfl⟩
set_option maxRecDepth 100000 in
theorem rplaces_0 (a : Option Addr) (cap : Nat) (m : Int) (w : World) :
    Calls Try.prog 35 #[.slice a 0 cap, .int .i64 m] w fun e w' => e = .returned (.bool (inB m [])) ∧ w = w' := by
  go_enter Try.func35, Try.ntmps35
  go_wp2_with fail
  go_loop [5] (fun i => i = .int .i64 0) (fun i => 0)
  case atStart => rfl
  case round =>
    subst hrel
    go_wp2_with fail
    go_ret
    exact ⟨rfl, rfl⟩
theorem rplaces_at (v : Value) (xs : List Int) (m : Int) (w : World) (hv : IntsIn w v xs) :
    Calls Try.prog 35 #[v, .int .i64 m] w fun e w' => e = .returned (.bool (inB m xs)) ∧ w = w' := by
  rcases hv with ⟨rfl, a, cap, rfl⟩ | ⟨B, o, cap, rfl, hB, h0, hl, hc⟩
  · exact rplaces_0 a cap m w
  · exact rplaces_in B o cap xs m w hl hc
set_option maxRecDepth 100000 in
set_option maxHeartbeats 400000 in
theorem vplaces_in (id sz tm vt rl ld ti vs : Int) (ga : Option Addr) (gl gc : Nat) (cm : Int) (nx mt : Value) (B o cap : Nat) (xs : List Int) (w : World) (hg : gl ≤ 100) (hB : B < w.heap.size) (hl : xs.length ≤ 9223372036854775807)
    (hc : ∀ j (h : j < xs.length), w.cell? ⟨B, o + j, none⟩ = some (.int .i64 xs[j])) :
    Calls Try.prog 46 #[mem id sz tm vt rl ld ti vs (.slice ga gl gc) cm nx mt, .slice (some ⟨B, o, none⟩) xs.length cap] w fun e w' => e = .returned (.bool (inB gl xs && decide ((xs.length : Int) = sz))) ∧ Below w.heap.size w w' := by
  have HC := Lib.hid hc
  clear hc
  have hB0 : BoxN 12 (w.alloc (.cells (memL id sz tm vt rl ld ti vs (.slice ga gl gc) cm nx mt).toArray 25)) w.heap.size (memL id sz tm vt rl ld ti vs (.slice ga gl gc) cm nx mt) := BoxN.new w _ 12 _ rfl
  have hb0 : Below w.heap.size w (w.alloc (.cells (memL id sz tm vt rl ld ti vs (.slice ga gl gc) cm nx mt).toArray 25)) := (Below.refl _ _).alloc (Nat.le_refl _) _
  go_enter Try.func46, Try.ntmps46
  go_wp2_with fail
  refine wp_named (fun W => BoxN 12 W w.heap.size (memL id sz tm vt rl ld ti vs (.slice ga gl gc) cm nx mt) ∧ Below w.heap.size w W) ⟨hB0, hb0⟩ ?_
  clear hB0 hb0
  rintro w1 ⟨hBx, hb⟩
  have a8 : w1.cell? ⟨w.heap.size, 8, none⟩ = some (.slice ga gl gc) := hBx.cell 8 _ rfl
  have a1 : w1.cell? ⟨w.heap.size, 1, none⟩ = some (.int .i64 sz) := hBx.cell 1 _ rfl
  clear hBx
  have HC1 : Hid (∀ j (h : j < xs.length), w1.cell? ⟨B, o + j, none⟩ = some (.int .i64 xs[j])) := Lib.hid (fun j h => (hb.cell (p := ⟨B, o + j, none⟩) hB).trans (HC.out j h))
  have HB := Lib.hid hb
  clear HC hb
  go_loop [9] (fun i => ∃ k : Nat, k ≤ xs.length ∧ i = .int .i64 k ∧ Hid (inB gl (xs.take k) = true)) (fun i => xs.length - (intOf i).toNat)
  case atStart => exact ⟨0, Nat.zero_le _, rfl, Lib.hid rfl⟩
  case round =>
    obtain ⟨k, hk, rfl, HI⟩ := hrel
    by_cases hlt : k < xs.length
    · have hcell := HC1.out k hlt
      have HNO := Lib.hid (fun h => inB_no (most := gl) hlt h)
      have HYES := Lib.hid (fun h => inB_take hlt HI.out h)
      generalize xs[k] = x at *
      by_cases h0 : x < 0
      · go_wp2_with fail
        go_ret
        exact ⟨ret_b (by rw [HNO.out (by omega)]; rfl), HB.out⟩
      · by_cases h1 : (gl : Int) < x
        · go_wp2_with fail
          go_ret
          exact ⟨ret_b (by rw [HNO.out (by omega)]; rfl), HB.out⟩
        · go_wp2_with fail
          go_round
          case rel => exact ⟨k + 1, by omega, by go_num, Lib.hid (HYES.out (by omega))⟩
          case measure => simp [intOf]; omega
    · have HT : Hid (inB gl xs = true) := Lib.hid (by rw [← HI.out, List.take_of_length_le (by omega)])
      by_cases hsz : (xs.length : Int) = sz
      · have q : ((xs.length : Int) == sz) = true := by simpa using hsz
        go_wp2_with fail
        go_ret
        exact ⟨ret_b (by first | rfl | exact HT.out | (rw [HT.out, decide_eq_true (by omega)]; rfl)), HB.out⟩
      · have q : ((xs.length : Int) == sz) = false := by simpa using hsz
        go_wp2_with fail
        go_ret
        exact ⟨ret_b (by first | rfl | (rw [HT.out, decide_eq_false (by omega)]; rfl)), HB.out⟩
set_option maxRecDepth 100000 in
set_option maxHeartbeats 400000 in
theorem vplaces_0 (id sz tm vt rl ld ti vs : Int) (lg : Value) (gl : Nat) (cm : Int) (nx mt : Value) (a : Option Addr) (cap : Nat) (w : World) (h1 : 1 ≤ sz) :
    Calls Try.prog 46 #[mem id sz tm vt rl ld ti vs lg cm nx mt, .slice a 0 cap] w fun e w' => e = .returned (.bool (inB gl [] && decide ((([] : List Int).length : Int) = sz))) ∧ Below w.heap.size w w' := by
  have q : ((0 : Int) == sz) = false := by rw [beq_eq_false_iff_ne]; omega
  have q2 : (sz == (0 : Int)) = false := by rw [beq_eq_false_iff_ne]; omega
  have HD : Hid (decide ((([] : List Int).length : Int) = sz) = false) := Lib.hid (decide_eq_false (by simp; omega))
  go_enter Try.func46, Try.ntmps46
  go_wp2_with fail
  go_loop [9] (fun i => i = .int .i64 0) (fun i => 0)
  case atStart => rfl
  case round =>
    subst hrel
    go_wp2_with fail
    go_ret
    exact ⟨ret_b (by first | (rw [HD.out]; rfl) | (rw [decide_eq_false (by omega), Bool.and_false]) | (simp; omega)), (Below.refl _ _).alloc (Nat.le_refl _) _⟩
theorem vplaces_at (id sz tm vt rl ld ti vs : Int) (ga : Option Addr) (gl gc : Nat) (cm : Int) (nx mt : Value) (v : Value) (xs : List Int) (w : World) (hg : gl ≤ 100) (h1 : 1 ≤ sz) (hv : IntsIn w v xs) :
    Calls Try.prog 46 #[mem id sz tm vt rl ld ti vs (.slice ga gl gc) cm nx mt, v] w fun e w' => e = .returned (.bool (inB gl xs && decide ((xs.length : Int) = sz))) ∧ Below w.heap.size w w' := by
  rcases hv with ⟨rfl, a, cap, rfl⟩ | ⟨B, o, cap, rfl, hB, h0, hl, hc⟩
  · exact vplaces_0 id sz tm vt rl ld ti vs (.slice ga gl gc) gl cm nx mt a cap w h1
  · exact vplaces_in id sz tm vt rl ld ti vs ga gl gc cm nx mt B o cap xs w hg hB hl hc
end Go.Proofs.Ytfpgklhbghahoaa
/- Election: validLog decides what a log must be. -/
namespace Go.Proofs.Ytfpgklhbghahoaa
open Go.ChangeShapes Go.WideShapes Go.ChangeAt Go.RowKit
set_option linter.unusedVariables false
set_option linter.unusedSimpArgs false
theorem below_drewN' {w W : World} (h : Below w.heap.size w W) (n : Nat) : Below w.heap.size w (W.drewN n) := ⟨h.os, h.tape, h.output, h.size, h.block⟩
set_option maxRecDepth 100000 in
set_option maxHeartbeats 1600000 in
theorem vlog_in (id sz tm vt rl ld ti vs : Int) (B o cap : Nat) (es : List (List Value)) (cm : Int) (nx mt : Value) (w : World) (hl : es.length ≤ 100) (hB : B < w.heap.size) (he : ∀ j (h : j < es.length), w.rangeAt B (o + j * 82) es[j] ∧ Ent es[j]) (hcm : 0 ≤ cm ∧ cm ≤ es.length) :
    Calls Try.prog 31 #[mem id sz tm vt rl ld ti vs (.slice (some ⟨B, o, none⟩) es.length cap) cm nx mt] w fun e w' => e = .returned (.bool (lgB tm cm es)) ∧ Below w.heap.size w w' := by
  have HE := Lib.hid he
  clear he
  obtain ⟨hc0, hc1⟩ := hcm
  have q0 : decide (cm < 0) = false := decide_eq_false (by omega)
  have q1 : decide ((es.length : Int) < cm) = false := decide_eq_false (by omega)
  have q2 : decide ((16384 : Int) < (es.length : Int)) = false := decide_eq_false (by omega)
  go_enter Try.func31, Try.ntmps31
  go_wp2_with fail
  go_loopw [3, 4, 27] (fun t s i W => ∃ (k : Nat) (tz sz : Int), k ≤ es.length ∧ t = .int .i64 tz ∧ s = .int .i64 sz ∧ i = .int .i64 k ∧ W.cell? ⟨w.heap.size, 2, none⟩ = some (.int .i64 tm) ∧ W.cell? ⟨w.heap.size, 8, none⟩ = some (.slice (some ⟨B, o, none⟩) es.length cap) ∧ w.heap.size < W.heap.size ∧ Below w.heap.size w W ∧ Hid (logB tm tz sz (es.drop k) = logB tm 0 0 es)) (fun _ _ i _ => es.length - (intOf i).toNat)
  case atStart => exact ⟨0, 0, 0, Nat.zero_le _, rfl, rfl, rfl, by simp [go_sem], by simp [go_sem], by simp, (Below.refl _ _).alloc (Nat.le_refl _) _, Lib.hid rfl⟩
  case round =>
    obtain ⟨k, tz, sz', hk, rfl, rfl, rfl, c2, c8, hz, hB0, HI⟩ := hrel
    by_cases hlt : k < es.length
    · have HR : Hid (wr.rangeAt B (o + k * 82) es[k]) := Lib.hid (fun j v hv => (hB0.cell (p := ⟨B, o + k * 82 + j, none⟩) hB).trans ((HE.out k hlt).1 j v hv))
      obtain ⟨t0, s0, r0, hes⟩ := (HE.out k hlt).2.2.2
      have HST := Lib.hid (log_step hlt HI.out hes)
      have g0 : wr.cell? ⟨B, o + k * 82, none⟩ = some (.int .i64 t0) := HR.out 0 _ (by rw [hes]; rfl)
      have g1 : wr.cell? ⟨B, o + k * 82 + 1, none⟩ = some (.int .i64 s0) := HR.out 1 _ (by rw [hes]; rfl)
      have HB := Lib.hid hB0
      clear HI hes HR hB0 HE q0 q1 q2 hc0 hc1
      by_cases h1 : t0 < tz
      · have p1 : decide (t0 < tz) = true := decide_eq_true h1
        go_wp2_with fail
        go_quiet (fail)
        go_wp2_with fail
        go_ret
        exact ⟨ret_b (lg_no cm (HST.out.1 (by omega))), below_drewN' HB.out _⟩
      have p1 : decide (t0 < tz) = false := decide_eq_false h1
      by_cases h2 : tm < t0
      · have p2 : decide (tm < t0) = true := decide_eq_true h2
        go_wp2_with fail
        go_quiet (fail)
        go_wp2_with fail
        go_ret
        exact ⟨ret_b (lg_no cm (HST.out.1 (by omega))), below_drewN' HB.out _⟩
      have p2 : decide (tm < t0) = false := decide_eq_false h2
      by_cases h3 : s0 ≤ sz'
      · have p3 : decide (s0 ≤ sz') = true := decide_eq_true h3
        go_wp2_with fail
        go_quiet (fail)
        go_wp2_with fail
        go_ret
        exact ⟨ret_b (lg_no cm (HST.out.1 (by omega))), below_drewN' HB.out _⟩
      have p3 : decide (s0 ≤ sz') = false := decide_eq_false h3
      by_cases h4 : 1099511627776 < s0
      · have p4 : decide (1099511627776 < s0) = true := decide_eq_true h4
        go_wp2_with fail
        go_quiet (fail)
        go_wp2_with fail
        go_ret
        exact ⟨ret_b (lg_no cm (HST.out.1 (by omega))), below_drewN' HB.out _⟩
      · have p4 : decide (1099511627776 < s0) = false := decide_eq_false h4
        go_wp2_with fail
        go_quiet (fail)
        go_wp2_with fail
        go_quiet (fail)
        go_wp2_with fail
        go_roundw
        case rel => exact ⟨k + 1, t0, s0, by omega, rfl, rfl, by go_num, c2, c8, hz, below_drewN' HB.out _, Lib.hid (HST.out.2 (by omega))⟩
        case measure => simp [intOf]; omega
    · have HT : Hid (logB tm 0 0 es = true) := Lib.hid (by rw [← HI.out, List.drop_eq_nil_of_le (by omega)]; rfl)
      clear HI
      go_wp2_with fail
      go_ret
      exact ⟨ret_b ((lg_at cm HT.out).trans (decide_eq_true (by omega))), hB0⟩
set_option maxRecDepth 100000 in
set_option maxHeartbeats 400000 in
theorem vlog_0 (id sz tm vt rl ld ti vs : Int) (a : Option Addr) (cap : Nat) (cm : Int) (nx mt : Value) (w : World) (hcm : cm = 0) :
    Calls Try.prog 31 #[mem id sz tm vt rl ld ti vs (.slice a 0 cap) cm nx mt] w fun e w' => e = .returned (.bool (lgB tm cm [])) ∧ Below w.heap.size w w' := by
  subst hcm
  go_enter Try.func31, Try.ntmps31
  go_wp2_with fail
  go_loop [27] (fun i => i = .int .i64 0) (fun i => 0)
  case atStart => rfl
  case round =>
    obtain rfl := hrel
    go_wp2_with fail
    go_ret
    exact ⟨rfl, (Below.refl _ _).alloc (Nat.le_refl _) _⟩
set_option maxRecDepth 100000 in
set_option maxHeartbeats 400000 in
theorem vlog_no (id sz tm vt rl ld ti vs : Int) (a : Option Addr) (cap : Nat) (es : List (List Value)) (cm : Int) (nx mt : Value) (w : World) (hl : es.length ≤ 100) (hcm : ¬ (0 ≤ cm ∧ cm ≤ es.length)) :
    Calls Try.prog 31 #[mem id sz tm vt rl ld ti vs (.slice a es.length cap) cm nx mt] w fun e w' => e = .returned (.bool (lgB tm cm es)) ∧ Below w.heap.size w w' := by
  have HL := Lib.hid (lg_out (tm := tm) hcm)
  have q2 : decide ((16384 : Int) < (es.length : Int)) = false := decide_eq_false (by omega)
  by_cases h0 : cm < 0
  · have q0 : decide (cm < 0) = true := decide_eq_true h0
    go_enter Try.func31, Try.ntmps31
    go_wp2_with fail
    go_ret
    exact ⟨ret_b HL.out, (Below.refl _ _).alloc (Nat.le_refl _) _⟩
  · have q0 : decide (cm < 0) = false := decide_eq_false h0
    have q1 : decide ((es.length : Int) < cm) = true := decide_eq_true (by omega)
    go_enter Try.func31, Try.ntmps31
    go_wp2_with fail
    go_ret
    exact ⟨ret_b HL.out, (Below.refl _ _).alloc (Nat.le_refl _) _⟩
theorem vlog_at (id sz tm vt rl ld ti vs : Int) (lg : Value) (es : List (List Value)) (cm : Int) (nx mt : Value) (w : World) (hl : es.length ≤ 100) (he : EntArg w lg es) :
    Calls Try.prog 31 #[mem id sz tm vt rl ld ti vs lg cm nx mt] w fun e w' => e = .returned (.bool (lgB tm cm es)) ∧ Below w.heap.size w w' := by
  by_cases hcm : 0 ≤ cm ∧ cm ≤ es.length
  · rcases he with ⟨rfl, a, cap, rfl⟩ | ⟨B, o, cap, rfl, hB, h0, _, hc⟩
    · exact vlog_0 id sz tm vt rl ld ti vs a cap cm nx mt w (by simp at hcm; omega)
    · exact vlog_in id sz tm vt rl ld ti vs B o cap es cm nx mt w hl hB hc hcm
  · obtain ⟨a, cap, rfl⟩ := he.len
    exact vlog_no id sz tm vt rl ld ti vs a cap es cm nx mt w hl hcm
end Go.Proofs.Ytfpgklhbghahoaa
/- Election: validRole decides what depends on the role. -/
namespace Go.Proofs.Ytfpgklhbghahoaa
open Go.ChangeShapes Go.WideShapes Go.ChangeAt Go.RowKit Go.Deep
set_option linter.unusedVariables false
set_option linter.unusedSimpArgs false
/-- the bit of a member -/
def bitB (vs id : Int) : Bool := !((vs / 2 ^ id.toNat).tmod 2 == 0)
theorem bit_small : ∀ i < 7, ∀ n < 128, (bits .and .i64 ((n : Nat) : Int) (IntKind.i64.wrap (2 ^ i)) == 0) = (((n : Int) / 2 ^ i).tmod 2 == 0) := by decide +kernel
theorem bit_at (vs id : Int) (h0 : 0 ≤ vs) (h1 : vs < 128) (i0 : 0 ≤ id) (i1 : id < 7) : (bits .and .i64 vs (IntKind.i64.wrap (2 ^ id.toNat)) == 0) = !(bitB vs id) := by
  obtain ⟨n, rfl⟩ : ∃ n : Nat, vs = n := ⟨vs.toNat, by omega⟩
  rw [bit_small id.toNat (by omega) n (by omega)]
  unfold bitB
  rw [Bool.not_not]
def firstB (id tm vt vs : Int) : Bool := decide (1 ≤ tm) && decide (vt = id) && bitB vs id
/-- what depends on the role; ln and lm: how many places; bn, bm: they are places of the log -/
def roleB (id sz tm vt rl ld vs : Int) (ln lm : Int) (bn bm : Bool) : Bool :=
  if rl = 0 then decide (ln = 0) && decide (lm = 0)
  else if rl = 1 then firstB id tm vt vs && decide (ld = -1) && decide (cntB vs sz.toNat < maj sz) && (decide (ln = 0) && decide (lm = 0))
  else firstB id tm vt vs && decide (ld = id) && decide (maj sz ≤ cntB vs sz.toNat) && (decide (ln = sz) && decide (lm = sz)) && (bn && bm)
theorem maj_le (sz : Int) (h1 : 1 ≤ sz) (h7 : sz ≤ 7) : 1 ≤ maj sz ∧ maj sz ≤ 4 := by
  unfold maj
  rw [if_pos ⟨h1, h7⟩]
  omega
set_option maxRecDepth 100000 in
set_option maxHeartbeats 1600000 in
theorem role_0 (id sz tm vt ld ti vs : Int) (ga : Option Addr) (gl gc : Nat) (cm : Int) (an : Option Addr) (cn : Nat) (am : Option Addr) (cc : Nat) (xs ys : List Int) (bn bm : Bool) (w : World)
    (h1 : 1 ≤ sz) (h7 : sz ≤ 7) (i0 : 0 ≤ id) (i1 : id < sz) (v0 : 0 ≤ vs) (v1 : vs < 2 ^ sz.toNat) (v2 : vs < 128) (hx : xs.length ≤ 9223372036854775807) (hy : ys.length ≤ 9223372036854775807) :
    Calls Try.prog 32 #[mem id sz tm vt 0 ld ti vs (.slice ga gl gc) cm (.slice an xs.length cn) (.slice am ys.length cc)] w fun e w' => e = .returned (.bool (roleB id sz tm vt 0 ld vs xs.length ys.length bn bm)) ∧ Below w.heap.size w w' := by
  have HR : Hid (roleB id sz tm vt 0 ld vs xs.length ys.length bn bm = (decide ((xs.length : Int) = 0) && decide ((ys.length : Int) = 0))) := Lib.hid rfl
  have hB0 : BoxN 12 (w.alloc (.cells (memL id sz tm vt 0 ld ti vs (.slice ga gl gc) cm (.slice an xs.length cn) (.slice am ys.length cc)).toArray 25)) w.heap.size (memL id sz tm vt 0 ld ti vs (.slice ga gl gc) cm (.slice an xs.length cn) (.slice am ys.length cc)) := BoxN.new w _ 12 _ rfl
  have hb0 : Below w.heap.size w (w.alloc (.cells (memL id sz tm vt 0 ld ti vs (.slice ga gl gc) cm (.slice an xs.length cn) (.slice am ys.length cc)).toArray 25)) := (Below.refl _ _).alloc (Nat.le_refl _) _
  go_enter Try.func32, Try.ntmps32
  go_wp2_with fail
  refine calls_named (fun W => BoxN 12 W w.heap.size (memL id sz tm vt 0 ld ti vs (.slice ga gl gc) cm (.slice an xs.length cn) (.slice am ys.length cc)) ∧ Below w.heap.size w W) ⟨hB0, hb0⟩ ?_
  clear hB0 hb0
  rintro w1 ⟨hB, hb⟩
  have a4 : w1.cell? ⟨w.heap.size, 4, none⟩ = some (.int .i64 0) := hB.cell 4 _ rfl
  have a10 : w1.cell? ⟨w.heap.size, 10, none⟩ = some (.slice an xs.length cn) := hB.cell 10 _ rfl
  have a11 : w1.cell? ⟨w.heap.size, 11, none⟩ = some (.slice am ys.length cc) := hB.cell 11 _ rfl
  refine (ones_at vs _ v0 v2).mono ?_
  rintro e w2 ⟨rfl, rfl⟩
  have HB := Lib.hid hb
  clear hB hb
  generalize cntB vs 7 = c
  by_cases hn : (xs.length : Int) = 0
  · have pn : ((xs.length : Int) == 0) = true := by rw [hn]; rfl
    by_cases hm : (ys.length : Int) = 0
    · have pm : ((ys.length : Int) == 0) = true := by rw [hm]; rfl
      have HV : Hid (roleB id sz tm vt 0 ld vs xs.length ys.length bn bm = true) := Lib.hid (by rw [HR.out, decide_eq_true hn, decide_eq_true hm]; rfl)
      clear HR hn hm
      go_wp2_with fail
      go_quiet (fail)
      go_wp2_with fail
      go_ret
      exact ⟨ret_b HV.out, below_drewN' HB.out _⟩
    · have pm : ((ys.length : Int) == 0) = false := beq_eq_false_iff_ne.2 hm
      have HV : Hid (roleB id sz tm vt 0 ld vs xs.length ys.length bn bm = false) := Lib.hid (by rw [HR.out, decide_eq_false hm, Bool.and_false])
      clear HR hn hm
      go_wp2_with fail
      go_quiet (fail)
      go_wp2_with fail
      go_ret
      exact ⟨ret_b HV.out, below_drewN' HB.out _⟩
  · have pn : ((xs.length : Int) == 0) = false := beq_eq_false_iff_ne.2 hn
    have HV : Hid (roleB id sz tm vt 0 ld vs xs.length ys.length bn bm = false) := Lib.hid (by rw [HR.out, decide_eq_false hn, Bool.false_and])
    clear HR hn
    go_wp2_with fail
    go_quiet (fail)
    go_wp2_with fail
    go_ret
    exact ⟨ret_b HV.out, below_drewN' HB.out _⟩
end Go.Proofs.Ytfpgklhbghahoaa
/- Election: validRole for candidates and primaries. -/
namespace Go.Proofs.Ytfpgklhbghahoaa
open Go.ChangeShapes Go.WideShapes Go.ChangeAt Go.RowKit Go.Deep
set_option linter.unusedVariables false
set_option linter.unusedSimpArgs false
set_option maxRecDepth 100000 in
set_option maxHeartbeats 3200000 in
theorem role_1 (id sz tm vt ld ti vs : Int) (ga : Option Addr) (gl gc : Nat) (cm : Int) (an : Option Addr) (cn : Nat) (am : Option Addr) (cc : Nat) (xs ys : List Int) (w : World)
    (h1 : 1 ≤ sz) (h7 : sz ≤ 7) (i0 : 0 ≤ id) (i1 : id < sz) (v0 : 0 ≤ vs) (v1 : vs < 2 ^ sz.toNat) (v2 : vs < 128) (hx : xs.length ≤ 9223372036854775807) (hy : ys.length ≤ 9223372036854775807) (hg : gl ≤ 100) :
    Calls Try.prog 32 #[mem id sz tm vt 1 ld ti vs (.slice ga gl gc) cm (.slice an xs.length cn) (.slice am ys.length cc)] w fun e w' => e = .returned (.bool (roleB id sz tm vt 1 ld vs xs.length ys.length (inB gl xs) (inB gl ys))) ∧ Below w.heap.size w w' := by
  have hc := cntB_le vs v0 sz.toNat
  have hm := maj_le sz h1 h7
  have hbit := bit_at vs id v0 v2 i0 (by omega)
  have HA := cntB_all vs sz v0 h1 h7 v1
  have HR : Hid (roleB id sz tm vt 1 ld vs xs.length ys.length (inB gl xs) (inB gl ys) = (firstB id tm vt vs && decide (ld = -1) && decide (cntB vs sz.toNat < maj sz) && (decide ((xs.length : Int) = 0) && decide ((ys.length : Int) = 0)))) := Lib.hid rfl
  have HF : Hid (firstB id tm vt vs = (decide (1 ≤ tm) && decide (vt = id) && bitB vs id)) := Lib.hid rfl
  have hB0 : BoxN 12 (w.alloc (.cells (memL id sz tm vt 1 ld ti vs (.slice ga gl gc) cm (.slice an xs.length cn) (.slice am ys.length cc)).toArray 25)) w.heap.size (memL id sz tm vt 1 ld ti vs (.slice ga gl gc) cm (.slice an xs.length cn) (.slice am ys.length cc)) := BoxN.new w _ 12 _ rfl
  have hb0 : Below w.heap.size w (w.alloc (.cells (memL id sz tm vt 1 ld ti vs (.slice ga gl gc) cm (.slice an xs.length cn) (.slice am ys.length cc)).toArray 25)) := (Below.refl _ _).alloc (Nat.le_refl _) _
  have HM := Lib.hid (fun W => maj_any sz W)
  have HO := Lib.hid (fun W => ones_at vs W v0 v2)
  rw [HA] at HO
  generalize roleB id sz tm vt 1 ld vs xs.length ys.length (inB gl xs) (inB gl ys) = R at *
  generalize firstB id tm vt vs = F at *
  generalize bitB vs id = bt at *
  generalize cntB vs sz.toNat = c at *
  generalize maj sz = mj at *
  clear HA v1
  have hc7 : c ≤ 7 := by omega
  clear hc
  go_enter Try.func32, Try.ntmps32
  go_wp2_with fail
  refine calls_named (fun W => BoxN 12 W w.heap.size (memL id sz tm vt 1 ld ti vs (.slice ga gl gc) cm (.slice an xs.length cn) (.slice am ys.length cc)) ∧ Below w.heap.size w W) ⟨hB0, hb0⟩ ?_
  clear hB0 hb0
  rintro w1 ⟨hB, hb⟩
  have a0 : w1.cell? ⟨w.heap.size, 0, none⟩ = some (.int .i64 id) := hB.cell 0 _ rfl
  have a1 : w1.cell? ⟨w.heap.size, 1, none⟩ = some (.int .i64 sz) := hB.cell 1 _ rfl
  have a2 : w1.cell? ⟨w.heap.size, 2, none⟩ = some (.int .i64 tm) := hB.cell 2 _ rfl
  have a3 : w1.cell? ⟨w.heap.size, 3, none⟩ = some (.int .i64 vt) := hB.cell 3 _ rfl
  have a4 : w1.cell? ⟨w.heap.size, 4, none⟩ = some (.int .i64 1) := hB.cell 4 _ rfl
  have a5 : w1.cell? ⟨w.heap.size, 5, none⟩ = some (.int .i64 ld) := hB.cell 5 _ rfl
  have a7 : w1.cell? ⟨w.heap.size, 7, none⟩ = some (.int .i64 vs) := hB.cell 7 _ rfl
  have a10 : w1.cell? ⟨w.heap.size, 10, none⟩ = some (.slice an xs.length cn) := hB.cell 10 _ rfl
  have a11 : w1.cell? ⟨w.heap.size, 11, none⟩ = some (.slice am ys.length cc) := hB.cell 11 _ rfl
  refine (HO.out _).mono ?_
  rintro e w2 ⟨rfl, rfl⟩
  have HV0 := Lib.hid (⟨hB, hb⟩ : VM w (memL id sz tm vt 1 ld ti vs (.slice ga gl gc) cm (.slice an xs.length cn) (.slice am ys.length cc)) w1)
  clear hB hb HO
  by_cases t1 : tm < 1
  · have p1 : decide (tm < 1) = true := decide_eq_true t1
    have HV : Hid (R = false) := Lib.hid (by rw [HR.out, HF.out, decide_eq_false (by omega)]; simp)
    clear HR HF
    go_wp2_with fail
    go_quiet (fail)
    go_wp2_with fail
    go_ret
    exact ⟨ret_b HV.out, below_drewN' HV0.out.2 _⟩
  have p1 : decide (tm < 1) = false := decide_eq_false t1
  have k1 : decide (1 ≤ tm) = true := decide_eq_true (by omega)
  by_cases t2 : vt = id
  rotate_left
  · have p2 : (vt == id) = false := beq_eq_false_iff_ne.2 t2
    have p2' : (vt != id) = true := by rw [bne, p2]; rfl
    have HV : Hid (R = false) := Lib.hid (by rw [HR.out, HF.out, decide_eq_false t2]; simp)
    clear HR HF
    go_wp2_with fail
    go_quiet (fail)
    go_wp2_with fail
    go_ret
    exact ⟨ret_b HV.out, below_drewN' HV0.out.2 _⟩
  have k2 : decide (vt = id) = true := decide_eq_true t2
  have p2 : (vt == id) = true := beq_iff_eq.2 t2
  have p2' : (vt != id) = false := by rw [bne, p2]; rfl
  cases bt
  · have hbit' : (bits .and .i64 vs (wrap64 (2 ^ id.toNat)) == 0) = true := by rw [← IntWalk.i64_left]; exact hbit
    have HV : Hid (R = false) := Lib.hid (by rw [HR.out, HF.out]; simp)
    clear HR HF
    go_wp2_with fail
    go_quiet (fail)
    go_wp2_with fail
    go_ret
    exact ⟨ret_b HV.out, below_drewN' HV0.out.2 _⟩
  have hbit' : (bits .and .i64 vs (wrap64 (2 ^ id.toNat)) == 0) = false := by rw [← IntWalk.i64_left]; exact hbit
  have HF2 : Hid (F = true) := Lib.hid (by rw [HF.out, k1, k2]; rfl)
  clear HF k1 k2 t1 t2 hbit
  by_cases t3 : ld = -1
  rotate_left
  · have p3 : (ld == -1) = false := beq_eq_false_iff_ne.2 t3
    have p3' : (ld != -1) = true := by rw [bne, p3]; rfl
    have HF := HF2
    have HV : Hid (R = false) := Lib.hid (by rw [HR.out, decide_eq_false t3]; simp)
    clear HR HF
    go_wp2_with fail
    go_quiet (fail)
    go_wp2_with fail
    go_ret
    exact ⟨ret_b HV.out, below_drewN' HV0.out.2 _⟩
  have p3 : (ld == -1) = true := beq_iff_eq.2 t3
  have p3' : (ld != -1) = false := by rw [bne, p3]; rfl
  by_cases t4 : mj ≤ c
  · have p4 : decide (mj ≤ c) = true := decide_eq_true t4
    have HV : Hid (R = false) := Lib.hid (by rw [HR.out, decide_eq_false (show ¬ c < mj by omega)]; simp)
    clear HR HF2 t3
    go_wp2_with fail
    go_quiet (fail)
    go_wp2_with fail
    refine (HM.out _).mono ?_
    rintro e w3 ⟨rfl, rfl⟩
    go_wp2_with fail
    go_ret
    exact ⟨ret_b HV.out, below_drewN' HV0.out.2 _⟩
  have p4 : decide (mj ≤ c) = false := decide_eq_false t4
  have HR2 : Hid (R = (decide ((xs.length : Int) = 0) && decide ((ys.length : Int) = 0))) := Lib.hid (by rw [HR.out, HF2.out, decide_eq_true t3, decide_eq_true (show c < mj by omega)]; rfl)
  clear HR HF2 t3
  by_cases hn : (xs.length : Int) = 0
  rotate_left
  · have pn : ((xs.length : Int) == 0) = false := beq_eq_false_iff_ne.2 hn
    have HV : Hid (R = false) := Lib.hid (by rw [HR2.out, decide_eq_false hn, Bool.false_and])
    clear HR2
    go_wp2_with fail
    go_quiet (fail)
    go_wp2_with fail
    refine (HM.out _).mono ?_
    rintro e w3 ⟨rfl, rfl⟩
    go_wp2_with fail
    go_ret
    exact ⟨ret_b HV.out, below_drewN' HV0.out.2 _⟩
  have pn : ((xs.length : Int) == 0) = true := beq_iff_eq.2 hn
  by_cases hm2 : (ys.length : Int) = 0
  · have pm : ((ys.length : Int) == 0) = true := beq_iff_eq.2 hm2
    have HV : Hid (R = true) := Lib.hid (by rw [HR2.out, decide_eq_true hn, decide_eq_true hm2]; rfl)
    clear HR2
    go_wp2_with fail
    go_quiet (fail)
    go_wp2_with fail
    refine (HM.out _).mono ?_
    rintro e w3 ⟨rfl, rfl⟩
    go_wp2_with fail
    go_ret
    exact ⟨ret_b HV.out, below_drewN' HV0.out.2 _⟩
  · have pm : ((ys.length : Int) == 0) = false := beq_eq_false_iff_ne.2 hm2
    have HV : Hid (R = false) := Lib.hid (by rw [HR2.out, decide_eq_false hm2, Bool.and_false])
    clear HR2
    go_wp2_with fail
    go_quiet (fail)
    go_wp2_with fail
    refine (HM.out _).mono ?_
    rintro e w3 ⟨rfl, rfl⟩
    go_wp2_with fail
    go_ret
    exact ⟨ret_b HV.out, below_drewN' HV0.out.2 _⟩
end Go.Proofs.Ytfpgklhbghahoaa
