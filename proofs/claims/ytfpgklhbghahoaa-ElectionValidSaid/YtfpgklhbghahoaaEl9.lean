/- Election: the law's example. -/
import Derived.Test.YtfpgklhbghahoaaEl8
namespace Go.Proofs.Ytfpgklhbghahoaa
open Go.ChangeShapes Go.WideShapes Go.ChangeAt Go.RowKit Go.Deep
set_option linter.unusedVariables false
set_option linter.unusedSimpArgs false
theorem new13 (w : World) : Calls Try.prog 9 #[.int .i64 1, .int .i64 3] w fun e w' => e = .returned (.tuple #[m0, .int .i64 0]) ∧ Below w.heap.size w w' := new_any 1 3 w
theorem new33 (w : World) : Calls Try.prog 9 #[.int .i64 3, .int .i64 3] w fun e w' => e = .returned (.tuple #[mem 0 0 0 0 0 0 0 0 nil 0 nil nil, .int .i64 1]) ∧ Below w.heap.size w w' := new_any 3 3 w
/-- the boxes so far, each with a member's cells; the ranges so far -/
def AK (w : World) (l r : List (Nat × List Value)) (W : World) : Prop := (∀ x ∈ l, BoxN 12 W x.1 x.2) ∧ (∀ x ∈ r, W.rangeAt x.1 0 x.2 ∧ x.1 < W.heap.size) ∧ Below w.heap.size w W
theorem range_keep {w W : World} {g : Nat} {cs : List Value} (h : w.rangeAt g 0 cs ∧ g < w.heap.size) (hb : Below w.heap.size w W) : W.rangeAt g 0 cs ∧ g < W.heap.size := ⟨fun j v hv => (hb.cell (p := ⟨g, 0 + j, none⟩) h.2).trans (h.1 j v hv), Nat.lt_of_lt_of_le h.2 hb.size⟩
theorem AK.keep {w : World} {l r : List (Nat × List Value)} {W W' : World} (h : AK w l r W) (hb : Below W.heap.size W W') : AK w l r W' := ⟨fun x hx => (h.1 x hx).keep hb, fun x hx => range_keep (h.2.1 x hx) hb, h.2.2.trans (hb.mono h.2.2.size)⟩
theorem AK.more {w : World} {l r : List (Nat × List Value)} {W : World} {g : Nat} {cs : List Value} (h : AK w l r W) (h1 : W.rangeAt g 0 cs) (h2 : g < W.heap.size) : AK w l ((g, cs) :: r) W :=
  ⟨h.1, fun x hx => by rcases List.mem_cons.1 hx with rfl | hx; exact ⟨h1, h2⟩; exact h.2.1 x hx, h.2.2⟩
theorem AK.box {w : World} {l r : List (Nat × List Value)} {W : World} (h : AK w l r W) : AK w ((W.heap.size, zL) :: l) r (W.alloc (.cells zL.toArray 25)) := by
  have hb : Below W.heap.size W (W.alloc (.cells zL.toArray 25)) := (Below.refl _ _).alloc (Nat.le_refl _) _
  refine ⟨fun x hx => ?_, fun x hx => range_keep (h.2.1 x hx) hb, h.2.2.trans (hb.mono h.2.2.size)⟩
  rcases List.mem_cons.1 hx with rfl | hx
  · exact BoxN.new W _ 12 _ rfl
  · exact (h.1 x hx).keep hb
theorem AK.put {w : World} {l r : List (Nat × List Value)} {W0 W W' : World} {cs vs : List Value} (h0 : AK w l r W0) (h : AK w ((W0.heap.size, cs) :: l) r W) (h1 : BoxN 12 W' W0.heap.size vs) (h2 : Only W W' W0.heap.size) : AK w ((W0.heap.size, vs) :: l) r W' := by
  refine ⟨fun x hx => ?_, fun x hx => ?_, h.2.2.trans (h2.below _ h0.2.2.size)⟩
  · rcases List.mem_cons.1 hx with rfl | hx
    · exact h1
    · exact (h.1 x (List.mem_cons_of_mem _ hx)).other h2 (by have := (h0.1 x hx).1.lt; omega)
  · have hx0 := h0.2.1 x hx
    have hx1 := h.2.1 x hx
    exact ⟨rangeAt.other hx1.1 h2 (by have := hx0.2; omega), by rw [h2.size]; exact hx1.2⟩
theorem AK.b0 {w : World} {a : Nat} {cs : List Value} {l r : List (Nat × List Value)} {W : World} (h : AK w ((a, cs) :: l) r W) : BoxN 12 W a cs := h.1 _ (List.mem_cons_self ..)
theorem AK.tl {w : World} {a : Nat × List Value} {l r : List (Nat × List Value)} {W : World} (h : AK w (a :: l) r W) : AK w l r W := ⟨fun x hx => h.1 x (List.mem_cons_of_mem _ hx), h.2⟩
theorem AK.r0 {w : World} {a : Nat} {cs : List Value} {l r : List (Nat × List Value)} {W : World} (h : AK w l ((a, cs) :: r) W) (j : Nat) (v : Value) (hv : cs[j]? = some v) : W.cell? ⟨a, j, none⟩ = some v := by
  have := (h.2.1 _ (List.mem_cons_self ..)).1 j v hv
  rwa [Nat.zero_add] at this
theorem AK.rtl {w : World} {a : Nat × List Value} {l r : List (Nat × List Value)} {W : World} (h : AK w l (a :: r) W) : AK w l r W := ⟨h.1, fun x hx => h.2.1 x (List.mem_cons_of_mem _ hx), h.2.2⟩
theorem camp_call (w : World) : Calls Try.prog 24 #[m0] w fun e w' => ∃ g cap, e = .returned (.tuple #[m1, .slice (some ⟨g, 0, none⟩) 2 cap]) ∧ w'.rangeAt g 0 (msgs [0, 2]) ∧ g < w'.heap.size ∧ Below w.heap.size w w' := by
  refine (campaign_ex w).mono ?_
  rintro e w' ⟨g, cap, rfl, ho, hb⟩
  refine ⟨g, cap, rfl, fun j v hv => ?_, (ho.lt g rfl).2, hb⟩
  have := ho.cells (g := g) rfl j v hv
  by_cases h0 : j = 0 <;> simpa [Addr.add, h0] using this
theorem AK.start {w w1 : World} (hb : Below w.heap.size w w1) : AK w [] [] w1 := ⟨fun x hx => (by cases hx), fun x hx => (by cases hx), hb⟩
set_option maxRecDepth 100000 in
set_option maxHeartbeats 4000000 in
theorem awake_any (w : World) : Calls Try.prog 14 #[] w fun e w' => e = .returned (.bool true) ∧ Below w.heap.size w w' := by
  have hf1 : ∀ w, (Instr.field 25 (mem 1 3 2 (-1) 0 (-1) 13 0 nil 0 nil nil) 4).run Try.prog w = .ok (.int .i64 0) w := fun w => by kernel_rfl
  have hf2 : ∀ w, (Instr.field 25 (mem 1 3 1 1 1 (-1) 13 2 nil 0 nil nil) 4).run Try.prog w = .ok (.int .i64 1) w := fun w => by kernel_rfl
  go_enter Try.func14, Try.ntmps14
  go_wp2_with fail
  refine (new13 _).mono ?_
  rintro e w1 ⟨rfl, hb1⟩
  have HA1 := Lib.hid (AK.start hb1)
  clear hb1
  have HX := Lib.hid (HA1.out.box)
  have hX := HX.out.b0
  go_wp2_with (with_reducible refine wpList_box_store 25 1 (.tmp 14) w1.heap.size zL (memL 1 3 0 (-1) 0 (-1) 13 0 nil 0 nil nil) _ _ _ _ _ _ ?_ ?_ hX (memOk _ _ _ _ _ _ _ _ _ _ _ _ _ _ _ _ _ _) wideMem ?_)
  · rfl
  · rfl
  rintro w2 hB hO
  have HA2 := Lib.hid (AK.put HA1.out HX.out hB hO)
  clear HA1 HX hX hB hO
  go_wp2_with fail
  refine (new33 _).mono ?_
  rintro e w3 ⟨rfl, hb⟩
  have HA3 := Lib.hid (HA2.out.keep hb)
  clear hb HA2
  have HX := Lib.hid (HA3.out.box)
  have hX := HX.out.b0
  go_wp2_with (with_reducible refine wpList_box_store 25 3 (.tmp 18) w3.heap.size zL (memL 0 0 0 0 0 0 0 0 nil 0 nil nil) _ _ _ _ _ _ ?_ ?_ hX (memOk _ _ _ _ _ _ _ _ _ _ _ _ _ _ _ _ _ _) wideMem ?_)
  · rfl
  · rfl
  rintro w4 hB hO
  have HA4 := Lib.hid (AK.put HA3.out HX.out hB hO)
  clear HA3 HX hX hB hO
  have hL := HA4.out.tl.b0
  go_wp2_with (with_reducible refine wpList_box_load 25 1 w1.heap.size (memL 1 3 0 (-1) 0 (-1) 13 0 nil 0 nil nil) _ _ _ _ _ _ ?_ hL wideMem ?_)
  · rfl
  clear hL
  go_wp2_with fail
  refine (camp_call _).mono ?_
  rintro e w5 ⟨gl, cl, rfl, hr, hl, hb⟩
  have HA5 := Lib.hid ((HA4.out.keep hb).more hr hl)
  clear hb hr hl HA4
  have HX := Lib.hid (HA5.out.box)
  have hX := HX.out.b0
  go_wp2_with (with_reducible refine wpList_box_store 25 5 (.tmp 23) w5.heap.size zL (memL 1 3 1 1 1 (-1) 13 2 nil 0 nil nil) _ _ _ _ _ _ ?_ ?_ hX (memOk _ _ _ _ _ _ _ _ _ _ _ _ _ _ _ _ _ _) wideMem ?_)
  · rfl
  · rfl
  rintro w6 hB hO
  have HA6 := Lib.hid (AK.put HA5.out HX.out hB hO)
  clear HA5 HX hX hB hO
  have hL := HA6.out.tl.tl.b0
  go_wp2_with (with_reducible refine wpList_box_load 25 1 w1.heap.size (memL 1 3 0 (-1) 0 (-1) 13 0 nil 0 nil nil) _ _ _ _ _ _ ?_ hL wideMem ?_)
  · rfl
  clear hL
  go_wp2_with fail
  refine (vote_ex1 _).mono ?_
  rintro e w7 ⟨ga, rfl, hr, hl, hb⟩
  have HA7 := Lib.hid ((HA6.out.keep hb).more hr hl)
  clear hb hr hl HA6
  have HX := Lib.hid (HA7.out.box)
  have hX := HX.out.b0
  go_wp2_with (with_reducible refine wpList_box_store 25 7 (.tmp 29) w7.heap.size zL (memL 1 3 1 0 0 (-1) 13 0 nil 0 nil nil) _ _ _ _ _ _ ?_ ?_ hX (memOk _ _ _ _ _ _ _ _ _ _ _ _ _ _ _ _ _ _) wideMem ?_)
  · rfl
  · rfl
  rintro w8 hB hO
  have HA8 := Lib.hid (AK.put HA7.out HX.out hB hO)
  clear HA7 HX hX hB hO
  have hL := HA8.out.b0
  go_wp2_with (with_reducible refine wpList_box_load 25 7 w7.heap.size (memL 1 3 1 0 0 (-1) 13 0 nil 0 nil nil) _ _ _ _ _ _ ?_ hL wideMem ?_)
  · rfl
  clear hL
  go_wp2_with fail
  refine (vote_ex2 _).mono ?_
  rintro e w9 ⟨gb, rfl, hr, hl, hb⟩
  have HA9 := Lib.hid ((HA8.out.keep hb).more hr hl)
  clear hb hr hl HA8
  have HX := Lib.hid (HA9.out.box)
  have hX := HX.out.b0
  go_wp2_with (with_reducible refine wpList_box_store 25 9 (.tmp 35) w9.heap.size zL (memL 1 3 1 0 0 (-1) 13 0 nil 0 nil nil) _ _ _ _ _ _ ?_ ?_ hX (memOk _ _ _ _ _ _ _ _ _ _ _ _ _ _ _ _ _ _) wideMem ?_)
  · rfl
  · rfl
  rintro w10 hB hO
  have HA10 := Lib.hid (AK.put HA9.out HX.out hB hO)
  clear HA9 HX hX hB hO
  have hL := HA10.out.tl.tl.b0
  go_wp2_with (with_reducible refine wpList_box_load 25 5 w5.heap.size (memL 1 3 1 1 1 (-1) 13 2 nil 0 nil nil) _ _ _ _ _ _ ?_ hL wideMem ?_)
  · rfl
  clear hL
  go_wp2_with fail
  refine (voted_ex _).mono ?_
  rintro e w11 ⟨g, h, rfl, hr, hr2, hl, hl2, _, _, hb⟩
  have HA11 := Lib.hid (((HA10.out.keep hb).more hr hl).more hr2 hl2)
  clear hb hr hl hr2 hl2 HA10
  have HX := Lib.hid (HA11.out.box)
  have hX := HX.out.b0
  go_wp2_with (with_reducible refine wpList_box_store 25 11 (.tmp 39) w11.heap.size zL (pL g h) _ _ _ _ _ _ ?_ ?_ hX (memOk _ _ _ _ _ _ _ _ _ _ _ _ _ _ _ _ _ _) wideMem ?_)
  · rfl
  · rfl
  rintro w12 hB hO
  have HA12 := Lib.hid (AK.put HA11.out HX.out hB hO)
  clear HA11 HX hX hB hO
  have c1 := HA12.out.tl.tl.tl.tl.tl.b0.cell 6 _ rfl
  have c5 := HA12.out.tl.tl.tl.b0.cell 2 _ rfl
  have d1 := HA12.out.rtl.rtl.rtl.rtl.r0 1 (.int .i64 0) rfl
  have d2 := HA12.out.rtl.rtl.rtl.rtl.r0 10 (.int .i64 2) rfl
  have e1 := HA12.out.rtl.rtl.rtl.r0 8 (.bool true) rfl
  have e2 := HA12.out.rtl.rtl.r0 8 (.bool false) rfl
  have p4 := HA12.out.b0.cell 4 _ rfl
  have p5 := HA12.out.b0.cell 5 _ rfl
  go_wp2_with fail
  refine (maj4 _).mono ?_
  rintro e w13 ⟨rfl, rfl⟩
  clear c1 c5 d1 d2 e1 e2
  have hL := HA12.out.b0
  go_wp2_with (with_reducible refine wpList_box_load_g 25 11 w11.heap.size (pL g h) _ _ _ _ _ _ _ ?_ hL wideMem ?_ ?_)
  · rfl
  clear hL
  go_wp2_with fail
  refine (valid_ex g h _ (HA12.out.2.1 _ (List.mem_cons_of_mem _ (List.mem_cons_self ..))).1 (HA12.out.2.1 _ (List.mem_cons_of_mem _ (List.mem_cons_self ..))).2 (HA12.out.2.1 _ (List.mem_cons_self ..)).1 (HA12.out.2.1 _ (List.mem_cons_self ..)).2).mono ?_
  rintro e w14 ⟨rfl, hb⟩
  have HA14 := Lib.hid (HA12.out.keep hb)
  clear hb HA12 p4 p5
  have hL := HA14.out.b0
  go_wp2_with (with_reducible refine wpList_box_load_g 25 11 w11.heap.size (pL g h) _ _ _ _ _ _ _ ?_ hL wideMem ?_ ?_)
  · rfl
  clear hL
  go_wp2_with fail
  refine (step_p g h _ (HA14.out.2.1 _ (List.mem_cons_of_mem _ (List.mem_cons_self ..))).1 (HA14.out.2.1 _ (List.mem_cons_of_mem _ (List.mem_cons_self ..))).2 (HA14.out.2.1 _ (List.mem_cons_self ..)).1 (HA14.out.2.1 _ (List.mem_cons_self ..)).2).mono ?_
  rintro e w15 ⟨rfl, hb⟩
  have HA15 := Lib.hid (HA14.out.keep hb)
  clear hb HA14
  have hL := HA15.out.tl.tl.tl.b0
  go_wp2_with (with_reducible refine wpList_box_load_g 25 5 w5.heap.size (memL 1 3 1 1 1 (-1) 13 2 nil 0 nil nil) _ _ _ _ _ _ _ ?_ hL wideMem ?_ ?_)
  · rfl
  clear hL
  go_wp2_with fail
  refine (step_c _).mono ?_
  rintro e w16 ⟨rfl, hb⟩
  have HA16 := Lib.hid (HA15.out.keep hb)
  clear hb HA15
  go_wp2_with fail
  go_ret
  exact ⟨rfl, HA16.out.2.2⟩
end Go.Proofs.Ytfpgklhbghahoaa
