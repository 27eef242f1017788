/- Election: the votes of the law's example. -/
import Derived.Test.YtfpgklhbghahoaaEl3
import Derived.Deep.RegionLaw
namespace Go.Proofs.Ytfpgklhbghahoaa
open Go.ChangeShapes Go.WideShapes Go.ChangeAt Go.RowKit Go.Deep
set_option linter.unusedVariables false
set_option linter.unusedSimpArgs false
abbrev msgL (f t k tm : Int) (ok : Bool) : List Value := [.int .i64 f, .int .i64 t, .int .i64 k, .int .i64 tm, .int .i64 0, .int .i64 0, .int .i64 0, nil, .bool ok]
abbrev msgV (f t k tm : Int) (ok : Bool) : Value := .agg #[.int .i64 f, .int .i64 t, .int .i64 k, .int .i64 tm, .int .i64 0, .int .i64 0, .int .i64 0, nil, .bool ok]
theorem wideMsg : Wide Try.prog 35 9 := ⟨by kernel_rfl, _, Try.underlying35, rfl⟩
theorem msgOk (f t k tm : Int) (ok : Bool) : Cells 9 (msgL f t k tm ok) := ⟨rfl, rfl⟩
/-- the boxes of a member, of a message and of the result -/
def VV (w : World) (cs ms rs : List Value) (W : World) : Prop := BoxN 12 W w.heap.size cs ∧ BoxN 9 W (w.heap.size + 1) ms ∧ BoxN 12 W (w.heap.size + 2) rs ∧ Below w.heap.size w W
theorem VV.start (w : World) (cs ms : List Value) (T T2 : TypeId) (h : cs.length = 12) (h2 : ms.length = 9) : VV w cs ms zL (((w.alloc (.cells cs.toArray T)).alloc (.cells ms.toArray T2)).alloc (.cells zL.toArray T)) := by
  refine ⟨((BoxN.new w cs 12 T h).alloc _).alloc _, ?_, ?_, (((Below.refl _ _).alloc (Nat.le_refl _) _).alloc (by simp) _).alloc (by simp; omega) _⟩
  · simpa using (BoxN.new (w.alloc (.cells cs.toArray T)) ms 9 T2 h2).alloc (.cells zL.toArray T)
  · simpa using BoxN.new ((w.alloc (.cells cs.toArray T)).alloc (.cells ms.toArray T2)) zL 12 T rfl
theorem VV.keep {w : World} {cs ms rs : List Value} {W W' : World} (h : VV w cs ms rs W) (hb : Below W.heap.size W W') : VV w cs ms rs W' := ⟨h.1.keep hb, h.2.1.keep hb, h.2.2.1.keep hb, h.2.2.2.trans (hb.mono h.2.2.2.size)⟩
theorem VV.own {w : World} {cs ms rs vs : List Value} {W W' : World} (h : VV w cs ms rs W) (h1 : BoxN 12 W' w.heap.size vs) (h2 : Only W W' w.heap.size) : VV w vs ms rs W' := ⟨h1, h.2.1.other h2 (by omega), h.2.2.1.other h2 (by omega), h.2.2.2.trans (h2.below _ (Nat.le_refl _))⟩
theorem VV.res {w : World} {cs ms rs vs : List Value} {W W' : World} (h : VV w cs ms rs W) (h1 : BoxN 12 W' (w.heap.size + 2) vs) (h2 : Only W W' (w.heap.size + 2)) : VV w cs ms vs W' := ⟨h.1.other h2 (by omega), h.2.1.other h2 (by omega), h1, h.2.2.2.trans (h2.below _ (by omega))⟩
theorem VV.set {w : World} {cs ms rs : List Value} {W : World} (h : VV w cs ms rs W) (j : Nat) (v : Value) (hj : j < 12) : VV w (cs.set j v) ms rs (W.setCell ⟨w.heap.size, j, none⟩ v) := ⟨h.1.setCell j v hj, h.2.1.setOther j v (by omega), h.2.2.1.setOther j v (by omega), h.2.2.2.setCell (Nat.le_refl _) _⟩
/-- besides: the drawn message lies in block d -/
def V1 (w : World) (cs ms : List Value) (ds : List Value) (rs : List Value) (d : Nat) (W : World) : Prop := VV w cs ms rs W ∧ BoxN 9 W d ds ∧ w.heap.size + 2 < d
theorem V1.drew {w W : World} {cs ms ds rs : List Value} {d : Nat} (h : V1 w cs ms ds rs d W) : V1 w cs ms ds rs d W.drew := ⟨⟨h.1.1.drew, h.1.2.1.drew, h.1.2.2.1.drew, h.1.2.2.2.drew⟩, h.2.1.drew, h.2.2⟩
theorem V1.store {w W W' : World} {cs ms ds rs vs : List Value} {d : Nat} (h : V1 w cs ms ds rs d W) (h1 : BoxN 12 W' (w.heap.size + 2) vs) (h2 : Only W W' (w.heap.size + 2)) : V1 w cs ms ds vs d W' := ⟨h.1.res h1 h2, h.2.1.other h2 (by have := h.2.2; omega), h.2.2⟩
theorem V1.alloc {w W : World} {cs ms ds rs : List Value} {d : Nat} (h : V1 w cs ms ds rs d W) (ob : Obj) : V1 w cs ms ds rs d (W.alloc ob) := ⟨h.1.keep ((Below.refl _ _).alloc (Nat.le_refl _) _), h.2.1.alloc _, h.2.2⟩
/-- .. and the slice of it in block g -/
def V2 (w : World) (cs ms : List Value) (ds : List Value) (rs : List Value) (d g : Nat) (W : World) : Prop := V1 w cs ms ds rs d W ∧ BoxN 9 W g ds ∧ w.heap.size + 2 < g
theorem V2.store {w W W' : World} {cs ms ds rs vs : List Value} {d g : Nat} (h : V2 w cs ms ds rs d g W) (h1 : BoxN 12 W' (w.heap.size + 2) vs) (h2 : Only W W' (w.heap.size + 2)) : V2 w cs ms ds vs d g W' := ⟨h.1.store h1 h2, h.2.1.other h2 (by have := h.2.2; omega), h.2.2⟩
theorem V1.build {w W : World} {cs ms ds rs : List Value} {d : Nat} (h : V1 w cs ms ds rs d W) (hl : ds.length = 9) (T : TypeId) : V2 w cs ms ds rs d W.heap.size (W.alloc (.cells ds.toArray T)) := ⟨h.alloc _, BoxN.new W ds 9 T hl, by have := h.1.2.2.1.1.lt; omega⟩
theorem V2.out {w W : World} {cs ms ds rs : List Value} {d g : Nat} (h : V2 w cs ms ds rs d g W) : W.rangeAt g 0 ds ∧ g < W.heap.size ∧ Below w.heap.size w W := ⟨h.2.1.1.rng, h.2.1.1.lt, h.1.1.2.2.2⟩
theorem wpAny_named {P : Program} {md : Region.Mode} {ops : Array Oper} {Q : Exit → Act → World → Prop} {fuel : Nat} {listed : Array Bool} {a : Act} {W : World} (F : World → Prop) (hF : F W) (h : ∀ W, F W → wpAny P md ops Q fuel listed a W) : wpAny P md ops Q fuel listed a W := h W hF
def VoteOut (m : Value) (f : Int) (ok : Bool) (w : World) (e : Ending) (w' : World) : Prop := ∃ g, e = .returned (.tuple #[m, .slice (some ⟨g, 0, none⟩) 1 1]) ∧ w'.rangeAt g 0 (msgL 1 f 2 1 ok) ∧ g < w'.heap.size ∧ Below w.heap.size w w'
set_option maxRecDepth 100000 in
set_option maxHeartbeats 2000000 in
theorem vote_ex1 (w : World) : Calls Try.prog 19 #[m0, msgV 0 1 1 1 false] w (VoteOut (mem 1 3 1 0 0 (-1) 13 0 nil 0 nil nil) 0 true w) := by
  go_enter Try.func19, Try.ntmps19
  go_wp2_with fail
  have HM0 := Lib.hid (VV.start w (memL 1 3 0 (-1) 0 (-1) 13 0 nil 0 nil nil) (msgL 0 1 1 1 false) 25 35 rfl rfl)
  refine (copyMember_nil _ _ _ _ _ _ _ _ _ _).mono ?_
  rintro e w1 ⟨rfl, hb1⟩
  have HM1 := Lib.hid (HM0.out.keep hb1)
  clear hb1 HM0
  have hA1 := HM1.out.1
  go_wp2_with (with_reducible refine wpList_box_store 25 2 (.tmp 11) w.heap.size _ (memL 1 3 0 (-1) 0 (-1) 13 0 nil 0 nil nil) _ _ _ _ _ _ ?_ ?_ hA1 (memOk _ _ _ _ _ _ _ _ _ _ _ _ _ _ _ _ _ _) wideMem ?_)
  · rfl
  · rfl
  rintro w2 hA hO
  have HM2 := Lib.hid (HM1.out.own hA hO)
  have k2 := HM2.out.2.1.cell 2 _ rfl
  have k3 := HM2.out.2.1.cell 3 _ rfl
  go_wp2_with (with_reducible refine wpList_box_load 25 2 w.heap.size (memL 1 3 0 (-1) 0 (-1) 13 0 nil 0 nil nil) _ _ _ _ _ _ ?_ hA wideMem ?_)
  · rfl
  go_wp2_with fail
  refine (follow_any 1 3 0 (-1) 0 (-1) 13 0 none 0 0 0 none 0 0 none 0 0 1 _ (by omega) (by omega)).mono ?_
  rintro e w3 ⟨he3, hb3⟩
  rw [if_neg (by decide), if_neg (by decide)] at he3
  subst he3
  have HM3 := Lib.hid (HM2.out.keep hb3)
  clear hb3 hA hA1 hO HM1 HM2 k2 k3
  have hA1 := HM3.out.1
  go_wp2_with (with_reducible refine wpList_box_store 25 2 (.tmp 19) w.heap.size _ (memL 1 3 1 (-1) 0 (-1) 13 0 nil 0 nil nil) _ _ _ _ _ _ ?_ ?_ hA1 (memOk _ _ _ _ _ _ _ _ _ _ _ _ _ _ _ _ _ _) wideMem ?_)
  · rfl
  · rfl
  rintro w4 hA hO
  have HM4 := Lib.hid (HM3.out.own hA hO)
  clear hA1 hO hA HM3
  have a8 := HM4.out.1.cell 8 _ rfl
  go_wp2_with fail
  refine (lastTerm_nil _).mono ?_
  rintro e w5 ⟨rfl, rfl⟩
  have a0 := HM4.out.1.cell 0 _ rfl
  have a2 := HM4.out.1.cell 2 _ rfl
  have a3 := HM4.out.1.cell 3 _ rfl
  have k0 := HM4.out.2.1.cell 0 _ rfl
  have k3 := HM4.out.2.1.cell 3 _ rfl
  have k4 := HM4.out.2.1.cell 4 _ rfl
  have k5 := HM4.out.2.1.cell 5 _ rfl
  have f3 := HM4.out.1.1.free 3
  go_wp2_with fail
  refine calls_named (fun W => VV w (memL 1 3 1 0 0 (-1) 13 0 nil 0 nil nil) (msgL 0 1 1 1 false) zL W) (HM4.out.set 3 (.int .i64 0) (by omega)) ?_
  clear HM4 a0 a2 a3 k0 k3 k4 k5 f3 a8
  rintro w6 hM6
  have HM6 := Lib.hid hM6
  clear hM6
  refine (usual_any 1 _ (by omega) (by omega)).mono ?_
  rintro e w7 ⟨rfl, rfl⟩
  have a0 := HM6.out.1.cell 0 _ rfl
  have a2 := HM6.out.1.cell 2 _ rfl
  have a6 := HM6.out.1.cell 6 _ rfl
  have k0 := HM6.out.2.1.cell 0 _ rfl
  have f6 := HM6.out.1.1.free 6
  have l0 := HM6.out.1.1.lt
  have l1 := HM6.out.2.1.1.lt
  have l2 := HM6.out.2.2.1.1.lt
  have n0 : w.heap.size ≠ w6.heap.size := by omega
  have n1 : w.heap.size + 1 ≠ w6.heap.size := by omega
  go_wp2_with fail
  refine wp_named (fun W => VV w (memL 1 3 1 0 0 (-1) 13 0 nil 0 nil nil) (msgL 0 1 1 1 false) zL W ∧ BoxN 9 W w6.heap.size (msgL 1 0 2 1 true) ∧ w6.heap.size < W.heap.size) ⟨(HM6.out.set 6 (.int .i64 13) (by omega)).keep ((Below.refl _ _).alloc (Nat.le_refl _) _), by simpa using BoxN.new (w6.setCell ⟨w.heap.size, 6, none⟩ (.int .i64 13)) (msgL 1 0 2 1 true) 9 35 rfl, by simp⟩ ?_
  clear a0 a2 a6 k0 f6 HM6
  rintro w8 ⟨hM8, hD8, hz8⟩
  have l9 := hM8.2.2.1.1.lt
  have hV := V1.drew (⟨hM8, hD8, by omega⟩ : V1 w (memL 1 3 1 0 0 (-1) 13 0 nil 0 nil nil) (msgL 0 1 1 1 false) (msgL 1 0 2 1 true) zL w6.heap.size w8)
  refine wp_region_any (by kernel_rfl) ?_
  try (change wpAny _ _ _ _ _ _ _ (World.drew _))
  refine wpAny_ready (rs := [0, 1]) (by kernel_rfl) (by simp) ?_
  refine AllReady.cons rfl (fun K hK => ?_) ?_
  · skip
    refine step_box_load (by rfl) 25 (.tmp 2) (by rfl) w.heap.size (memL 1 3 1 0 0 (-1) 13 0 nil 0 nil nil) (by rfl) hV.1.1 wideMem ?_
    refine hK _ _ ?_; clear hK K
    refine wpAny_ready (rs := [1, 3]) (by kernel_rfl) (by simp) ?_
    refine AllReady.cons rfl (fun K hK => ?_) ?_
    · skip
      refine step_box_load (by rfl) 35 (.tmp 9) (by rfl) w6.heap.size (msgL 1 0 2 1 true) (by rfl) hV.2.1 wideMsg ?_
      refine hK _ _ ?_; clear hK K
      refine wpAny_ready (rs := [2, 3]) (by kernel_rfl) (by simp) ?_
      refine AllReady.cons rfl (fun K hK => ?_) ?_
      · skip
        go_simp
        refine hK _ _ ?_; clear hK K
        refine wpAny_named (fun W => V2 w (memL 1 3 1 0 0 (-1) 13 0 nil 0 nil nil) (msgL 0 1 1 1 false) (msgL 1 0 2 1 true) zL w6.heap.size w8.heap.size W) (hV.build rfl _) ?_
        rintro W1 s1
        refine wpAny_ready (rs := [3]) (by kernel_rfl) (by simp) ?_
        refine AllReady.cons rfl (fun K hK => ?_) ?_
        · skip
          refine step_box_store (by rfl) 25 (.tmp 4) (.tmp 77) (by rfl) (w.heap.size + 2) zL (memL 1 3 1 0 0 (-1) 13 0 nil 0 nil nil) (by rfl) (by rfl) s1.1.1.2.2.1 (memOk _ _ _ _ _ _ _ _ _ _ _ _ _ _ _ _ _ _) wideMem ?_
          rintro W2 hB2 hO2
          have s2 := s1.store hB2 hO2
          refine hK _ _ ?_; clear hK K
          refine wpAny_ready (rs := [4]) (by kernel_rfl) (by simp) ?_
          refine AllReady.cons rfl (fun K hK => ?_) ?_
          · skip
            go_simp
            refine hK _ _ ?_; clear hK K
            refine wpAny_done (by kernel_rfl) ?_ _
            go_wp2_with fail
            have r0 := s2.1.1.2.2.1.cell 0 _ rfl
            have r1 := s2.1.1.2.2.1.cell 1 _ rfl
            have r2 := s2.1.1.2.2.1.cell 2 _ rfl
            have r3 := s2.1.1.2.2.1.cell 3 _ rfl
            have r4 := s2.1.1.2.2.1.cell 4 _ rfl
            have r5 := s2.1.1.2.2.1.cell 5 _ rfl
            have r6 := s2.1.1.2.2.1.cell 6 _ rfl
            have r7 := s2.1.1.2.2.1.cell 7 _ rfl
            have r8 := s2.1.1.2.2.1.cell 8 _ rfl
            have r9 := s2.1.1.2.2.1.cell 9 _ rfl
            have r10 := s2.1.1.2.2.1.cell 10 _ rfl
            have r11 := s2.1.1.2.2.1.cell 11 _ rfl
            refine bodyPost_ret (v := .tuple #[mem 1 3 1 0 0 (-1) 13 0 nil 0 nil nil, .slice (some ⟨_, 0, none⟩) 1 1]) (by simp [results, Try.results19, go_sem, r0, r1, r2, r3, r4, r5, r6, r7, r8, r9, r10, r11]) rfl ⟨_, rfl, s2.out⟩
          exact AllReady.nil
        exact AllReady.nil
      refine AllReady.cons rfl (fun K hK => ?_) ?_
      · skip
        refine step_box_store (by rfl) 25 (.tmp 4) (.tmp 77) (by rfl) (w.heap.size + 2) zL (memL 1 3 1 0 0 (-1) 13 0 nil 0 nil nil) (by rfl) (by rfl) hV.1.2.2.1 (memOk _ _ _ _ _ _ _ _ _ _ _ _ _ _ _ _ _ _) wideMem ?_
        rintro W3 hB3 hO3
        have s3 := hV.store hB3 hO3
        refine hK _ _ ?_; clear hK K
        refine wpAny_ready (rs := [2]) (by kernel_rfl) (by simp) ?_
        refine AllReady.cons rfl (fun K hK => ?_) ?_
        · skip
          go_simp
          refine hK _ _ ?_; clear hK K
          refine wpAny_named (fun W => V2 w (memL 1 3 1 0 0 (-1) 13 0 nil 0 nil nil) (msgL 0 1 1 1 false) (msgL 1 0 2 1 true) (memL 1 3 1 0 0 (-1) 13 0 nil 0 nil nil) w6.heap.size W3.heap.size W) (s3.build rfl _) ?_
          rintro W4 s4
          refine wpAny_ready (rs := [4]) (by kernel_rfl) (by simp) ?_
          refine AllReady.cons rfl (fun K hK => ?_) ?_
          · skip
            go_simp
            refine hK _ _ ?_; clear hK K
            refine wpAny_done (by kernel_rfl) ?_ _
            go_wp2_with fail
            have r0 := s4.1.1.2.2.1.cell 0 _ rfl
            have r1 := s4.1.1.2.2.1.cell 1 _ rfl
            have r2 := s4.1.1.2.2.1.cell 2 _ rfl
            have r3 := s4.1.1.2.2.1.cell 3 _ rfl
            have r4 := s4.1.1.2.2.1.cell 4 _ rfl
            have r5 := s4.1.1.2.2.1.cell 5 _ rfl
            have r6 := s4.1.1.2.2.1.cell 6 _ rfl
            have r7 := s4.1.1.2.2.1.cell 7 _ rfl
            have r8 := s4.1.1.2.2.1.cell 8 _ rfl
            have r9 := s4.1.1.2.2.1.cell 9 _ rfl
            have r10 := s4.1.1.2.2.1.cell 10 _ rfl
            have r11 := s4.1.1.2.2.1.cell 11 _ rfl
            refine bodyPost_ret (v := .tuple #[mem 1 3 1 0 0 (-1) 13 0 nil 0 nil nil, .slice (some ⟨_, 0, none⟩) 1 1]) (by simp [results, Try.results19, go_sem, r0, r1, r2, r3, r4, r5, r6, r7, r8, r9, r10, r11]) rfl ⟨_, rfl, s4.out⟩
          exact AllReady.nil
        exact AllReady.nil
      exact AllReady.nil
    refine AllReady.cons rfl (fun K hK => ?_) ?_
    · skip
      refine step_box_store (by rfl) 25 (.tmp 4) (.tmp 77) (by rfl) (w.heap.size + 2) zL (memL 1 3 1 0 0 (-1) 13 0 nil 0 nil nil) (by rfl) (by rfl) hV.1.2.2.1 (memOk _ _ _ _ _ _ _ _ _ _ _ _ _ _ _ _ _ _) wideMem ?_
      rintro W5 hB5 hO5
      have s5 := hV.store hB5 hO5
      refine hK _ _ ?_; clear hK K
      refine wpAny_ready (rs := [1]) (by kernel_rfl) (by simp) ?_
      refine AllReady.cons rfl (fun K hK => ?_) ?_
      · skip
        refine step_box_load (by rfl) 35 (.tmp 9) (by rfl) w6.heap.size (msgL 1 0 2 1 true) (by rfl) s5.2.1 wideMsg ?_
        refine hK _ _ ?_; clear hK K
        refine wpAny_ready (rs := [2]) (by kernel_rfl) (by simp) ?_
        refine AllReady.cons rfl (fun K hK => ?_) ?_
        · skip
          go_simp
          refine hK _ _ ?_; clear hK K
          refine wpAny_named (fun W => V2 w (memL 1 3 1 0 0 (-1) 13 0 nil 0 nil nil) (msgL 0 1 1 1 false) (msgL 1 0 2 1 true) (memL 1 3 1 0 0 (-1) 13 0 nil 0 nil nil) w6.heap.size W5.heap.size W) (s5.build rfl _) ?_
          rintro W6 s6
          refine wpAny_ready (rs := [4]) (by kernel_rfl) (by simp) ?_
          refine AllReady.cons rfl (fun K hK => ?_) ?_
          · skip
            go_simp
            refine hK _ _ ?_; clear hK K
            refine wpAny_done (by kernel_rfl) ?_ _
            go_wp2_with fail
            have r0 := s6.1.1.2.2.1.cell 0 _ rfl
            have r1 := s6.1.1.2.2.1.cell 1 _ rfl
            have r2 := s6.1.1.2.2.1.cell 2 _ rfl
            have r3 := s6.1.1.2.2.1.cell 3 _ rfl
            have r4 := s6.1.1.2.2.1.cell 4 _ rfl
            have r5 := s6.1.1.2.2.1.cell 5 _ rfl
            have r6 := s6.1.1.2.2.1.cell 6 _ rfl
            have r7 := s6.1.1.2.2.1.cell 7 _ rfl
            have r8 := s6.1.1.2.2.1.cell 8 _ rfl
            have r9 := s6.1.1.2.2.1.cell 9 _ rfl
            have r10 := s6.1.1.2.2.1.cell 10 _ rfl
            have r11 := s6.1.1.2.2.1.cell 11 _ rfl
            refine bodyPost_ret (v := .tuple #[mem 1 3 1 0 0 (-1) 13 0 nil 0 nil nil, .slice (some ⟨_, 0, none⟩) 1 1]) (by simp [results, Try.results19, go_sem, r0, r1, r2, r3, r4, r5, r6, r7, r8, r9, r10, r11]) rfl ⟨_, rfl, s6.out⟩
          exact AllReady.nil
        exact AllReady.nil
      exact AllReady.nil
    exact AllReady.nil
  refine AllReady.cons rfl (fun K hK => ?_) ?_
  · skip
    refine step_box_load (by rfl) 35 (.tmp 9) (by rfl) w6.heap.size (msgL 1 0 2 1 true) (by rfl) hV.2.1 wideMsg ?_
    refine hK _ _ ?_; clear hK K
    refine wpAny_ready (rs := [0, 2]) (by kernel_rfl) (by simp) ?_
    refine AllReady.cons rfl (fun K hK => ?_) ?_
    · skip
      refine step_box_load (by rfl) 25 (.tmp 2) (by rfl) w.heap.size (memL 1 3 1 0 0 (-1) 13 0 nil 0 nil nil) (by rfl) hV.1.1 wideMem ?_
      refine hK _ _ ?_; clear hK K
      refine wpAny_ready (rs := [2, 3]) (by kernel_rfl) (by simp) ?_
      refine AllReady.cons rfl (fun K hK => ?_) ?_
      · skip
        go_simp
        refine hK _ _ ?_; clear hK K
        refine wpAny_named (fun W => V2 w (memL 1 3 1 0 0 (-1) 13 0 nil 0 nil nil) (msgL 0 1 1 1 false) (msgL 1 0 2 1 true) zL w6.heap.size w8.heap.size W) (hV.build rfl _) ?_
        rintro W7 s7
        refine wpAny_ready (rs := [3]) (by kernel_rfl) (by simp) ?_
        refine AllReady.cons rfl (fun K hK => ?_) ?_
        · skip
          refine step_box_store (by rfl) 25 (.tmp 4) (.tmp 77) (by rfl) (w.heap.size + 2) zL (memL 1 3 1 0 0 (-1) 13 0 nil 0 nil nil) (by rfl) (by rfl) s7.1.1.2.2.1 (memOk _ _ _ _ _ _ _ _ _ _ _ _ _ _ _ _ _ _) wideMem ?_
          rintro W8 hB8 hO8
          have s8 := s7.store hB8 hO8
          refine hK _ _ ?_; clear hK K
          refine wpAny_ready (rs := [4]) (by kernel_rfl) (by simp) ?_
          refine AllReady.cons rfl (fun K hK => ?_) ?_
          · skip
            go_simp
            refine hK _ _ ?_; clear hK K
            refine wpAny_done (by kernel_rfl) ?_ _
            go_wp2_with fail
            have r0 := s8.1.1.2.2.1.cell 0 _ rfl
            have r1 := s8.1.1.2.2.1.cell 1 _ rfl
            have r2 := s8.1.1.2.2.1.cell 2 _ rfl
            have r3 := s8.1.1.2.2.1.cell 3 _ rfl
            have r4 := s8.1.1.2.2.1.cell 4 _ rfl
            have r5 := s8.1.1.2.2.1.cell 5 _ rfl
            have r6 := s8.1.1.2.2.1.cell 6 _ rfl
            have r7 := s8.1.1.2.2.1.cell 7 _ rfl
            have r8 := s8.1.1.2.2.1.cell 8 _ rfl
            have r9 := s8.1.1.2.2.1.cell 9 _ rfl
            have r10 := s8.1.1.2.2.1.cell 10 _ rfl
            have r11 := s8.1.1.2.2.1.cell 11 _ rfl
            refine bodyPost_ret (v := .tuple #[mem 1 3 1 0 0 (-1) 13 0 nil 0 nil nil, .slice (some ⟨_, 0, none⟩) 1 1]) (by simp [results, Try.results19, go_sem, r0, r1, r2, r3, r4, r5, r6, r7, r8, r9, r10, r11]) rfl ⟨_, rfl, s8.out⟩
          exact AllReady.nil
        exact AllReady.nil
      refine AllReady.cons rfl (fun K hK => ?_) ?_
      · skip
        refine step_box_store (by rfl) 25 (.tmp 4) (.tmp 77) (by rfl) (w.heap.size + 2) zL (memL 1 3 1 0 0 (-1) 13 0 nil 0 nil nil) (by rfl) (by rfl) hV.1.2.2.1 (memOk _ _ _ _ _ _ _ _ _ _ _ _ _ _ _ _ _ _) wideMem ?_
        rintro W9 hB9 hO9
        have s9 := hV.store hB9 hO9
        refine hK _ _ ?_; clear hK K
        refine wpAny_ready (rs := [2]) (by kernel_rfl) (by simp) ?_
        refine AllReady.cons rfl (fun K hK => ?_) ?_
        · skip
          go_simp
          refine hK _ _ ?_; clear hK K
          refine wpAny_named (fun W => V2 w (memL 1 3 1 0 0 (-1) 13 0 nil 0 nil nil) (msgL 0 1 1 1 false) (msgL 1 0 2 1 true) (memL 1 3 1 0 0 (-1) 13 0 nil 0 nil nil) w6.heap.size W9.heap.size W) (s9.build rfl _) ?_
          rintro W10 s10
          refine wpAny_ready (rs := [4]) (by kernel_rfl) (by simp) ?_
          refine AllReady.cons rfl (fun K hK => ?_) ?_
          · skip
            go_simp
            refine hK _ _ ?_; clear hK K
            refine wpAny_done (by kernel_rfl) ?_ _
            go_wp2_with fail
            have r0 := s10.1.1.2.2.1.cell 0 _ rfl
            have r1 := s10.1.1.2.2.1.cell 1 _ rfl
            have r2 := s10.1.1.2.2.1.cell 2 _ rfl
            have r3 := s10.1.1.2.2.1.cell 3 _ rfl
            have r4 := s10.1.1.2.2.1.cell 4 _ rfl
            have r5 := s10.1.1.2.2.1.cell 5 _ rfl
            have r6 := s10.1.1.2.2.1.cell 6 _ rfl
            have r7 := s10.1.1.2.2.1.cell 7 _ rfl
            have r8 := s10.1.1.2.2.1.cell 8 _ rfl
            have r9 := s10.1.1.2.2.1.cell 9 _ rfl
            have r10 := s10.1.1.2.2.1.cell 10 _ rfl
            have r11 := s10.1.1.2.2.1.cell 11 _ rfl
            refine bodyPost_ret (v := .tuple #[mem 1 3 1 0 0 (-1) 13 0 nil 0 nil nil, .slice (some ⟨_, 0, none⟩) 1 1]) (by simp [results, Try.results19, go_sem, r0, r1, r2, r3, r4, r5, r6, r7, r8, r9, r10, r11]) rfl ⟨_, rfl, s10.out⟩
          exact AllReady.nil
        exact AllReady.nil
      exact AllReady.nil
    refine AllReady.cons rfl (fun K hK => ?_) ?_
    · skip
      go_simp
      refine hK _ _ ?_; clear hK K
      refine wpAny_named (fun W => V2 w (memL 1 3 1 0 0 (-1) 13 0 nil 0 nil nil) (msgL 0 1 1 1 false) (msgL 1 0 2 1 true) zL w6.heap.size w8.heap.size W) (hV.build rfl _) ?_
      rintro W11 s11
      refine wpAny_ready (rs := [0]) (by kernel_rfl) (by simp) ?_
      refine AllReady.cons rfl (fun K hK => ?_) ?_
      · skip
        refine step_box_load (by rfl) 25 (.tmp 2) (by rfl) w.heap.size (memL 1 3 1 0 0 (-1) 13 0 nil 0 nil nil) (by rfl) s11.1.1.1 wideMem ?_
        refine hK _ _ ?_; clear hK K
        refine wpAny_ready (rs := [3]) (by kernel_rfl) (by simp) ?_
        refine AllReady.cons rfl (fun K hK => ?_) ?_
        · skip
          refine step_box_store (by rfl) 25 (.tmp 4) (.tmp 77) (by rfl) (w.heap.size + 2) zL (memL 1 3 1 0 0 (-1) 13 0 nil 0 nil nil) (by rfl) (by rfl) s11.1.1.2.2.1 (memOk _ _ _ _ _ _ _ _ _ _ _ _ _ _ _ _ _ _) wideMem ?_
          rintro W12 hB12 hO12
          have s12 := s11.store hB12 hO12
          refine hK _ _ ?_; clear hK K
          refine wpAny_ready (rs := [4]) (by kernel_rfl) (by simp) ?_
          refine AllReady.cons rfl (fun K hK => ?_) ?_
          · skip
            go_simp
            refine hK _ _ ?_; clear hK K
            refine wpAny_done (by kernel_rfl) ?_ _
            go_wp2_with fail
            have r0 := s12.1.1.2.2.1.cell 0 _ rfl
            have r1 := s12.1.1.2.2.1.cell 1 _ rfl
            have r2 := s12.1.1.2.2.1.cell 2 _ rfl
            have r3 := s12.1.1.2.2.1.cell 3 _ rfl
            have r4 := s12.1.1.2.2.1.cell 4 _ rfl
            have r5 := s12.1.1.2.2.1.cell 5 _ rfl
            have r6 := s12.1.1.2.2.1.cell 6 _ rfl
            have r7 := s12.1.1.2.2.1.cell 7 _ rfl
            have r8 := s12.1.1.2.2.1.cell 8 _ rfl
            have r9 := s12.1.1.2.2.1.cell 9 _ rfl
            have r10 := s12.1.1.2.2.1.cell 10 _ rfl
            have r11 := s12.1.1.2.2.1.cell 11 _ rfl
            refine bodyPost_ret (v := .tuple #[mem 1 3 1 0 0 (-1) 13 0 nil 0 nil nil, .slice (some ⟨_, 0, none⟩) 1 1]) (by simp [results, Try.results19, go_sem, r0, r1, r2, r3, r4, r5, r6, r7, r8, r9, r10, r11]) rfl ⟨_, rfl, s12.out⟩
          exact AllReady.nil
        exact AllReady.nil
      exact AllReady.nil
    exact AllReady.nil
  exact AllReady.nil
end Go.Proofs.Ytfpgklhbghahoaa
