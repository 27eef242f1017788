/- Election: the vote of the law's example to a second candidate: not granted. -/
import Derived.Test.YtfpgklhbghahoaaEl4
namespace Go.Proofs.Ytfpgklhbghahoaa
open Go.ChangeShapes Go.WideShapes Go.ChangeAt Go.RowKit Go.Deep
set_option linter.unusedVariables false
set_option linter.unusedSimpArgs false
set_option maxRecDepth 100000 in
set_option maxHeartbeats 2000000 in
theorem vote_ex2 (w : World) : Calls Try.prog 19 #[mem 1 3 1 0 0 (-1) 13 0 nil 0 nil nil, msgV 2 1 1 1 false] w (VoteOut (mem 1 3 1 0 0 (-1) 13 0 nil 0 nil nil) 2 false w) := by
  go_enter Try.func19, Try.ntmps19
  go_wp2_with fail
  have HM0 := Lib.hid (VV.start w (memL 1 3 1 0 0 (-1) 13 0 nil 0 nil nil) (msgL 2 1 1 1 false) 25 35 rfl rfl)
  refine (copyMember_nil _ _ _ _ _ _ _ _ _ _).mono ?_
  rintro e w1 ⟨rfl, hb1⟩
  have HM1 := Lib.hid (HM0.out.keep hb1)
  clear hb1 HM0
  have hA1 := HM1.out.1
  go_wp2_with (with_reducible refine wpList_box_store 25 2 (.tmp 11) w.heap.size _ (memL 1 3 1 0 0 (-1) 13 0 nil 0 nil nil) _ _ _ _ _ _ ?_ ?_ hA1 (memOk _ _ _ _ _ _ _ _ _ _ _ _ _ _ _ _ _ _) wideMem ?_)
  · rfl
  · rfl
  rintro w2 hA hO
  have HM2 := Lib.hid (HM1.out.own hA hO)
  have k2 := HM2.out.2.1.cell 2 _ rfl
  have k3 := HM2.out.2.1.cell 3 _ rfl
  go_wp2_with (with_reducible refine wpList_box_load 25 2 w.heap.size (memL 1 3 1 0 0 (-1) 13 0 nil 0 nil nil) _ _ _ _ _ _ ?_ hA wideMem ?_)
  · rfl
  go_wp2_with fail
  refine (follow_any 1 3 1 0 0 (-1) 13 0 none 0 0 0 none 0 0 none 0 0 1 _ (by omega) (by omega)).mono ?_
  rintro e w3 ⟨he3, hb3⟩
  rw [if_pos (by decide)] at he3
  subst he3
  have HM3 := Lib.hid (HM2.out.keep hb3)
  clear hb3 hA hA1 hO HM1 HM2 k2 k3
  have hA1 := HM3.out.1
  go_wp2_with (with_reducible refine wpList_box_store 25 2 (.tmp 19) w.heap.size _ (memL 1 3 1 0 0 (-1) 13 0 nil 0 nil nil) _ _ _ _ _ _ ?_ ?_ hA1 (memOk _ _ _ _ _ _ _ _ _ _ _ _ _ _ _ _ _ _) wideMem ?_)
  · rfl
  · rfl
  rintro w4 hA hO
  have HM4 := Lib.hid (HM3.out.own hA hO)
  clear hA1 hO hA HM3
  have a8 := HM4.out.1.cell 8 _ rfl
  go_wp2_with fail
  refine (lastTerm_nil _).mono ?_
  rintro e w5 ⟨rfl, rfl⟩
  have a0 := HM4.out.1.cell 0 _ rfl
  have a2 := HM4.out.1.cell 2 _ rfl
  have a3 := HM4.out.1.cell 3 _ rfl
  have k0 := HM4.out.2.1.cell 0 _ rfl
  have k3 := HM4.out.2.1.cell 3 _ rfl
  have k4 := HM4.out.2.1.cell 4 _ rfl
  have k5 := HM4.out.2.1.cell 5 _ rfl
  have l0 := HM4.out.1.1.lt
  have l1 := HM4.out.2.1.1.lt
  have l2 := HM4.out.2.2.1.1.lt
  have n0 : w.heap.size ≠ w4.heap.size := by omega
  have n1 : w.heap.size + 1 ≠ w4.heap.size := by omega
  go_wp2_with fail
  refine wp_named (fun W => VV w (memL 1 3 1 0 0 (-1) 13 0 nil 0 nil nil) (msgL 2 1 1 1 false) zL W ∧ BoxN 9 W w4.heap.size (msgL 1 2 2 1 false) ∧ w4.heap.size < W.heap.size) ⟨HM4.out.keep ((Below.refl _ _).alloc (Nat.le_refl _) _), by simpa using BoxN.new w4 (msgL 1 2 2 1 false) 9 35 rfl, by simp⟩ ?_
  clear a0 a2 a3 k0 k3 k4 k5 a8 HM4
  rintro w8 ⟨hM8, hD8, hz8⟩
  have l9 := hM8.2.2.1.1.lt
  have hV := V1.drew (⟨hM8, hD8, by omega⟩ : V1 w (memL 1 3 1 0 0 (-1) 13 0 nil 0 nil nil) (msgL 2 1 1 1 false) (msgL 1 2 2 1 false) zL w4.heap.size w8)
  refine wp_region_any (by kernel_rfl) ?_
  try (change wpAny _ _ _ _ _ _ _ (World.drew _))
  refine wpAny_ready (rs := [0, 1]) (by kernel_rfl) (by simp) ?_
  refine AllReady.cons rfl (fun K hK => ?_) ?_
  · skip
    refine step_box_load (by rfl) 25 (.tmp 2) (by rfl) w.heap.size (memL 1 3 1 0 0 (-1) 13 0 nil 0 nil nil) (by rfl) hV.1.1 wideMem ?_
    refine hK _ _ ?_; clear hK K
    refine wpAny_ready (rs := [1, 3]) (by kernel_rfl) (by simp) ?_
    refine AllReady.cons rfl (fun K hK => ?_) ?_
    · skip
      refine step_box_load (by rfl) 35 (.tmp 9) (by rfl) w4.heap.size (msgL 1 2 2 1 false) (by rfl) hV.2.1 wideMsg ?_
      refine hK _ _ ?_; clear hK K
      refine wpAny_ready (rs := [2, 3]) (by kernel_rfl) (by simp) ?_
      refine AllReady.cons rfl (fun K hK => ?_) ?_
      · skip
        go_simp
        refine hK _ _ ?_; clear hK K
        refine wpAny_named (fun W => V2 w (memL 1 3 1 0 0 (-1) 13 0 nil 0 nil nil) (msgL 2 1 1 1 false) (msgL 1 2 2 1 false) zL w4.heap.size w8.heap.size W) (hV.build rfl _) ?_
        rintro W1 s1
        refine wpAny_ready (rs := [3]) (by kernel_rfl) (by simp) ?_
        refine AllReady.cons rfl (fun K hK => ?_) ?_
        · skip
          refine step_box_store (by rfl) 25 (.tmp 4) (.tmp 77) (by rfl) (w.heap.size + 2) zL (memL 1 3 1 0 0 (-1) 13 0 nil 0 nil nil) (by rfl) (by rfl) s1.1.1.2.2.1 (memOk _ _ _ _ _ _ _ _ _ _ _ _ _ _ _ _ _ _) wideMem ?_
          rintro W2 hB2 hO2
          have s2 := s1.store hB2 hO2
          refine hK _ _ ?_; clear hK K
          refine wpAny_ready (rs := [4]) (by kernel_rfl) (by simp) ?_
          refine AllReady.cons rfl (fun K hK => ?_) ?_
          · skip
            go_simp
            refine hK _ _ ?_; clear hK K
            refine wpAny_done (by kernel_rfl) ?_ _
            go_wp2_with fail
            have r0 := s2.1.1.2.2.1.cell 0 _ rfl
            have r1 := s2.1.1.2.2.1.cell 1 _ rfl
            have r2 := s2.1.1.2.2.1.cell 2 _ rfl
            have r3 := s2.1.1.2.2.1.cell 3 _ rfl
            have r4 := s2.1.1.2.2.1.cell 4 _ rfl
            have r5 := s2.1.1.2.2.1.cell 5 _ rfl
            have r6 := s2.1.1.2.2.1.cell 6 _ rfl
            have r7 := s2.1.1.2.2.1.cell 7 _ rfl
            have r8 := s2.1.1.2.2.1.cell 8 _ rfl
            have r9 := s2.1.1.2.2.1.cell 9 _ rfl
            have r10 := s2.1.1.2.2.1.cell 10 _ rfl
            have r11 := s2.1.1.2.2.1.cell 11 _ rfl
            refine bodyPost_ret (v := .tuple #[mem 1 3 1 0 0 (-1) 13 0 nil 0 nil nil, .slice (some ⟨_, 0, none⟩) 1 1]) (by simp [results, Try.results19, go_sem, r0, r1, r2, r3, r4, r5, r6, r7, r8, r9, r10, r11]) rfl ⟨_, rfl, s2.out⟩
          exact AllReady.nil
        exact AllReady.nil
      refine AllReady.cons rfl (fun K hK => ?_) ?_
      · skip
        refine step_box_store (by rfl) 25 (.tmp 4) (.tmp 77) (by rfl) (w.heap.size + 2) zL (memL 1 3 1 0 0 (-1) 13 0 nil 0 nil nil) (by rfl) (by rfl) hV.1.2.2.1 (memOk _ _ _ _ _ _ _ _ _ _ _ _ _ _ _ _ _ _) wideMem ?_
        rintro W3 hB3 hO3
        have s3 := hV.store hB3 hO3
        refine hK _ _ ?_; clear hK K
        refine wpAny_ready (rs := [2]) (by kernel_rfl) (by simp) ?_
        refine AllReady.cons rfl (fun K hK => ?_) ?_
        · skip
          go_simp
          refine hK _ _ ?_; clear hK K
          refine wpAny_named (fun W => V2 w (memL 1 3 1 0 0 (-1) 13 0 nil 0 nil nil) (msgL 2 1 1 1 false) (msgL 1 2 2 1 false) (memL 1 3 1 0 0 (-1) 13 0 nil 0 nil nil) w4.heap.size W3.heap.size W) (s3.build rfl _) ?_
          rintro W4 s4
          refine wpAny_ready (rs := [4]) (by kernel_rfl) (by simp) ?_
          refine AllReady.cons rfl (fun K hK => ?_) ?_
          · skip
            go_simp
            refine hK _ _ ?_; clear hK K
            refine wpAny_done (by kernel_rfl) ?_ _
            go_wp2_with fail
            have r0 := s4.1.1.2.2.1.cell 0 _ rfl
            have r1 := s4.1.1.2.2.1.cell 1 _ rfl
            have r2 := s4.1.1.2.2.1.cell 2 _ rfl
            have r3 := s4.1.1.2.2.1.cell 3 _ rfl
            have r4 := s4.1.1.2.2.1.cell 4 _ rfl
            have r5 := s4.1.1.2.2.1.cell 5 _ rfl
            have r6 := s4.1.1.2.2.1.cell 6 _ rfl
            have r7 := s4.1.1.2.2.1.cell 7 _ rfl
            have r8 := s4.1.1.2.2.1.cell 8 _ rfl
            have r9 := s4.1.1.2.2.1.cell 9 _ rfl
            have r10 := s4.1.1.2.2.1.cell 10 _ rfl
            have r11 := s4.1.1.2.2.1.cell 11 _ rfl
            refine bodyPost_ret (v := .tuple #[mem 1 3 1 0 0 (-1) 13 0 nil 0 nil nil, .slice (some ⟨_, 0, none⟩) 1 1]) (by simp [results, Try.results19, go_sem, r0, r1, r2, r3, r4, r5, r6, r7, r8, r9, r10, r11]) rfl ⟨_, rfl, s4.out⟩
          exact AllReady.nil
        exact AllReady.nil
      exact AllReady.nil
    refine AllReady.cons rfl (fun K hK => ?_) ?_
    · skip
      refine step_box_store (by rfl) 25 (.tmp 4) (.tmp 77) (by rfl) (w.heap.size + 2) zL (memL 1 3 1 0 0 (-1) 13 0 nil 0 nil nil) (by rfl) (by rfl) hV.1.2.2.1 (memOk _ _ _ _ _ _ _ _ _ _ _ _ _ _ _ _ _ _) wideMem ?_
      rintro W5 hB5 hO5
      have s5 := hV.store hB5 hO5
      refine hK _ _ ?_; clear hK K
      refine wpAny_ready (rs := [1]) (by kernel_rfl) (by simp) ?_
      refine AllReady.cons rfl (fun K hK => ?_) ?_
      · skip
        refine step_box_load (by rfl) 35 (.tmp 9) (by rfl) w4.heap.size (msgL 1 2 2 1 false) (by rfl) s5.2.1 wideMsg ?_
        refine hK _ _ ?_; clear hK K
        refine wpAny_ready (rs := [2]) (by kernel_rfl) (by simp) ?_
        refine AllReady.cons rfl (fun K hK => ?_) ?_
        · skip
          go_simp
          refine hK _ _ ?_; clear hK K
          refine wpAny_named (fun W => V2 w (memL 1 3 1 0 0 (-1) 13 0 nil 0 nil nil) (msgL 2 1 1 1 false) (msgL 1 2 2 1 false) (memL 1 3 1 0 0 (-1) 13 0 nil 0 nil nil) w4.heap.size W5.heap.size W) (s5.build rfl _) ?_
          rintro W6 s6
          refine wpAny_ready (rs := [4]) (by kernel_rfl) (by simp) ?_
          refine AllReady.cons rfl (fun K hK => ?_) ?_
          · skip
            go_simp
            refine hK _ _ ?_; clear hK K
            refine wpAny_done (by kernel_rfl) ?_ _
            go_wp2_with fail
            have r0 := s6.1.1.2.2.1.cell 0 _ rfl
            have r1 := s6.1.1.2.2.1.cell 1 _ rfl
            have r2 := s6.1.1.2.2.1.cell 2 _ rfl
            have r3 := s6.1.1.2.2.1.cell 3 _ rfl
            have r4 := s6.1.1.2.2.1.cell 4 _ rfl
            have r5 := s6.1.1.2.2.1.cell 5 _ rfl
            have r6 := s6.1.1.2.2.1.cell 6 _ rfl
            have r7 := s6.1.1.2.2.1.cell 7 _ rfl
            have r8 := s6.1.1.2.2.1.cell 8 _ rfl
            have r9 := s6.1.1.2.2.1.cell 9 _ rfl
            have r10 := s6.1.1.2.2.1.cell 10 _ rfl
            have r11 := s6.1.1.2.2.1.cell 11 _ rfl
            refine bodyPost_ret (v := .tuple #[mem 1 3 1 0 0 (-1) 13 0 nil 0 nil nil, .slice (some ⟨_, 0, none⟩) 1 1]) (by simp [results, Try.results19, go_sem, r0, r1, r2, r3, r4, r5, r6, r7, r8, r9, r10, r11]) rfl ⟨_, rfl, s6.out⟩
          exact AllReady.nil
        exact AllReady.nil
      exact AllReady.nil
    exact AllReady.nil
  refine AllReady.cons rfl (fun K hK => ?_) ?_
  · skip
    refine step_box_load (by rfl) 35 (.tmp 9) (by rfl) w4.heap.size (msgL 1 2 2 1 false) (by rfl) hV.2.1 wideMsg ?_
    refine hK _ _ ?_; clear hK K
    refine wpAny_ready (rs := [0, 2]) (by kernel_rfl) (by simp) ?_
    refine AllReady.cons rfl (fun K hK => ?_) ?_
    · skip
      refine step_box_load (by rfl) 25 (.tmp 2) (by rfl) w.heap.size (memL 1 3 1 0 0 (-1) 13 0 nil 0 nil nil) (by rfl) hV.1.1 wideMem ?_
      refine hK _ _ ?_; clear hK K
      refine wpAny_ready (rs := [2, 3]) (by kernel_rfl) (by simp) ?_
      refine AllReady.cons rfl (fun K hK => ?_) ?_
      · skip
        go_simp
        refine hK _ _ ?_; clear hK K
        refine wpAny_named (fun W => V2 w (memL 1 3 1 0 0 (-1) 13 0 nil 0 nil nil) (msgL 2 1 1 1 false) (msgL 1 2 2 1 false) zL w4.heap.size w8.heap.size W) (hV.build rfl _) ?_
        rintro W7 s7
        refine wpAny_ready (rs := [3]) (by kernel_rfl) (by simp) ?_
        refine AllReady.cons rfl (fun K hK => ?_) ?_
        · skip
          refine step_box_store (by rfl) 25 (.tmp 4) (.tmp 77) (by rfl) (w.heap.size + 2) zL (memL 1 3 1 0 0 (-1) 13 0 nil 0 nil nil) (by rfl) (by rfl) s7.1.1.2.2.1 (memOk _ _ _ _ _ _ _ _ _ _ _ _ _ _ _ _ _ _) wideMem ?_
          rintro W8 hB8 hO8
          have s8 := s7.store hB8 hO8
          refine hK _ _ ?_; clear hK K
          refine wpAny_ready (rs := [4]) (by kernel_rfl) (by simp) ?_
          refine AllReady.cons rfl (fun K hK => ?_) ?_
          · skip
            go_simp
            refine hK _ _ ?_; clear hK K
            refine wpAny_done (by kernel_rfl) ?_ _
            go_wp2_with fail
            have r0 := s8.1.1.2.2.1.cell 0 _ rfl
            have r1 := s8.1.1.2.2.1.cell 1 _ rfl
            have r2 := s8.1.1.2.2.1.cell 2 _ rfl
            have r3 := s8.1.1.2.2.1.cell 3 _ rfl
            have r4 := s8.1.1.2.2.1.cell 4 _ rfl
            have r5 := s8.1.1.2.2.1.cell 5 _ rfl
            have r6 := s8.1.1.2.2.1.cell 6 _ rfl
            have r7 := s8.1.1.2.2.1.cell 7 _ rfl
            have r8 := s8.1.1.2.2.1.cell 8 _ rfl
            have r9 := s8.1.1.2.2.1.cell 9 _ rfl
            have r10 := s8.1.1.2.2.1.cell 10 _ rfl
            have r11 := s8.1.1.2.2.1.cell 11 _ rfl
            refine bodyPost_ret (v := .tuple #[mem 1 3 1 0 0 (-1) 13 0 nil 0 nil nil, .slice (some ⟨_, 0, none⟩) 1 1]) (by simp [results, Try.results19, go_sem, r0, r1, r2, r3, r4, r5, r6, r7, r8, r9, r10, r11]) rfl ⟨_, rfl, s8.out⟩
          exact AllReady.nil
        exact AllReady.nil
      refine AllReady.cons rfl (fun K hK => ?_) ?_
      · skip
        refine step_box_store (by rfl) 25 (.tmp 4) (.tmp 77) (by rfl) (w.heap.size + 2) zL (memL 1 3 1 0 0 (-1) 13 0 nil 0 nil nil) (by rfl) (by rfl) hV.1.2.2.1 (memOk _ _ _ _ _ _ _ _ _ _ _ _ _ _ _ _ _ _) wideMem ?_
        rintro W9 hB9 hO9
        have s9 := hV.store hB9 hO9
        refine hK _ _ ?_; clear hK K
        refine wpAny_ready (rs := [2]) (by kernel_rfl) (by simp) ?_
        refine AllReady.cons rfl (fun K hK => ?_) ?_
        · skip
          go_simp
          refine hK _ _ ?_; clear hK K
          refine wpAny_named (fun W => V2 w (memL 1 3 1 0 0 (-1) 13 0 nil 0 nil nil) (msgL 2 1 1 1 false) (msgL 1 2 2 1 false) (memL 1 3 1 0 0 (-1) 13 0 nil 0 nil nil) w4.heap.size W9.heap.size W) (s9.build rfl _) ?_
          rintro W10 s10
          refine wpAny_ready (rs := [4]) (by kernel_rfl) (by simp) ?_
          refine AllReady.cons rfl (fun K hK => ?_) ?_
          · skip
            go_simp
            refine hK _ _ ?_; clear hK K
            refine wpAny_done (by kernel_rfl) ?_ _
            go_wp2_with fail
            have r0 := s10.1.1.2.2.1.cell 0 _ rfl
            have r1 := s10.1.1.2.2.1.cell 1 _ rfl
            have r2 := s10.1.1.2.2.1.cell 2 _ rfl
            have r3 := s10.1.1.2.2.1.cell 3 _ rfl
            have r4 := s10.1.1.2.2.1.cell 4 _ rfl
            have r5 := s10.1.1.2.2.1.cell 5 _ rfl
            have r6 := s10.1.1.2.2.1.cell 6 _ rfl
            have r7 := s10.1.1.2.2.1.cell 7 _ rfl
            have r8 := s10.1.1.2.2.1.cell 8 _ rfl
            have r9 := s10.1.1.2.2.1.cell 9 _ rfl
            have r10 := s10.1.1.2.2.1.cell 10 _ rfl
            have r11 := s10.1.1.2.2.1.cell 11 _ rfl
            refine bodyPost_ret (v := .tuple #[mem 1 3 1 0 0 (-1) 13 0 nil 0 nil nil, .slice (some ⟨_, 0, none⟩) 1 1]) (by simp [results, Try.results19, go_sem, r0, r1, r2, r3, r4, r5, r6, r7, r8, r9, r10, r11]) rfl ⟨_, rfl, s10.out⟩
          exact AllReady.nil
        exact AllReady.nil
      exact AllReady.nil
    refine AllReady.cons rfl (fun K hK => ?_) ?_
    · skip
      go_simp
      refine hK _ _ ?_; clear hK K
      refine wpAny_named (fun W => V2 w (memL 1 3 1 0 0 (-1) 13 0 nil 0 nil nil) (msgL 2 1 1 1 false) (msgL 1 2 2 1 false) zL w4.heap.size w8.heap.size W) (hV.build rfl _) ?_
      rintro W11 s11
      refine wpAny_ready (rs := [0]) (by kernel_rfl) (by simp) ?_
      refine AllReady.cons rfl (fun K hK => ?_) ?_
      · skip
        refine step_box_load (by rfl) 25 (.tmp 2) (by rfl) w.heap.size (memL 1 3 1 0 0 (-1) 13 0 nil 0 nil nil) (by rfl) s11.1.1.1 wideMem ?_
        refine hK _ _ ?_; clear hK K
        refine wpAny_ready (rs := [3]) (by kernel_rfl) (by simp) ?_
        refine AllReady.cons rfl (fun K hK => ?_) ?_
        · skip
          refine step_box_store (by rfl) 25 (.tmp 4) (.tmp 77) (by rfl) (w.heap.size + 2) zL (memL 1 3 1 0 0 (-1) 13 0 nil 0 nil nil) (by rfl) (by rfl) s11.1.1.2.2.1 (memOk _ _ _ _ _ _ _ _ _ _ _ _ _ _ _ _ _ _) wideMem ?_
          rintro W12 hB12 hO12
          have s12 := s11.store hB12 hO12
          refine hK _ _ ?_; clear hK K
          refine wpAny_ready (rs := [4]) (by kernel_rfl) (by simp) ?_
          refine AllReady.cons rfl (fun K hK => ?_) ?_
          · skip
            go_simp
            refine hK _ _ ?_; clear hK K
            refine wpAny_done (by kernel_rfl) ?_ _
            go_wp2_with fail
            have r0 := s12.1.1.2.2.1.cell 0 _ rfl
            have r1 := s12.1.1.2.2.1.cell 1 _ rfl
            have r2 := s12.1.1.2.2.1.cell 2 _ rfl
            have r3 := s12.1.1.2.2.1.cell 3 _ rfl
            have r4 := s12.1.1.2.2.1.cell 4 _ rfl
            have r5 := s12.1.1.2.2.1.cell 5 _ rfl
            have r6 := s12.1.1.2.2.1.cell 6 _ rfl
            have r7 := s12.1.1.2.2.1.cell 7 _ rfl
            have r8 := s12.1.1.2.2.1.cell 8 _ rfl
            have r9 := s12.1.1.2.2.1.cell 9 _ rfl
            have r10 := s12.1.1.2.2.1.cell 10 _ rfl
            have r11 := s12.1.1.2.2.1.cell 11 _ rfl
            refine bodyPost_ret (v := .tuple #[mem 1 3 1 0 0 (-1) 13 0 nil 0 nil nil, .slice (some ⟨_, 0, none⟩) 1 1]) (by simp [results, Try.results19, go_sem, r0, r1, r2, r3, r4, r5, r6, r7, r8, r9, r10, r11]) rfl ⟨_, rfl, s12.out⟩
          exact AllReady.nil
        exact AllReady.nil
      exact AllReady.nil
    exact AllReady.nil
  exact AllReady.nil
end Go.Proofs.Ytfpgklhbghahoaa
