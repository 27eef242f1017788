/- Merged texts: El4, El5, El6, El7a, El7, El8, El9, El10, Ev1. -/
import Derived.Test.YtfpgklhbghahoaaOe4
import Derived.Deep.RegionLaw
import Derived.ChangeSlices
import Derived.Deep.MidRow
import Derived.Deep.Slices
import Derived.Deep.Fields
import Derived.Lib.SmallJoins
/- Election: the votes of the law's example. -/
namespace Go.Proofs.Ytfpgklhbghahoaa
open Go.ChangeShapes Go.WideShapes Go.ChangeAt Go.RowKit Go.Deep
set_option linter.unusedVariables false
set_option linter.unusedSimpArgs false
abbrev msgL (f t k tm : Int) (ok : Bool) : List Value := [.int .i64 f, .int .i64 t, .int .i64 k, .int .i64 tm, .int .i64 0, .int .i64 0, .int .i64 0, nil, .bool ok]
abbrev msgV (f t k tm : Int) (ok : Bool) : Value := .agg #[.int .i64 f, .int .i64 t, .int .i64 k, .int .i64 tm, .int .i64 0, .int .i64 0, .int .i64 0, nil, .bool ok]
theorem wideMsg : Wide Try.prog 35 9 := ⟨by kernel_rfl, _, Try.underlying35, rfl⟩
/-- the boxes of a member, of a message and of the result -/
def VV (w : World) (cs ms rs : List Value) (W : World) : Prop := BoxN 12 W w.heap.size cs ∧ BoxN 9 W (w.heap.size + 1) ms ∧ BoxN 12 W (w.heap.size + 2) rs ∧ Below w.heap.size w W
theorem VV.start (w : World) (cs ms : List Value) (T T2 : TypeId) (h : cs.length = 12) (h2 : ms.length = 9) : VV w cs ms zL (((w.alloc (.cells cs.toArray T)).alloc (.cells ms.toArray T2)).alloc (.cells zL.toArray T)) := by
  refine ⟨((BoxN.new w cs 12 T h).alloc _).alloc _, ?_, ?_, (((Below.refl _ _).alloc (Nat.le_refl _) _).alloc (by simp) _).alloc (by simp; omega) _⟩
  · simpa using (BoxN.new (w.alloc (.cells cs.toArray T)) ms 9 T2 h2).alloc (.cells zL.toArray T)
  · simpa using BoxN.new ((w.alloc (.cells cs.toArray T)).alloc (.cells ms.toArray T2)) zL 12 T rfl
theorem VV.keep {w : World} {cs ms rs : List Value} {W W' : World} (h : VV w cs ms rs W) (hb : Below W.heap.size W W') : VV w cs ms rs W' := ⟨h.1.keep hb, h.2.1.keep hb, h.2.2.1.keep hb, h.2.2.2.trans (hb.mono h.2.2.2.size)⟩
theorem VV.own {w : World} {cs ms rs vs : List Value} {W W' : World} (h : VV w cs ms rs W) (h1 : BoxN 12 W' w.heap.size vs) (h2 : Only W W' w.heap.size) : VV w vs ms rs W' := ⟨h1, h.2.1.other h2 (by omega), h.2.2.1.other h2 (by omega), h.2.2.2.trans (h2.below _ (Nat.le_refl _))⟩
theorem VV.res {w : World} {cs ms rs vs : List Value} {W W' : World} (h : VV w cs ms rs W) (h1 : BoxN 12 W' (w.heap.size + 2) vs) (h2 : Only W W' (w.heap.size + 2)) : VV w cs ms vs W' := ⟨h.1.other h2 (by omega), h.2.1.other h2 (by omega), h1, h.2.2.2.trans (h2.below _ (by omega))⟩
theorem VV.set {w : World} {cs ms rs : List Value} {W : World} (h : VV w cs ms rs W) (j : Nat) (v : Value) (hj : j < 12) : VV w (cs.set j v) ms rs (W.setCell ⟨w.heap.size, j, none⟩ v) := ⟨h.1.setCell j v hj, h.2.1.setOther j v (by omega), h.2.2.1.setOther j v (by omega), h.2.2.2.setCell (Nat.le_refl _) _⟩
/-- besides: the drawn message lies in block d -/
def V1 (w : World) (cs ms : List Value) (ds : List Value) (rs : List Value) (d : Nat) (W : World) : Prop := VV w cs ms rs W ∧ BoxN 9 W d ds ∧ w.heap.size + 2 < d
theorem V1.drew {w W : World} {cs ms ds rs : List Value} {d : Nat} (h : V1 w cs ms ds rs d W) : V1 w cs ms ds rs d W.drew := ⟨⟨h.1.1.drew, h.1.2.1.drew, h.1.2.2.1.drew, h.1.2.2.2.drew⟩, h.2.1.drew, h.2.2⟩
theorem V1.store {w W W' : World} {cs ms ds rs vs : List Value} {d : Nat} (h : V1 w cs ms ds rs d W) (h1 : BoxN 12 W' (w.heap.size + 2) vs) (h2 : Only W W' (w.heap.size + 2)) : V1 w cs ms ds vs d W' := ⟨h.1.res h1 h2, h.2.1.other h2 (by have := h.2.2; omega), h.2.2⟩
theorem V1.alloc {w W : World} {cs ms ds rs : List Value} {d : Nat} (h : V1 w cs ms ds rs d W) (ob : Obj) : V1 w cs ms ds rs d (W.alloc ob) := ⟨h.1.keep ((Below.refl _ _).alloc (Nat.le_refl _) _), h.2.1.alloc _, h.2.2⟩
/-- .. and the slice of it in block g -/
def V2 (w : World) (cs ms : List Value) (ds : List Value) (rs : List Value) (d g : Nat) (W : World) : Prop := V1 w cs ms ds rs d W ∧ BoxN 9 W g ds ∧ w.heap.size + 2 < g
theorem V2.store {w W W' : World} {cs ms ds rs vs : List Value} {d g : Nat} (h : V2 w cs ms ds rs d g W) (h1 : BoxN 12 W' (w.heap.size + 2) vs) (h2 : Only W W' (w.heap.size + 2)) : V2 w cs ms ds vs d g W' := ⟨h.1.store h1 h2, h.2.1.other h2 (by have := h.2.2; omega), h.2.2⟩
theorem V1.build {w W : World} {cs ms ds rs : List Value} {d : Nat} (h : V1 w cs ms ds rs d W) (hl : ds.length = 9) (T : TypeId) : V2 w cs ms ds rs d W.heap.size (W.alloc (.cells ds.toArray T)) := ⟨h.alloc _, BoxN.new W ds 9 T hl, by have := h.1.2.2.1.1.lt; omega⟩
theorem V2.out {w W : World} {cs ms ds rs : List Value} {d g : Nat} (h : V2 w cs ms ds rs d g W) : W.rangeAt g 0 ds ∧ g < W.heap.size ∧ Below w.heap.size w W := ⟨h.2.1.1.rng, h.2.1.1.lt, h.1.1.2.2.2⟩
theorem wpAny_named {P : Program} {md : Region.Mode} {ops : Array Oper} {Q : Exit → Act → World → Prop} {fuel : Nat} {listed : Array Bool} {a : Act} {W : World} (F : World → Prop) (hF : F W) (h : ∀ W, F W → wpAny P md ops Q fuel listed a W) : wpAny P md ops Q fuel listed a W := h W hF
def VoteOut (m : Value) (f : Int) (ok : Bool) (w : World) (e : Ending) (w' : World) : Prop := ∃ g, e = .returned (.tuple #[m, .slice (some ⟨g, 0, none⟩) 1 1]) ∧ w'.rangeAt g 0 (msgL 1 f 2 1 ok) ∧ g < w'.heap.size ∧ Below w.heap.size w w'
set_option maxRecDepth 100000 in
set_option maxHeartbeats 2000000 in
theorem vote_ex1 (w : World) : Calls Try.prog 19 #[m0, msgV 0 1 1 1 false] w (VoteOut (mem 1 3 1 0 0 (-1) 13 0 nil 0 nil nil) 0 true w) := by
  go_enter Try.func19, Try.ntmps19
  go_wp2_with fail
  have HM0 := Lib.hid (VV.start w (memL 1 3 0 (-1) 0 (-1) 13 0 nil 0 nil nil) (msgL 0 1 1 1 false) 25 35 rfl rfl)
  refine (copyMember_nil _ _ _ _ _ _ _ _ _ _).mono ?_
  rintro e w1 ⟨rfl, hb1⟩
  have HM1 := Lib.hid (HM0.out.keep hb1)
  clear hb1 HM0
  have hA1 := HM1.out.1
  go_wp2_with (with_reducible refine wpList_box_store 25 2 (.tmp 11) w.heap.size _ (memL 1 3 0 (-1) 0 (-1) 13 0 nil 0 nil nil) _ _ _ _ _ _ ?_ ?_ hA1 (memOk _ _ _ _ _ _ _ _ _ _ _ _ _ _ _ _ _ _) wideMem ?_)
  · rfl
  · rfl
  rintro w2 hA hO
  have HM2 := Lib.hid (HM1.out.own hA hO)
  have k2 := HM2.out.2.1.cell 2 _ rfl
  have k3 := HM2.out.2.1.cell 3 _ rfl
  go_wp2_with (with_reducible refine wpList_box_load 25 2 w.heap.size (memL 1 3 0 (-1) 0 (-1) 13 0 nil 0 nil nil) _ _ _ _ _ _ ?_ hA wideMem ?_)
  · rfl
  go_wp2_with fail
  refine (follow_any 1 3 0 (-1) 0 (-1) 13 0 none 0 0 0 none 0 0 none 0 0 1 _ (by omega) (by omega)).mono ?_
  rintro e w3 ⟨he3, hb3⟩
  rw [if_neg (by decide), if_neg (by decide)] at he3
  subst he3
  have HM3 := Lib.hid (HM2.out.keep hb3)
  clear hb3 hA hA1 hO HM1 HM2 k2 k3
  have hA1 := HM3.out.1
  go_wp2_with (with_reducible refine wpList_box_store 25 2 (.tmp 19) w.heap.size _ (memL 1 3 1 (-1) 0 (-1) 13 0 nil 0 nil nil) _ _ _ _ _ _ ?_ ?_ hA1 (memOk _ _ _ _ _ _ _ _ _ _ _ _ _ _ _ _ _ _) wideMem ?_)
  · rfl
  · rfl
  rintro w4 hA hO
  have HM4 := Lib.hid (HM3.out.own hA hO)
  clear hA1 hO hA HM3
  have a8 := HM4.out.1.cell 8 _ rfl
  go_wp2_with fail
  refine (lastTerm_nil _).mono ?_
  rintro e w5 ⟨rfl, rfl⟩
  have a0 := HM4.out.1.cell 0 _ rfl
  have a2 := HM4.out.1.cell 2 _ rfl
  have a3 := HM4.out.1.cell 3 _ rfl
  have k0 := HM4.out.2.1.cell 0 _ rfl
  have k3 := HM4.out.2.1.cell 3 _ rfl
  have k4 := HM4.out.2.1.cell 4 _ rfl
  have k5 := HM4.out.2.1.cell 5 _ rfl
  have f3 := HM4.out.1.1.free 3
  go_wp2_with fail
  refine calls_named (fun W => VV w (memL 1 3 1 0 0 (-1) 13 0 nil 0 nil nil) (msgL 0 1 1 1 false) zL W) (HM4.out.set 3 (.int .i64 0) (by omega)) ?_
  clear HM4 a0 a2 a3 k0 k3 k4 k5 f3 a8
  rintro w6 hM6
  have HM6 := Lib.hid hM6
  clear hM6
  refine (usual_any 1 _ (by omega) (by omega)).mono ?_
  rintro e w7 ⟨rfl, rfl⟩
  have a0 := HM6.out.1.cell 0 _ rfl
  have a2 := HM6.out.1.cell 2 _ rfl
  have a6 := HM6.out.1.cell 6 _ rfl
  have k0 := HM6.out.2.1.cell 0 _ rfl
  have f6 := HM6.out.1.1.free 6
  have l0 := HM6.out.1.1.lt
  have l1 := HM6.out.2.1.1.lt
  have l2 := HM6.out.2.2.1.1.lt
  have n0 : w.heap.size ≠ w6.heap.size := by omega
  have n1 : w.heap.size + 1 ≠ w6.heap.size := by omega
  go_wp2_with fail
  refine wp_named (fun W => VV w (memL 1 3 1 0 0 (-1) 13 0 nil 0 nil nil) (msgL 0 1 1 1 false) zL W ∧ BoxN 9 W w6.heap.size (msgL 1 0 2 1 true) ∧ w6.heap.size < W.heap.size) ⟨(HM6.out.set 6 (.int .i64 13) (by omega)).keep ((Below.refl _ _).alloc (Nat.le_refl _) _), by simpa using BoxN.new (w6.setCell ⟨w.heap.size, 6, none⟩ (.int .i64 13)) (msgL 1 0 2 1 true) 9 35 rfl, by simp⟩ ?_
  clear a0 a2 a6 k0 f6 HM6
  rintro w8 ⟨hM8, hD8, hz8⟩
  have l9 := hM8.2.2.1.1.lt
  have hV := V1.drew (⟨hM8, hD8, by omega⟩ : V1 w (memL 1 3 1 0 0 (-1) 13 0 nil 0 nil nil) (msgL 0 1 1 1 false) (msgL 1 0 2 1 true) zL w6.heap.size w8)
  refine wp_region_any (by kernel_rfl) ?_
  try (change wpAny _ _ _ _ _ _ _ (World.drew _))
  refine wpAny_ready (rs := [0, 1]) (by kernel_rfl) (by simp) ?_
  refine AllReady.cons rfl (fun K hK => ?_) ?_
  · skip
    refine step_box_load (by rfl) 25 (.tmp 2) (by rfl) w.heap.size (memL 1 3 1 0 0 (-1) 13 0 nil 0 nil nil) (by rfl) hV.1.1 wideMem ?_
    refine hK _ _ ?_; clear hK K
    refine wpAny_ready (rs := [1, 3]) (by kernel_rfl) (by simp) ?_
    refine AllReady.cons rfl (fun K hK => ?_) ?_
    · skip
      refine step_box_load (by rfl) 35 (.tmp 9) (by rfl) w6.heap.size (msgL 1 0 2 1 true) (by rfl) hV.2.1 wideMsg ?_
      refine hK _ _ ?_; clear hK K
      refine wpAny_ready (rs := [2, 3]) (by kernel_rfl) (by simp) ?_
      refine AllReady.cons rfl (fun K hK => ?_) ?_
      · skip
        go_simp
        refine hK _ _ ?_; clear hK K
        refine wpAny_named (fun W => V2 w (memL 1 3 1 0 0 (-1) 13 0 nil 0 nil nil) (msgL 0 1 1 1 false) (msgL 1 0 2 1 true) zL w6.heap.size w8.heap.size W) (hV.build rfl _) ?_
        rintro W1 s1
        refine wpAny_ready (rs := [3]) (by kernel_rfl) (by simp) ?_
        refine AllReady.cons rfl (fun K hK => ?_) ?_
        · skip
          refine step_box_store (by rfl) 25 (.tmp 4) (.tmp 77) (by rfl) (w.heap.size + 2) zL (memL 1 3 1 0 0 (-1) 13 0 nil 0 nil nil) (by rfl) (by rfl) s1.1.1.2.2.1 (memOk _ _ _ _ _ _ _ _ _ _ _ _ _ _ _ _ _ _) wideMem ?_
          rintro W2 hB2 hO2
          have s2 := s1.store hB2 hO2
          refine hK _ _ ?_; clear hK K
          refine wpAny_ready (rs := [4]) (by kernel_rfl) (by simp) ?_
          refine AllReady.cons rfl (fun K hK => ?_) ?_
          · skip
            go_simp
            refine hK _ _ ?_; clear hK K
            refine wpAny_done (by kernel_rfl) ?_ _
            go_wp2_with fail
            have r0 := s2.1.1.2.2.1.cell 0 _ rfl
            have r1 := s2.1.1.2.2.1.cell 1 _ rfl
            have r2 := s2.1.1.2.2.1.cell 2 _ rfl
            have r3 := s2.1.1.2.2.1.cell 3 _ rfl
            have r4 := s2.1.1.2.2.1.cell 4 _ rfl
            have r5 := s2.1.1.2.2.1.cell 5 _ rfl
            have r6 := s2.1.1.2.2.1.cell 6 _ rfl
            have r7 := s2.1.1.2.2.1.cell 7 _ rfl
            have r8 := s2.1.1.2.2.1.cell 8 _ rfl
            have r9 := s2.1.1.2.2.1.cell 9 _ rfl
            have r10 := s2.1.1.2.2.1.cell 10 _ rfl
            have r11 := s2.1.1.2.2.1.cell 11 _ rfl
            refine bodyPost_ret (v := .tuple #[mem 1 3 1 0 0 (-1) 13 0 nil 0 nil nil, .slice (some ⟨_, 0, none⟩) 1 1]) (by simp [results, Try.results19, go_sem, r0, r1, r2, r3, r4, r5, r6, r7, r8, r9, r10, r11]) rfl ⟨_, rfl, s2.out⟩
          exact AllReady.nil
        exact AllReady.nil
      refine AllReady.cons rfl (fun K hK => ?_) ?_
      · skip
        refine step_box_store (by rfl) 25 (.tmp 4) (.tmp 77) (by rfl) (w.heap.size + 2) zL (memL 1 3 1 0 0 (-1) 13 0 nil 0 nil nil) (by rfl) (by rfl) hV.1.2.2.1 (memOk _ _ _ _ _ _ _ _ _ _ _ _ _ _ _ _ _ _) wideMem ?_
        rintro W3 hB3 hO3
        have s3 := hV.store hB3 hO3
        refine hK _ _ ?_; clear hK K
        refine wpAny_ready (rs := [2]) (by kernel_rfl) (by simp) ?_
        refine AllReady.cons rfl (fun K hK => ?_) ?_
        · skip
          go_simp
          refine hK _ _ ?_; clear hK K
          refine wpAny_named (fun W => V2 w (memL 1 3 1 0 0 (-1) 13 0 nil 0 nil nil) (msgL 0 1 1 1 false) (msgL 1 0 2 1 true) (memL 1 3 1 0 0 (-1) 13 0 nil 0 nil nil) w6.heap.size W3.heap.size W) (s3.build rfl _) ?_
          rintro W4 s4
          refine wpAny_ready (rs := [4]) (by kernel_rfl) (by simp) ?_
          refine AllReady.cons rfl (fun K hK => ?_) ?_
          · skip
            go_simp
            refine hK _ _ ?_; clear hK K
            refine wpAny_done (by kernel_rfl) ?_ _
            go_wp2_with fail
            have r0 := s4.1.1.2.2.1.cell 0 _ rfl
            have r1 := s4.1.1.2.2.1.cell 1 _ rfl
            have r2 := s4.1.1.2.2.1.cell 2 _ rfl
            have r3 := s4.1.1.2.2.1.cell 3 _ rfl
            have r4 := s4.1.1.2.2.1.cell 4 _ rfl
            have r5 := s4.1.1.2.2.1.cell 5 _ rfl
            have r6 := s4.1.1.2.2.1.cell 6 _ rfl
            have r7 := s4.1.1.2.2.1.cell 7 _ rfl
            have r8 := s4.1.1.2.2.1.cell 8 _ rfl
            have r9 := s4.1.1.2.2.1.cell 9 _ rfl
            have r10 := s4.1.1.2.2.1.cell 10 _ rfl
            have r11 := s4.1.1.2.2.1.cell 11 _ rfl
            refine bodyPost_ret (v := .tuple #[mem 1 3 1 0 0 (-1) 13 0 nil 0 nil nil, .slice (some ⟨_, 0, none⟩) 1 1]) (by simp [results, Try.results19, go_sem, r0, r1, r2, r3, r4, r5, r6, r7, r8, r9, r10, r11]) rfl ⟨_, rfl, s4.out⟩
          exact AllReady.nil
        exact AllReady.nil
      exact AllReady.nil
    refine AllReady.cons rfl (fun K hK => ?_) ?_
    · skip
      refine step_box_store (by rfl) 25 (.tmp 4) (.tmp 77) (by rfl) (w.heap.size + 2) zL (memL 1 3 1 0 0 (-1) 13 0 nil 0 nil nil) (by rfl) (by rfl) hV.1.2.2.1 (memOk _ _ _ _ _ _ _ _ _ _ _ _ _ _ _ _ _ _) wideMem ?_
      rintro W5 hB5 hO5
      have s5 := hV.store hB5 hO5
      refine hK _ _ ?_; clear hK K
      refine wpAny_ready (rs := [1]) (by kernel_rfl) (by simp) ?_
      refine AllReady.cons rfl (fun K hK => ?_) ?_
      · skip
        refine step_box_load (by rfl) 35 (.tmp 9) (by rfl) w6.heap.size (msgL 1 0 2 1 true) (by rfl) s5.2.1 wideMsg ?_
        refine hK _ _ ?_; clear hK K
        refine wpAny_ready (rs := [2]) (by kernel_rfl) (by simp) ?_
        refine AllReady.cons rfl (fun K hK => ?_) ?_
        · skip
          go_simp
          refine hK _ _ ?_; clear hK K
          refine wpAny_named (fun W => V2 w (memL 1 3 1 0 0 (-1) 13 0 nil 0 nil nil) (msgL 0 1 1 1 false) (msgL 1 0 2 1 true) (memL 1 3 1 0 0 (-1) 13 0 nil 0 nil nil) w6.heap.size W5.heap.size W) (s5.build rfl _) ?_
          rintro W6 s6
          refine wpAny_ready (rs := [4]) (by kernel_rfl) (by simp) ?_
          refine AllReady.cons rfl (fun K hK => ?_) ?_
          · skip
            go_simp
            refine hK _ _ ?_; clear hK K
            refine wpAny_done (by kernel_rfl) ?_ _
            go_wp2_with fail
            have r0 := s6.1.1.2.2.1.cell 0 _ rfl
            have r1 := s6.1.1.2.2.1.cell 1 _ rfl
            have r2 := s6.1.1.2.2.1.cell 2 _ rfl
            have r3 := s6.1.1.2.2.1.cell 3 _ rfl
            have r4 := s6.1.1.2.2.1.cell 4 _ rfl
            have r5 := s6.1.1.2.2.1.cell 5 _ rfl
            have r6 := s6.1.1.2.2.1.cell 6 _ rfl
            have r7 := s6.1.1.2.2.1.cell 7 _ rfl
            have r8 := s6.1.1.2.2.1.cell 8 _ rfl
            have r9 := s6.1.1.2.2.1.cell 9 _ rfl
            have r10 := s6.1.1.2.2.1.cell 10 _ rfl
            have r11 := s6.1.1.2.2.1.cell 11 _ rfl
            refine bodyPost_ret (v := .tuple #[mem 1 3 1 0 0 (-1) 13 0 nil 0 nil nil, .slice (some ⟨_, 0, none⟩) 1 1]) (by simp [results, Try.results19, go_sem, r0, r1, r2, r3, r4, r5, r6, r7, r8, r9, r10, r11]) rfl ⟨_, rfl, s6.out⟩
          exact AllReady.nil
        exact AllReady.nil
      exact AllReady.nil
    exact AllReady.nil
  refine AllReady.cons rfl (fun K hK => ?_) ?_
  · skip
    refine step_box_load (by rfl) 35 (.tmp 9) (by rfl) w6.heap.size (msgL 1 0 2 1 true) (by rfl) hV.2.1 wideMsg ?_
    refine hK _ _ ?_; clear hK K
    refine wpAny_ready (rs := [0, 2]) (by kernel_rfl) (by simp) ?_
    refine AllReady.cons rfl (fun K hK => ?_) ?_
    · skip
      refine step_box_load (by rfl) 25 (.tmp 2) (by rfl) w.heap.size (memL 1 3 1 0 0 (-1) 13 0 nil 0 nil nil) (by rfl) hV.1.1 wideMem ?_
      refine hK _ _ ?_; clear hK K
      refine wpAny_ready (rs := [2, 3]) (by kernel_rfl) (by simp) ?_
      refine AllReady.cons rfl (fun K hK => ?_) ?_
      · skip
        go_simp
        refine hK _ _ ?_; clear hK K
        refine wpAny_named (fun W => V2 w (memL 1 3 1 0 0 (-1) 13 0 nil 0 nil nil) (msgL 0 1 1 1 false) (msgL 1 0 2 1 true) zL w6.heap.size w8.heap.size W) (hV.build rfl _) ?_
        rintro W7 s7
        refine wpAny_ready (rs := [3]) (by kernel_rfl) (by simp) ?_
        refine AllReady.cons rfl (fun K hK => ?_) ?_
        · skip
          refine step_box_store (by rfl) 25 (.tmp 4) (.tmp 77) (by rfl) (w.heap.size + 2) zL (memL 1 3 1 0 0 (-1) 13 0 nil 0 nil nil) (by rfl) (by rfl) s7.1.1.2.2.1 (memOk _ _ _ _ _ _ _ _ _ _ _ _ _ _ _ _ _ _) wideMem ?_
          rintro W8 hB8 hO8
          have s8 := s7.store hB8 hO8
          refine hK _ _ ?_; clear hK K
          refine wpAny_ready (rs := [4]) (by kernel_rfl) (by simp) ?_
          refine AllReady.cons rfl (fun K hK => ?_) ?_
          · skip
            go_simp
            refine hK _ _ ?_; clear hK K
            refine wpAny_done (by kernel_rfl) ?_ _
            go_wp2_with fail
            have r0 := s8.1.1.2.2.1.cell 0 _ rfl
            have r1 := s8.1.1.2.2.1.cell 1 _ rfl
            have r2 := s8.1.1.2.2.1.cell 2 _ rfl
            have r3 := s8.1.1.2.2.1.cell 3 _ rfl
            have r4 := s8.1.1.2.2.1.cell 4 _ rfl
            have r5 := s8.1.1.2.2.1.cell 5 _ rfl
            have r6 := s8.1.1.2.2.1.cell 6 _ rfl
            have r7 := s8.1.1.2.2.1.cell 7 _ rfl
            have r8 := s8.1.1.2.2.1.cell 8 _ rfl
            have r9 := s8.1.1.2.2.1.cell 9 _ rfl
            have r10 := s8.1.1.2.2.1.cell 10 _ rfl
            have r11 := s8.1.1.2.2.1.cell 11 _ rfl
            refine bodyPost_ret (v := .tuple #[mem 1 3 1 0 0 (-1) 13 0 nil 0 nil nil, .slice (some ⟨_, 0, none⟩) 1 1]) (by simp [results, Try.results19, go_sem, r0, r1, r2, r3, r4, r5, r6, r7, r8, r9, r10, r11]) rfl ⟨_, rfl, s8.out⟩
          exact AllReady.nil
        exact AllReady.nil
      refine AllReady.cons rfl (fun K hK => ?_) ?_
      · skip
        refine step_box_store (by rfl) 25 (.tmp 4) (.tmp 77) (by rfl) (w.heap.size + 2) zL (memL 1 3 1 0 0 (-1) 13 0 nil 0 nil nil) (by rfl) (by rfl) hV.1.2.2.1 (memOk _ _ _ _ _ _ _ _ _ _ _ _ _ _ _ _ _ _) wideMem ?_
        rintro W9 hB9 hO9
        have s9 := hV.store hB9 hO9
        refine hK _ _ ?_; clear hK K
        refine wpAny_ready (rs := [2]) (by kernel_rfl) (by simp) ?_
        refine AllReady.cons rfl (fun K hK => ?_) ?_
        · skip
          go_simp
          refine hK _ _ ?_; clear hK K
          refine wpAny_named (fun W => V2 w (memL 1 3 1 0 0 (-1) 13 0 nil 0 nil nil) (msgL 0 1 1 1 false) (msgL 1 0 2 1 true) (memL 1 3 1 0 0 (-1) 13 0 nil 0 nil nil) w6.heap.size W9.heap.size W) (s9.build rfl _) ?_
          rintro W10 s10
          refine wpAny_ready (rs := [4]) (by kernel_rfl) (by simp) ?_
          refine AllReady.cons rfl (fun K hK => ?_) ?_
          · skip
            go_simp
            refine hK _ _ ?_; clear hK K
            refine wpAny_done (by kernel_rfl) ?_ _
            go_wp2_with fail
            have r0 := s10.1.1.2.2.1.cell 0 _ rfl
            have r1 := s10.1.1.2.2.1.cell 1 _ rfl
            have r2 := s10.1.1.2.2.1.cell 2 _ rfl
            have r3 := s10.1.1.2.2.1.cell 3 _ rfl
            have r4 := s10.1.1.2.2.1.cell 4 _ rfl
            have r5 := s10.1.1.2.2.1.cell 5 _ rfl
            have r6 := s10.1.1.2.2.1.cell 6 _ rfl
            have r7 := s10.1.1.2.2.1.cell 7 _ rfl
            have r8 := s10.1.1.2.2.1.cell 8 _ rfl
            have r9 := s10.1.1.2.2.1.cell 9 _ rfl
            have r10 := s10.1.1.2.2.1.cell 10 _ rfl
            have r11 := s10.1.1.2.2.1.cell 11 _ rfl
            refine bodyPost_ret (v := .tuple #[mem 1 3 1 0 0 (-1) 13 0 nil 0 nil nil, .slice (some ⟨_, 0, none⟩) 1 1]) (by simp [results, Try.results19, go_sem, r0, r1, r2, r3, r4, r5, r6, r7, r8, r9, r10, r11]) rfl ⟨_, rfl, s10.out⟩
          exact AllReady.nil
        exact AllReady.nil
      exact AllReady.nil
    refine AllReady.cons rfl (fun K hK => ?_) ?_
    · skip
      go_simp
      refine hK _ _ ?_; clear hK K
      refine wpAny_named (fun W => V2 w (memL 1 3 1 0 0 (-1) 13 0 nil 0 nil nil) (msgL 0 1 1 1 false) (msgL 1 0 2 1 true) zL w6.heap.size w8.heap.size W) (hV.build rfl _) ?_
      rintro W11 s11
      refine wpAny_ready (rs := [0]) (by kernel_rfl) (by simp) ?_
      refine AllReady.cons rfl (fun K hK => ?_) ?_
      · skip
        refine step_box_load (by rfl) 25 (.tmp 2) (by rfl) w.heap.size (memL 1 3 1 0 0 (-1) 13 0 nil 0 nil nil) (by rfl) s11.1.1.1 wideMem ?_
        refine hK _ _ ?_; clear hK K
        refine wpAny_ready (rs := [3]) (by kernel_rfl) (by simp) ?_
        refine AllReady.cons rfl (fun K hK => ?_) ?_
        · skip
          refine step_box_store (by rfl) 25 (.tmp 4) (.tmp 77) (by rfl) (w.heap.size + 2) zL (memL 1 3 1 0 0 (-1) 13 0 nil 0 nil nil) (by rfl) (by rfl) s11.1.1.2.2.1 (memOk _ _ _ _ _ _ _ _ _ _ _ _ _ _ _ _ _ _) wideMem ?_
          rintro W12 hB12 hO12
          have s12 := s11.store hB12 hO12
          refine hK _ _ ?_; clear hK K
          refine wpAny_ready (rs := [4]) (by kernel_rfl) (by simp) ?_
          refine AllReady.cons rfl (fun K hK => ?_) ?_
          · skip
            go_simp
            refine hK _ _ ?_; clear hK K
            refine wpAny_done (by kernel_rfl) ?_ _
            go_wp2_with fail
            have r0 := s12.1.1.2.2.1.cell 0 _ rfl
            have r1 := s12.1.1.2.2.1.cell 1 _ rfl
            have r2 := s12.1.1.2.2.1.cell 2 _ rfl
            have r3 := s12.1.1.2.2.1.cell 3 _ rfl
            have r4 := s12.1.1.2.2.1.cell 4 _ rfl
            have r5 := s12.1.1.2.2.1.cell 5 _ rfl
            have r6 := s12.1.1.2.2.1.cell 6 _ rfl
            have r7 := s12.1.1.2.2.1.cell 7 _ rfl
            have r8 := s12.1.1.2.2.1.cell 8 _ rfl
            have r9 := s12.1.1.2.2.1.cell 9 _ rfl
            have r10 := s12.1.1.2.2.1.cell 10 _ rfl
            have r11 := s12.1.1.2.2.1.cell 11 _ rfl
            refine bodyPost_ret (v := .tuple #[mem 1 3 1 0 0 (-1) 13 0 nil 0 nil nil, .slice (some ⟨_, 0, none⟩) 1 1]) (by simp [results, Try.results19, go_sem, r0, r1, r2, r3, r4, r5, r6, r7, r8, r9, r10, r11]) rfl ⟨_, rfl, s12.out⟩
          exact AllReady.nil
        exact AllReady.nil
      exact AllReady.nil
    exact AllReady.nil
  exact AllReady.nil
end Go.Proofs.Ytfpgklhbghahoaa
/- Election: the vote of the law's example to a second candidate: not granted. -/
namespace Go.Proofs.Ytfpgklhbghahoaa
open Go.ChangeShapes Go.WideShapes Go.ChangeAt Go.RowKit Go.Deep
set_option linter.unusedVariables false
set_option linter.unusedSimpArgs false
set_option maxRecDepth 100000 in
set_option maxHeartbeats 2000000 in
theorem vote_ex2 (w : World) : Calls Try.prog 19 #[mem 1 3 1 0 0 (-1) 13 0 nil 0 nil nil, msgV 2 1 1 1 false] w (VoteOut (mem 1 3 1 0 0 (-1) 13 0 nil 0 nil nil) 2 false w) := by
  go_enter Try.func19, Try.ntmps19
  go_wp2_with fail
  have HM0 := Lib.hid (VV.start w (memL 1 3 1 0 0 (-1) 13 0 nil 0 nil nil) (msgL 2 1 1 1 false) 25 35 rfl rfl)
  refine (copyMember_nil _ _ _ _ _ _ _ _ _ _).mono ?_
  rintro e w1 ⟨rfl, hb1⟩
  have HM1 := Lib.hid (HM0.out.keep hb1)
  clear hb1 HM0
  have hA1 := HM1.out.1
  go_wp2_with (with_reducible refine wpList_box_store 25 2 (.tmp 11) w.heap.size _ (memL 1 3 1 0 0 (-1) 13 0 nil 0 nil nil) _ _ _ _ _ _ ?_ ?_ hA1 (memOk _ _ _ _ _ _ _ _ _ _ _ _ _ _ _ _ _ _) wideMem ?_)
  · rfl
  · rfl
  rintro w2 hA hO
  have HM2 := Lib.hid (HM1.out.own hA hO)
  have k2 := HM2.out.2.1.cell 2 _ rfl
  have k3 := HM2.out.2.1.cell 3 _ rfl
  go_wp2_with (with_reducible refine wpList_box_load 25 2 w.heap.size (memL 1 3 1 0 0 (-1) 13 0 nil 0 nil nil) _ _ _ _ _ _ ?_ hA wideMem ?_)
  · rfl
  go_wp2_with fail
  refine (follow_any 1 3 1 0 0 (-1) 13 0 none 0 0 0 none 0 0 none 0 0 1 _ (by omega) (by omega)).mono ?_
  rintro e w3 ⟨he3, hb3⟩
  rw [if_pos (by decide)] at he3
  subst he3
  have HM3 := Lib.hid (HM2.out.keep hb3)
  clear hb3 hA hA1 hO HM1 HM2 k2 k3
  have hA1 := HM3.out.1
  go_wp2_with (with_reducible refine wpList_box_store 25 2 (.tmp 19) w.heap.size _ (memL 1 3 1 0 0 (-1) 13 0 nil 0 nil nil) _ _ _ _ _ _ ?_ ?_ hA1 (memOk _ _ _ _ _ _ _ _ _ _ _ _ _ _ _ _ _ _) wideMem ?_)
  · rfl
  · rfl
  rintro w4 hA hO
  have HM4 := Lib.hid (HM3.out.own hA hO)
  clear hA1 hO hA HM3
  have a8 := HM4.out.1.cell 8 _ rfl
  go_wp2_with fail
  refine (lastTerm_nil _).mono ?_
  rintro e w5 ⟨rfl, rfl⟩
  have a0 := HM4.out.1.cell 0 _ rfl
  have a2 := HM4.out.1.cell 2 _ rfl
  have a3 := HM4.out.1.cell 3 _ rfl
  have k0 := HM4.out.2.1.cell 0 _ rfl
  have k3 := HM4.out.2.1.cell 3 _ rfl
  have k4 := HM4.out.2.1.cell 4 _ rfl
  have k5 := HM4.out.2.1.cell 5 _ rfl
  have l0 := HM4.out.1.1.lt
  have l1 := HM4.out.2.1.1.lt
  have l2 := HM4.out.2.2.1.1.lt
  have n0 : w.heap.size ≠ w4.heap.size := by omega
  have n1 : w.heap.size + 1 ≠ w4.heap.size := by omega
  go_wp2_with fail
  refine wp_named (fun W => VV w (memL 1 3 1 0 0 (-1) 13 0 nil 0 nil nil) (msgL 2 1 1 1 false) zL W ∧ BoxN 9 W w4.heap.size (msgL 1 2 2 1 false) ∧ w4.heap.size < W.heap.size) ⟨HM4.out.keep ((Below.refl _ _).alloc (Nat.le_refl _) _), by simpa using BoxN.new w4 (msgL 1 2 2 1 false) 9 35 rfl, by simp⟩ ?_
  clear a0 a2 a3 k0 k3 k4 k5 a8 HM4
  rintro w8 ⟨hM8, hD8, hz8⟩
  have l9 := hM8.2.2.1.1.lt
  have hV := V1.drew (⟨hM8, hD8, by omega⟩ : V1 w (memL 1 3 1 0 0 (-1) 13 0 nil 0 nil nil) (msgL 2 1 1 1 false) (msgL 1 2 2 1 false) zL w4.heap.size w8)
  refine wp_region_any (by kernel_rfl) ?_
  try (change wpAny _ _ _ _ _ _ _ (World.drew _))
  refine wpAny_ready (rs := [0, 1]) (by kernel_rfl) (by simp) ?_
  refine AllReady.cons rfl (fun K hK => ?_) ?_
  · skip
    refine step_box_load (by rfl) 25 (.tmp 2) (by rfl) w.heap.size (memL 1 3 1 0 0 (-1) 13 0 nil 0 nil nil) (by rfl) hV.1.1 wideMem ?_
    refine hK _ _ ?_; clear hK K
    refine wpAny_ready (rs := [1, 3]) (by kernel_rfl) (by simp) ?_
    refine AllReady.cons rfl (fun K hK => ?_) ?_
    · skip
      refine step_box_load (by rfl) 35 (.tmp 9) (by rfl) w4.heap.size (msgL 1 2 2 1 false) (by rfl) hV.2.1 wideMsg ?_
      refine hK _ _ ?_; clear hK K
      refine wpAny_ready (rs := [2, 3]) (by kernel_rfl) (by simp) ?_
      refine AllReady.cons rfl (fun K hK => ?_) ?_
      · skip
        go_simp
        refine hK _ _ ?_; clear hK K
        refine wpAny_named (fun W => V2 w (memL 1 3 1 0 0 (-1) 13 0 nil 0 nil nil) (msgL 2 1 1 1 false) (msgL 1 2 2 1 false) zL w4.heap.size w8.heap.size W) (hV.build rfl _) ?_
        rintro W1 s1
        refine wpAny_ready (rs := [3]) (by kernel_rfl) (by simp) ?_
        refine AllReady.cons rfl (fun K hK => ?_) ?_
        · skip
          refine step_box_store (by rfl) 25 (.tmp 4) (.tmp 77) (by rfl) (w.heap.size + 2) zL (memL 1 3 1 0 0 (-1) 13 0 nil 0 nil nil) (by rfl) (by rfl) s1.1.1.2.2.1 (memOk _ _ _ _ _ _ _ _ _ _ _ _ _ _ _ _ _ _) wideMem ?_
          rintro W2 hB2 hO2
          have s2 := s1.store hB2 hO2
          refine hK _ _ ?_; clear hK K
          refine wpAny_ready (rs := [4]) (by kernel_rfl) (by simp) ?_
          refine AllReady.cons rfl (fun K hK => ?_) ?_
          · skip
            go_simp
            refine hK _ _ ?_; clear hK K
            refine wpAny_done (by kernel_rfl) ?_ _
            go_wp2_with fail
            have r0 := s2.1.1.2.2.1.cell 0 _ rfl
            have r1 := s2.1.1.2.2.1.cell 1 _ rfl
            have r2 := s2.1.1.2.2.1.cell 2 _ rfl
            have r3 := s2.1.1.2.2.1.cell 3 _ rfl
            have r4 := s2.1.1.2.2.1.cell 4 _ rfl
            have r5 := s2.1.1.2.2.1.cell 5 _ rfl
            have r6 := s2.1.1.2.2.1.cell 6 _ rfl
            have r7 := s2.1.1.2.2.1.cell 7 _ rfl
            have r8 := s2.1.1.2.2.1.cell 8 _ rfl
            have r9 := s2.1.1.2.2.1.cell 9 _ rfl
            have r10 := s2.1.1.2.2.1.cell 10 _ rfl
            have r11 := s2.1.1.2.2.1.cell 11 _ rfl
            refine bodyPost_ret (v := .tuple #[mem 1 3 1 0 0 (-1) 13 0 nil 0 nil nil, .slice (some ⟨_, 0, none⟩) 1 1]) (by simp [results, Try.results19, go_sem, r0, r1, r2, r3, r4, r5, r6, r7, r8, r9, r10, r11]) rfl ⟨_, rfl, s2.out⟩
          exact AllReady.nil
        exact AllReady.nil
      refine AllReady.cons rfl (fun K hK => ?_) ?_
      · skip
        refine step_box_store (by rfl) 25 (.tmp 4) (.tmp 77) (by rfl) (w.heap.size + 2) zL (memL 1 3 1 0 0 (-1) 13 0 nil 0 nil nil) (by rfl) (by rfl) hV.1.2.2.1 (memOk _ _ _ _ _ _ _ _ _ _ _ _ _ _ _ _ _ _) wideMem ?_
        rintro W3 hB3 hO3
        have s3 := hV.store hB3 hO3
        refine hK _ _ ?_; clear hK K
        refine wpAny_ready (rs := [2]) (by kernel_rfl) (by simp) ?_
        refine AllReady.cons rfl (fun K hK => ?_) ?_
        · skip
          go_simp
          refine hK _ _ ?_; clear hK K
          refine wpAny_named (fun W => V2 w (memL 1 3 1 0 0 (-1) 13 0 nil 0 nil nil) (msgL 2 1 1 1 false) (msgL 1 2 2 1 false) (memL 1 3 1 0 0 (-1) 13 0 nil 0 nil nil) w4.heap.size W3.heap.size W) (s3.build rfl _) ?_
          rintro W4 s4
          refine wpAny_ready (rs := [4]) (by kernel_rfl) (by simp) ?_
          refine AllReady.cons rfl (fun K hK => ?_) ?_
          · skip
            go_simp
            refine hK _ _ ?_; clear hK K
            refine wpAny_done (by kernel_rfl) ?_ _
            go_wp2_with fail
            have r0 := s4.1.1.2.2.1.cell 0 _ rfl
            have r1 := s4.1.1.2.2.1.cell 1 _ rfl
            have r2 := s4.1.1.2.2.1.cell 2 _ rfl
            have r3 := s4.1.1.2.2.1.cell 3 _ rfl
            have r4 := s4.1.1.2.2.1.cell 4 _ rfl
            have r5 := s4.1.1.2.2.1.cell 5 _ rfl
            have r6 := s4.1.1.2.2.1.cell 6 _ rfl
            have r7 := s4.1.1.2.2.1.cell 7 _ rfl
            have r8 := s4.1.1.2.2.1.cell 8 _ rfl
            have r9 := s4.1.1.2.2.1.cell 9 _ rfl
            have r10 := s4.1.1.2.2.1.cell 10 _ rfl
            have r11 := s4.1.1.2.2.1.cell 11 _ rfl
            refine bodyPost_ret (v := .tuple #[mem 1 3 1 0 0 (-1) 13 0 nil 0 nil nil, .slice (some ⟨_, 0, none⟩) 1 1]) (by simp [results, Try.results19, go_sem, r0, r1, r2, r3, r4, r5, r6, r7, r8, r9, r10, r11]) rfl ⟨_, rfl, s4.out⟩
          exact AllReady.nil
        exact AllReady.nil
      exact AllReady.nil
    refine AllReady.cons rfl (fun K hK => ?_) ?_
    · skip
      refine step_box_store (by rfl) 25 (.tmp 4) (.tmp 77) (by rfl) (w.heap.size + 2) zL (memL 1 3 1 0 0 (-1) 13 0 nil 0 nil nil) (by rfl) (by rfl) hV.1.2.2.1 (memOk _ _ _ _ _ _ _ _ _ _ _ _ _ _ _ _ _ _) wideMem ?_
      rintro W5 hB5 hO5
      have s5 := hV.store hB5 hO5
      refine hK _ _ ?_; clear hK K
      refine wpAny_ready (rs := [1]) (by kernel_rfl) (by simp) ?_
      refine AllReady.cons rfl (fun K hK => ?_) ?_
      · skip
        refine step_box_load (by rfl) 35 (.tmp 9) (by rfl) w4.heap.size (msgL 1 2 2 1 false) (by rfl) s5.2.1 wideMsg ?_
        refine hK _ _ ?_; clear hK K
        refine wpAny_ready (rs := [2]) (by kernel_rfl) (by simp) ?_
        refine AllReady.cons rfl (fun K hK => ?_) ?_
        · skip
          go_simp
          refine hK _ _ ?_; clear hK K
          refine wpAny_named (fun W => V2 w (memL 1 3 1 0 0 (-1) 13 0 nil 0 nil nil) (msgL 2 1 1 1 false) (msgL 1 2 2 1 false) (memL 1 3 1 0 0 (-1) 13 0 nil 0 nil nil) w4.heap.size W5.heap.size W) (s5.build rfl _) ?_
          rintro W6 s6
          refine wpAny_ready (rs := [4]) (by kernel_rfl) (by simp) ?_
          refine AllReady.cons rfl (fun K hK => ?_) ?_
          · skip
            go_simp
            refine hK _ _ ?_; clear hK K
            refine wpAny_done (by kernel_rfl) ?_ _
            go_wp2_with fail
            have r0 := s6.1.1.2.2.1.cell 0 _ rfl
            have r1 := s6.1.1.2.2.1.cell 1 _ rfl
            have r2 := s6.1.1.2.2.1.cell 2 _ rfl
            have r3 := s6.1.1.2.2.1.cell 3 _ rfl
            have r4 := s6.1.1.2.2.1.cell 4 _ rfl
            have r5 := s6.1.1.2.2.1.cell 5 _ rfl
            have r6 := s6.1.1.2.2.1.cell 6 _ rfl
            have r7 := s6.1.1.2.2.1.cell 7 _ rfl
            have r8 := s6.1.1.2.2.1.cell 8 _ rfl
            have r9 := s6.1.1.2.2.1.cell 9 _ rfl
            have r10 := s6.1.1.2.2.1.cell 10 _ rfl
            have r11 := s6.1.1.2.2.1.cell 11 _ rfl
            refine bodyPost_ret (v := .tuple #[mem 1 3 1 0 0 (-1) 13 0 nil 0 nil nil, .slice (some ⟨_, 0, none⟩) 1 1]) (by simp [results, Try.results19, go_sem, r0, r1, r2, r3, r4, r5, r6, r7, r8, r9, r10, r11]) rfl ⟨_, rfl, s6.out⟩
          exact AllReady.nil
        exact AllReady.nil
      exact AllReady.nil
    exact AllReady.nil
  refine AllReady.cons rfl (fun K hK => ?_) ?_
  · skip
    refine step_box_load (by rfl) 35 (.tmp 9) (by rfl) w4.heap.size (msgL 1 2 2 1 false) (by rfl) hV.2.1 wideMsg ?_
    refine hK _ _ ?_; clear hK K
    refine wpAny_ready (rs := [0, 2]) (by kernel_rfl) (by simp) ?_
    refine AllReady.cons rfl (fun K hK => ?_) ?_
    · skip
      refine step_box_load (by rfl) 25 (.tmp 2) (by rfl) w.heap.size (memL 1 3 1 0 0 (-1) 13 0 nil 0 nil nil) (by rfl) hV.1.1 wideMem ?_
      refine hK _ _ ?_; clear hK K
      refine wpAny_ready (rs := [2, 3]) (by kernel_rfl) (by simp) ?_
      refine AllReady.cons rfl (fun K hK => ?_) ?_
      · skip
        go_simp
        refine hK _ _ ?_; clear hK K
        refine wpAny_named (fun W => V2 w (memL 1 3 1 0 0 (-1) 13 0 nil 0 nil nil) (msgL 2 1 1 1 false) (msgL 1 2 2 1 false) zL w4.heap.size w8.heap.size W) (hV.build rfl _) ?_
        rintro W7 s7
        refine wpAny_ready (rs := [3]) (by kernel_rfl) (by simp) ?_
        refine AllReady.cons rfl (fun K hK => ?_) ?_
        · skip
          refine step_box_store (by rfl) 25 (.tmp 4) (.tmp 77) (by rfl) (w.heap.size + 2) zL (memL 1 3 1 0 0 (-1) 13 0 nil 0 nil nil) (by rfl) (by rfl) s7.1.1.2.2.1 (memOk _ _ _ _ _ _ _ _ _ _ _ _ _ _ _ _ _ _) wideMem ?_
          rintro W8 hB8 hO8
          have s8 := s7.store hB8 hO8
          refine hK _ _ ?_; clear hK K
          refine wpAny_ready (rs := [4]) (by kernel_rfl) (by simp) ?_
          refine AllReady.cons rfl (fun K hK => ?_) ?_
          · skip
            go_simp
            refine hK _ _ ?_; clear hK K
            refine wpAny_done (by kernel_rfl) ?_ _
            go_wp2_with fail
            have r0 := s8.1.1.2.2.1.cell 0 _ rfl
            have r1 := s8.1.1.2.2.1.cell 1 _ rfl
            have r2 := s8.1.1.2.2.1.cell 2 _ rfl
            have r3 := s8.1.1.2.2.1.cell 3 _ rfl
            have r4 := s8.1.1.2.2.1.cell 4 _ rfl
            have r5 := s8.1.1.2.2.1.cell 5 _ rfl
            have r6 := s8.1.1.2.2.1.cell 6 _ rfl
            have r7 := s8.1.1.2.2.1.cell 7 _ rfl
            have r8 := s8.1.1.2.2.1.cell 8 _ rfl
            have r9 := s8.1.1.2.2.1.cell 9 _ rfl
            have r10 := s8.1.1.2.2.1.cell 10 _ rfl
            have r11 := s8.1.1.2.2.1.cell 11 _ rfl
            refine bodyPost_ret (v := .tuple #[mem 1 3 1 0 0 (-1) 13 0 nil 0 nil nil, .slice (some ⟨_, 0, none⟩) 1 1]) (by simp [results, Try.results19, go_sem, r0, r1, r2, r3, r4, r5, r6, r7, r8, r9, r10, r11]) rfl ⟨_, rfl, s8.out⟩
          exact AllReady.nil
        exact AllReady.nil
      refine AllReady.cons rfl (fun K hK => ?_) ?_
      · skip
        refine step_box_store (by rfl) 25 (.tmp 4) (.tmp 77) (by rfl) (w.heap.size + 2) zL (memL 1 3 1 0 0 (-1) 13 0 nil 0 nil nil) (by rfl) (by rfl) hV.1.2.2.1 (memOk _ _ _ _ _ _ _ _ _ _ _ _ _ _ _ _ _ _) wideMem ?_
        rintro W9 hB9 hO9
        have s9 := hV.store hB9 hO9
        refine hK _ _ ?_; clear hK K
        refine wpAny_ready (rs := [2]) (by kernel_rfl) (by simp) ?_
        refine AllReady.cons rfl (fun K hK => ?_) ?_
        · skip
          go_simp
          refine hK _ _ ?_; clear hK K
          refine wpAny_named (fun W => V2 w (memL 1 3 1 0 0 (-1) 13 0 nil 0 nil nil) (msgL 2 1 1 1 false) (msgL 1 2 2 1 false) (memL 1 3 1 0 0 (-1) 13 0 nil 0 nil nil) w4.heap.size W9.heap.size W) (s9.build rfl _) ?_
          rintro W10 s10
          refine wpAny_ready (rs := [4]) (by kernel_rfl) (by simp) ?_
          refine AllReady.cons rfl (fun K hK => ?_) ?_
          · skip
            go_simp
            refine hK _ _ ?_; clear hK K
            refine wpAny_done (by kernel_rfl) ?_ _
            go_wp2_with fail
            have r0 := s10.1.1.2.2.1.cell 0 _ rfl
            have r1 := s10.1.1.2.2.1.cell 1 _ rfl
            have r2 := s10.1.1.2.2.1.cell 2 _ rfl
            have r3 := s10.1.1.2.2.1.cell 3 _ rfl
            have r4 := s10.1.1.2.2.1.cell 4 _ rfl
            have r5 := s10.1.1.2.2.1.cell 5 _ rfl
            have r6 := s10.1.1.2.2.1.cell 6 _ rfl
            have r7 := s10.1.1.2.2.1.cell 7 _ rfl
            have r8 := s10.1.1.2.2.1.cell 8 _ rfl
            have r9 := s10.1.1.2.2.1.cell 9 _ rfl
            have r10 := s10.1.1.2.2.1.cell 10 _ rfl
            have r11 := s10.1.1.2.2.1.cell 11 _ rfl
            refine bodyPost_ret (v := .tuple #[mem 1 3 1 0 0 (-1) 13 0 nil 0 nil nil, .slice (some ⟨_, 0, none⟩) 1 1]) (by simp [results, Try.results19, go_sem, r0, r1, r2, r3, r4, r5, r6, r7, r8, r9, r10, r11]) rfl ⟨_, rfl, s10.out⟩
          exact AllReady.nil
        exact AllReady.nil
      exact AllReady.nil
    refine AllReady.cons rfl (fun K hK => ?_) ?_
    · skip
      go_simp
      refine hK _ _ ?_; clear hK K
      refine wpAny_named (fun W => V2 w (memL 1 3 1 0 0 (-1) 13 0 nil 0 nil nil) (msgL 2 1 1 1 false) (msgL 1 2 2 1 false) zL w4.heap.size w8.heap.size W) (hV.build rfl _) ?_
      rintro W11 s11
      refine wpAny_ready (rs := [0]) (by kernel_rfl) (by simp) ?_
      refine AllReady.cons rfl (fun K hK => ?_) ?_
      · skip
        refine step_box_load (by rfl) 25 (.tmp 2) (by rfl) w.heap.size (memL 1 3 1 0 0 (-1) 13 0 nil 0 nil nil) (by rfl) s11.1.1.1 wideMem ?_
        refine hK _ _ ?_; clear hK K
        refine wpAny_ready (rs := [3]) (by kernel_rfl) (by simp) ?_
        refine AllReady.cons rfl (fun K hK => ?_) ?_
        · skip
          refine step_box_store (by rfl) 25 (.tmp 4) (.tmp 77) (by rfl) (w.heap.size + 2) zL (memL 1 3 1 0 0 (-1) 13 0 nil 0 nil nil) (by rfl) (by rfl) s11.1.1.2.2.1 (memOk _ _ _ _ _ _ _ _ _ _ _ _ _ _ _ _ _ _) wideMem ?_
          rintro W12 hB12 hO12
          have s12 := s11.store hB12 hO12
          refine hK _ _ ?_; clear hK K
          refine wpAny_ready (rs := [4]) (by kernel_rfl) (by simp) ?_
          refine AllReady.cons rfl (fun K hK => ?_) ?_
          · skip
            go_simp
            refine hK _ _ ?_; clear hK K
            refine wpAny_done (by kernel_rfl) ?_ _
            go_wp2_with fail
            have r0 := s12.1.1.2.2.1.cell 0 _ rfl
            have r1 := s12.1.1.2.2.1.cell 1 _ rfl
            have r2 := s12.1.1.2.2.1.cell 2 _ rfl
            have r3 := s12.1.1.2.2.1.cell 3 _ rfl
            have r4 := s12.1.1.2.2.1.cell 4 _ rfl
            have r5 := s12.1.1.2.2.1.cell 5 _ rfl
            have r6 := s12.1.1.2.2.1.cell 6 _ rfl
            have r7 := s12.1.1.2.2.1.cell 7 _ rfl
            have r8 := s12.1.1.2.2.1.cell 8 _ rfl
            have r9 := s12.1.1.2.2.1.cell 9 _ rfl
            have r10 := s12.1.1.2.2.1.cell 10 _ rfl
            have r11 := s12.1.1.2.2.1.cell 11 _ rfl
            refine bodyPost_ret (v := .tuple #[mem 1 3 1 0 0 (-1) 13 0 nil 0 nil nil, .slice (some ⟨_, 0, none⟩) 1 1]) (by simp [results, Try.results19, go_sem, r0, r1, r2, r3, r4, r5, r6, r7, r8, r9, r10, r11]) rfl ⟨_, rfl, s12.out⟩
          exact AllReady.nil
        exact AllReady.nil
      exact AllReady.nil
    exact AllReady.nil
  exact AllReady.nil
end Go.Proofs.Ytfpgklhbghahoaa
/- Election: the example's candidate wins. -/
namespace Go.Proofs.Ytfpgklhbghahoaa
open Go.ChangeShapes Go.WideShapes Go.ChangeAt Go.RowKit Go.Deep
set_option linter.unusedVariables false
set_option linter.unusedSimpArgs false
/-- a member's cells but for the two slices, which hold three zeros each -/
def WinOut (w : World) (e : Ending) (w' : World) : Prop := ∃ g h, e = .returned (mem 1 3 1 1 2 1 1 3 nil 0 (.slice (some ⟨g, 0, none⟩) 3 3) (.slice (some ⟨h, 0, none⟩) 3 3)) ∧ w'.rangeAt g 0 [.int .i64 0, .int .i64 0, .int .i64 0] ∧ w'.rangeAt h 0 [.int .i64 0, .int .i64 0, .int .i64 0] ∧ g < w'.heap.size ∧ h < w'.heap.size ∧ w.heap.size ≤ g ∧ w.heap.size ≤ h ∧ Below w.heap.size w w'
abbrev z3 : List Value := [.int .i64 0, .int .i64 0, .int .i64 0]
theorem make3 (w : World) : ∃ W1 : World, (Instr.makeSlice 23 (.int .i64 3) (.int .i64 3)).run Try.prog w = .ok (.slice (some ⟨w.heap.size, 0, none⟩) 3 3) W1 ∧ BoxN 3 W1 w.heap.size z3 ∧ Below w.heap.size w W1 := by
  obtain ⟨i0, hi, hz0, hz1, hz2⟩ := info_parts info3
  have hr := run_make (P := Try.prog) w 23 3 i0 (.int .i64 0) (by kernel_rfl) hi hz0 .i64 .i64 3 3 (by omega) (by omega) (by rw [hz2]; decide) (by omega)
  have hmc : madeCells (Value.int .i64 0).cells 3 = z3.toArray := Array.ext' (toList_madeCells_one _ _)
  simp only [hz1] at hr
  refine ⟨_, hr, ?_, (Below.refl _ _).alloc (Nat.le_refl _) _⟩
  have h := BoxN.new w z3 3 23 rfl
  refine ⟨⟨fun j v hv => ?_, fun o => by simp [go_sem], by simp⟩, rfl⟩
  have hmc' := hmc
  simp only [Value.cells] at hmc'
  rw [Nat.zero_add, World.cell?_alloc_new]
  first | (rw [hmc]; simpa using hv) | (simp [hmc, hmc']; simpa using hv)
theorem wpList_val {P : Program} {ops : Array Oper} {rest : List Oper} {o : Oper} {a : Act} {w w' : World} {Q : Exit → Act → World → Prop} {v : Value} (hg : o.guard = none)
    (hr : (execOp a.eval o).run P w = .ok (.value v) w') (h : wpList P ops Q rest (a.put o.dst v) w') : wpList P ops Q (o :: rest) a w :=
  wpList_plain hg fun K hK => by
    unfold Oper.wp
    rw [hr]
    exact hK _ _ h
theorem wpList_make3 {ops : Array Oper} {rest : List Oper} {Q : Exit → Act → World → Prop} (x : Nat) (d : Option Nat) (pos : String) (af) (a : Act) (w : World) (hx : a.eval (.tmp x) = .int .i64 3)
    (h : ∀ w', BoxN 3 w' w.heap.size z3 → Below w.heap.size w w' → wpList Try.prog ops Q rest (a.put d (.slice (some ⟨w.heap.size, 0, none⟩) 3 3)) w') :
    wpList Try.prog ops Q ({ dst := d, op := Op.makeSlice 23 (Operand.tmp x) (Operand.tmp x), type := 23, pos := pos, after := af, guard := none } :: rest) a w := by
  obtain ⟨W1, hr, h1, h2⟩ := make3 w
  refine wpList_val rfl ?_ (h W1 h1 h2)
  simp [execOp, hx, hr]
/-- the member that won, and its two slices of zeros -/
def WW (w : World) (h : Nat) (W : World) : Prop := MM w (memL 1 3 1 1 2 1 1 3 nil 0 (.slice (some ⟨w.heap.size + 2, 0, none⟩) 3 3) (.slice (some ⟨h, 0, none⟩) 3 3)) zL W ∧ BoxN 3 W (w.heap.size + 2) z3 ∧ BoxN 3 W h z3 ∧ w.heap.size + 2 < h
theorem z3_set (j : Nat) (hj : j < 3) : z3.set j (.int .i64 0) = z3 := by
  have : j = 0 ∨ j = 1 ∨ j = 2 := by omega
  rcases this with rfl | rfl | rfl <;> rfl
theorem WW.next {w : World} {h : Nat} {W : World} (H : WW w h W) (j : Nat) (hj : j < 3) : WW w h (W.setCell ⟨w.heap.size + 2, j, none⟩ (.int .i64 0)) :=
  ⟨⟨H.1.1.setOther _ _ (by omega), H.1.2.1.setOther _ _ (by omega), H.1.2.2.setCell (show w.heap.size ≤ w.heap.size + 2 by omega) _⟩, by have := H.2.1.setCell j (.int .i64 0) hj; rwa [z3_set j hj] at this, H.2.2.1.setOther _ _ (by have := H.2.2.2; omega), H.2.2.2⟩
theorem WW.mat {w : World} {h : Nat} {W : World} (H : WW w h W) : WW w h (W.setCell ⟨h, 1, none⟩ (.int .i64 0)) :=
  ⟨⟨H.1.1.setOther _ _ (by have := H.2.2.2; omega), H.1.2.1.setOther _ _ (by have := H.2.2.2; omega), H.1.2.2.setCell (by have := H.2.2.2; show w.heap.size ≤ h; omega) _⟩, H.2.1.setOther _ _ (by have := H.2.2.2; omega), by have := H.2.2.1.setCell 1 (.int .i64 0) (by omega); rwa [z3_set 1 (by omega)] at this, H.2.2.2⟩
set_option maxRecDepth 100000 in
set_option maxHeartbeats 800000 in
theorem win_ex (w : World) : Calls Try.prog 43 #[mem 1 3 1 1 1 (-1) 13 3 nil 0 nil nil] w (WinOut w) := by
  go_enter Try.func43, Try.ntmps43
  go_wp2_with (with_reducible refine wpList_make3 10 _ _ _ _ _ ?_ ?_)
  · rfl
  rintro w1 hN hb1
  have HM0 := Lib.hid (MM.start w (memL 1 3 1 1 2 1 1 3 nil 0 nil nil) 25 rfl)
  have HM1 := Lib.hid (HM0.out.keep hb1)
  have hG : BoxN 3 w1 (w.heap.size + 2) z3 := by simpa using hN
  have lg := hG.1.lt
  have a1 := HM1.out.1.cell 1 _ rfl
  have a10 := HM1.out.1.cell 10 _ rfl
  have a11 := HM1.out.1.cell 11 _ rfl
  have f10 := HM1.out.1.1.free 10
  clear HM0 hN hb1
  go_wp2_with (with_reducible refine wpList_make3 14 _ _ _ _ _ ?_ ?_)
  · rfl
  rintro w2 hN2 hb2
  have HM2 := Lib.hid ((HM1.out.set 10 (.slice (some ⟨w.heap.size + 2, 0, none⟩) 3 3) (by omega)).keep hb2)
  have hG2 := (hG.setOther 10 (.slice (some ⟨w.heap.size + 2, 0, none⟩) 3 3) (by omega : w.heap.size + 2 ≠ w.heap.size)).keep hb2
  have hH2 : BoxN 3 w2 w1.heap.size z3 := by simpa using hN2
  clear HM1 hG a1 a10 a11 f10 hN2 hb2
  have b10 := HM2.out.1.cell 10 _ rfl
  have b11 := HM2.out.1.cell 11 _ rfl
  have f11 := HM2.out.1.1.free 11
  go_wp2_with fail
  refine wp_named (fun W => WW w w1.heap.size W) ⟨(HM2.out.set 11 (.slice (some ⟨w1.heap.size, 0, none⟩) 3 3) (by omega)), hG2.setOther 11 _ (by omega), hH2.setOther 11 _ (by omega), lg⟩ ?_
  clear HM2 hG2 hH2 b10 b11 f11
  rintro w3 hW3
  go_loopw [20] (fun t W => ∃ k : Nat, k ≤ 3 ∧ t = .int .i64 k ∧ WW w w1.heap.size W) (fun t _ => 3 - (intOf t).toNat)
  case atStart => exact ⟨0, by omega, rfl, hW3⟩
  case round =>
    clear hW3
    obtain ⟨k, hk, rfl, hW⟩ := hrel
    have HW := Lib.hid hW
    have a8 := hW.1.1.cell 8 _ rfl
    have a10 := hW.1.1.cell 10 _ rfl
    have a11 := hW.1.1.cell 11 _ rfl
    have a0 := hW.1.1.cell 0 _ rfl
    have g0 := hW.2.1.cell 0 _ rfl
    have g1 := hW.2.1.cell 1 _ rfl
    have g2 := hW.2.1.cell 2 _ rfl
    have p0 := hW.2.1.1.free 0
    have p1 := hW.2.1.1.free 1
    have p2 := hW.2.1.1.free 2
    have h0 := hW.2.2.1.cell 1 _ rfl
    have q1 := hW.2.2.1.1.free 1
    clear hW
    have hk4 : k = 0 ∨ k = 1 ∨ k = 2 ∨ k = 3 := by omega
    rcases hk4 with rfl | rfl | rfl | rfl
    · go_wp2_with fail
      exact ⟨⟨1, by omega, rfl, HW.out.next 0 (by omega)⟩, by decide⟩
    · go_wp2_with fail
      exact ⟨⟨2, by omega, rfl, HW.out.next 1 (by omega)⟩, by decide⟩
    · go_wp2_with fail
      exact ⟨⟨3, by omega, rfl, HW.out.next 2 (by omega)⟩, by decide⟩
    · have HE := Lib.hid HW.out.mat
      have hA := HE.out.1.1
      have hR := HE.out.1.2.1
      go_wp2_with (first
        | (with_reducible refine wpList_box_load 25 1 w.heap.size (memL 1 3 1 1 2 1 1 3 nil 0 (.slice (some ⟨w.heap.size + 2, 0, none⟩) 3 3) (.slice (some ⟨w1.heap.size, 0, none⟩) 3 3)) _ _ _ _ _ _ ?_ hA wideMem ?_)
        | (with_reducible refine wpList_box_store 25 2 (.tmp 39) (w.heap.size + 1) zL (memL 1 3 1 1 2 1 1 3 nil 0 (.slice (some ⟨w.heap.size + 2, 0, none⟩) 3 3) (.slice (some ⟨w1.heap.size, 0, none⟩) 3 3)) _ _ _ _ _ _ ?_ ?_ hR (memOk _ _ _ _ _ _ _ _ _ _ _ _ _ _ _ _ _ _) wideMem ?_))
      · rfl
      · rfl
      · rfl
      rintro w4 hB hO
      have r0 := hB.cell 0 _ rfl
      have r1 := hB.cell 1 _ rfl
      have r2 := hB.cell 2 _ rfl
      have r3 := hB.cell 3 _ rfl
      have r4 := hB.cell 4 _ rfl
      have r5 := hB.cell 5 _ rfl
      have r6 := hB.cell 6 _ rfl
      have r7 := hB.cell 7 _ rfl
      have r8 := hB.cell 8 _ rfl
      have r9 := hB.cell 9 _ rfl
      have r10 := hB.cell 10 _ rfl
      have r11 := hB.cell 11 _ rfl
      go_wp2_with fail
      have hN := HE.out.2.1.other hO (by omega)
      have hM := HE.out.2.2.1.other hO (by have := HE.out.2.2.2; omega)
      exact bodyPost_ret (v := mem 1 3 1 1 2 1 1 3 nil 0 (.slice (some ⟨w.heap.size + 2, 0, none⟩) 3 3) (.slice (some ⟨w1.heap.size, 0, none⟩) 3 3)) (by simp [results, Try.results43, go_sem, r0, r1, r2, r3, r4, r5, r6, r7, r8, r9, r10, r11]) rfl ⟨_, _, rfl, hN.1.rng, hM.1.rng, hN.1.lt, hM.1.lt, by omega, by have := HE.out.2.2.2; omega, HE.out.1.2.2.trans (hO.below _ (by omega))⟩
end Go.Proofs.Ytfpgklhbghahoaa
/- Election: the number of bits of 3. -/
namespace Go.Proofs.Ytfpgklhbghahoaa
open Go.ChangeShapes Go.WideShapes Go.ChangeAt Go.RowKit Go.Deep
set_option linter.unusedVariables false
set_option linter.unusedSimpArgs false
set_option maxRecDepth 100000 in
theorem ones3a (w : World) : Calls Try.prog 51 #[.int .u64 3] w fun e w' => e = .returned (.int .i64 2) ∧ w = w' := by
  go_enter Try.func51, Try.ntmps51
  go_wp2_with fail
  go_ret
  exact ⟨by kernel_rfl, rfl⟩
set_option maxRecDepth 100000 in
theorem ones3 (w : World) : Calls Try.prog 42 #[.int .u64 3] w fun e w' => e = .returned (.int .i64 2) ∧ w = w' := by
  go_enter Try.func42, Try.ntmps42
  go_wp2_with fail
  refine (ones3a _).mono ?_
  rintro e w1 ⟨rfl, rfl⟩
  go_wp2_with fail
  go_ret
  exact ⟨rfl, rfl⟩
end Go.Proofs.Ytfpgklhbghahoaa
/- Election: the vote that the example's candidate is given. -/
namespace Go.Proofs.Ytfpgklhbghahoaa
open Go.ChangeShapes Go.WideShapes Go.ChangeAt Go.RowKit Go.Deep
set_option linter.unusedVariables false
set_option linter.unusedSimpArgs false
/-- a whole struct is loaded from its box, by an operation with a guard that holds -/
theorem wpList_box_load_g {P : Program} {ops : Array Oper} {rest : List Oper} {Q : Exit → Act → World → Prop} {n : Nat} (ty : TypeId) (x : Nat) (b : Nat) (cs : List Value) (d : Option Nat) (t : TypeId) (pos : String) (af) (g) (a : Act) (w : World)
    (hx : a.eval (.tmp x) = .pointer (some ⟨b, 0, none⟩)) (hB : BoxN n w b cs) (hT : Wide P ty n)
    (hg : Region.wanted { dst := d, op := Op.load ty (Operand.tmp x), type := t, pos := pos, after := af, guard := g } (yielded ops a.tmps) = true)
    (h : wpList P ops Q rest (a.put d (.agg cs.toArray)) w) :
    wpList P ops Q ({ dst := d, op := Op.load ty (Operand.tmp x), type := t, pos := pos, after := af, guard := g } :: rest) a w := by
  obtain ⟨h1, td, h2, h3⟩ := hT
  refine wpList_step fun K hK => ?_
  rw [if_pos hg]
  exact wp_load_mid ty (.tmp x) rfl b 0 hx cs td hB.1.rng h2 h3 (by rw [h1, hB.2]) (hK _ _ h)
theorem VV.drew {w : World} {cs ms rs : List Value} {W : World} (h : VV w cs ms rs W) : VV w cs ms rs W.drew := ⟨h.1.drew, h.2.1.drew, h.2.2.1.drew, h.2.2.2.drew⟩
theorem VV.drewN {w : World} {cs ms rs : List Value} {W : World} (h : VV w cs ms rs W) (n : Nat) : VV w cs ms rs (W.drewN n) := ⟨⟨h.1.1.drewN n, h.1.2⟩, ⟨h.2.1.1.drewN n, h.2.1.2⟩, ⟨h.2.2.1.1.drewN n, h.2.2.1.2⟩, ⟨h.2.2.2.os, h.2.2.2.tape, h.2.2.2.output, h.2.2.2.size, h.2.2.2.block⟩⟩
theorem rangeAt.other {W W' : World} {b c : Nat} {cs : List Value} (h : W.rangeAt b 0 cs) (ho : Only W W' c) (hne : b ≠ c) : W'.rangeAt b 0 cs := fun j v hv => (World.cell?_of_block (a := ⟨b, 0 + j, none⟩) (ho.heap b hne)).trans (h j v hv)
set_option maxRecDepth 100000 in
set_option maxHeartbeats 2000000 in
theorem voted_ex (w : World) : Calls Try.prog 22 #[mem 1 3 1 1 1 (-1) 13 2 nil 0 nil nil, msgV 0 1 2 1 true] w (WinOut w) := by
  go_enter Try.func22, Try.ntmps22
  go_wp2_with fail
  have HM0 := Lib.hid (VV.start w (memL 1 3 1 1 1 (-1) 13 2 nil 0 nil nil) (msgL 0 1 2 1 true) 25 35 rfl rfl)
  refine (copyMember_nil _ _ _ _ _ _ _ _ _ _).mono ?_
  rintro e w1 ⟨rfl, hb1⟩
  have HM1 := Lib.hid (HM0.out.keep hb1)
  clear hb1 HM0
  have hA1 := HM1.out.1
  go_wp2_with (with_reducible refine wpList_box_store 25 2 (.tmp 6) w.heap.size _ (memL 1 3 1 1 1 (-1) 13 2 nil 0 nil nil) _ _ _ _ _ _ ?_ ?_ hA1 (memOk _ _ _ _ _ _ _ _ _ _ _ _ _ _ _ _ _ _) wideMem ?_)
  · rfl
  · rfl
  rintro w2 hA hO
  have HM2 := Lib.hid (HM1.out.own hA hO)
  clear HM1 hA1 hO
  have k0 := HM2.out.2.1.cell 0 _ rfl
  have k2 := HM2.out.2.1.cell 2 _ rfl
  have k3 := HM2.out.2.1.cell 3 _ rfl
  have k8 := HM2.out.2.1.cell 8 _ rfl
  have a1 := HM2.out.1.cell 1 _ rfl
  have a2 := HM2.out.1.cell 2 _ rfl
  have a4 := HM2.out.1.cell 4 _ rfl
  have a7 := HM2.out.1.cell 7 _ rfl
  have f7 := HM2.out.1.1.free 7
  go_wp2_with (with_reducible refine wpList_box_load_g 25 2 w.heap.size (memL 1 3 1 1 1 (-1) 13 2 nil 0 nil nil) _ _ _ _ _ _ _ ?_ hA wideMem ?_ ?_)
  · rfl
  go_wp2_with fail
  refine (known_yes 1 3 1 1 1 (-1) 13 2 nil 0 nil nil _ (by omega) (by omega) (by omega) (by omega)).mono ?_
  rintro e w3 ⟨rfl, hb3⟩
  have HM3 := Lib.hid (HM2.out.keep hb3)
  clear hb3 hA HM2 k0 k2 k3 k8 a1 a2 a4 a7 f7
  have k0 := HM3.out.2.1.cell 0 _ rfl
  have a1 := HM3.out.1.cell 1 _ rfl
  have a7 := HM3.out.1.cell 7 _ rfl
  have f7 := HM3.out.1.1.free 7
  have hor : bits .or .i64 2 1 = 3 := by kernel_rfl
  go_wp2_with fail
  go_region
  all_goals go_wp2_with fail
  refine wp_named (fun W => VV w (memL 1 3 1 1 1 (-1) 13 3 nil 0 nil nil) (msgL 0 1 2 1 true) zL W) ((HM3.out.set 7 (.int .i64 3) (by omega)).drew) ?_
  clear hor HM3 k0 a1 a7 f7
  rintro w4 hM4
  have HM4 := Lib.hid hM4
  have a1 := hM4.1.cell 1 _ rfl
  have a7 := hM4.1.cell 7 _ rfl
  clear hM4
  go_quiet ((first
    | (go_at_call 42; exact Calls.quiet_of_same ((ones3 _).mono fun _ _ h => ⟨h.1, h.2.symm⟩))
    | (go_at_call 12; exact Calls.quiet_of_same ((maj_any 3 _).mono fun _ _ h => ⟨h.1, h.2.symm⟩))))
  have HM5 := Lib.hid (HM4.out.drewN nq)
  have hA := HM5.out.1
  have hR := HM5.out.2.2.1
  clear a1 a7 HM4
  go_wp2_with (with_reducible refine wpList_box_load 25 2 w.heap.size (memL 1 3 1 1 1 (-1) 13 3 nil 0 nil nil) _ _ _ _ _ _ ?_ hA wideMem ?_)
  · rfl
  go_wp2_with fail
  refine (win_ex _).mono ?_
  rintro e w6 ⟨g, h, rfl, hg, hh, lg, lh, gg, gh, hb6⟩
  have HM6 := Lib.hid (HM5.out.keep hb6)
  have HG := Lib.hid (And.intro hg (And.intro hh (And.intro lg lh)))
  have hlt := hR.1.lt
  have HNE : Hid (w.heap.size + 2 < g ∧ w.heap.size + 2 < h) := Lib.hid ⟨by omega, by omega⟩
  clear hlt gg gh
  have hR6 := HM6.out.2.2.1
  clear hA hR hg hh lg lh hb6 HM5
  go_wp2_with (with_reducible refine wpList_box_store 25 4 (.tmp 69) (w.heap.size + 2) zL (memL 1 3 1 1 2 1 1 3 nil 0 (.slice (some ⟨g, 0, none⟩) 3 3) (.slice (some ⟨h, 0, none⟩) 3 3)) _ _ _ _ _ _ ?_ ?_ hR6 (memOk _ _ _ _ _ _ _ _ _ _ _ _ _ _ _ _ _ _) wideMem ?_)
  · rfl
  · rfl
  rintro w7 hB hO
  have HM7 := Lib.hid (HM6.out.res hB hO)
  have r0 := hB.cell 0 _ rfl
  have r1 := hB.cell 1 _ rfl
  have r2 := hB.cell 2 _ rfl
  have r3 := hB.cell 3 _ rfl
  have r4 := hB.cell 4 _ rfl
  have r5 := hB.cell 5 _ rfl
  have r6 := hB.cell 6 _ rfl
  have r7 := hB.cell 7 _ rfl
  have r8 := hB.cell 8 _ rfl
  have r9 := hB.cell 9 _ rfl
  have r10 := hB.cell 10 _ rfl
  have r11 := hB.cell 11 _ rfl
  go_wp2_with fail
  refine bodyPost_ret (v := mem 1 3 1 1 2 1 1 3 nil 0 (.slice (some ⟨g, 0, none⟩) 3 3) (.slice (some ⟨h, 0, none⟩) 3 3)) (by simp [results, Try.results22, go_sem, r0, r1, r2, r3, r4, r5, r6, r7, r8, r9, r10, r11]) rfl ⟨_, _, rfl, rangeAt.other HG.out.1 hO (by have := HNE.out; omega), rangeAt.other HG.out.2.1 hO (by have := HNE.out; omega), by rw [hO.size]; exact HG.out.2.2.1, by rw [hO.size]; exact HG.out.2.2.2, by have := HNE.out; omega, by have := HNE.out; omega, HM7.out.2.2.2⟩
end Go.Proofs.Ytfpgklhbghahoaa
/- Election: Valid and Step of the law's example. -/
namespace Go.Proofs.Ytfpgklhbghahoaa
open Go.ChangeShapes Go.WideShapes Go.ChangeAt Go.RowKit Go.Deep
set_option linter.unusedVariables false
set_option linter.unusedSimpArgs false
abbrev s3 (g : Nat) : Value := .slice (some ⟨g, 0, none⟩) 3 3
abbrev pV (g h : Nat) : Value := mem 1 3 1 1 2 1 1 3 nil 0 (s3 g) (s3 h)
abbrev pL (g h : Nat) : List Value := memL 1 3 1 1 2 1 1 3 nil 0 (s3 g) (s3 h)
set_option maxRecDepth 100000 in
set_option maxHeartbeats 400000 in
theorem places_ex (g h k : Nat) (w : World) (hk : w.rangeAt k 0 z3) (lk : k < w.heap.size) : Calls Try.prog 46 #[pV g h, s3 k] w fun e w' => e = .returned (.bool true) ∧ Below w.heap.size w w' := by
  have c0 : (w.alloc (.cells (pL g h).toArray 25)).cell? ⟨k, 0, none⟩ = some (.int .i64 0) := (World.cell?_alloc_old _ _ _ (Nat.ne_of_lt lk)).trans (hk 0 _ rfl)
  have c1 : (w.alloc (.cells (pL g h).toArray 25)).cell? ⟨k, 1, none⟩ = some (.int .i64 0) := (World.cell?_alloc_old _ _ _ (Nat.ne_of_lt lk)).trans (hk 1 _ rfl)
  have c2 : (w.alloc (.cells (pL g h).toArray 25)).cell? ⟨k, 2, none⟩ = some (.int .i64 0) := (World.cell?_alloc_old _ _ _ (Nat.ne_of_lt lk)).trans (hk 2 _ rfl)
  have hB : BoxN 12 (w.alloc (.cells (pL g h).toArray 25)) w.heap.size (pL g h) := BoxN.new w _ 12 _ rfl
  have hb : Below w.heap.size w (w.alloc (.cells (pL g h).toArray 25)) := (Below.refl _ _).alloc (Nat.le_refl _) _
  go_enter Try.func46, Try.ntmps46
  go_wp2_with fail
  refine wp_named (fun W => W.cell? ⟨k, 0, none⟩ = some (.int .i64 0) ∧ W.cell? ⟨k, 1, none⟩ = some (.int .i64 0) ∧ W.cell? ⟨k, 2, none⟩ = some (.int .i64 0) ∧ BoxN 12 W w.heap.size (pL g h) ∧ Below w.heap.size w W) ⟨c0, c1, c2, hB, hb⟩ ?_
  clear c0 c1 c2 hB hb
  rintro w1 ⟨c0, c1, c2, hB, hb⟩
  have a8 := hB.cell 8 _ rfl
  have a1 := hB.cell 1 _ rfl
  clear hB
  go_loop [9] (fun i => ∃ j : Nat, j ≤ 3 ∧ i = .int .i64 j) (fun i => 3 - (intOf i).toNat)
  case atStart => exact ⟨0, by omega, rfl⟩
  case round =>
    obtain ⟨j, hj, rfl⟩ := hrel
    have hj4 : j = 0 ∨ j = 1 ∨ j = 2 ∨ j = 3 := by omega
    rcases hj4 with rfl | rfl | rfl | rfl
    · go_wp2_with fail
      go_round
      case rel => exact ⟨1, by omega, rfl⟩
      case measure => simp [intOf]
    · go_wp2_with fail
      go_round
      case rel => exact ⟨2, by omega, rfl⟩
      case measure => simp [intOf]
    · go_wp2_with fail
      go_round
      case rel => exact ⟨3, by omega, rfl⟩
      case measure => simp [intOf]
    · go_wp2_with fail
      go_ret
      exact ⟨rfl, hb⟩
set_option maxRecDepth 100000 in
set_option maxHeartbeats 400000 in
theorem log_ex (g h : Nat) (w : World) : Calls Try.prog 31 #[pV g h] w fun e w' => e = .returned (.bool true) ∧ Below w.heap.size w w' := by
  go_enter Try.func31, Try.ntmps31
  go_wp2_with fail
  go_loop [27] (fun i => i = .int .i64 0) (fun i => 0)
  case atStart => rfl
  case round =>
    obtain rfl := hrel
    go_wp2_with fail
    go_ret
    exact ⟨rfl, (Below.refl _ _).alloc (Nat.le_refl _) _⟩
def VM (w : World) (cs : List Value) (W : World) : Prop := BoxN 12 W w.heap.size cs ∧ Below w.heap.size w W
theorem VM.keep {w W W' : World} {cs : List Value} (h : VM w cs W) (hb : Below W.heap.size W W') : VM w cs W' := ⟨h.1.keep hb, h.2.trans (hb.mono h.2.size)⟩
theorem VM.drewN {w W : World} {cs : List Value} (h : VM w cs W) (n : Nat) : VM w cs (W.drewN n) := ⟨⟨h.1.1.drewN n, h.1.2⟩, ⟨h.2.os, h.2.tape, h.2.output, h.2.size, h.2.block⟩⟩
theorem VM.start (w : World) (cs : List Value) (T : TypeId) (h : cs.length = 12) : VM w cs (w.alloc (.cells cs.toArray T)) := ⟨BoxN.new w _ 12 _ h, (Below.refl _ _).alloc (Nat.le_refl _) _⟩
theorem z3_keep {w W : World} {g : Nat} (h : w.rangeAt g 0 z3) (lg : g < w.heap.size) (hb : Below w.heap.size w W) : W.rangeAt g 0 z3 ∧ g < W.heap.size := ⟨fun j v hv => (hb.cell (p := ⟨g, 0 + j, none⟩) lg).trans (h j v hv), Nat.lt_of_lt_of_le lg hb.size⟩
theorem maj3 (w : World) : Calls Try.prog 12 #[.int .i64 3] w fun e w' => e = .returned (.int .i64 2) ∧ w = w' := maj_any 3 w
theorem maj4 (w : World) : Calls Try.prog 12 #[.int .i64 4] w fun e w' => e = .returned (.int .i64 3) ∧ w = w' := maj_any 4 w
set_option maxRecDepth 100000 in
set_option maxHeartbeats 800000 in
theorem role_ex (g h : Nat) (w : World) (hg : w.rangeAt g 0 z3) (lg : g < w.heap.size) (hh : w.rangeAt h 0 z3) (lh : h < w.heap.size) : Calls Try.prog 32 #[pV g h] w fun e w' => e = .returned (.bool true) ∧ Below w.heap.size w w' := by
  have hor : bits .and .i64 3 2 = 2 := by kernel_rfl
  have hB0 : BoxN 12 (w.alloc (.cells (pL g h).toArray 25)) w.heap.size (pL g h) := BoxN.new w _ 12 _ rfl
  have hb0 : Below w.heap.size w (w.alloc (.cells (pL g h).toArray 25)) := (Below.refl _ _).alloc (Nat.le_refl _) _
  have HG := Lib.hid (And.intro hg hh)
  have HL := Lib.hid (And.intro lg lh)
  clear hg hh lg lh
  go_enter Try.func32, Try.ntmps32
  go_wp2_with fail
  refine calls_named (fun W => BoxN 12 W w.heap.size (pL g h) ∧ Below w.heap.size w W) ⟨hB0, hb0⟩ ?_
  clear hB0 hb0
  rintro w1 ⟨hB, hb⟩
  have a0 := hB.cell 0 _ rfl
  have a1 := hB.cell 1 _ rfl
  have a2 := hB.cell 2 _ rfl
  have a3 := hB.cell 3 _ rfl
  have a4 := hB.cell 4 _ rfl
  have a5 := hB.cell 5 _ rfl
  have a7 := hB.cell 7 _ rfl
  have a10 := hB.cell 10 _ rfl
  have a11 := hB.cell 11 _ rfl
  refine (ones3 _).mono ?_
  rintro e w2 ⟨rfl, rfl⟩
  go_wp2_with fail
  go_quiet (fail)
  go_wp2_with fail
  refine (maj3 _).mono ?_
  rintro e w3 ⟨rfl, rfl⟩
  have HM := Lib.hid (VM.drewN (⟨hB, hb⟩ : VM w (pL g h) w1) nq)
  clear hB hb a0 a1 a2 a3 a4 a5 a7 a10 a11 hor
  have hA := HM.out.1
  have a10 := hA.cell 10 _ rfl
  go_wp2_with (with_reducible refine wpList_box_load_g 25 1 w.heap.size (pL g h) _ _ _ _ _ _ _ ?_ hA wideMem ?_ ?_)
  · rfl
  go_wp2_with fail
  refine (places_ex g h g _ (z3_keep HG.out.1 HL.out.1 HM.out.2).1 (z3_keep HG.out.1 HL.out.1 HM.out.2).2).mono ?_
  rintro e w5 ⟨rfl, hb5⟩
  have HM5 := Lib.hid (HM.out.keep hb5)
  clear hb5 hA a10 HM
  have hA := HM5.out.1
  have a11 := hA.cell 11 _ rfl
  go_wp2_with (with_reducible refine wpList_box_load_g 25 1 w.heap.size (pL g h) _ _ _ _ _ _ _ ?_ hA wideMem ?_ ?_)
  · rfl
  go_wp2_with fail
  refine (places_ex g h h _ (z3_keep HG.out.2 HL.out.2 HM5.out.2).1 (z3_keep HG.out.2 HL.out.2 HM5.out.2).2).mono ?_
  rintro e w6 ⟨rfl, hb6⟩
  have HM6 := Lib.hid (HM5.out.keep hb6)
  clear hb6 hA a11
  go_wp2_with fail
  go_ret
  exact ⟨rfl, HM6.out.2⟩
set_option maxRecDepth 100000 in
set_option maxHeartbeats 800000 in
theorem valid_ex (g h : Nat) (w : World) (hg : w.rangeAt g 0 z3) (lg : g < w.heap.size) (hh : w.rangeAt h 0 z3) (lh : h < w.heap.size) : Calls Try.prog 16 #[pV g h] w fun e w' => e = .returned (.bool true) ∧ Below w.heap.size w w' := by
  have HM0 := Lib.hid (VM.start w (pL g h) 25 rfl)
  have HG := Lib.hid (And.intro hg hh)
  have HL := Lib.hid (And.intro lg lh)
  clear hg hh lg lh
  go_enter Try.func16, Try.ntmps16
  go_wp2_with fail
  go_quiet (fail)
  have HM1 := Lib.hid (HM0.out.drewN nq)
  clear HM0
  have hA := HM1.out.1
  go_wp2_with (with_reducible refine wpList_box_load 25 1 w.heap.size (pL g h) _ _ _ _ _ _ ?_ hA wideMem ?_)
  · rfl
  go_wp2_with fail
  refine (log_ex g h _).mono ?_
  rintro e w2 ⟨rfl, hb2⟩
  have HM2 := Lib.hid (HM1.out.keep hb2)
  clear hb2 hA HM1
  have hA := HM2.out.1
  go_wp2_with (with_reducible refine wpList_box_load_g 25 1 w.heap.size (pL g h) _ _ _ _ _ _ _ ?_ hA wideMem ?_ ?_)
  · rfl
  go_wp2_with fail
  refine (role_ex g h _ (z3_keep HG.out.1 HL.out.1 HM2.out.2).1 (z3_keep HG.out.1 HL.out.1 HM2.out.2).2 (z3_keep HG.out.2 HL.out.2 HM2.out.2).1 (z3_keep HG.out.2 HL.out.2 HM2.out.2).2).mono ?_
  rintro e w3 ⟨rfl, hb3⟩
  have HM3 := Lib.hid (HM2.out.keep hb3)
  clear hb3 hA
  go_wp2_with fail
  go_ret
  exact ⟨rfl, HM3.out.2⟩
theorem copyInts_z3 (g : Nat) (w : World) (hg : w.rangeAt g 0 z3) : Calls Try.prog 49 #[s3 g] w fun e w' => (∃ a n c, e = .returned (.slice a n c)) ∧ Below w.heap.size w w' := by
  refine (copyInts_some g 0 3 [0, 0, 0] w (by decide) (fun j hj => ?_)).mono ?_
  · have := hg j (.int .i64 ([0, 0, 0][j])) (by match j, hj with | 0, _ => rfl | 1, _ => rfl | 2, _ => rfl)
    simpa using this
  · rintro e w' ⟨⟨v, rfl, ho⟩, hb⟩
    refine ⟨?_, hb⟩
    rcases ho.2 with ⟨rfl, _⟩ | ⟨g, cap, cur, rfl, _⟩
    · exact ⟨_, _, _, rfl⟩
    · exact ⟨_, _, _, rfl⟩
def CopyOut (w : World) (e : Ending) (w' : World) : Prop := ∃ a n c a2 n2 c2, e = .returned (mem 1 3 1 1 2 1 1 3 nil 0 (.slice a n c) (.slice a2 n2 c2)) ∧ Below w.heap.size w w'
set_option maxRecDepth 100000 in
set_option maxHeartbeats 800000 in
theorem copyMember_p (g h : Nat) (w : World) (hg : w.rangeAt g 0 z3) (lg : g < w.heap.size) (hh : w.rangeAt h 0 z3) (lh : h < w.heap.size) :
    Calls Try.prog 36 #[pV g h] w (CopyOut w) := by
  have HM0 := Lib.hid (MM.start w (pL g h) 25 rfl)
  have HG := Lib.hid (And.intro hg hh)
  have HL := Lib.hid (And.intro lg lh)
  clear hg hh lg lh
  go_enter Try.func36, Try.ntmps36
  go_wp2_with fail
  refine (copyAll_nil _ _).mono ?_
  rintro e w1 ⟨rfl, rfl⟩
  go_wp2_with fail
  refine (copyInts_z3 g _ (z3_keep HG.out.1 HL.out.1 HM0.out.2.2).1).mono ?_
  rintro e w2 ⟨⟨a, n, c, rfl⟩, hb2⟩
  have HM2 := Lib.hid (HM0.out.keep hb2)
  clear hb2 HM0
  have a10 := HM2.out.1.cell 10 _ rfl
  have a11 := HM2.out.1.cell 11 _ rfl
  have f10 := HM2.out.1.1.free 10
  go_wp2_with fail
  have HM3 := Lib.hid (HM2.out.set 10 (.slice a n c) (by omega))
  clear a10 a11 f10 HM2
  refine (copyInts_z3 h _ (z3_keep HG.out.2 HL.out.2 HM3.out.2.2).1).mono ?_
  rintro e w4 ⟨⟨a2, n2, c2, rfl⟩, hb4⟩
  have HM4 := Lib.hid (HM3.out.keep hb4)
  clear hb4 HM3
  have a11 := HM4.out.1.cell 11 _ rfl
  have f11 := HM4.out.1.1.free 11
  have HM5 := Lib.hid (HM4.out.set 11 (.slice a2 n2 c2) (by omega))
  have hA := HM5.out.1
  have hR := HM5.out.2.1
  go_wp2_with (first
    | (with_reducible refine wpList_box_load 25 1 w.heap.size (memL 1 3 1 1 2 1 1 3 nil 0 (.slice a n c) (.slice a2 n2 c2)) _ _ _ _ _ _ ?_ hA wideMem ?_)
    | (with_reducible refine wpList_box_store 25 2 (.tmp 15) (w.heap.size + 1) zL (memL 1 3 1 1 2 1 1 3 nil 0 (.slice a n c) (.slice a2 n2 c2)) _ _ _ _ _ _ ?_ ?_ hR (memOk _ _ _ _ _ _ _ _ _ _ _ _ _ _ _ _ _ _) wideMem ?_))
  · rfl
  · rfl
  · rfl
  rintro w6 hB hO
  have r0 := hB.cell 0 _ rfl
  have r1 := hB.cell 1 _ rfl
  have r2 := hB.cell 2 _ rfl
  have r3 := hB.cell 3 _ rfl
  have r4 := hB.cell 4 _ rfl
  have r5 := hB.cell 5 _ rfl
  have r6 := hB.cell 6 _ rfl
  have r7 := hB.cell 7 _ rfl
  have r8 := hB.cell 8 _ rfl
  have r9 := hB.cell 9 _ rfl
  have r10 := hB.cell 10 _ rfl
  have r11 := hB.cell 11 _ rfl
  go_wp2_with fail
  exact bodyPost_ret (v := mem 1 3 1 1 2 1 1 3 nil 0 (.slice a n c) (.slice a2 n2 c2)) (by simp [results, Try.results36, go_sem, r0, r1, r2, r3, r4, r5, r6, r7, r8, r9, r10, r11]) rfl ⟨a, n, c, a2, n2, c2, rfl, HM5.out.2.2.trans (hO.below _ (by omega))⟩
set_option maxRecDepth 100000 in
set_option maxHeartbeats 800000 in
theorem step_p (g h : Nat) (w : World) (hg : w.rangeAt g 0 z3) (lg : g < w.heap.size) (hh : w.rangeAt h 0 z3) (lh : h < w.heap.size) :
    Calls Try.prog 30 #[pV g h, .int .i64 2] w fun e w' => e = .returned (mem 1 3 2 (-1) 0 (-1) 13 0 nil 0 nil nil) ∧ Below w.heap.size w w' := by
  have HM0 := Lib.hid (MM.start w (pL g h) 25 rfl)
  have HG := Lib.hid (And.intro hg hh)
  have HL := Lib.hid (And.intro lg lh)
  clear hg hh lg lh
  go_enter Try.func30, Try.ntmps30
  go_wp2_with fail
  refine (copyMember_p g h _ (z3_keep HG.out.1 HL.out.1 HM0.out.2.2).1 (z3_keep HG.out.1 HL.out.1 HM0.out.2.2).2 (z3_keep HG.out.2 HL.out.2 HM0.out.2.2).1 (z3_keep HG.out.2 HL.out.2 HM0.out.2.2).2).mono ?_
  rintro e w1 ⟨a, n, c, a2, n2, c2, rfl, hb1⟩
  have HM1 := Lib.hid (HM0.out.keep hb1)
  clear hb1 HM0
  go_wp2_with fail
  refine (follow_any 1 3 1 1 2 1 1 3 none 0 0 0 a n c a2 n2 c2 2 _ (by omega) (by omega)).mono ?_
  rintro e w2 ⟨he, hb2⟩
  rw [if_neg (by decide), if_pos (by decide)] at he
  subst he
  have HM2 := Lib.hid (HM1.out.keep hb2)
  clear hb2 HM1
  have hR := HM2.out.2.1
  go_wp2_with (with_reducible refine wpList_box_store 25 4 (.tmp 8) (w.heap.size + 1) zL (memL 1 3 2 (-1) 0 (-1) 13 0 nil 0 nil nil) _ _ _ _ _ _ ?_ ?_ hR (memOk _ _ _ _ _ _ _ _ _ _ _ _ _ _ _ _ _ _) wideMem ?_)
  · rfl
  · rfl
  rintro w3 hB hO
  have r0 := hB.cell 0 _ rfl
  have r1 := hB.cell 1 _ rfl
  have r2 := hB.cell 2 _ rfl
  have r3 := hB.cell 3 _ rfl
  have r4 := hB.cell 4 _ rfl
  have r5 := hB.cell 5 _ rfl
  have r6 := hB.cell 6 _ rfl
  have r7 := hB.cell 7 _ rfl
  have r8 := hB.cell 8 _ rfl
  have r9 := hB.cell 9 _ rfl
  have r10 := hB.cell 10 _ rfl
  have r11 := hB.cell 11 _ rfl
  go_wp2_with fail
  exact bodyPost_ret (v := mem 1 3 2 (-1) 0 (-1) 13 0 nil 0 nil nil) (by simp [results, Try.results30, go_sem, r0, r1, r2, r3, r4, r5, r6, r7, r8, r9, r10, r11]) rfl ⟨rfl, HM2.out.2.2.trans (hO.below _ (by omega))⟩
set_option maxRecDepth 100000 in
set_option maxHeartbeats 800000 in
theorem step_c (w : World) : Calls Try.prog 30 #[mem 1 3 1 1 1 (-1) 13 2 nil 0 nil nil, .int .i64 1] w fun e w' => e = .returned (mem 1 3 1 1 1 (-1) 13 2 nil 0 nil nil) ∧ Below w.heap.size w w' := by
  have HM0 := Lib.hid (MM.start w (memL 1 3 1 1 1 (-1) 13 2 nil 0 nil nil) 25 rfl)
  go_enter Try.func30, Try.ntmps30
  go_wp2_with fail
  refine (copyMember_nil _ _ _ _ _ _ _ _ _ _).mono ?_
  rintro e w1 ⟨rfl, hb1⟩
  have HM1 := Lib.hid (HM0.out.keep hb1)
  clear hb1 HM0
  go_wp2_with fail
  refine (follow_any 1 3 1 1 1 (-1) 13 2 none 0 0 0 none 0 0 none 0 0 1 _ (by omega) (by omega)).mono ?_
  rintro e w2 ⟨he, hb2⟩
  rw [if_pos (by decide)] at he
  subst he
  have HM2 := Lib.hid (HM1.out.keep hb2)
  clear hb2 HM1
  have hR := HM2.out.2.1
  go_wp2_with (with_reducible refine wpList_box_store 25 4 (.tmp 8) (w.heap.size + 1) zL (memL 1 3 1 1 1 (-1) 13 2 nil 0 nil nil) _ _ _ _ _ _ ?_ ?_ hR (memOk _ _ _ _ _ _ _ _ _ _ _ _ _ _ _ _ _ _) wideMem ?_)
  · rfl
  · rfl
  rintro w3 hB hO
  have r0 := hB.cell 0 _ rfl
  have r1 := hB.cell 1 _ rfl
  have r2 := hB.cell 2 _ rfl
  have r3 := hB.cell 3 _ rfl
  have r4 := hB.cell 4 _ rfl
  have r5 := hB.cell 5 _ rfl
  have r6 := hB.cell 6 _ rfl
  have r7 := hB.cell 7 _ rfl
  have r8 := hB.cell 8 _ rfl
  have r9 := hB.cell 9 _ rfl
  have r10 := hB.cell 10 _ rfl
  have r11 := hB.cell 11 _ rfl
  go_wp2_with fail
  exact bodyPost_ret (v := mem 1 3 1 1 1 (-1) 13 2 nil 0 nil nil) (by simp [results, Try.results30, go_sem, r0, r1, r2, r3, r4, r5, r6, r7, r8, r9, r10, r11]) rfl ⟨rfl, HM2.out.2.2.trans (hO.below _ (by omega))⟩
end Go.Proofs.Ytfpgklhbghahoaa
/- Election: the law's example. -/
namespace Go.Proofs.Ytfpgklhbghahoaa
open Go.ChangeShapes Go.WideShapes Go.ChangeAt Go.RowKit Go.Deep
set_option linter.unusedVariables false
set_option linter.unusedSimpArgs false
theorem new13 (w : World) : Calls Try.prog 9 #[.int .i64 1, .int .i64 3] w fun e w' => e = .returned (.tuple #[m0, .int .i64 0]) ∧ Below w.heap.size w w' := new_any 1 3 w
theorem new33 (w : World) : Calls Try.prog 9 #[.int .i64 3, .int .i64 3] w fun e w' => e = .returned (.tuple #[mem 0 0 0 0 0 0 0 0 nil 0 nil nil, .int .i64 1]) ∧ Below w.heap.size w w' := new_any 3 3 w
/-- the boxes so far, each with a member's cells; the ranges so far -/
def AK (w : World) (l r : List (Nat × List Value)) (W : World) : Prop := (∀ x ∈ l, BoxN 12 W x.1 x.2) ∧ (∀ x ∈ r, W.rangeAt x.1 0 x.2 ∧ x.1 < W.heap.size) ∧ Below w.heap.size w W
theorem range_keep {w W : World} {g : Nat} {cs : List Value} (h : w.rangeAt g 0 cs ∧ g < w.heap.size) (hb : Below w.heap.size w W) : W.rangeAt g 0 cs ∧ g < W.heap.size := ⟨fun j v hv => (hb.cell (p := ⟨g, 0 + j, none⟩) h.2).trans (h.1 j v hv), Nat.lt_of_lt_of_le h.2 hb.size⟩
theorem AK.keep {w : World} {l r : List (Nat × List Value)} {W W' : World} (h : AK w l r W) (hb : Below W.heap.size W W') : AK w l r W' := ⟨fun x hx => (h.1 x hx).keep hb, fun x hx => range_keep (h.2.1 x hx) hb, h.2.2.trans (hb.mono h.2.2.size)⟩
theorem AK.more {w : World} {l r : List (Nat × List Value)} {W : World} {g : Nat} {cs : List Value} (h : AK w l r W) (h1 : W.rangeAt g 0 cs) (h2 : g < W.heap.size) : AK w l ((g, cs) :: r) W :=
  ⟨h.1, fun x hx => by rcases List.mem_cons.1 hx with rfl | hx; exact ⟨h1, h2⟩; exact h.2.1 x hx, h.2.2⟩
theorem AK.box {w : World} {l r : List (Nat × List Value)} {W : World} (h : AK w l r W) : AK w ((W.heap.size, zL) :: l) r (W.alloc (.cells zL.toArray 25)) := by
  have hb : Below W.heap.size W (W.alloc (.cells zL.toArray 25)) := (Below.refl _ _).alloc (Nat.le_refl _) _
  refine ⟨fun x hx => ?_, fun x hx => range_keep (h.2.1 x hx) hb, h.2.2.trans (hb.mono h.2.2.size)⟩
  rcases List.mem_cons.1 hx with rfl | hx
  · exact BoxN.new W _ 12 _ rfl
  · exact (h.1 x hx).keep hb
theorem AK.put {w : World} {l r : List (Nat × List Value)} {W0 W W' : World} {cs vs : List Value} (h0 : AK w l r W0) (h : AK w ((W0.heap.size, cs) :: l) r W) (h1 : BoxN 12 W' W0.heap.size vs) (h2 : Only W W' W0.heap.size) : AK w ((W0.heap.size, vs) :: l) r W' := by
  refine ⟨fun x hx => ?_, fun x hx => ?_, h.2.2.trans (h2.below _ h0.2.2.size)⟩
  · rcases List.mem_cons.1 hx with rfl | hx
    · exact h1
    · exact (h.1 x (List.mem_cons_of_mem _ hx)).other h2 (by have := (h0.1 x hx).1.lt; omega)
  · have hx0 := h0.2.1 x hx
    have hx1 := h.2.1 x hx
    exact ⟨rangeAt.other hx1.1 h2 (by have := hx0.2; omega), by rw [h2.size]; exact hx1.2⟩
theorem AK.b0 {w : World} {a : Nat} {cs : List Value} {l r : List (Nat × List Value)} {W : World} (h : AK w ((a, cs) :: l) r W) : BoxN 12 W a cs := h.1 _ (List.mem_cons_self ..)
theorem AK.tl {w : World} {a : Nat × List Value} {l r : List (Nat × List Value)} {W : World} (h : AK w (a :: l) r W) : AK w l r W := ⟨fun x hx => h.1 x (List.mem_cons_of_mem _ hx), h.2⟩
theorem AK.r0 {w : World} {a : Nat} {cs : List Value} {l r : List (Nat × List Value)} {W : World} (h : AK w l ((a, cs) :: r) W) (j : Nat) (v : Value) (hv : cs[j]? = some v) : W.cell? ⟨a, j, none⟩ = some v := by
  have := (h.2.1 _ (List.mem_cons_self ..)).1 j v hv
  rwa [Nat.zero_add] at this
theorem AK.rtl {w : World} {a : Nat × List Value} {l r : List (Nat × List Value)} {W : World} (h : AK w l (a :: r) W) : AK w l r W := ⟨h.1, fun x hx => h.2.1 x (List.mem_cons_of_mem _ hx), h.2.2⟩
theorem camp_call (w : World) : Calls Try.prog 24 #[m0] w fun e w' => ∃ g cap, e = .returned (.tuple #[m1, .slice (some ⟨g, 0, none⟩) 2 cap]) ∧ w'.rangeAt g 0 (msgs [0, 2]) ∧ g < w'.heap.size ∧ Below w.heap.size w w' := by
  refine (campaign_ex w).mono ?_
  rintro e w' ⟨g, cap, rfl, ho, hb⟩
  refine ⟨g, cap, rfl, fun j v hv => ?_, (ho.lt g rfl).2, hb⟩
  have := ho.cells (g := g) rfl j v hv
  by_cases h0 : j = 0 <;> simpa [Addr.add, h0] using this
theorem AK.start {w w1 : World} (hb : Below w.heap.size w w1) : AK w [] [] w1 := ⟨fun x hx => (by cases hx), fun x hx => (by cases hx), hb⟩
set_option maxRecDepth 100000 in
set_option maxHeartbeats 4000000 in
theorem awake_any (w : World) : Calls Try.prog 14 #[] w fun e w' => e = .returned (.bool true) ∧ Below w.heap.size w w' := by
  have hf1 : ∀ w, (Instr.field 25 (mem 1 3 2 (-1) 0 (-1) 13 0 nil 0 nil nil) 4).run Try.prog w = .ok (.int .i64 0) w := fun w => by kernel_rfl
  have hf2 : ∀ w, (Instr.field 25 (mem 1 3 1 1 1 (-1) 13 2 nil 0 nil nil) 4).run Try.prog w = .ok (.int .i64 1) w := fun w => by kernel_rfl
  go_enter Try.func14, Try.ntmps14
  go_wp2_with fail
  refine (new13 _).mono ?_
  rintro e w1 ⟨rfl, hb1⟩
  have HA1 := Lib.hid (AK.start hb1)
  clear hb1
  have HX := Lib.hid (HA1.out.box)
  have hX := HX.out.b0
  go_wp2_with (with_reducible refine wpList_box_store 25 1 (.tmp 14) w1.heap.size zL (memL 1 3 0 (-1) 0 (-1) 13 0 nil 0 nil nil) _ _ _ _ _ _ ?_ ?_ hX (memOk _ _ _ _ _ _ _ _ _ _ _ _ _ _ _ _ _ _) wideMem ?_)
  · rfl
  · rfl
  rintro w2 hB hO
  have HA2 := Lib.hid (AK.put HA1.out HX.out hB hO)
  clear HA1 HX hX hB hO
  go_wp2_with fail
  refine (new33 _).mono ?_
  rintro e w3 ⟨rfl, hb⟩
  have HA3 := Lib.hid (HA2.out.keep hb)
  clear hb HA2
  have HX := Lib.hid (HA3.out.box)
  have hX := HX.out.b0
  go_wp2_with (with_reducible refine wpList_box_store 25 3 (.tmp 18) w3.heap.size zL (memL 0 0 0 0 0 0 0 0 nil 0 nil nil) _ _ _ _ _ _ ?_ ?_ hX (memOk _ _ _ _ _ _ _ _ _ _ _ _ _ _ _ _ _ _) wideMem ?_)
  · rfl
  · rfl
  rintro w4 hB hO
  have HA4 := Lib.hid (AK.put HA3.out HX.out hB hO)
  clear HA3 HX hX hB hO
  have hL := HA4.out.tl.b0
  go_wp2_with (with_reducible refine wpList_box_load 25 1 w1.heap.size (memL 1 3 0 (-1) 0 (-1) 13 0 nil 0 nil nil) _ _ _ _ _ _ ?_ hL wideMem ?_)
  · rfl
  clear hL
  go_wp2_with fail
  refine (camp_call _).mono ?_
  rintro e w5 ⟨gl, cl, rfl, hr, hl, hb⟩
  have HA5 := Lib.hid ((HA4.out.keep hb).more hr hl)
  clear hb hr hl HA4
  have HX := Lib.hid (HA5.out.box)
  have hX := HX.out.b0
  go_wp2_with (with_reducible refine wpList_box_store 25 5 (.tmp 23) w5.heap.size zL (memL 1 3 1 1 1 (-1) 13 2 nil 0 nil nil) _ _ _ _ _ _ ?_ ?_ hX (memOk _ _ _ _ _ _ _ _ _ _ _ _ _ _ _ _ _ _) wideMem ?_)
  · rfl
  · rfl
  rintro w6 hB hO
  have HA6 := Lib.hid (AK.put HA5.out HX.out hB hO)
  clear HA5 HX hX hB hO
  have hL := HA6.out.tl.tl.b0
  go_wp2_with (with_reducible refine wpList_box_load 25 1 w1.heap.size (memL 1 3 0 (-1) 0 (-1) 13 0 nil 0 nil nil) _ _ _ _ _ _ ?_ hL wideMem ?_)
  · rfl
  clear hL
  go_wp2_with fail
  refine (vote_ex1 _).mono ?_
  rintro e w7 ⟨ga, rfl, hr, hl, hb⟩
  have HA7 := Lib.hid ((HA6.out.keep hb).more hr hl)
  clear hb hr hl HA6
  have HX := Lib.hid (HA7.out.box)
  have hX := HX.out.b0
  go_wp2_with (with_reducible refine wpList_box_store 25 7 (.tmp 29) w7.heap.size zL (memL 1 3 1 0 0 (-1) 13 0 nil 0 nil nil) _ _ _ _ _ _ ?_ ?_ hX (memOk _ _ _ _ _ _ _ _ _ _ _ _ _ _ _ _ _ _) wideMem ?_)
  · rfl
  · rfl
  rintro w8 hB hO
  have HA8 := Lib.hid (AK.put HA7.out HX.out hB hO)
  clear HA7 HX hX hB hO
  have hL := HA8.out.b0
  go_wp2_with (with_reducible refine wpList_box_load 25 7 w7.heap.size (memL 1 3 1 0 0 (-1) 13 0 nil 0 nil nil) _ _ _ _ _ _ ?_ hL wideMem ?_)
  · rfl
  clear hL
  go_wp2_with fail
  refine (vote_ex2 _).mono ?_
  rintro e w9 ⟨gb, rfl, hr, hl, hb⟩
  have HA9 := Lib.hid ((HA8.out.keep hb).more hr hl)
  clear hb hr hl HA8
  have HX := Lib.hid (HA9.out.box)
  have hX := HX.out.b0
  go_wp2_with (with_reducible refine wpList_box_store 25 9 (.tmp 35) w9.heap.size zL (memL 1 3 1 0 0 (-1) 13 0 nil 0 nil nil) _ _ _ _ _ _ ?_ ?_ hX (memOk _ _ _ _ _ _ _ _ _ _ _ _ _ _ _ _ _ _) wideMem ?_)
  · rfl
  · rfl
  rintro w10 hB hO
  have HA10 := Lib.hid (AK.put HA9.out HX.out hB hO)
  clear HA9 HX hX hB hO
  have hL := HA10.out.tl.tl.b0
  go_wp2_with (with_reducible refine wpList_box_load 25 5 w5.heap.size (memL 1 3 1 1 1 (-1) 13 2 nil 0 nil nil) _ _ _ _ _ _ ?_ hL wideMem ?_)
  · rfl
  clear hL
  go_wp2_with fail
  refine (voted_ex _).mono ?_
  rintro e w11 ⟨g, h, rfl, hr, hr2, hl, hl2, _, _, hb⟩
  have HA11 := Lib.hid (((HA10.out.keep hb).more hr hl).more hr2 hl2)
  clear hb hr hl hr2 hl2 HA10
  have HX := Lib.hid (HA11.out.box)
  have hX := HX.out.b0
  go_wp2_with (with_reducible refine wpList_box_store 25 11 (.tmp 39) w11.heap.size zL (pL g h) _ _ _ _ _ _ ?_ ?_ hX (memOk _ _ _ _ _ _ _ _ _ _ _ _ _ _ _ _ _ _) wideMem ?_)
  · rfl
  · rfl
  rintro w12 hB hO
  have HA12 := Lib.hid (AK.put HA11.out HX.out hB hO)
  clear HA11 HX hX hB hO
  have c1 := HA12.out.tl.tl.tl.tl.tl.b0.cell 6 _ rfl
  have c5 := HA12.out.tl.tl.tl.b0.cell 2 _ rfl
  have d1 := HA12.out.rtl.rtl.rtl.rtl.r0 1 (.int .i64 0) rfl
  have d2 := HA12.out.rtl.rtl.rtl.rtl.r0 10 (.int .i64 2) rfl
  have e1 := HA12.out.rtl.rtl.rtl.r0 8 (.bool true) rfl
  have e2 := HA12.out.rtl.rtl.r0 8 (.bool false) rfl
  have p4 := HA12.out.b0.cell 4 _ rfl
  have p5 := HA12.out.b0.cell 5 _ rfl
  go_wp2_with fail
  refine (maj4 _).mono ?_
  rintro e w13 ⟨rfl, rfl⟩
  clear c1 c5 d1 d2 e1 e2
  have hL := HA12.out.b0
  go_wp2_with (with_reducible refine wpList_box_load_g 25 11 w11.heap.size (pL g h) _ _ _ _ _ _ _ ?_ hL wideMem ?_ ?_)
  · rfl
  clear hL
  go_wp2_with fail
  refine (valid_ex g h _ (HA12.out.2.1 _ (List.mem_cons_of_mem _ (List.mem_cons_self ..))).1 (HA12.out.2.1 _ (List.mem_cons_of_mem _ (List.mem_cons_self ..))).2 (HA12.out.2.1 _ (List.mem_cons_self ..)).1 (HA12.out.2.1 _ (List.mem_cons_self ..)).2).mono ?_
  rintro e w14 ⟨rfl, hb⟩
  have HA14 := Lib.hid (HA12.out.keep hb)
  clear hb HA12 p4 p5
  have hL := HA14.out.b0
  go_wp2_with (with_reducible refine wpList_box_load_g 25 11 w11.heap.size (pL g h) _ _ _ _ _ _ _ ?_ hL wideMem ?_ ?_)
  · rfl
  clear hL
  go_wp2_with fail
  refine (step_p g h _ (HA14.out.2.1 _ (List.mem_cons_of_mem _ (List.mem_cons_self ..))).1 (HA14.out.2.1 _ (List.mem_cons_of_mem _ (List.mem_cons_self ..))).2 (HA14.out.2.1 _ (List.mem_cons_self ..)).1 (HA14.out.2.1 _ (List.mem_cons_self ..)).2).mono ?_
  rintro e w15 ⟨rfl, hb⟩
  have HA15 := Lib.hid (HA14.out.keep hb)
  clear hb HA14
  have hL := HA15.out.tl.tl.tl.b0
  go_wp2_with (with_reducible refine wpList_box_load_g 25 5 w5.heap.size (memL 1 3 1 1 1 (-1) 13 2 nil 0 nil nil) _ _ _ _ _ _ _ ?_ hL wideMem ?_ ?_)
  · rfl
  clear hL
  go_wp2_with fail
  refine (step_c _).mono ?_
  rintro e w16 ⟨rfl, hb⟩
  have HA16 := Lib.hid (HA15.out.keep hb)
  clear hb HA15
  go_wp2_with fail
  go_ret
  exact ⟨rfl, HA16.out.2.2⟩
end Go.Proofs.Ytfpgklhbghahoaa
/- Election: the law ElectionNew. -/
namespace Go.Proofs.Ytfpgklhbghahoaa
open Go.ChangeShapes Go.WideShapes Go.ChangeAt Go.RowKit Go.Deep
set_option linter.unusedVariables false
set_option linter.unusedSimpArgs false
end Go.Proofs.Ytfpgklhbghahoaa
/- Election: values that came in: ints, a log, a member; the cells of a struct are single cells. -/
namespace Go.Proofs.Ytfpgklhbghahoaa
open Go.ChangeShapes Go.WideShapes Go.ChangeAt Go.RowKit Go.ChangeMaps Go.Joins Go.Deep
set_option linter.unusedVariables false
set_option linter.unusedSimpArgs false
/-- a slice of ints that came in: nil, empty, or cells that read as xs -/
def IntArg (w : World) (v : Value) : Prop :=
  v = .slice none 0 0 ∨ (∃ a cap, v = .slice (some a) 0 cap) ∨ ∃ (B o cap : Nat) (xs : List Int), v = .slice (some ⟨B, o, none⟩) xs.length cap ∧ B < w.heap.size ∧ xs.length ≤ cap ∧ 0 < xs.length ∧ xs.length ≤ 9223372036854775807 ∧
    (∀ x ∈ xs, (Lit.int .i64 x).wf = true) ∧ ∀ j (h : j < xs.length), w.cell? ⟨B, o + j, none⟩ = some (.int .i64 xs[j])
def cover (P : Program) (p : TypeId → Bool) : List Field → Nat → Nat → Bool
  | [], o, m => o == m
  | f :: r, o, m => f.offset == o && p f.type && cover P p r (o + P.cellsOf f.type) m
def leafOK (P : Program) : Nat → TypeId → Bool
  | 0, _ => false
  | n + 1, t => match P.underlying t with
    | some .bool => true
    | some (.int _) => true
    | some .string => true
    | some (.slice _) => true
    | some (.struct fs) => cover P (leafOK P n) fs.toList 0 (P.cellsOf t)
    | _ => false
/-- the cells of an entry: its term, its time, and what else -/
def Ent (cs : List Value) : Prop := cs.length = 82 ∧ (∀ v ∈ cs, v.oneCell' = true) ∧ ∃ (t s : Int) (r : List Value), cs = .int .i64 t :: .int .i64 s :: r
def stp : List Value → Int
  | _ :: .int _ s :: _ => s
  | _ => 0
/-- a log that came in -/
def EntArg (w : World) (v : Value) (es : List (List Value)) : Prop :=
  (es = [] ∧ ∃ a cap, v = .slice a 0 cap) ∨ (∃ (B o cap : Nat), v = .slice (some ⟨B, o, none⟩) es.length cap ∧ B < w.heap.size ∧ 0 < es.length ∧ es.length ≤ 9223372036854775807 ∧
    ∀ j (h : j < es.length), w.rangeAt B (o + j * 82) es[j] ∧ Ent es[j])
theorem EntArg.below {w w' : World} {v : Value} {es : List (List Value)} (h : EntArg w v es) (hb : Below w.heap.size w w') : EntArg w' v es := by
  rcases h with h | ⟨B, o, cap, h1, h2, h3, h4, h5⟩
  · exact .inl h
  · exact .inr ⟨B, o, cap, h1, Nat.lt_of_lt_of_le h2 hb.size, h3, h4, fun j hj => ⟨fun i u hu => by rw [hb.cell (p := ⟨B, o + j * 82 + i, none⟩) h2]; exact (h5 j hj).1 i u hu, (h5 j hj).2⟩⟩
section
variable {H : Type} {enc : TypeId × Value → H} {P : Program} {w : World} {base : Nat} {spare : Nat → Bool} {held : Bool}
end
/-- a member that came in -/
def MemArg (w : World) (v : Value) (es : List (List Value)) : Prop :=
  ∃ (id sz tm vt rl ld ti vs : Int) (lg : Value) (cm : Int) (nx mt : Value), v = mem id sz tm vt rl ld ti vs lg cm nx mt ∧ EntArg w lg es ∧ IntArg w nx ∧ IntArg w mt ∧ (Lit.int .i64 cm).wf = true ∧ (Lit.int .i64 vs).wf = true
theorem IntArg.below {w w' : World} {v : Value} (h : IntArg w v) (hb : Below w.heap.size w w') : IntArg w' v := by
  rcases h with h | h | ⟨B, o, cap, xs, h1, h2, h3, h4, h5, h6, h7⟩
  · exact .inl h
  · exact .inr (.inl h)
  · exact .inr (.inr ⟨B, o, cap, xs, h1, Nat.lt_of_lt_of_le h2 hb.size, h3, h4, h5, h6, fun j hj => by rw [hb.cell (p := ⟨B, o + j, none⟩) h2]; exact h7 j hj⟩)
theorem IntArg.len {w : World} {v : Value} (h : IntArg w v) : ∃ a len cap, v = .slice a len cap ∧ len ≤ 9223372036854775807 := by
  rcases h with rfl | ⟨a, cap, rfl⟩ | ⟨B, o, cap, xs, rfl, _, _, _, h5, _⟩
  · exact ⟨_, _, _, rfl, by omega⟩
  · exact ⟨_, _, _, rfl, by omega⟩
  · exact ⟨_, _, _, rfl, h5⟩
/-- the numbers of a slice that came in -/
def IntsIn (w : World) (v : Value) (xs : List Int) : Prop :=
  (xs = [] ∧ ∃ a cap, v = .slice a 0 cap) ∨ ∃ (B o cap : Nat), v = .slice (some ⟨B, o, none⟩) xs.length cap ∧ B < w.heap.size ∧ 0 < xs.length ∧ xs.length ≤ 9223372036854775807 ∧ ∀ j (h : j < xs.length), w.cell? ⟨B, o + j, none⟩ = some (.int .i64 xs[j])
theorem IntArg.ints {w : World} {v : Value} (h : IntArg w v) : ∃ xs, IntsIn w v xs := by
  rcases h with rfl | ⟨a, cap, rfl⟩ | ⟨B, o, cap, xs, h1, h2, h3, h4, h5, h6, h7⟩
  · exact ⟨[], .inl ⟨rfl, _, _, rfl⟩⟩
  · exact ⟨[], .inl ⟨rfl, _, _, rfl⟩⟩
  · exact ⟨xs, .inr ⟨B, o, cap, h1, h2, h4, h5, h7⟩⟩
theorem IntsIn.below {w w' : World} {v : Value} {xs : List Int} (h : IntsIn w v xs) (hb : Below w.heap.size w w') : IntsIn w' v xs := by
  rcases h with h | ⟨B, o, cap, h1, h2, h4, h5, h7⟩
  · exact .inl h
  · exact .inr ⟨B, o, cap, h1, Nat.lt_of_lt_of_le h2 hb.size, h4, h5, fun j hj => by rw [hb.cell (p := ⟨B, o + j, none⟩) h2]; exact h7 j hj⟩
theorem EntArg.le {w : World} {v : Value} {es : List (List Value)} (h : EntArg w v es) : es.length ≤ 9223372036854775807 := by
  rcases h with ⟨rfl, _⟩ | ⟨_, _, _, _, _, _, h, _⟩
  · simp
  · exact h
theorem EntArg.len {w : World} {v : Value} {es : List (List Value)} (h : EntArg w v es) : ∃ a cap, v = .slice a es.length cap := by
  rcases h with ⟨rfl, a, cap, rfl⟩ | ⟨B, o, cap, rfl, _⟩
  · exact ⟨a, cap, rfl⟩
  · exact ⟨_, cap, rfl⟩
end Go.Proofs.Ytfpgklhbghahoaa
