/- Merged texts: El3, El4, El5, El6, El7a, El7, El8. -/
import Derived.Test.YtfpgklhbghahoaaVo4
import Derived.Deep.RegionHeld3
import Derived.Deep.AppendLies
import Derived.Deep.RegionLaw
/- Election: the campaign of the law's example. -/
namespace Go.Proofs.Ytfpgklhbghahoaa
open Go.ChangeShapes Go.WideShapes Go.ChangeAt Go.RowKit Go.Deep
set_option linter.unusedVariables false
set_option linter.unusedSimpArgs false
abbrev m0 : Value := mem 1 3 0 (-1) 0 (-1) 13 0 nil 0 nil nil
abbrev m1 : Value := mem 1 3 1 1 1 (-1) 13 2 nil 0 nil nil
abbrev memL (id sz tm vt rl ld ti vs : Int) (lg : Value) (cm : Int) (nx mt : Value) : List Value := [.int .i64 id, .int .i64 sz, .int .i64 tm, .int .i64 vt, .int .i64 rl, .int .i64 ld, .int .i64 ti, .int .i64 vs, lg, .int .i64 cm, nx, mt]
abbrev zL : List Value := memL 0 0 0 0 0 0 0 0 nil 0 nil nil
theorem wideMem : Wide Try.prog 25 12 := ⟨by kernel_rfl, _, Try.underlying25, rfl⟩
theorem memOk (id sz tm vt rl ld ti vs : Int) (ga : Option Addr) (gl gc : Nat) (cm : Int) (na : Option Addr) (nl nc : Nat) (ma : Option Addr) (ml mc : Nat) : Cells 12 (memL id sz tm vt rl ld ti vs (.slice ga gl gc) cm (.slice na nl nc) (.slice ma ml mc)) := ⟨rfl, rfl⟩
/-- a member's box and the result's -/
def MM (w : World) (cs rs : List Value) (W : World) : Prop := BoxN 12 W w.heap.size cs ∧ BoxN 12 W (w.heap.size + 1) rs ∧ Below w.heap.size w W
theorem MM.start (w : World) (cs : List Value) (T : TypeId) (h : cs.length = 12) : MM w cs zL ((w.alloc (.cells cs.toArray T)).alloc (.cells zL.toArray T)) :=
  ⟨(BoxN.new w cs 12 T h).alloc _, by simpa using BoxN.new (w.alloc (.cells cs.toArray T)) zL 12 T rfl, ((Below.refl _ _).alloc (Nat.le_refl _) _).alloc (by simp) _⟩
theorem MM.keep {w : World} {cs rs : List Value} {W W' : World} (h : MM w cs rs W) (hb : Below W.heap.size W W') : MM w cs rs W' := ⟨h.1.keep hb, h.2.1.keep hb, h.2.2.trans (hb.mono h.2.2.size)⟩
theorem MM.own {w : World} {cs rs vs : List Value} {W W' : World} (h : MM w cs rs W) (h1 : BoxN 12 W' w.heap.size vs) (h2 : Only W W' w.heap.size) : MM w vs rs W' := ⟨h1, h.2.1.other h2 (by omega), h.2.2.trans (h2.below _ (Nat.le_refl _))⟩
theorem MM.res {w : World} {cs rs vs : List Value} {W W' : World} (h : MM w cs rs W) (h1 : BoxN 12 W' (w.heap.size + 1) vs) (h2 : Only W W' (w.heap.size + 1)) : MM w cs vs W' := ⟨h.1.other h2 (by omega), h1, h.2.2.trans (h2.below _ (by omega))⟩
theorem MM.set {w : World} {cs rs : List Value} {W : World} (h : MM w cs rs W) (j : Nat) (v : Value) (hj : j < 12) : MM w (cs.set j v) rs (W.setCell ⟨w.heap.size, j, none⟩ v) := ⟨h.1.setCell j v hj, h.2.1.setOther j v (by omega), h.2.2.setCell (Nat.le_refl _) _⟩
theorem MM.far {w : World} {cs rs : List Value} {W W' : World} (h : MM w cs rs W) (hb : Below (w.heap.size + 2) W W') : MM w cs rs W' := by
  obtain ⟨h1, h2, h3⟩ := h
  exact ⟨h1.far hb (by omega), h2.far hb (by omega), h3.trans (hb.mono (by omega))⟩
theorem MM.drew {w : World} {cs rs : List Value} {W : World} (h : MM w cs rs W) : MM w cs rs W.drew := h.keep (Below.drew (Below.refl _ _))
/-- the cells of a request for a vote, by its receiver -/
def msgC (to : Int) : List Value := [.int .i64 1, .int .i64 to, .int .i64 1, .int .i64 1, .int .i64 0, .int .i64 0, .int .i64 0, .slice none 0 0, .bool false]
def tos : Nat → List Int
  | 0 => []
  | 1 => [0]
  | 2 => [0]
  | _ => [0, 2]
def zmsg : Value := .agg #[.int .i64 0, .int .i64 0, .int .i64 0, .int .i64 0, .int .i64 0, .int .i64 0, .int .i64 0, .slice none 0 0, .bool false]
theorem infoMsg : (Try.prog.info? 35).map (fun i => (i.zero, i.size, i.bytes)) = some (some zmsg, 9, 88) := by kernel_rfl
def msgs (l : List Int) : List Value := l.flatMap msgC
theorem msgs_length (l : List Int) : (msgs l).length = l.length * 9 := by
  induction l with
  | nil => rfl
  | cons a l ih =>
    simp only [msgs, List.flatMap_cons, List.length_append, List.length_cons] at *
    rw [ih, show (msgC a).length = 9 from rfl]; omega
theorem own_ge {w : World} {base : Nat} {e : TypeId} {size : Nat} {v : Value} {n : Nat} {xs : List Value} (h : w.ownsRow base e size v n xs) : ∀ k, v.ownBlock = some k → base ≤ k := by
  intro k hk
  rcases h.2 with ⟨rfl, _⟩ | ⟨g, cap, cur, rfl, hb, _⟩
  · simp [Value.ownBlock] at hk
  · simp [Value.ownBlock] at hk
    omega
theorem own_mono {w : World} {base base' : Nat} {e : TypeId} {size n : Nat} {v : Value} {xs : List Value} (h : w.ownsRow base e size v n xs) (hb : base' ≤ base) : w.ownsRow base' e size v n xs :=
  ⟨h.1, h.2.imp id fun ⟨g, cap, cur, h1, h2, h3⟩ => ⟨g, cap, cur, h1, Nat.le_trans hb h2, h3⟩⟩
theorem own_only {w w' : World} {base : Nat} {e : TypeId} {size g n cap b : Nat} {xs : List Value} (h : w.ownsRow base e size (.slice (some ⟨g, 0, none⟩) n cap) n xs) (ho : Only w w' b) (hne : b ≠ g) : w'.ownsRow base e size (.slice (some ⟨g, 0, none⟩) n cap) n xs :=
  h.kept (row := some b) ⟨(ho.below 0 (Nat.zero_le _)).os, (ho.below 0 (Nat.zero_le _)).tape, (ho.below 0 (Nat.zero_le _)).output, by rw [ho.size]; exact Nat.le_refl _, fun k _ hk => ho.heap k (fun e => hk (by rw [e]))⟩ (.inr (by simp [Value.ownBlock]; omega))
def CampOut (w : World) (e : Ending) (w' : World) : Prop := ∃ g cap, e = .returned (.tuple #[m1, .slice (some ⟨g, 0, none⟩) 2 cap]) ∧ w'.ownsRow w.heap.size 35 9 (.slice (some ⟨g, 0, none⟩) 2 cap) 2 (msgs [0, 2]) ∧ Below w.heap.size w w'
set_option maxRecDepth 100000 in
set_option maxHeartbeats 2000000 in
theorem campaign_ex (w : World) : Calls Try.prog 24 #[m0] w (CampOut w) := by
  obtain ⟨iM, hiM, hz0, hz1, hz2⟩ := info_parts infoMsg
  go_enter Try.func24, Try.ntmps24
  go_wp2_with fail
  have HM0 := Lib.hid (MM.start w (memL 1 3 0 (-1) 0 (-1) 13 0 nil 0 nil nil) 25 rfl)
  refine (copyMember_nil _ _ _ _ _ _ _ _ _ _).mono ?_
  rintro e w1 ⟨rfl, hb1⟩
  have HM1 := Lib.hid (HM0.out.keep hb1)
  clear hb1 HM0
  have hA1 := HM1.out.1
  go_wp2_with (with_reducible refine wpList_box_store 25 1 (.tmp 7) w.heap.size _ (memL 1 3 0 (-1) 0 (-1) 13 0 nil 0 nil nil) _ _ _ _ _ _ ?_ ?_ hA1 (memOk _ _ _ _ _ _ _ _ _ _ _ _ _ _ _ _ _ _) wideMem ?_)
  · rfl
  · rfl
  rintro w2 hA hO
  have HM2 := Lib.hid (HM1.out.own hA hO)
  go_wp2_with (with_reducible refine wpList_box_load 25 1 w.heap.size (memL 1 3 0 (-1) 0 (-1) 13 0 nil 0 nil nil) _ _ _ _ _ _ ?_ hA wideMem ?_)
  · rfl
  go_wp2_with fail
  refine (known_yes 1 3 0 (-1) 0 (-1) 13 0 nil 0 nil nil _ (by omega) (by omega) (by omega) (by omega)).mono ?_
  rintro e w3 ⟨rfl, hb3⟩
  have HM3 := Lib.hid (HM2.out.keep hb3)
  clear hb3 hA hA1 hO HM1 HM2
  have a2 := HM3.out.1.cell 2 _ rfl
  have hfr := HM3.out.1.1.free 2
  go_wp2_with fail
  refine wp_named (fun W => MM w (memL 1 3 1 (-1) 0 (-1) 13 0 nil 0 nil nil) zL W) (HM3.out.set 2 (.int .i64 1) (by omega)) ?_
  clear HM3 a2 hfr
  rintro w4 hM4
  have HM4 := Lib.hid hM4
  have a0 := hM4.1.cell 0 _ rfl
  have a3 := hM4.1.cell 3 _ rfl
  have a4 := hM4.1.cell 4 _ rfl
  have a5 := hM4.1.cell 5 _ rfl
  have a7 := hM4.1.cell 7 _ rfl
  have f3 := hM4.1.1.free 3
  have f4 := hM4.1.1.free 4
  have f5 := hM4.1.1.free 5
  have f7 := hM4.1.1.free 7
  clear hM4
  go_region
  go_wp2_with fail
  refine calls_named (fun W => MM w (memL 1 3 1 1 1 (-1) 13 2 nil 0 nil nil) zL W) (((((HM4.out.set 4 (.int .i64 1) (by omega)).set 3 (.int .i64 1) (by omega)).set 7 (.int .i64 2) (by omega)).set 5 (.int .i64 (-1)) (by omega)).drew) ?_
  clear HM4 a0 a3 a4 a5 a7 f3 f4 f5 f7
  rintro w5 hM5
  have HM5 := Lib.hid hM5
  clear hM5
  refine (usual_any 1 _ (by omega) (by omega)).mono ?_
  rintro e w6 ⟨rfl, rfl⟩
  have a6 := HM5.out.1.cell 6 _ rfl
  have a10 := HM5.out.1.cell 10 _ rfl
  have a11 := HM5.out.1.cell 11 _ rfl
  have a1 := HM5.out.1.cell 1 _ rfl
  have f6 := HM5.out.1.1.free 6
  have f10 := HM5.out.1.1.free 10
  have f11 := HM5.out.1.1.free 11
  go_wp2_with fail
  refine wp_named (fun W => MM w (memL 1 3 1 1 1 (-1) 13 2 nil 0 nil nil) zL W) (((HM5.out.set 6 (.int .i64 13) (by omega)).set 10 (.slice none 0 0) (by omega)).set 11 (.slice none 0 0) (by omega)) ?_
  clear HM5 a6 a10 a11 a1 f6 f10 f11
  rintro w7 hM7
  have HM7 := Lib.hid hM7
  clear hM7
  go_loopw [4, 38] (fun l t W => ∃ k : Nat, k ≤ 3 ∧ t = .int .i64 k ∧ W.ownsRow (w.heap.size + 2) 35 9 l (tos k).length (msgs (tos k)) ∧ MM w (memL 1 3 1 1 1 (-1) 13 2 nil 0 nil nil) zL W) (fun _ t _ => 3 - (intOf t).toNat)
  case atStart => exact ⟨0, by omega, rfl, World.ownsRow_nil _ _ _ _, HM7.out⟩
  case round =>
    clear HM7
    obtain ⟨k, hk, rfl, hO, hM⟩ := hrel
    have HO := Lib.hid hO
    have HM := Lib.hid hM
    have a0 := hM.1.cell 0 _ rfl
    have a2 := hM.1.cell 2 _ rfl
    have a8 := hM.1.cell 8 _ rfl
    have hBlt := hM.1.1.lt
    have hz2' : w.heap.size + 2 ≤ wr.heap.size := hM.2.1.1.lt
    clear hO hM
    have hk4 : k = 0 ∨ k = 1 ∨ k = 2 ∨ k = 3 := by omega
    rcases hk4 with rfl | rfl | rfl | rfl
    · go_wp2_with fail
      have hne : u4.ownBlock ≠ some w.heap.size := fun e => by have := own_ge HO.out _ e; omega
      have lb := hBlt
      go_region_held3 (fun W => W.cell? ⟨w.heap.size, 0, none⟩ = some (.int .i64 1) ∧ W.cell? ⟨w.heap.size, 2, none⟩ = some (.int .i64 1) ∧ W.cell? ⟨w.heap.size, 8, none⟩ = some nil)
        (first
          | go_keep
          | (go_split_ands
             refine ⟨?_, ?_, ?_⟩
             · (rw [hgrow.cell_far _ (by simp; omega) (Ne.symm hne)]; assumption)
             · (rw [hgrow.cell_far _ (by simp; omega) (Ne.symm hne)]; assumption)
             · (rw [hgrow.cell_far _ (by simp; omega) (Ne.symm hne)]; assumption)))
        (first
          | (go_at_call 38; refine (lastTerm_nil _).mono ?_; rintro e w' ⟨rfl, rfl⟩)
          | (refine step_append_lies _ (by rfl) _ _ _ (by rfl) (w.heap.size + 2) 35 iM zmsg 9 88 Try.underlying37 hiM hz0 hz1 hz2 rfl (by omega) _ 0 _ (by rfl) ((HO.out.alloc _).drew)
              ⟨wr.heap.size, 0, none⟩ 1 1 (msgC 0) (by rfl) (by rfl) (World.news_of_block (cs := (msgC 0).toArray) (t := 35) (fr := (0, 0)) (heap_alloc_new wr _)) (by simp [msgC, Value.oneCell'])
              (by omega) (by unfold maxLen; omega) (by omega) (by simp; omega) (wr.heap.size + 1) (by simp) ?_; intro gg cap w1 hown1 hgrow hat hlt))
      have HO1 : Hid (w1.ownsRow (w.heap.size + 2) 35 9 (.slice (some ⟨gg, 0, none⟩) (0 + 1) cap) (tos 1).length (msgs (tos 1))) := Lib.hid (by simpa [tos, msgs] using hown1)
      have hb1 : Below (w.heap.size + 2) wr w1 := ((((Below.refl _ _).alloc hz2' _).drew).grown hgrow (by simp; omega) (own_ge HO.out))
      have HM1 := Lib.hid (HM.out.far hb1)
      clear hown1 hgrow hat hlt hb1
      go_wp2_with fail
      go_roundw
      case rel => exact ⟨1, by omega, rfl, HO1.out, HM1.out⟩
      case measure => simp [intOf]
    · go_wp2_with fail
      go_roundw
      case rel => exact ⟨2, by omega, rfl, HO.out, HM.out⟩
      case measure => simp [intOf]
    · go_wp2_with fail
      have hne : u4.ownBlock ≠ some w.heap.size := fun e => by have := own_ge HO.out _ e; omega
      have lb := hBlt
      go_region_held3 (fun W => W.cell? ⟨w.heap.size, 0, none⟩ = some (.int .i64 1) ∧ W.cell? ⟨w.heap.size, 2, none⟩ = some (.int .i64 1) ∧ W.cell? ⟨w.heap.size, 8, none⟩ = some nil)
        (first
          | go_keep
          | (go_split_ands
             refine ⟨?_, ?_, ?_⟩
             · (rw [hgrow.cell_far _ (by simp; omega) (Ne.symm hne)]; assumption)
             · (rw [hgrow.cell_far _ (by simp; omega) (Ne.symm hne)]; assumption)
             · (rw [hgrow.cell_far _ (by simp; omega) (Ne.symm hne)]; assumption)))
        (first
          | (go_at_call 38; refine (lastTerm_nil _).mono ?_; rintro e w' ⟨rfl, rfl⟩)
          | (refine step_append_lies _ (by rfl) _ _ _ (by rfl) (w.heap.size + 2) 35 iM zmsg 9 88 Try.underlying37 hiM hz0 hz1 hz2 rfl (by omega) _ 1 _ (by rfl) ((HO.out.alloc _).drew)
              ⟨wr.heap.size, 0, none⟩ 1 1 (msgC 2) (by rfl) (by rfl) (World.news_of_block (cs := (msgC 2).toArray) (t := 35) (fr := (0, 0)) (heap_alloc_new wr _)) (by simp [msgC, Value.oneCell'])
              (by omega) (by unfold maxLen; omega) (by omega) (by simp; omega) (wr.heap.size + 1) (by simp) ?_; intro gg cap w1 hown1 hgrow hat hlt))
      have HO1 : Hid (w1.ownsRow (w.heap.size + 2) 35 9 (.slice (some ⟨gg, 0, none⟩) (1 + 1) cap) (tos 3).length (msgs (tos 3))) := Lib.hid (by simpa [tos, msgs] using hown1)
      have hb1 : Below (w.heap.size + 2) wr w1 := ((((Below.refl _ _).alloc hz2' _).drew).grown hgrow (by simp; omega) (own_ge HO.out))
      have HM1 := Lib.hid (HM.out.far hb1)
      clear hown1 hgrow hat hlt hb1
      go_wp2_with fail
      go_roundw
      case rel => exact ⟨3, by omega, rfl, HO1.out, HM1.out⟩
      case measure => simp [intOf]
    · have hB := HM.out.1
      have hR := HM.out.2.1
      obtain ⟨g, cap, rfl, hg, hgl⟩ := HO.out.form (by decide)
      go_wp2_with (first | (with_reducible refine wpList_box_load 25 1 w.heap.size (memL 1 3 1 1 1 (-1) 13 2 nil 0 nil nil) _ _ _ _ _ _ ?_ hB wideMem ?_) | (with_reducible refine wpList_box_store 25 2 (.tmp 61) (w.heap.size + 1) _ (memL 1 3 1 1 1 (-1) 13 2 nil 0 nil nil) _ _ _ _ _ _ ?_ ?_ hR (memOk _ _ _ _ _ _ _ _ _ _ _ _ _ _ _ _ _ _) wideMem ?_))
      · rfl
      · rfl
      · rfl
      rintro w9 hB9 hO9
      have r0 := hB9.cell 0 _ rfl
      have r1 := hB9.cell 1 _ rfl
      have r2 := hB9.cell 2 _ rfl
      have r3 := hB9.cell 3 _ rfl
      have r4 := hB9.cell 4 _ rfl
      have r5 := hB9.cell 5 _ rfl
      have r6 := hB9.cell 6 _ rfl
      have r7 := hB9.cell 7 _ rfl
      have r8 := hB9.cell 8 _ rfl
      have r9 := hB9.cell 9 _ rfl
      have r10 := hB9.cell 10 _ rfl
      have r11 := hB9.cell 11 _ rfl
      go_wp2_with fail
      refine bodyPost_ret (v := .tuple #[m1, .slice (some ⟨g, 0, none⟩) 2 cap]) (by simp [results, Try.results24, go_sem, r0, r1, r2, r3, r4, r5, r6, r7, r8, r9, r10, r11, tos]) rfl ?_
      refine ⟨g, cap, rfl, ?_, ?_⟩
      · exact own_mono (own_only HO.out hO9 (by have := own_ge HO.out g rfl; omega)) (by omega)
      · exact HM.out.2.2.trans (hO9.below _ (by omega))
end Go.Proofs.Ytfpgklhbghahoaa
/- Election: the votes of the law's example. -/
namespace Go.Proofs.Ytfpgklhbghahoaa
open Go.ChangeShapes Go.WideShapes Go.ChangeAt Go.RowKit Go.Deep
set_option linter.unusedVariables false
set_option linter.unusedSimpArgs false
abbrev msgL (f t k tm : Int) (ok : Bool) : List Value := [.int .i64 f, .int .i64 t, .int .i64 k, .int .i64 tm, .int .i64 0, .int .i64 0, .int .i64 0, nil, .bool ok]
abbrev msgV (f t k tm : Int) (ok : Bool) : Value := .agg #[.int .i64 f, .int .i64 t, .int .i64 k, .int .i64 tm, .int .i64 0, .int .i64 0, .int .i64 0, nil, .bool ok]
theorem wideMsg : Wide Try.prog 35 9 := ⟨by kernel_rfl, _, Try.underlying35, rfl⟩
theorem msgOk (f t k tm : Int) (ok : Bool) : Cells 9 (msgL f t k tm ok) := ⟨rfl, rfl⟩
/-- the boxes of a member, of a message and of the result -/
def VV (w : World) (cs ms rs : List Value) (W : World) : Prop := BoxN 12 W w.heap.size cs ∧ BoxN 9 W (w.heap.size + 1) ms ∧ BoxN 12 W (w.heap.size + 2) rs ∧ Below w.heap.size w W
theorem VV.start (w : World) (cs ms : List Value) (T T2 : TypeId) (h : cs.length = 12) (h2 : ms.length = 9) : VV w cs ms zL (((w.alloc (.cells cs.toArray T)).alloc (.cells ms.toArray T2)).alloc (.cells zL.toArray T)) := by
  refine ⟨((BoxN.new w cs 12 T h).alloc _).alloc _, ?_, ?_, (((Below.refl _ _).alloc (Nat.le_refl _) _).alloc (by simp) _).alloc (by simp; omega) _⟩
  · simpa using (BoxN.new (w.alloc (.cells cs.toArray T)) ms 9 T2 h2).alloc (.cells zL.toArray T)
  · simpa using BoxN.new ((w.alloc (.cells cs.toArray T)).alloc (.cells ms.toArray T2)) zL 12 T rfl
theorem VV.keep {w : World} {cs ms rs : List Value} {W W' : World} (h : VV w cs ms rs W) (hb : Below W.heap.size W W') : VV w cs ms rs W' := ⟨h.1.keep hb, h.2.1.keep hb, h.2.2.1.keep hb, h.2.2.2.trans (hb.mono h.2.2.2.size)⟩
theorem VV.own {w : World} {cs ms rs vs : List Value} {W W' : World} (h : VV w cs ms rs W) (h1 : BoxN 12 W' w.heap.size vs) (h2 : Only W W' w.heap.size) : VV w vs ms rs W' := ⟨h1, h.2.1.other h2 (by omega), h.2.2.1.other h2 (by omega), h.2.2.2.trans (h2.below _ (Nat.le_refl _))⟩
theorem VV.res {w : World} {cs ms rs vs : List Value} {W W' : World} (h : VV w cs ms rs W) (h1 : BoxN 12 W' (w.heap.size + 2) vs) (h2 : Only W W' (w.heap.size + 2)) : VV w cs ms vs W' := ⟨h.1.other h2 (by omega), h.2.1.other h2 (by omega), h1, h.2.2.2.trans (h2.below _ (by omega))⟩
theorem VV.set {w : World} {cs ms rs : List Value} {W : World} (h : VV w cs ms rs W) (j : Nat) (v : Value) (hj : j < 12) : VV w (cs.set j v) ms rs (W.setCell ⟨w.heap.size, j, none⟩ v) := ⟨h.1.setCell j v hj, h.2.1.setOther j v (by omega), h.2.2.1.setOther j v (by omega), h.2.2.2.setCell (Nat.le_refl _) _⟩
/-- besides: the drawn message lies in block d -/
def V1 (w : World) (cs ms : List Value) (ds : List Value) (rs : List Value) (d : Nat) (W : World) : Prop := VV w cs ms rs W ∧ BoxN 9 W d ds ∧ w.heap.size + 2 < d
theorem V1.drew {w W : World} {cs ms ds rs : List Value} {d : Nat} (h : V1 w cs ms ds rs d W) : V1 w cs ms ds rs d W.drew := ⟨⟨h.1.1.drew, h.1.2.1.drew, h.1.2.2.1.drew, h.1.2.2.2.drew⟩, h.2.1.drew, h.2.2⟩
theorem V1.store {w W W' : World} {cs ms ds rs vs : List Value} {d : Nat} (h : V1 w cs ms ds rs d W) (h1 : BoxN 12 W' (w.heap.size + 2) vs) (h2 : Only W W' (w.heap.size + 2)) : V1 w cs ms ds vs d W' := ⟨h.1.res h1 h2, h.2.1.other h2 (by have := h.2.2; omega), h.2.2⟩
theorem V1.alloc {w W : World} {cs ms ds rs : List Value} {d : Nat} (h : V1 w cs ms ds rs d W) (ob : Obj) : V1 w cs ms ds rs d (W.alloc ob) := ⟨h.1.keep ((Below.refl _ _).alloc (Nat.le_refl _) _), h.2.1.alloc _, h.2.2⟩
/-- .. and the slice of it in block g -/
def V2 (w : World) (cs ms : List Value) (ds : List Value) (rs : List Value) (d g : Nat) (W : World) : Prop := V1 w cs ms ds rs d W ∧ BoxN 9 W g ds ∧ w.heap.size + 2 < g
theorem V2.store {w W W' : World} {cs ms ds rs vs : List Value} {d g : Nat} (h : V2 w cs ms ds rs d g W) (h1 : BoxN 12 W' (w.heap.size + 2) vs) (h2 : Only W W' (w.heap.size + 2)) : V2 w cs ms ds vs d g W' := ⟨h.1.store h1 h2, h.2.1.other h2 (by have := h.2.2; omega), h.2.2⟩
theorem V1.build {w W : World} {cs ms ds rs : List Value} {d : Nat} (h : V1 w cs ms ds rs d W) (hl : ds.length = 9) (T : TypeId) : V2 w cs ms ds rs d W.heap.size (W.alloc (.cells ds.toArray T)) := ⟨h.alloc _, BoxN.new W ds 9 T hl, by have := h.1.2.2.1.1.lt; omega⟩
theorem V2.out {w W : World} {cs ms ds rs : List Value} {d g : Nat} (h : V2 w cs ms ds rs d g W) : W.rangeAt g 0 ds ∧ g < W.heap.size ∧ Below w.heap.size w W := ⟨h.2.1.1.rng, h.2.1.1.lt, h.1.1.2.2.2⟩
theorem wpAny_named {P : Program} {md : Region.Mode} {ops : Array Oper} {Q : Exit → Act → World → Prop} {fuel : Nat} {listed : Array Bool} {a : Act} {W : World} (F : World → Prop) (hF : F W) (h : ∀ W, F W → wpAny P md ops Q fuel listed a W) : wpAny P md ops Q fuel listed a W := h W hF
def VoteOut (m : Value) (f : Int) (ok : Bool) (w : World) (e : Ending) (w' : World) : Prop := ∃ g, e = .returned (.tuple #[m, .slice (some ⟨g, 0, none⟩) 1 1]) ∧ w'.rangeAt g 0 (msgL 1 f 2 1 ok) ∧ g < w'.heap.size ∧ Below w.heap.size w w'
set_option maxRecDepth 100000 in
set_option maxHeartbeats 2000000 in
theorem vote_ex1 (w : World) : Calls Try.prog 19 #[m0, msgV 0 1 1 1 false] w (VoteOut (mem 1 3 1 0 0 (-1) 13 0 nil 0 nil nil) 0 true w) := by
  go_enter Try.func19, Try.ntmps19
  go_wp2_with fail
  have HM0 := Lib.hid (VV.start w (memL 1 3 0 (-1) 0 (-1) 13 0 nil 0 nil nil) (msgL 0 1 1 1 false) 25 35 rfl rfl)
  refine (copyMember_nil _ _ _ _ _ _ _ _ _ _).mono ?_
  rintro e w1 ⟨rfl, hb1⟩
  have HM1 := Lib.hid (HM0.out.keep hb1)
  clear hb1 HM0
  have hA1 := HM1.out.1
  go_wp2_with (with_reducible refine wpList_box_store 25 2 (.tmp 11) w.heap.size _ (memL 1 3 0 (-1) 0 (-1) 13 0 nil 0 nil nil) _ _ _ _ _ _ ?_ ?_ hA1 (memOk _ _ _ _ _ _ _ _ _ _ _ _ _ _ _ _ _ _) wideMem ?_)
  · rfl
  · rfl
  rintro w2 hA hO
  have HM2 := Lib.hid (HM1.out.own hA hO)
  have k2 := HM2.out.2.1.cell 2 _ rfl
  have k3 := HM2.out.2.1.cell 3 _ rfl
  go_wp2_with (with_reducible refine wpList_box_load 25 2 w.heap.size (memL 1 3 0 (-1) 0 (-1) 13 0 nil 0 nil nil) _ _ _ _ _ _ ?_ hA wideMem ?_)
  · rfl
  go_wp2_with fail
  refine (follow_any 1 3 0 (-1) 0 (-1) 13 0 none 0 0 0 none 0 0 none 0 0 1 _ (by omega) (by omega)).mono ?_
  rintro e w3 ⟨he3, hb3⟩
  rw [if_neg (by decide), if_neg (by decide)] at he3
  subst he3
  have HM3 := Lib.hid (HM2.out.keep hb3)
  clear hb3 hA hA1 hO HM1 HM2 k2 k3
  have hA1 := HM3.out.1
  go_wp2_with (with_reducible refine wpList_box_store 25 2 (.tmp 19) w.heap.size _ (memL 1 3 1 (-1) 0 (-1) 13 0 nil 0 nil nil) _ _ _ _ _ _ ?_ ?_ hA1 (memOk _ _ _ _ _ _ _ _ _ _ _ _ _ _ _ _ _ _) wideMem ?_)
  · rfl
  · rfl
  rintro w4 hA hO
  have HM4 := Lib.hid (HM3.out.own hA hO)
  clear hA1 hO hA HM3
  have a8 := HM4.out.1.cell 8 _ rfl
  go_wp2_with fail
  refine (lastTerm_nil _).mono ?_
  rintro e w5 ⟨rfl, rfl⟩
  have a0 := HM4.out.1.cell 0 _ rfl
  have a2 := HM4.out.1.cell 2 _ rfl
  have a3 := HM4.out.1.cell 3 _ rfl
  have k0 := HM4.out.2.1.cell 0 _ rfl
  have k3 := HM4.out.2.1.cell 3 _ rfl
  have k4 := HM4.out.2.1.cell 4 _ rfl
  have k5 := HM4.out.2.1.cell 5 _ rfl
  have f3 := HM4.out.1.1.free 3
  go_wp2_with fail
  refine calls_named (fun W => VV w (memL 1 3 1 0 0 (-1) 13 0 nil 0 nil nil) (msgL 0 1 1 1 false) zL W) (HM4.out.set 3 (.int .i64 0) (by omega)) ?_
  clear HM4 a0 a2 a3 k0 k3 k4 k5 f3 a8
  rintro w6 hM6
  have HM6 := Lib.hid hM6
  clear hM6
  refine (usual_any 1 _ (by omega) (by omega)).mono ?_
  rintro e w7 ⟨rfl, rfl⟩
  have a0 := HM6.out.1.cell 0 _ rfl
  have a2 := HM6.out.1.cell 2 _ rfl
  have a6 := HM6.out.1.cell 6 _ rfl
  have k0 := HM6.out.2.1.cell 0 _ rfl
  have f6 := HM6.out.1.1.free 6
  have l0 := HM6.out.1.1.lt
  have l1 := HM6.out.2.1.1.lt
  have l2 := HM6.out.2.2.1.1.lt
  have n0 : w.heap.size ≠ w6.heap.size := by omega
  have n1 : w.heap.size + 1 ≠ w6.heap.size := by omega
  go_wp2_with fail
  refine wp_named (fun W => VV w (memL 1 3 1 0 0 (-1) 13 0 nil 0 nil nil) (msgL 0 1 1 1 false) zL W ∧ BoxN 9 W w6.heap.size (msgL 1 0 2 1 true) ∧ w6.heap.size < W.heap.size) ⟨(HM6.out.set 6 (.int .i64 13) (by omega)).keep ((Below.refl _ _).alloc (Nat.le_refl _) _), by simpa using BoxN.new (w6.setCell ⟨w.heap.size, 6, none⟩ (.int .i64 13)) (msgL 1 0 2 1 true) 9 35 rfl, by simp⟩ ?_
  clear a0 a2 a6 k0 f6 HM6
  rintro w8 ⟨hM8, hD8, hz8⟩
  have l9 := hM8.2.2.1.1.lt
  have hV := V1.drew (⟨hM8, hD8, by omega⟩ : V1 w (memL 1 3 1 0 0 (-1) 13 0 nil 0 nil nil) (msgL 0 1 1 1 false) (msgL 1 0 2 1 true) zL w6.heap.size w8)
  refine wp_region_any (by kernel_rfl) ?_
  try (change wpAny _ _ _ _ _ _ _ (World.drew _))
  refine wpAny_ready (rs := [0, 1]) (by kernel_rfl) (by simp) ?_
  refine AllReady.cons rfl (fun K hK => ?_) ?_
  · skip
    refine step_box_load (by rfl) 25 (.tmp 2) (by rfl) w.heap.size (memL 1 3 1 0 0 (-1) 13 0 nil 0 nil nil) (by rfl) hV.1.1 wideMem ?_
    refine hK _ _ ?_; clear hK K
    refine wpAny_ready (rs := [1, 3]) (by kernel_rfl) (by simp) ?_
    refine AllReady.cons rfl (fun K hK => ?_) ?_
    · skip
      refine step_box_load (by rfl) 35 (.tmp 9) (by rfl) w6.heap.size (msgL 1 0 2 1 true) (by rfl) hV.2.1 wideMsg ?_
      refine hK _ _ ?_; clear hK K
      refine wpAny_ready (rs := [2, 3]) (by kernel_rfl) (by simp) ?_
      refine AllReady.cons rfl (fun K hK => ?_) ?_
      · skip
        go_simp
        refine hK _ _ ?_; clear hK K
        refine wpAny_named (fun W => V2 w (memL 1 3 1 0 0 (-1) 13 0 nil 0 nil nil) (msgL 0 1 1 1 false) (msgL 1 0 2 1 true) zL w6.heap.size w8.heap.size W) (hV.build rfl _) ?_
        rintro W1 s1
        refine wpAny_ready (rs := [3]) (by kernel_rfl) (by simp) ?_
        refine AllReady.cons rfl (fun K hK => ?_) ?_
        · skip
          refine step_box_store (by rfl) 25 (.tmp 4) (.tmp 77) (by rfl) (w.heap.size + 2) zL (memL 1 3 1 0 0 (-1) 13 0 nil 0 nil nil) (by rfl) (by rfl) s1.1.1.2.2.1 (memOk _ _ _ _ _ _ _ _ _ _ _ _ _ _ _ _ _ _) wideMem ?_
          rintro W2 hB2 hO2
          have s2 := s1.store hB2 hO2
          refine hK _ _ ?_; clear hK K
          refine wpAny_ready (rs := [4]) (by kernel_rfl) (by simp) ?_
          refine AllReady.cons rfl (fun K hK => ?_) ?_
          · skip
            go_simp
            refine hK _ _ ?_; clear hK K
            refine wpAny_done (by kernel_rfl) ?_ _
            go_wp2_with fail
            have r0 := s2.1.1.2.2.1.cell 0 _ rfl
            have r1 := s2.1.1.2.2.1.cell 1 _ rfl
            have r2 := s2.1.1.2.2.1.cell 2 _ rfl
            have r3 := s2.1.1.2.2.1.cell 3 _ rfl
            have r4 := s2.1.1.2.2.1.cell 4 _ rfl
            have r5 := s2.1.1.2.2.1.cell 5 _ rfl
            have r6 := s2.1.1.2.2.1.cell 6 _ rfl
            have r7 := s2.1.1.2.2.1.cell 7 _ rfl
            have r8 := s2.1.1.2.2.1.cell 8 _ rfl
            have r9 := s2.1.1.2.2.1.cell 9 _ rfl
            have r10 := s2.1.1.2.2.1.cell 10 _ rfl
            have r11 := s2.1.1.2.2.1.cell 11 _ rfl
            refine bodyPost_ret (v := .tuple #[mem 1 3 1 0 0 (-1) 13 0 nil 0 nil nil, .slice (some ⟨_, 0, none⟩) 1 1]) (by simp [results, Try.results19, go_sem, r0, r1, r2, r3, r4, r5, r6, r7, r8, r9, r10, r11]) rfl ⟨_, rfl, s2.out⟩
          exact AllReady.nil
        exact AllReady.nil
      refine AllReady.cons rfl (fun K hK => ?_) ?_
      · skip
        refine step_box_store (by rfl) 25 (.tmp 4) (.tmp 77) (by rfl) (w.heap.size + 2) zL (memL 1 3 1 0 0 (-1) 13 0 nil 0 nil nil) (by rfl) (by rfl) hV.1.2.2.1 (memOk _ _ _ _ _ _ _ _ _ _ _ _ _ _ _ _ _ _) wideMem ?_
        rintro W3 hB3 hO3
        have s3 := hV.store hB3 hO3
        refine hK _ _ ?_; clear hK K
        refine wpAny_ready (rs := [2]) (by kernel_rfl) (by simp) ?_
        refine AllReady.cons rfl (fun K hK => ?_) ?_
        · skip
          go_simp
          refine hK _ _ ?_; clear hK K
          refine wpAny_named (fun W => V2 w (memL 1 3 1 0 0 (-1) 13 0 nil 0 nil nil) (msgL 0 1 1 1 false) (msgL 1 0 2 1 true) (memL 1 3 1 0 0 (-1) 13 0 nil 0 nil nil) w6.heap.size W3.heap.size W) (s3.build rfl _) ?_
          rintro W4 s4
          refine wpAny_ready (rs := [4]) (by kernel_rfl) (by simp) ?_
          refine AllReady.cons rfl (fun K hK => ?_) ?_
          · skip
            go_simp
            refine hK _ _ ?_; clear hK K
            refine wpAny_done (by kernel_rfl) ?_ _
            go_wp2_with fail
            have r0 := s4.1.1.2.2.1.cell 0 _ rfl
            have r1 := s4.1.1.2.2.1.cell 1 _ rfl
            have r2 := s4.1.1.2.2.1.cell 2 _ rfl
            have r3 := s4.1.1.2.2.1.cell 3 _ rfl
            have r4 := s4.1.1.2.2.1.cell 4 _ rfl
            have r5 := s4.1.1.2.2.1.cell 5 _ rfl
            have r6 := s4.1.1.2.2.1.cell 6 _ rfl
            have r7 := s4.1.1.2.2.1.cell 7 _ rfl
            have r8 := s4.1.1.2.2.1.cell 8 _ rfl
            have r9 := s4.1.1.2.2.1.cell 9 _ rfl
            have r10 := s4.1.1.2.2.1.cell 10 _ rfl
            have r11 := s4.1.1.2.2.1.cell 11 _ rfl
            refine bodyPost_ret (v := .tuple #[mem 1 3 1 0 0 (-1) 13 0 nil 0 nil nil, .slice (some ⟨_, 0, none⟩) 1 1]) (by simp [results, Try.results19, go_sem, r0, r1, r2, r3, r4, r5, r6, r7, r8, r9, r10, r11]) rfl ⟨_, rfl, s4.out⟩
          exact AllReady.nil
        exact AllReady.nil
      exact AllReady.nil
    refine AllReady.cons rfl (fun K hK => ?_) ?_
    · skip
      refine step_box_store (by rfl) 25 (.tmp 4) (.tmp 77) (by rfl) (w.heap.size + 2) zL (memL 1 3 1 0 0 (-1) 13 0 nil 0 nil nil) (by rfl) (by rfl) hV.1.2.2.1 (memOk _ _ _ _ _ _ _ _ _ _ _ _ _ _ _ _ _ _) wideMem ?_
      rintro W5 hB5 hO5
      have s5 := hV.store hB5 hO5
      refine hK _ _ ?_; clear hK K
      refine wpAny_ready (rs := [1]) (by kernel_rfl) (by simp) ?_
      refine AllReady.cons rfl (fun K hK => ?_) ?_
      · skip
        refine step_box_load (by rfl) 35 (.tmp 9) (by rfl) w6.heap.size (msgL 1 0 2 1 true) (by rfl) s5.2.1 wideMsg ?_
        refine hK _ _ ?_; clear hK K
        refine wpAny_ready (rs := [2]) (by kernel_rfl) (by simp) ?_
        refine AllReady.cons rfl (fun K hK => ?_) ?_
        · skip
          go_simp
          refine hK _ _ ?_; clear hK K
          refine wpAny_named (fun W => V2 w (memL 1 3 1 0 0 (-1) 13 0 nil 0 nil nil) (msgL 0 1 1 1 false) (msgL 1 0 2 1 true) (memL 1 3 1 0 0 (-1) 13 0 nil 0 nil nil) w6.heap.size W5.heap.size W) (s5.build rfl _) ?_
          rintro W6 s6
          refine wpAny_ready (rs := [4]) (by kernel_rfl) (by simp) ?_
          refine AllReady.cons rfl (fun K hK => ?_) ?_
          · skip
            go_simp
            refine hK _ _ ?_; clear hK K
            refine wpAny_done (by kernel_rfl) ?_ _
            go_wp2_with fail
            have r0 := s6.1.1.2.2.1.cell 0 _ rfl
            have r1 := s6.1.1.2.2.1.cell 1 _ rfl
            have r2 := s6.1.1.2.2.1.cell 2 _ rfl
            have r3 := s6.1.1.2.2.1.cell 3 _ rfl
            have r4 := s6.1.1.2.2.1.cell 4 _ rfl
            have r5 := s6.1.1.2.2.1.cell 5 _ rfl
            have r6 := s6.1.1.2.2.1.cell 6 _ rfl
            have r7 := s6.1.1.2.2.1.cell 7 _ rfl
            have r8 := s6.1.1.2.2.1.cell 8 _ rfl
            have r9 := s6.1.1.2.2.1.cell 9 _ rfl
            have r10 := s6.1.1.2.2.1.cell 10 _ rfl
            have r11 := s6.1.1.2.2.1.cell 11 _ rfl
            refine bodyPost_ret (v := .tuple #[mem 1 3 1 0 0 (-1) 13 0 nil 0 nil nil, .slice (some ⟨_, 0, none⟩) 1 1]) (by simp [results, Try.results19, go_sem, r0, r1, r2, r3, r4, r5, r6, r7, r8, r9, r10, r11]) rfl ⟨_, rfl, s6.out⟩
          exact AllReady.nil
        exact AllReady.nil
      exact AllReady.nil
    exact AllReady.nil
  refine AllReady.cons rfl (fun K hK => ?_) ?_
  · skip
    refine step_box_load (by rfl) 35 (.tmp 9) (by rfl) w6.heap.size (msgL 1 0 2 1 true) (by rfl) hV.2.1 wideMsg ?_
    refine hK _ _ ?_; clear hK K
    refine wpAny_ready (rs := [0, 2]) (by kernel_rfl) (by simp) ?_
    refine AllReady.cons rfl (fun K hK => ?_) ?_
    · skip
      refine step_box_load (by rfl) 25 (.tmp 2) (by rfl) w.heap.size (memL 1 3 1 0 0 (-1) 13 0 nil 0 nil nil) (by rfl) hV.1.1 wideMem ?_
      refine hK _ _ ?_; clear hK K
      refine wpAny_ready (rs := [2, 3]) (by kernel_rfl) (by simp) ?_
      refine AllReady.cons rfl (fun K hK => ?_) ?_
      · skip
        go_simp
        refine hK _ _ ?_; clear hK K
        refine wpAny_named (fun W => V2 w (memL 1 3 1 0 0 (-1) 13 0 nil 0 nil nil) (msgL 0 1 1 1 false) (msgL 1 0 2 1 true) zL w6.heap.size w8.heap.size W) (hV.build rfl _) ?_
        rintro W7 s7
        refine wpAny_ready (rs := [3]) (by kernel_rfl) (by simp) ?_
        refine AllReady.cons rfl (fun K hK => ?_) ?_
        · skip
          refine step_box_store (by rfl) 25 (.tmp 4) (.tmp 77) (by rfl) (w.heap.size + 2) zL (memL 1 3 1 0 0 (-1) 13 0 nil 0 nil nil) (by rfl) (by rfl) s7.1.1.2.2.1 (memOk _ _ _ _ _ _ _ _ _ _ _ _ _ _ _ _ _ _) wideMem ?_
          rintro W8 hB8 hO8
          have s8 := s7.store hB8 hO8
          refine hK _ _ ?_; clear hK K
          refine wpAny_ready (rs := [4]) (by kernel_rfl) (by simp) ?_
          refine AllReady.cons rfl (fun K hK => ?_) ?_
          · skip
            go_simp
            refine hK _ _ ?_; clear hK K
            refine wpAny_done (by kernel_rfl) ?_ _
            go_wp2_with fail
            have r0 := s8.1.1.2.2.1.cell 0 _ rfl
            have r1 := s8.1.1.2.2.1.cell 1 _ rfl
            have r2 := s8.1.1.2.2.1.cell 2 _ rfl
            have r3 := s8.1.1.2.2.1.cell 3 _ rfl
            have r4 := s8.1.1.2.2.1.cell 4 _ rfl
            have r5 := s8.1.1.2.2.1.cell 5 _ rfl
            have r6 := s8.1.1.2.2.1.cell 6 _ rfl
            have r7 := s8.1.1.2.2.1.cell 7 _ rfl
            have r8 := s8.1.1.2.2.1.cell 8 _ rfl
            have r9 := s8.1.1.2.2.1.cell 9 _ rfl
            have r10 := s8.1.1.2.2.1.cell 10 _ rfl
            have r11 := s8.1.1.2.2.1.cell 11 _ rfl
            refine bodyPost_ret (v := .tuple #[mem 1 3 1 0 0 (-1) 13 0 nil 0 nil nil, .slice (some ⟨_, 0, none⟩) 1 1]) (by simp [results, Try.results19, go_sem, r0, r1, r2, r3, r4, r5, r6, r7, r8, r9, r10, r11]) rfl ⟨_, rfl, s8.out⟩
          exact AllReady.nil
        exact AllReady.nil
      refine AllReady.cons rfl (fun K hK => ?_) ?_
      · skip
        refine step_box_store (by rfl) 25 (.tmp 4) (.tmp 77) (by rfl) (w.heap.size + 2) zL (memL 1 3 1 0 0 (-1) 13 0 nil 0 nil nil) (by rfl) (by rfl) hV.1.2.2.1 (memOk _ _ _ _ _ _ _ _ _ _ _ _ _ _ _ _ _ _) wideMem ?_
        rintro W9 hB9 hO9
        have s9 := hV.store hB9 hO9
        refine hK _ _ ?_; clear hK K
        refine wpAny_ready (rs := [2]) (by kernel_rfl) (by simp) ?_
        refine AllReady.cons rfl (fun K hK => ?_) ?_
        · skip
          go_simp
          refine hK _ _ ?_; clear hK K
          refine wpAny_named (fun W => V2 w (memL 1 3 1 0 0 (-1) 13 0 nil 0 nil nil) (msgL 0 1 1 1 false) (msgL 1 0 2 1 true) (memL 1 3 1 0 0 (-1) 13 0 nil 0 nil nil) w6.heap.size W9.heap.size W) (s9.build rfl _) ?_
          rintro W10 s10
          refine wpAny_ready (rs := [4]) (by kernel_rfl) (by simp) ?_
          refine AllReady.cons rfl (fun K hK => ?_) ?_
          · skip
            go_simp
            refine hK _ _ ?_; clear hK K
            refine wpAny_done (by kernel_rfl) ?_ _
            go_wp2_with fail
            have r0 := s10.1.1.2.2.1.cell 0 _ rfl
            have r1 := s10.1.1.2.2.1.cell 1 _ rfl
            have r2 := s10.1.1.2.2.1.cell 2 _ rfl
            have r3 := s10.1.1.2.2.1.cell 3 _ rfl
            have r4 := s10.1.1.2.2.1.cell 4 _ rfl
            have r5 := s10.1.1.2.2.1.cell 5 _ rfl
            have r6 := s10.1.1.2.2.1.cell 6 _ rfl
            have r7 := s10.1.1.2.2.1.cell 7 _ rfl
            have r8 := s10.1.1.2.2.1.cell 8 _ rfl
            have r9 := s10.1.1.2.2.1.cell 9 _ rfl
            have r10 := s10.1.1.2.2.1.cell 10 _ rfl
            have r11 := s10.1.1.2.2.1.cell 11 _ rfl
            refine bodyPost_ret (v := .tuple #[mem 1 3 1 0 0 (-1) 13 0 nil 0 nil nil, .slice (some ⟨_, 0, none⟩) 1 1]) (by simp [results, Try.results19, go_sem, r0, r1, r2, r3, r4, r5, r6, r7, r8, r9, r10, r11]) rfl ⟨_, rfl, s10.out⟩
          exact AllReady.nil
        exact AllReady.nil
      exact AllReady.nil
    refine AllReady.cons rfl (fun K hK => ?_) ?_
    · skip
      go_simp
      refine hK _ _ ?_; clear hK K
      refine wpAny_named (fun W => V2 w (memL 1 3 1 0 0 (-1) 13 0 nil 0 nil nil) (msgL 0 1 1 1 false) (msgL 1 0 2 1 true) zL w6.heap.size w8.heap.size W) (hV.build rfl _) ?_
      rintro W11 s11
      refine wpAny_ready (rs := [0]) (by kernel_rfl) (by simp) ?_
      refine AllReady.cons rfl (fun K hK => ?_) ?_
      · skip
        refine step_box_load (by rfl) 25 (.tmp 2) (by rfl) w.heap.size (memL 1 3 1 0 0 (-1) 13 0 nil 0 nil nil) (by rfl) s11.1.1.1 wideMem ?_
        refine hK _ _ ?_; clear hK K
        refine wpAny_ready (rs := [3]) (by kernel_rfl) (by simp) ?_
        refine AllReady.cons rfl (fun K hK => ?_) ?_
        · skip
          refine step_box_store (by rfl) 25 (.tmp 4) (.tmp 77) (by rfl) (w.heap.size + 2) zL (memL 1 3 1 0 0 (-1) 13 0 nil 0 nil nil) (by rfl) (by rfl) s11.1.1.2.2.1 (memOk _ _ _ _ _ _ _ _ _ _ _ _ _ _ _ _ _ _) wideMem ?_
          rintro W12 hB12 hO12
          have s12 := s11.store hB12 hO12
          refine hK _ _ ?_; clear hK K
          refine wpAny_ready (rs := [4]) (by kernel_rfl) (by simp) ?_
          refine AllReady.cons rfl (fun K hK => ?_) ?_
          · skip
            go_simp
            refine hK _ _ ?_; clear hK K
            refine wpAny_done (by kernel_rfl) ?_ _
            go_wp2_with fail
            have r0 := s12.1.1.2.2.1.cell 0 _ rfl
            have r1 := s12.1.1.2.2.1.cell 1 _ rfl
            have r2 := s12.1.1.2.2.1.cell 2 _ rfl
            have r3 := s12.1.1.2.2.1.cell 3 _ rfl
            have r4 := s12.1.1.2.2.1.cell 4 _ rfl
            have r5 := s12.1.1.2.2.1.cell 5 _ rfl
            have r6 := s12.1.1.2.2.1.cell 6 _ rfl
            have r7 := s12.1.1.2.2.1.cell 7 _ rfl
            have r8 := s12.1.1.2.2.1.cell 8 _ rfl
            have r9 := s12.1.1.2.2.1.cell 9 _ rfl
            have r10 := s12.1.1.2.2.1.cell 10 _ rfl
            have r11 := s12.1.1.2.2.1.cell 11 _ rfl
            refine bodyPost_ret (v := .tuple #[mem 1 3 1 0 0 (-1) 13 0 nil 0 nil nil, .slice (some ⟨_, 0, none⟩) 1 1]) (by simp [results, Try.results19, go_sem, r0, r1, r2, r3, r4, r5, r6, r7, r8, r9, r10, r11]) rfl ⟨_, rfl, s12.out⟩
          exact AllReady.nil
        exact AllReady.nil
      exact AllReady.nil
    exact AllReady.nil
  exact AllReady.nil
end Go.Proofs.Ytfpgklhbghahoaa
/- Election: the vote of the law's example to a second candidate: not granted. -/
namespace Go.Proofs.Ytfpgklhbghahoaa
open Go.ChangeShapes Go.WideShapes Go.ChangeAt Go.RowKit Go.Deep
set_option linter.unusedVariables false
set_option linter.unusedSimpArgs false
set_option maxRecDepth 100000 in
set_option maxHeartbeats 2000000 in
theorem vote_ex2 (w : World) : Calls Try.prog 19 #[mem 1 3 1 0 0 (-1) 13 0 nil 0 nil nil, msgV 2 1 1 1 false] w (VoteOut (mem 1 3 1 0 0 (-1) 13 0 nil 0 nil nil) 2 false w) := by
  go_enter Try.func19, Try.ntmps19
  go_wp2_with fail
  have HM0 := Lib.hid (VV.start w (memL 1 3 1 0 0 (-1) 13 0 nil 0 nil nil) (msgL 2 1 1 1 false) 25 35 rfl rfl)
  refine (copyMember_nil _ _ _ _ _ _ _ _ _ _).mono ?_
  rintro e w1 ⟨rfl, hb1⟩
  have HM1 := Lib.hid (HM0.out.keep hb1)
  clear hb1 HM0
  have hA1 := HM1.out.1
  go_wp2_with (with_reducible refine wpList_box_store 25 2 (.tmp 11) w.heap.size _ (memL 1 3 1 0 0 (-1) 13 0 nil 0 nil nil) _ _ _ _ _ _ ?_ ?_ hA1 (memOk _ _ _ _ _ _ _ _ _ _ _ _ _ _ _ _ _ _) wideMem ?_)
  · rfl
  · rfl
  rintro w2 hA hO
  have HM2 := Lib.hid (HM1.out.own hA hO)
  have k2 := HM2.out.2.1.cell 2 _ rfl
  have k3 := HM2.out.2.1.cell 3 _ rfl
  go_wp2_with (with_reducible refine wpList_box_load 25 2 w.heap.size (memL 1 3 1 0 0 (-1) 13 0 nil 0 nil nil) _ _ _ _ _ _ ?_ hA wideMem ?_)
  · rfl
  go_wp2_with fail
  refine (follow_any 1 3 1 0 0 (-1) 13 0 none 0 0 0 none 0 0 none 0 0 1 _ (by omega) (by omega)).mono ?_
  rintro e w3 ⟨he3, hb3⟩
  rw [if_pos (by decide)] at he3
  subst he3
  have HM3 := Lib.hid (HM2.out.keep hb3)
  clear hb3 hA hA1 hO HM1 HM2 k2 k3
  have hA1 := HM3.out.1
  go_wp2_with (with_reducible refine wpList_box_store 25 2 (.tmp 19) w.heap.size _ (memL 1 3 1 0 0 (-1) 13 0 nil 0 nil nil) _ _ _ _ _ _ ?_ ?_ hA1 (memOk _ _ _ _ _ _ _ _ _ _ _ _ _ _ _ _ _ _) wideMem ?_)
  · rfl
  · rfl
  rintro w4 hA hO
  have HM4 := Lib.hid (HM3.out.own hA hO)
  clear hA1 hO hA HM3
  have a8 := HM4.out.1.cell 8 _ rfl
  go_wp2_with fail
  refine (lastTerm_nil _).mono ?_
  rintro e w5 ⟨rfl, rfl⟩
  have a0 := HM4.out.1.cell 0 _ rfl
  have a2 := HM4.out.1.cell 2 _ rfl
  have a3 := HM4.out.1.cell 3 _ rfl
  have k0 := HM4.out.2.1.cell 0 _ rfl
  have k3 := HM4.out.2.1.cell 3 _ rfl
  have k4 := HM4.out.2.1.cell 4 _ rfl
  have k5 := HM4.out.2.1.cell 5 _ rfl
  have l0 := HM4.out.1.1.lt
  have l1 := HM4.out.2.1.1.lt
  have l2 := HM4.out.2.2.1.1.lt
  have n0 : w.heap.size ≠ w4.heap.size := by omega
  have n1 : w.heap.size + 1 ≠ w4.heap.size := by omega
  go_wp2_with fail
  refine wp_named (fun W => VV w (memL 1 3 1 0 0 (-1) 13 0 nil 0 nil nil) (msgL 2 1 1 1 false) zL W ∧ BoxN 9 W w4.heap.size (msgL 1 2 2 1 false) ∧ w4.heap.size < W.heap.size) ⟨HM4.out.keep ((Below.refl _ _).alloc (Nat.le_refl _) _), by simpa using BoxN.new w4 (msgL 1 2 2 1 false) 9 35 rfl, by simp⟩ ?_
  clear a0 a2 a3 k0 k3 k4 k5 a8 HM4
  rintro w8 ⟨hM8, hD8, hz8⟩
  have l9 := hM8.2.2.1.1.lt
  have hV := V1.drew (⟨hM8, hD8, by omega⟩ : V1 w (memL 1 3 1 0 0 (-1) 13 0 nil 0 nil nil) (msgL 2 1 1 1 false) (msgL 1 2 2 1 false) zL w4.heap.size w8)
  refine wp_region_any (by kernel_rfl) ?_
  try (change wpAny _ _ _ _ _ _ _ (World.drew _))
  refine wpAny_ready (rs := [0, 1]) (by kernel_rfl) (by simp) ?_
  refine AllReady.cons rfl (fun K hK => ?_) ?_
  · skip
    refine step_box_load (by rfl) 25 (.tmp 2) (by rfl) w.heap.size (memL 1 3 1 0 0 (-1) 13 0 nil 0 nil nil) (by rfl) hV.1.1 wideMem ?_
    refine hK _ _ ?_; clear hK K
    refine wpAny_ready (rs := [1, 3]) (by kernel_rfl) (by simp) ?_
    refine AllReady.cons rfl (fun K hK => ?_) ?_
    · skip
      refine step_box_load (by rfl) 35 (.tmp 9) (by rfl) w4.heap.size (msgL 1 2 2 1 false) (by rfl) hV.2.1 wideMsg ?_
      refine hK _ _ ?_; clear hK K
      refine wpAny_ready (rs := [2, 3]) (by kernel_rfl) (by simp) ?_
      refine AllReady.cons rfl (fun K hK => ?_) ?_
      · skip
        go_simp
        refine hK _ _ ?_; clear hK K
        refine wpAny_named (fun W => V2 w (memL 1 3 1 0 0 (-1) 13 0 nil 0 nil nil) (msgL 2 1 1 1 false) (msgL 1 2 2 1 false) zL w4.heap.size w8.heap.size W) (hV.build rfl _) ?_
        rintro W1 s1
        refine wpAny_ready (rs := [3]) (by kernel_rfl) (by simp) ?_
        refine AllReady.cons rfl (fun K hK => ?_) ?_
        · skip
          refine step_box_store (by rfl) 25 (.tmp 4) (.tmp 77) (by rfl) (w.heap.size + 2) zL (memL 1 3 1 0 0 (-1) 13 0 nil 0 nil nil) (by rfl) (by rfl) s1.1.1.2.2.1 (memOk _ _ _ _ _ _ _ _ _ _ _ _ _ _ _ _ _ _) wideMem ?_
          rintro W2 hB2 hO2
          have s2 := s1.store hB2 hO2
          refine hK _ _ ?_; clear hK K
          refine wpAny_ready (rs := [4]) (by kernel_rfl) (by simp) ?_
          refine AllReady.cons rfl (fun K hK => ?_) ?_
          · skip
            go_simp
            refine hK _ _ ?_; clear hK K
            refine wpAny_done (by kernel_rfl) ?_ _
            go_wp2_with fail
            have r0 := s2.1.1.2.2.1.cell 0 _ rfl
            have r1 := s2.1.1.2.2.1.cell 1 _ rfl
            have r2 := s2.1.1.2.2.1.cell 2 _ rfl
            have r3 := s2.1.1.2.2.1.cell 3 _ rfl
            have r4 := s2.1.1.2.2.1.cell 4 _ rfl
            have r5 := s2.1.1.2.2.1.cell 5 _ rfl
            have r6 := s2.1.1.2.2.1.cell 6 _ rfl
            have r7 := s2.1.1.2.2.1.cell 7 _ rfl
            have r8 := s2.1.1.2.2.1.cell 8 _ rfl
            have r9 := s2.1.1.2.2.1.cell 9 _ rfl
            have r10 := s2.1.1.2.2.1.cell 10 _ rfl
            have r11 := s2.1.1.2.2.1.cell 11 _ rfl
            refine bodyPost_ret (v := .tuple #[mem 1 3 1 0 0 (-1) 13 0 nil 0 nil nil, .slice (some ⟨_, 0, none⟩) 1 1]) (by simp [results, Try.results19, go_sem, r0, r1, r2, r3, r4, r5, r6, r7, r8, r9, r10, r11]) rfl ⟨_, rfl, s2.out⟩
          exact AllReady.nil
        exact AllReady.nil
      refine AllReady.cons rfl (fun K hK => ?_) ?_
      · skip
        refine step_box_store (by rfl) 25 (.tmp 4) (.tmp 77) (by rfl) (w.heap.size + 2) zL (memL 1 3 1 0 0 (-1) 13 0 nil 0 nil nil) (by rfl) (by rfl) hV.1.2.2.1 (memOk _ _ _ _ _ _ _ _ _ _ _ _ _ _ _ _ _ _) wideMem ?_
        rintro W3 hB3 hO3
        have s3 := hV.store hB3 hO3
        refine hK _ _ ?_; clear hK K
        refine wpAny_ready (rs := [2]) (by kernel_rfl) (by simp) ?_
        refine AllReady.cons rfl (fun K hK => ?_) ?_
        · skip
          go_simp
          refine hK _ _ ?_; clear hK K
          refine wpAny_named (fun W => V2 w (memL 1 3 1 0 0 (-1) 13 0 nil 0 nil nil) (msgL 2 1 1 1 false) (msgL 1 2 2 1 false) (memL 1 3 1 0 0 (-1) 13 0 nil 0 nil nil) w4.heap.size W3.heap.size W) (s3.build rfl _) ?_
          rintro W4 s4
          refine wpAny_ready (rs := [4]) (by kernel_rfl) (by simp) ?_
          refine AllReady.cons rfl (fun K hK => ?_) ?_
          · skip
            go_simp
            refine hK _ _ ?_; clear hK K
            refine wpAny_done (by kernel_rfl) ?_ _
            go_wp2_with fail
            have r0 := s4.1.1.2.2.1.cell 0 _ rfl
            have r1 := s4.1.1.2.2.1.cell 1 _ rfl
            have r2 := s4.1.1.2.2.1.cell 2 _ rfl
            have r3 := s4.1.1.2.2.1.cell 3 _ rfl
            have r4 := s4.1.1.2.2.1.cell 4 _ rfl
            have r5 := s4.1.1.2.2.1.cell 5 _ rfl
            have r6 := s4.1.1.2.2.1.cell 6 _ rfl
            have r7 := s4.1.1.2.2.1.cell 7 _ rfl
            have r8 := s4.1.1.2.2.1.cell 8 _ rfl
            have r9 := s4.1.1.2.2.1.cell 9 _ rfl
            have r10 := s4.1.1.2.2.1.cell 10 _ rfl
            have r11 := s4.1.1.2.2.1.cell 11 _ rfl
            refine bodyPost_ret (v := .tuple #[mem 1 3 1 0 0 (-1) 13 0 nil 0 nil nil, .slice (some ⟨_, 0, none⟩) 1 1]) (by simp [results, Try.results19, go_sem, r0, r1, r2, r3, r4, r5, r6, r7, r8, r9, r10, r11]) rfl ⟨_, rfl, s4.out⟩
          exact AllReady.nil
        exact AllReady.nil
      exact AllReady.nil
    refine AllReady.cons rfl (fun K hK => ?_) ?_
    · skip
      refine step_box_store (by rfl) 25 (.tmp 4) (.tmp 77) (by rfl) (w.heap.size + 2) zL (memL 1 3 1 0 0 (-1) 13 0 nil 0 nil nil) (by rfl) (by rfl) hV.1.2.2.1 (memOk _ _ _ _ _ _ _ _ _ _ _ _ _ _ _ _ _ _) wideMem ?_
      rintro W5 hB5 hO5
      have s5 := hV.store hB5 hO5
      refine hK _ _ ?_; clear hK K
      refine wpAny_ready (rs := [1]) (by kernel_rfl) (by simp) ?_
      refine AllReady.cons rfl (fun K hK => ?_) ?_
      · skip
        refine step_box_load (by rfl) 35 (.tmp 9) (by rfl) w4.heap.size (msgL 1 2 2 1 false) (by rfl) s5.2.1 wideMsg ?_
        refine hK _ _ ?_; clear hK K
        refine wpAny_ready (rs := [2]) (by kernel_rfl) (by simp) ?_
        refine AllReady.cons rfl (fun K hK => ?_) ?_
        · skip
          go_simp
          refine hK _ _ ?_; clear hK K
          refine wpAny_named (fun W => V2 w (memL 1 3 1 0 0 (-1) 13 0 nil 0 nil nil) (msgL 2 1 1 1 false) (msgL 1 2 2 1 false) (memL 1 3 1 0 0 (-1) 13 0 nil 0 nil nil) w4.heap.size W5.heap.size W) (s5.build rfl _) ?_
          rintro W6 s6
          refine wpAny_ready (rs := [4]) (by kernel_rfl) (by simp) ?_
          refine AllReady.cons rfl (fun K hK => ?_) ?_
          · skip
            go_simp
            refine hK _ _ ?_; clear hK K
            refine wpAny_done (by kernel_rfl) ?_ _
            go_wp2_with fail
            have r0 := s6.1.1.2.2.1.cell 0 _ rfl
            have r1 := s6.1.1.2.2.1.cell 1 _ rfl
            have r2 := s6.1.1.2.2.1.cell 2 _ rfl
            have r3 := s6.1.1.2.2.1.cell 3 _ rfl
            have r4 := s6.1.1.2.2.1.cell 4 _ rfl
            have r5 := s6.1.1.2.2.1.cell 5 _ rfl
            have r6 := s6.1.1.2.2.1.cell 6 _ rfl
            have r7 := s6.1.1.2.2.1.cell 7 _ rfl
            have r8 := s6.1.1.2.2.1.cell 8 _ rfl
            have r9 := s6.1.1.2.2.1.cell 9 _ rfl
            have r10 := s6.1.1.2.2.1.cell 10 _ rfl
            have r11 := s6.1.1.2.2.1.cell 11 _ rfl
            refine bodyPost_ret (v := .tuple #[mem 1 3 1 0 0 (-1) 13 0 nil 0 nil nil, .slice (some ⟨_, 0, none⟩) 1 1]) (by simp [results, Try.results19, go_sem, r0, r1, r2, r3, r4, r5, r6, r7, r8, r9, r10, r11]) rfl ⟨_, rfl, s6.out⟩
          exact AllReady.nil
        exact AllReady.nil
      exact AllReady.nil
    exact AllReady.nil
  refine AllReady.cons rfl (fun K hK => ?_) ?_
  · skip
    refine step_box_load (by rfl) 35 (.tmp 9) (by rfl) w4.heap.size (msgL 1 2 2 1 false) (by rfl) hV.2.1 wideMsg ?_
    refine hK _ _ ?_; clear hK K
    refine wpAny_ready (rs := [0, 2]) (by kernel_rfl) (by simp) ?_
    refine AllReady.cons rfl (fun K hK => ?_) ?_
    · skip
      refine step_box_load (by rfl) 25 (.tmp 2) (by rfl) w.heap.size (memL 1 3 1 0 0 (-1) 13 0 nil 0 nil nil) (by rfl) hV.1.1 wideMem ?_
      refine hK _ _ ?_; clear hK K
      refine wpAny_ready (rs := [2, 3]) (by kernel_rfl) (by simp) ?_
      refine AllReady.cons rfl (fun K hK => ?_) ?_
      · skip
        go_simp
        refine hK _ _ ?_; clear hK K
        refine wpAny_named (fun W => V2 w (memL 1 3 1 0 0 (-1) 13 0 nil 0 nil nil) (msgL 2 1 1 1 false) (msgL 1 2 2 1 false) zL w4.heap.size w8.heap.size W) (hV.build rfl _) ?_
        rintro W7 s7
        refine wpAny_ready (rs := [3]) (by kernel_rfl) (by simp) ?_
        refine AllReady.cons rfl (fun K hK => ?_) ?_
        · skip
          refine step_box_store (by rfl) 25 (.tmp 4) (.tmp 77) (by rfl) (w.heap.size + 2) zL (memL 1 3 1 0 0 (-1) 13 0 nil 0 nil nil) (by rfl) (by rfl) s7.1.1.2.2.1 (memOk _ _ _ _ _ _ _ _ _ _ _ _ _ _ _ _ _ _) wideMem ?_
          rintro W8 hB8 hO8
          have s8 := s7.store hB8 hO8
          refine hK _ _ ?_; clear hK K
          refine wpAny_ready (rs := [4]) (by kernel_rfl) (by simp) ?_
          refine AllReady.cons rfl (fun K hK => ?_) ?_
          · skip
            go_simp
            refine hK _ _ ?_; clear hK K
            refine wpAny_done (by kernel_rfl) ?_ _
            go_wp2_with fail
            have r0 := s8.1.1.2.2.1.cell 0 _ rfl
            have r1 := s8.1.1.2.2.1.cell 1 _ rfl
            have r2 := s8.1.1.2.2.1.cell 2 _ rfl
            have r3 := s8.1.1.2.2.1.cell 3 _ rfl
            have r4 := s8.1.1.2.2.1.cell 4 _ rfl
            have r5 := s8.1.1.2.2.1.cell 5 _ rfl
            have r6 := s8.1.1.2.2.1.cell 6 _ rfl
            have r7 := s8.1.1.2.2.1.cell 7 _ rfl
            have r8 := s8.1.1.2.2.1.cell 8 _ rfl
            have r9 := s8.1.1.2.2.1.cell 9 _ rfl
            have r10 := s8.1.1.2.2.1.cell 10 _ rfl
            have r11 := s8.1.1.2.2.1.cell 11 _ rfl
            refine bodyPost_ret (v := .tuple #[mem 1 3 1 0 0 (-1) 13 0 nil 0 nil nil, .slice (some ⟨_, 0, none⟩) 1 1]) (by simp [results, Try.results19, go_sem, r0, r1, r2, r3, r4, r5, r6, r7, r8, r9, r10, r11]) rfl ⟨_, rfl, s8.out⟩
          exact AllReady.nil
        exact AllReady.nil
      refine AllReady.cons rfl (fun K hK => ?_) ?_
      · skip
        refine step_box_store (by rfl) 25 (.tmp 4) (.tmp 77) (by rfl) (w.heap.size + 2) zL (memL 1 3 1 0 0 (-1) 13 0 nil 0 nil nil) (by rfl) (by rfl) hV.1.2.2.1 (memOk _ _ _ _ _ _ _ _ _ _ _ _ _ _ _ _ _ _) wideMem ?_
        rintro W9 hB9 hO9
        have s9 := hV.store hB9 hO9
        refine hK _ _ ?_; clear hK K
        refine wpAny_ready (rs := [2]) (by kernel_rfl) (by simp) ?_
        refine AllReady.cons rfl (fun K hK => ?_) ?_
        · skip
          go_simp
          refine hK _ _ ?_; clear hK K
          refine wpAny_named (fun W => V2 w (memL 1 3 1 0 0 (-1) 13 0 nil 0 nil nil) (msgL 2 1 1 1 false) (msgL 1 2 2 1 false) (memL 1 3 1 0 0 (-1) 13 0 nil 0 nil nil) w4.heap.size W9.heap.size W) (s9.build rfl _) ?_
          rintro W10 s10
          refine wpAny_ready (rs := [4]) (by kernel_rfl) (by simp) ?_
          refine AllReady.cons rfl (fun K hK => ?_) ?_
          · skip
            go_simp
            refine hK _ _ ?_; clear hK K
            refine wpAny_done (by kernel_rfl) ?_ _
            go_wp2_with fail
            have r0 := s10.1.1.2.2.1.cell 0 _ rfl
            have r1 := s10.1.1.2.2.1.cell 1 _ rfl
            have r2 := s10.1.1.2.2.1.cell 2 _ rfl
            have r3 := s10.1.1.2.2.1.cell 3 _ rfl
            have r4 := s10.1.1.2.2.1.cell 4 _ rfl
            have r5 := s10.1.1.2.2.1.cell 5 _ rfl
            have r6 := s10.1.1.2.2.1.cell 6 _ rfl
            have r7 := s10.1.1.2.2.1.cell 7 _ rfl
            have r8 := s10.1.1.2.2.1.cell 8 _ rfl
            have r9 := s10.1.1.2.2.1.cell 9 _ rfl
            have r10 := s10.1.1.2.2.1.cell 10 _ rfl
            have r11 := s10.1.1.2.2.1.cell 11 _ rfl
            refine bodyPost_ret (v := .tuple #[mem 1 3 1 0 0 (-1) 13 0 nil 0 nil nil, .slice (some ⟨_, 0, none⟩) 1 1]) (by simp [results, Try.results19, go_sem, r0, r1, r2, r3, r4, r5, r6, r7, r8, r9, r10, r11]) rfl ⟨_, rfl, s10.out⟩
          exact AllReady.nil
        exact AllReady.nil
      exact AllReady.nil
    refine AllReady.cons rfl (fun K hK => ?_) ?_
    · skip
      go_simp
      refine hK _ _ ?_; clear hK K
      refine wpAny_named (fun W => V2 w (memL 1 3 1 0 0 (-1) 13 0 nil 0 nil nil) (msgL 2 1 1 1 false) (msgL 1 2 2 1 false) zL w4.heap.size w8.heap.size W) (hV.build rfl _) ?_
      rintro W11 s11
      refine wpAny_ready (rs := [0]) (by kernel_rfl) (by simp) ?_
      refine AllReady.cons rfl (fun K hK => ?_) ?_
      · skip
        refine step_box_load (by rfl) 25 (.tmp 2) (by rfl) w.heap.size (memL 1 3 1 0 0 (-1) 13 0 nil 0 nil nil) (by rfl) s11.1.1.1 wideMem ?_
        refine hK _ _ ?_; clear hK K
        refine wpAny_ready (rs := [3]) (by kernel_rfl) (by simp) ?_
        refine AllReady.cons rfl (fun K hK => ?_) ?_
        · skip
          refine step_box_store (by rfl) 25 (.tmp 4) (.tmp 77) (by rfl) (w.heap.size + 2) zL (memL 1 3 1 0 0 (-1) 13 0 nil 0 nil nil) (by rfl) (by rfl) s11.1.1.2.2.1 (memOk _ _ _ _ _ _ _ _ _ _ _ _ _ _ _ _ _ _) wideMem ?_
          rintro W12 hB12 hO12
          have s12 := s11.store hB12 hO12
          refine hK _ _ ?_; clear hK K
          refine wpAny_ready (rs := [4]) (by kernel_rfl) (by simp) ?_
          refine AllReady.cons rfl (fun K hK => ?_) ?_
          · skip
            go_simp
            refine hK _ _ ?_; clear hK K
            refine wpAny_done (by kernel_rfl) ?_ _
            go_wp2_with fail
            have r0 := s12.1.1.2.2.1.cell 0 _ rfl
            have r1 := s12.1.1.2.2.1.cell 1 _ rfl
            have r2 := s12.1.1.2.2.1.cell 2 _ rfl
            have r3 := s12.1.1.2.2.1.cell 3 _ rfl
            have r4 := s12.1.1.2.2.1.cell 4 _ rfl
            have r5 := s12.1.1.2.2.1.cell 5 _ rfl
            have r6 := s12.1.1.2.2.1.cell 6 _ rfl
            have r7 := s12.1.1.2.2.1.cell 7 _ rfl
            have r8 := s12.1.1.2.2.1.cell 8 _ rfl
            have r9 := s12.1.1.2.2.1.cell 9 _ rfl
            have r10 := s12.1.1.2.2.1.cell 10 _ rfl
            have r11 := s12.1.1.2.2.1.cell 11 _ rfl
            refine bodyPost_ret (v := .tuple #[mem 1 3 1 0 0 (-1) 13 0 nil 0 nil nil, .slice (some ⟨_, 0, none⟩) 1 1]) (by simp [results, Try.results19, go_sem, r0, r1, r2, r3, r4, r5, r6, r7, r8, r9, r10, r11]) rfl ⟨_, rfl, s12.out⟩
          exact AllReady.nil
        exact AllReady.nil
      exact AllReady.nil
    exact AllReady.nil
  exact AllReady.nil
end Go.Proofs.Ytfpgklhbghahoaa
/- Election: the example's candidate wins. -/
namespace Go.Proofs.Ytfpgklhbghahoaa
open Go.ChangeShapes Go.WideShapes Go.ChangeAt Go.RowKit Go.Deep
set_option linter.unusedVariables false
set_option linter.unusedSimpArgs false
/-- a member's cells but for the two slices, which hold three zeros each -/
def WinOut (w : World) (e : Ending) (w' : World) : Prop := ∃ g h, e = .returned (mem 1 3 1 1 2 1 1 3 nil 0 (.slice (some ⟨g, 0, none⟩) 3 3) (.slice (some ⟨h, 0, none⟩) 3 3)) ∧ w'.rangeAt g 0 [.int .i64 0, .int .i64 0, .int .i64 0] ∧ w'.rangeAt h 0 [.int .i64 0, .int .i64 0, .int .i64 0] ∧ g < w'.heap.size ∧ h < w'.heap.size ∧ w.heap.size ≤ g ∧ w.heap.size ≤ h ∧ Below w.heap.size w w'
abbrev z3 : List Value := [.int .i64 0, .int .i64 0, .int .i64 0]
theorem make3 (w : World) : ∃ W1 : World, (Instr.makeSlice 23 (.int .i64 3) (.int .i64 3)).run Try.prog w = .ok (.slice (some ⟨w.heap.size, 0, none⟩) 3 3) W1 ∧ BoxN 3 W1 w.heap.size z3 ∧ Below w.heap.size w W1 := by
  obtain ⟨i0, hi, hz0, hz1, hz2⟩ := info_parts info3
  have hr := run_make (P := Try.prog) w 23 3 i0 (.int .i64 0) (by kernel_rfl) hi hz0 .i64 .i64 3 3 (by omega) (by omega) (by rw [hz2]; decide) (by omega)
  have hmc : madeCells (Value.int .i64 0).cells 3 = z3.toArray := Array.ext' (toList_madeCells_one _ _)
  simp only [hz1] at hr
  refine ⟨_, hr, ?_, (Below.refl _ _).alloc (Nat.le_refl _) _⟩
  have h := BoxN.new w z3 3 23 rfl
  refine ⟨⟨fun j v hv => ?_, fun o => by simp [go_sem], by simp⟩, rfl⟩
  have hmc' := hmc
  simp only [Value.cells] at hmc'
  rw [Nat.zero_add, World.cell?_alloc_new]
  first | (rw [hmc]; simpa using hv) | (simp [hmc, hmc']; simpa using hv)
theorem wpList_val {P : Program} {ops : Array Oper} {rest : List Oper} {o : Oper} {a : Act} {w w' : World} {Q : Exit → Act → World → Prop} {v : Value} (hg : o.guard = none)
    (hr : (execOp a.eval o).run P w = .ok (.value v) w') (h : wpList P ops Q rest (a.put o.dst v) w') : wpList P ops Q (o :: rest) a w :=
  wpList_plain hg fun K hK => by
    unfold Oper.wp
    rw [hr]
    exact hK _ _ h
theorem wpList_make3 {ops : Array Oper} {rest : List Oper} {Q : Exit → Act → World → Prop} (x : Nat) (d : Option Nat) (pos : String) (af) (a : Act) (w : World) (hx : a.eval (.tmp x) = .int .i64 3)
    (h : ∀ w', BoxN 3 w' w.heap.size z3 → Below w.heap.size w w' → wpList Try.prog ops Q rest (a.put d (.slice (some ⟨w.heap.size, 0, none⟩) 3 3)) w') :
    wpList Try.prog ops Q ({ dst := d, op := Op.makeSlice 23 (Operand.tmp x) (Operand.tmp x), type := 23, pos := pos, after := af, guard := none } :: rest) a w := by
  obtain ⟨W1, hr, h1, h2⟩ := make3 w
  refine wpList_val rfl ?_ (h W1 h1 h2)
  simp [execOp, hx, hr]
/-- the member that won, and its two slices of zeros -/
def WW (w : World) (h : Nat) (W : World) : Prop := MM w (memL 1 3 1 1 2 1 1 3 nil 0 (.slice (some ⟨w.heap.size + 2, 0, none⟩) 3 3) (.slice (some ⟨h, 0, none⟩) 3 3)) zL W ∧ BoxN 3 W (w.heap.size + 2) z3 ∧ BoxN 3 W h z3 ∧ w.heap.size + 2 < h
theorem z3_set (j : Nat) (hj : j < 3) : z3.set j (.int .i64 0) = z3 := by
  have : j = 0 ∨ j = 1 ∨ j = 2 := by omega
  rcases this with rfl | rfl | rfl <;> rfl
theorem WW.next {w : World} {h : Nat} {W : World} (H : WW w h W) (j : Nat) (hj : j < 3) : WW w h (W.setCell ⟨w.heap.size + 2, j, none⟩ (.int .i64 0)) :=
  ⟨⟨H.1.1.setOther _ _ (by omega), H.1.2.1.setOther _ _ (by omega), H.1.2.2.setCell (show w.heap.size ≤ w.heap.size + 2 by omega) _⟩, by have := H.2.1.setCell j (.int .i64 0) hj; rwa [z3_set j hj] at this, H.2.2.1.setOther _ _ (by have := H.2.2.2; omega), H.2.2.2⟩
theorem WW.mat {w : World} {h : Nat} {W : World} (H : WW w h W) : WW w h (W.setCell ⟨h, 1, none⟩ (.int .i64 0)) :=
  ⟨⟨H.1.1.setOther _ _ (by have := H.2.2.2; omega), H.1.2.1.setOther _ _ (by have := H.2.2.2; omega), H.1.2.2.setCell (by have := H.2.2.2; show w.heap.size ≤ h; omega) _⟩, H.2.1.setOther _ _ (by have := H.2.2.2; omega), by have := H.2.2.1.setCell 1 (.int .i64 0) (by omega); rwa [z3_set 1 (by omega)] at this, H.2.2.2⟩
set_option maxRecDepth 100000 in
set_option maxHeartbeats 800000 in
theorem win_ex (w : World) : Calls Try.prog 43 #[mem 1 3 1 1 1 (-1) 13 3 nil 0 nil nil] w (WinOut w) := by
  go_enter Try.func43, Try.ntmps43
  go_wp2_with (with_reducible refine wpList_make3 10 _ _ _ _ _ ?_ ?_)
  · rfl
  rintro w1 hN hb1
  have HM0 := Lib.hid (MM.start w (memL 1 3 1 1 2 1 1 3 nil 0 nil nil) 25 rfl)
  have HM1 := Lib.hid (HM0.out.keep hb1)
  have hG : BoxN 3 w1 (w.heap.size + 2) z3 := by simpa using hN
  have lg := hG.1.lt
  have a1 := HM1.out.1.cell 1 _ rfl
  have a10 := HM1.out.1.cell 10 _ rfl
  have a11 := HM1.out.1.cell 11 _ rfl
  have f10 := HM1.out.1.1.free 10
  clear HM0 hN hb1
  go_wp2_with (with_reducible refine wpList_make3 14 _ _ _ _ _ ?_ ?_)
  · rfl
  rintro w2 hN2 hb2
  have HM2 := Lib.hid ((HM1.out.set 10 (.slice (some ⟨w.heap.size + 2, 0, none⟩) 3 3) (by omega)).keep hb2)
  have hG2 := (hG.setOther 10 (.slice (some ⟨w.heap.size + 2, 0, none⟩) 3 3) (by omega : w.heap.size + 2 ≠ w.heap.size)).keep hb2
  have hH2 : BoxN 3 w2 w1.heap.size z3 := by simpa using hN2
  clear HM1 hG a1 a10 a11 f10 hN2 hb2
  have b10 := HM2.out.1.cell 10 _ rfl
  have b11 := HM2.out.1.cell 11 _ rfl
  have f11 := HM2.out.1.1.free 11
  go_wp2_with fail
  refine wp_named (fun W => WW w w1.heap.size W) ⟨(HM2.out.set 11 (.slice (some ⟨w1.heap.size, 0, none⟩) 3 3) (by omega)), hG2.setOther 11 _ (by omega), hH2.setOther 11 _ (by omega), lg⟩ ?_
  clear HM2 hG2 hH2 b10 b11 f11
  rintro w3 hW3
  go_loopw [20] (fun t W => ∃ k : Nat, k ≤ 3 ∧ t = .int .i64 k ∧ WW w w1.heap.size W) (fun t _ => 3 - (intOf t).toNat)
  case atStart => exact ⟨0, by omega, rfl, hW3⟩
  case round =>
    clear hW3
    obtain ⟨k, hk, rfl, hW⟩ := hrel
    have HW := Lib.hid hW
    have a8 := hW.1.1.cell 8 _ rfl
    have a10 := hW.1.1.cell 10 _ rfl
    have a11 := hW.1.1.cell 11 _ rfl
    have a0 := hW.1.1.cell 0 _ rfl
    have g0 := hW.2.1.cell 0 _ rfl
    have g1 := hW.2.1.cell 1 _ rfl
    have g2 := hW.2.1.cell 2 _ rfl
    have p0 := hW.2.1.1.free 0
    have p1 := hW.2.1.1.free 1
    have p2 := hW.2.1.1.free 2
    have h0 := hW.2.2.1.cell 1 _ rfl
    have q1 := hW.2.2.1.1.free 1
    clear hW
    have hk4 : k = 0 ∨ k = 1 ∨ k = 2 ∨ k = 3 := by omega
    rcases hk4 with rfl | rfl | rfl | rfl
    · go_wp2_with fail
      exact ⟨⟨1, by omega, rfl, HW.out.next 0 (by omega)⟩, by decide⟩
    · go_wp2_with fail
      exact ⟨⟨2, by omega, rfl, HW.out.next 1 (by omega)⟩, by decide⟩
    · go_wp2_with fail
      exact ⟨⟨3, by omega, rfl, HW.out.next 2 (by omega)⟩, by decide⟩
    · have HE := Lib.hid HW.out.mat
      have hA := HE.out.1.1
      have hR := HE.out.1.2.1
      go_wp2_with (first
        | (with_reducible refine wpList_box_load 25 1 w.heap.size (memL 1 3 1 1 2 1 1 3 nil 0 (.slice (some ⟨w.heap.size + 2, 0, none⟩) 3 3) (.slice (some ⟨w1.heap.size, 0, none⟩) 3 3)) _ _ _ _ _ _ ?_ hA wideMem ?_)
        | (with_reducible refine wpList_box_store 25 2 (.tmp 39) (w.heap.size + 1) zL (memL 1 3 1 1 2 1 1 3 nil 0 (.slice (some ⟨w.heap.size + 2, 0, none⟩) 3 3) (.slice (some ⟨w1.heap.size, 0, none⟩) 3 3)) _ _ _ _ _ _ ?_ ?_ hR (memOk _ _ _ _ _ _ _ _ _ _ _ _ _ _ _ _ _ _) wideMem ?_))
      · rfl
      · rfl
      · rfl
      rintro w4 hB hO
      have r0 := hB.cell 0 _ rfl
      have r1 := hB.cell 1 _ rfl
      have r2 := hB.cell 2 _ rfl
      have r3 := hB.cell 3 _ rfl
      have r4 := hB.cell 4 _ rfl
      have r5 := hB.cell 5 _ rfl
      have r6 := hB.cell 6 _ rfl
      have r7 := hB.cell 7 _ rfl
      have r8 := hB.cell 8 _ rfl
      have r9 := hB.cell 9 _ rfl
      have r10 := hB.cell 10 _ rfl
      have r11 := hB.cell 11 _ rfl
      go_wp2_with fail
      have hN := HE.out.2.1.other hO (by omega)
      have hM := HE.out.2.2.1.other hO (by have := HE.out.2.2.2; omega)
      exact bodyPost_ret (v := mem 1 3 1 1 2 1 1 3 nil 0 (.slice (some ⟨w.heap.size + 2, 0, none⟩) 3 3) (.slice (some ⟨w1.heap.size, 0, none⟩) 3 3)) (by simp [results, Try.results43, go_sem, r0, r1, r2, r3, r4, r5, r6, r7, r8, r9, r10, r11]) rfl ⟨_, _, rfl, hN.1.rng, hM.1.rng, hN.1.lt, hM.1.lt, by omega, by have := HE.out.2.2.2; omega, HE.out.1.2.2.trans (hO.below _ (by omega))⟩
end Go.Proofs.Ytfpgklhbghahoaa
/- Election: the number of bits of 3. -/
namespace Go.Proofs.Ytfpgklhbghahoaa
open Go.ChangeShapes Go.WideShapes Go.ChangeAt Go.RowKit Go.Deep
set_option linter.unusedVariables false
set_option linter.unusedSimpArgs false
set_option maxRecDepth 100000 in
theorem ones3a (w : World) : Calls Try.prog 51 #[.int .u64 3] w fun e w' => e = .returned (.int .i64 2) ∧ w = w' := by
  go_enter Try.func51, Try.ntmps51
  go_wp2_with fail
  go_ret
  exact ⟨by kernel_rfl, rfl⟩
set_option maxRecDepth 100000 in
theorem ones3 (w : World) : Calls Try.prog 42 #[.int .u64 3] w fun e w' => e = .returned (.int .i64 2) ∧ w = w' := by
  go_enter Try.func42, Try.ntmps42
  go_wp2_with fail
  refine (ones3a _).mono ?_
  rintro e w1 ⟨rfl, rfl⟩
  go_wp2_with fail
  go_ret
  exact ⟨rfl, rfl⟩
end Go.Proofs.Ytfpgklhbghahoaa
/- Election: the vote that the example's candidate is given. -/
namespace Go.Proofs.Ytfpgklhbghahoaa
open Go.ChangeShapes Go.WideShapes Go.ChangeAt Go.RowKit Go.Deep
set_option linter.unusedVariables false
set_option linter.unusedSimpArgs false
/-- a whole struct is loaded from its box, by an operation with a guard that holds -/
theorem wpList_box_load_g {P : Program} {ops : Array Oper} {rest : List Oper} {Q : Exit → Act → World → Prop} {n : Nat} (ty : TypeId) (x : Nat) (b : Nat) (cs : List Value) (d : Option Nat) (t : TypeId) (pos : String) (af) (g) (a : Act) (w : World)
    (hx : a.eval (.tmp x) = .pointer (some ⟨b, 0, none⟩)) (hB : BoxN n w b cs) (hT : Wide P ty n)
    (hg : Region.wanted { dst := d, op := Op.load ty (Operand.tmp x), type := t, pos := pos, after := af, guard := g } (yielded ops a.tmps) = true)
    (h : wpList P ops Q rest (a.put d (.agg cs.toArray)) w) :
    wpList P ops Q ({ dst := d, op := Op.load ty (Operand.tmp x), type := t, pos := pos, after := af, guard := g } :: rest) a w := by
  obtain ⟨h1, td, h2, h3⟩ := hT
  refine wpList_step fun K hK => ?_
  rw [if_pos hg]
  exact wp_load_mid ty (.tmp x) rfl b 0 hx cs td hB.1.rng h2 h3 (by rw [h1, hB.2]) (hK _ _ h)
theorem VV.drew {w : World} {cs ms rs : List Value} {W : World} (h : VV w cs ms rs W) : VV w cs ms rs W.drew := ⟨h.1.drew, h.2.1.drew, h.2.2.1.drew, h.2.2.2.drew⟩
theorem VV.drewN {w : World} {cs ms rs : List Value} {W : World} (h : VV w cs ms rs W) (n : Nat) : VV w cs ms rs (W.drewN n) := ⟨⟨h.1.1.drewN n, h.1.2⟩, ⟨h.2.1.1.drewN n, h.2.1.2⟩, ⟨h.2.2.1.1.drewN n, h.2.2.1.2⟩, ⟨h.2.2.2.os, h.2.2.2.tape, h.2.2.2.output, h.2.2.2.size, h.2.2.2.block⟩⟩
theorem rangeAt.other {W W' : World} {b c : Nat} {cs : List Value} (h : W.rangeAt b 0 cs) (ho : Only W W' c) (hne : b ≠ c) : W'.rangeAt b 0 cs := fun j v hv => (World.cell?_of_block (a := ⟨b, 0 + j, none⟩) (ho.heap b hne)).trans (h j v hv)
set_option maxRecDepth 100000 in
set_option maxHeartbeats 2000000 in
theorem voted_ex (w : World) : Calls Try.prog 22 #[mem 1 3 1 1 1 (-1) 13 2 nil 0 nil nil, msgV 0 1 2 1 true] w (WinOut w) := by
  go_enter Try.func22, Try.ntmps22
  go_wp2_with fail
  have HM0 := Lib.hid (VV.start w (memL 1 3 1 1 1 (-1) 13 2 nil 0 nil nil) (msgL 0 1 2 1 true) 25 35 rfl rfl)
  refine (copyMember_nil _ _ _ _ _ _ _ _ _ _).mono ?_
  rintro e w1 ⟨rfl, hb1⟩
  have HM1 := Lib.hid (HM0.out.keep hb1)
  clear hb1 HM0
  have hA1 := HM1.out.1
  go_wp2_with (with_reducible refine wpList_box_store 25 2 (.tmp 6) w.heap.size _ (memL 1 3 1 1 1 (-1) 13 2 nil 0 nil nil) _ _ _ _ _ _ ?_ ?_ hA1 (memOk _ _ _ _ _ _ _ _ _ _ _ _ _ _ _ _ _ _) wideMem ?_)
  · rfl
  · rfl
  rintro w2 hA hO
  have HM2 := Lib.hid (HM1.out.own hA hO)
  clear HM1 hA1 hO
  have k0 := HM2.out.2.1.cell 0 _ rfl
  have k2 := HM2.out.2.1.cell 2 _ rfl
  have k3 := HM2.out.2.1.cell 3 _ rfl
  have k8 := HM2.out.2.1.cell 8 _ rfl
  have a1 := HM2.out.1.cell 1 _ rfl
  have a2 := HM2.out.1.cell 2 _ rfl
  have a4 := HM2.out.1.cell 4 _ rfl
  have a7 := HM2.out.1.cell 7 _ rfl
  have f7 := HM2.out.1.1.free 7
  go_wp2_with (with_reducible refine wpList_box_load_g 25 2 w.heap.size (memL 1 3 1 1 1 (-1) 13 2 nil 0 nil nil) _ _ _ _ _ _ _ ?_ hA wideMem ?_ ?_)
  · rfl
  go_wp2_with fail
  refine (known_yes 1 3 1 1 1 (-1) 13 2 nil 0 nil nil _ (by omega) (by omega) (by omega) (by omega)).mono ?_
  rintro e w3 ⟨rfl, hb3⟩
  have HM3 := Lib.hid (HM2.out.keep hb3)
  clear hb3 hA HM2 k0 k2 k3 k8 a1 a2 a4 a7 f7
  have k0 := HM3.out.2.1.cell 0 _ rfl
  have a1 := HM3.out.1.cell 1 _ rfl
  have a7 := HM3.out.1.cell 7 _ rfl
  have f7 := HM3.out.1.1.free 7
  have hor : bits .or .i64 2 1 = 3 := by kernel_rfl
  go_wp2_with fail
  go_region
  all_goals go_wp2_with fail
  refine wp_named (fun W => VV w (memL 1 3 1 1 1 (-1) 13 3 nil 0 nil nil) (msgL 0 1 2 1 true) zL W) ((HM3.out.set 7 (.int .i64 3) (by omega)).drew) ?_
  clear hor HM3 k0 a1 a7 f7
  rintro w4 hM4
  have HM4 := Lib.hid hM4
  have a1 := hM4.1.cell 1 _ rfl
  have a7 := hM4.1.cell 7 _ rfl
  clear hM4
  go_quiet ((first
    | (go_at_call 42; exact Calls.quiet_of_same ((ones3 _).mono fun _ _ h => ⟨h.1, h.2.symm⟩))
    | (go_at_call 12; exact Calls.quiet_of_same ((maj_any 3 _).mono fun _ _ h => ⟨h.1, h.2.symm⟩))))
  have HM5 := Lib.hid (HM4.out.drewN nq)
  have hA := HM5.out.1
  have hR := HM5.out.2.2.1
  clear a1 a7 HM4
  go_wp2_with (with_reducible refine wpList_box_load 25 2 w.heap.size (memL 1 3 1 1 1 (-1) 13 3 nil 0 nil nil) _ _ _ _ _ _ ?_ hA wideMem ?_)
  · rfl
  go_wp2_with fail
  refine (win_ex _).mono ?_
  rintro e w6 ⟨g, h, rfl, hg, hh, lg, lh, gg, gh, hb6⟩
  have HM6 := Lib.hid (HM5.out.keep hb6)
  have HG := Lib.hid (And.intro hg (And.intro hh (And.intro lg lh)))
  have hlt := hR.1.lt
  have HNE : Hid (w.heap.size + 2 < g ∧ w.heap.size + 2 < h) := Lib.hid ⟨by omega, by omega⟩
  clear hlt gg gh
  have hR6 := HM6.out.2.2.1
  clear hA hR hg hh lg lh hb6 HM5
  go_wp2_with (with_reducible refine wpList_box_store 25 4 (.tmp 69) (w.heap.size + 2) zL (memL 1 3 1 1 2 1 1 3 nil 0 (.slice (some ⟨g, 0, none⟩) 3 3) (.slice (some ⟨h, 0, none⟩) 3 3)) _ _ _ _ _ _ ?_ ?_ hR6 (memOk _ _ _ _ _ _ _ _ _ _ _ _ _ _ _ _ _ _) wideMem ?_)
  · rfl
  · rfl
  rintro w7 hB hO
  have HM7 := Lib.hid (HM6.out.res hB hO)
  have r0 := hB.cell 0 _ rfl
  have r1 := hB.cell 1 _ rfl
  have r2 := hB.cell 2 _ rfl
  have r3 := hB.cell 3 _ rfl
  have r4 := hB.cell 4 _ rfl
  have r5 := hB.cell 5 _ rfl
  have r6 := hB.cell 6 _ rfl
  have r7 := hB.cell 7 _ rfl
  have r8 := hB.cell 8 _ rfl
  have r9 := hB.cell 9 _ rfl
  have r10 := hB.cell 10 _ rfl
  have r11 := hB.cell 11 _ rfl
  go_wp2_with fail
  refine bodyPost_ret (v := mem 1 3 1 1 2 1 1 3 nil 0 (.slice (some ⟨g, 0, none⟩) 3 3) (.slice (some ⟨h, 0, none⟩) 3 3)) (by simp [results, Try.results22, go_sem, r0, r1, r2, r3, r4, r5, r6, r7, r8, r9, r10, r11]) rfl ⟨_, _, rfl, rangeAt.other HG.out.1 hO (by have := HNE.out; omega), rangeAt.other HG.out.2.1 hO (by have := HNE.out; omega), by rw [hO.size]; exact HG.out.2.2.1, by rw [hO.size]; exact HG.out.2.2.2, by have := HNE.out; omega, by have := HNE.out; omega, HM7.out.2.2.2⟩
end Go.Proofs.Ytfpgklhbghahoaa
/- Election: Valid and Step of the law's example. -/
namespace Go.Proofs.Ytfpgklhbghahoaa
open Go.ChangeShapes Go.WideShapes Go.ChangeAt Go.RowKit Go.Deep
set_option linter.unusedVariables false
set_option linter.unusedSimpArgs false
abbrev s3 (g : Nat) : Value := .slice (some ⟨g, 0, none⟩) 3 3
abbrev pV (g h : Nat) : Value := mem 1 3 1 1 2 1 1 3 nil 0 (s3 g) (s3 h)
abbrev pL (g h : Nat) : List Value := memL 1 3 1 1 2 1 1 3 nil 0 (s3 g) (s3 h)
set_option maxRecDepth 100000 in
set_option maxHeartbeats 400000 in
theorem places_ex (g h k : Nat) (w : World) (hk : w.rangeAt k 0 z3) (lk : k < w.heap.size) : Calls Try.prog 46 #[pV g h, s3 k] w fun e w' => e = .returned (.bool true) ∧ Below w.heap.size w w' := by
  have c0 : (w.alloc (.cells (pL g h).toArray 25)).cell? ⟨k, 0, none⟩ = some (.int .i64 0) := (World.cell?_alloc_old _ _ _ (Nat.ne_of_lt lk)).trans (hk 0 _ rfl)
  have c1 : (w.alloc (.cells (pL g h).toArray 25)).cell? ⟨k, 1, none⟩ = some (.int .i64 0) := (World.cell?_alloc_old _ _ _ (Nat.ne_of_lt lk)).trans (hk 1 _ rfl)
  have c2 : (w.alloc (.cells (pL g h).toArray 25)).cell? ⟨k, 2, none⟩ = some (.int .i64 0) := (World.cell?_alloc_old _ _ _ (Nat.ne_of_lt lk)).trans (hk 2 _ rfl)
  have hB : BoxN 12 (w.alloc (.cells (pL g h).toArray 25)) w.heap.size (pL g h) := BoxN.new w _ 12 _ rfl
  have hb : Below w.heap.size w (w.alloc (.cells (pL g h).toArray 25)) := (Below.refl _ _).alloc (Nat.le_refl _) _
  go_enter Try.func46, Try.ntmps46
  go_wp2_with fail
  refine wp_named (fun W => W.cell? ⟨k, 0, none⟩ = some (.int .i64 0) ∧ W.cell? ⟨k, 1, none⟩ = some (.int .i64 0) ∧ W.cell? ⟨k, 2, none⟩ = some (.int .i64 0) ∧ BoxN 12 W w.heap.size (pL g h) ∧ Below w.heap.size w W) ⟨c0, c1, c2, hB, hb⟩ ?_
  clear c0 c1 c2 hB hb
  rintro w1 ⟨c0, c1, c2, hB, hb⟩
  have a8 := hB.cell 8 _ rfl
  have a1 := hB.cell 1 _ rfl
  clear hB
  go_loop [9] (fun i => ∃ j : Nat, j ≤ 3 ∧ i = .int .i64 j) (fun i => 3 - (intOf i).toNat)
  case atStart => exact ⟨0, by omega, rfl⟩
  case round =>
    obtain ⟨j, hj, rfl⟩ := hrel
    have hj4 : j = 0 ∨ j = 1 ∨ j = 2 ∨ j = 3 := by omega
    rcases hj4 with rfl | rfl | rfl | rfl
    · go_wp2_with fail
      go_round
      case rel => exact ⟨1, by omega, rfl⟩
      case measure => simp [intOf]
    · go_wp2_with fail
      go_round
      case rel => exact ⟨2, by omega, rfl⟩
      case measure => simp [intOf]
    · go_wp2_with fail
      go_round
      case rel => exact ⟨3, by omega, rfl⟩
      case measure => simp [intOf]
    · go_wp2_with fail
      go_ret
      exact ⟨rfl, hb⟩
set_option maxRecDepth 100000 in
set_option maxHeartbeats 400000 in
theorem log_ex (g h : Nat) (w : World) : Calls Try.prog 31 #[pV g h] w fun e w' => e = .returned (.bool true) ∧ Below w.heap.size w w' := by
  go_enter Try.func31, Try.ntmps31
  go_wp2_with fail
  go_loop [27] (fun i => i = .int .i64 0) (fun i => 0)
  case atStart => rfl
  case round =>
    obtain rfl := hrel
    go_wp2_with fail
    go_ret
    exact ⟨rfl, (Below.refl _ _).alloc (Nat.le_refl _) _⟩
def VM (w : World) (cs : List Value) (W : World) : Prop := BoxN 12 W w.heap.size cs ∧ Below w.heap.size w W
theorem VM.keep {w W W' : World} {cs : List Value} (h : VM w cs W) (hb : Below W.heap.size W W') : VM w cs W' := ⟨h.1.keep hb, h.2.trans (hb.mono h.2.size)⟩
theorem VM.drewN {w W : World} {cs : List Value} (h : VM w cs W) (n : Nat) : VM w cs (W.drewN n) := ⟨⟨h.1.1.drewN n, h.1.2⟩, ⟨h.2.os, h.2.tape, h.2.output, h.2.size, h.2.block⟩⟩
theorem VM.start (w : World) (cs : List Value) (T : TypeId) (h : cs.length = 12) : VM w cs (w.alloc (.cells cs.toArray T)) := ⟨BoxN.new w _ 12 _ h, (Below.refl _ _).alloc (Nat.le_refl _) _⟩
theorem z3_keep {w W : World} {g : Nat} (h : w.rangeAt g 0 z3) (lg : g < w.heap.size) (hb : Below w.heap.size w W) : W.rangeAt g 0 z3 ∧ g < W.heap.size := ⟨fun j v hv => (hb.cell (p := ⟨g, 0 + j, none⟩) lg).trans (h j v hv), Nat.lt_of_lt_of_le lg hb.size⟩
theorem maj3 (w : World) : Calls Try.prog 12 #[.int .i64 3] w fun e w' => e = .returned (.int .i64 2) ∧ w = w' := maj_any 3 w
theorem maj4 (w : World) : Calls Try.prog 12 #[.int .i64 4] w fun e w' => e = .returned (.int .i64 3) ∧ w = w' := maj_any 4 w
set_option maxRecDepth 100000 in
set_option maxHeartbeats 800000 in
theorem role_ex (g h : Nat) (w : World) (hg : w.rangeAt g 0 z3) (lg : g < w.heap.size) (hh : w.rangeAt h 0 z3) (lh : h < w.heap.size) : Calls Try.prog 32 #[pV g h] w fun e w' => e = .returned (.bool true) ∧ Below w.heap.size w w' := by
  have hor : bits .and .i64 3 2 = 2 := by kernel_rfl
  have hB0 : BoxN 12 (w.alloc (.cells (pL g h).toArray 25)) w.heap.size (pL g h) := BoxN.new w _ 12 _ rfl
  have hb0 : Below w.heap.size w (w.alloc (.cells (pL g h).toArray 25)) := (Below.refl _ _).alloc (Nat.le_refl _) _
  have HG := Lib.hid (And.intro hg hh)
  have HL := Lib.hid (And.intro lg lh)
  clear hg hh lg lh
  go_enter Try.func32, Try.ntmps32
  go_wp2_with fail
  refine calls_named (fun W => BoxN 12 W w.heap.size (pL g h) ∧ Below w.heap.size w W) ⟨hB0, hb0⟩ ?_
  clear hB0 hb0
  rintro w1 ⟨hB, hb⟩
  have a0 := hB.cell 0 _ rfl
  have a1 := hB.cell 1 _ rfl
  have a2 := hB.cell 2 _ rfl
  have a3 := hB.cell 3 _ rfl
  have a4 := hB.cell 4 _ rfl
  have a5 := hB.cell 5 _ rfl
  have a7 := hB.cell 7 _ rfl
  have a10 := hB.cell 10 _ rfl
  have a11 := hB.cell 11 _ rfl
  refine (ones3 _).mono ?_
  rintro e w2 ⟨rfl, rfl⟩
  go_wp2_with fail
  go_quiet (fail)
  go_wp2_with fail
  refine (maj3 _).mono ?_
  rintro e w3 ⟨rfl, rfl⟩
  have HM := Lib.hid (VM.drewN (⟨hB, hb⟩ : VM w (pL g h) w1) nq)
  clear hB hb a0 a1 a2 a3 a4 a5 a7 a10 a11 hor
  have hA := HM.out.1
  have a10 := hA.cell 10 _ rfl
  go_wp2_with (with_reducible refine wpList_box_load_g 25 1 w.heap.size (pL g h) _ _ _ _ _ _ _ ?_ hA wideMem ?_ ?_)
  · rfl
  go_wp2_with fail
  refine (places_ex g h g _ (z3_keep HG.out.1 HL.out.1 HM.out.2).1 (z3_keep HG.out.1 HL.out.1 HM.out.2).2).mono ?_
  rintro e w5 ⟨rfl, hb5⟩
  have HM5 := Lib.hid (HM.out.keep hb5)
  clear hb5 hA a10 HM
  have hA := HM5.out.1
  have a11 := hA.cell 11 _ rfl
  go_wp2_with (with_reducible refine wpList_box_load_g 25 1 w.heap.size (pL g h) _ _ _ _ _ _ _ ?_ hA wideMem ?_ ?_)
  · rfl
  go_wp2_with fail
  refine (places_ex g h h _ (z3_keep HG.out.2 HL.out.2 HM5.out.2).1 (z3_keep HG.out.2 HL.out.2 HM5.out.2).2).mono ?_
  rintro e w6 ⟨rfl, hb6⟩
  have HM6 := Lib.hid (HM5.out.keep hb6)
  clear hb6 hA a11
  go_wp2_with fail
  go_ret
  exact ⟨rfl, HM6.out.2⟩
set_option maxRecDepth 100000 in
set_option maxHeartbeats 800000 in
theorem valid_ex (g h : Nat) (w : World) (hg : w.rangeAt g 0 z3) (lg : g < w.heap.size) (hh : w.rangeAt h 0 z3) (lh : h < w.heap.size) : Calls Try.prog 16 #[pV g h] w fun e w' => e = .returned (.bool true) ∧ Below w.heap.size w w' := by
  have HM0 := Lib.hid (VM.start w (pL g h) 25 rfl)
  have HG := Lib.hid (And.intro hg hh)
  have HL := Lib.hid (And.intro lg lh)
  clear hg hh lg lh
  go_enter Try.func16, Try.ntmps16
  go_wp2_with fail
  go_quiet (fail)
  have HM1 := Lib.hid (HM0.out.drewN nq)
  clear HM0
  have hA := HM1.out.1
  go_wp2_with (with_reducible refine wpList_box_load 25 1 w.heap.size (pL g h) _ _ _ _ _ _ ?_ hA wideMem ?_)
  · rfl
  go_wp2_with fail
  refine (log_ex g h _).mono ?_
  rintro e w2 ⟨rfl, hb2⟩
  have HM2 := Lib.hid (HM1.out.keep hb2)
  clear hb2 hA HM1
  have hA := HM2.out.1
  go_wp2_with (with_reducible refine wpList_box_load_g 25 1 w.heap.size (pL g h) _ _ _ _ _ _ _ ?_ hA wideMem ?_ ?_)
  · rfl
  go_wp2_with fail
  refine (role_ex g h _ (z3_keep HG.out.1 HL.out.1 HM2.out.2).1 (z3_keep HG.out.1 HL.out.1 HM2.out.2).2 (z3_keep HG.out.2 HL.out.2 HM2.out.2).1 (z3_keep HG.out.2 HL.out.2 HM2.out.2).2).mono ?_
  rintro e w3 ⟨rfl, hb3⟩
  have HM3 := Lib.hid (HM2.out.keep hb3)
  clear hb3 hA
  go_wp2_with fail
  go_ret
  exact ⟨rfl, HM3.out.2⟩
theorem copyInts_z3 (g : Nat) (w : World) (hg : w.rangeAt g 0 z3) : Calls Try.prog 49 #[s3 g] w fun e w' => (∃ a n c, e = .returned (.slice a n c)) ∧ Below w.heap.size w w' := by
  refine (copyInts_some g 0 3 [0, 0, 0] w (by decide) (fun j hj => ?_)).mono ?_
  · have := hg j (.int .i64 ([0, 0, 0][j])) (by match j, hj with | 0, _ => rfl | 1, _ => rfl | 2, _ => rfl)
    simpa using this
  · rintro e w' ⟨⟨v, rfl, ho⟩, hb⟩
    refine ⟨?_, hb⟩
    rcases ho.2 with ⟨rfl, _⟩ | ⟨g, cap, cur, rfl, _⟩
    · exact ⟨_, _, _, rfl⟩
    · exact ⟨_, _, _, rfl⟩
def CopyOut (w : World) (e : Ending) (w' : World) : Prop := ∃ a n c a2 n2 c2, e = .returned (mem 1 3 1 1 2 1 1 3 nil 0 (.slice a n c) (.slice a2 n2 c2)) ∧ Below w.heap.size w w'
set_option maxRecDepth 100000 in
set_option maxHeartbeats 800000 in
theorem copyMember_p (g h : Nat) (w : World) (hg : w.rangeAt g 0 z3) (lg : g < w.heap.size) (hh : w.rangeAt h 0 z3) (lh : h < w.heap.size) :
    Calls Try.prog 36 #[pV g h] w (CopyOut w) := by
  have HM0 := Lib.hid (MM.start w (pL g h) 25 rfl)
  have HG := Lib.hid (And.intro hg hh)
  have HL := Lib.hid (And.intro lg lh)
  clear hg hh lg lh
  go_enter Try.func36, Try.ntmps36
  go_wp2_with fail
  refine (copyAll_nil _ _).mono ?_
  rintro e w1 ⟨rfl, rfl⟩
  go_wp2_with fail
  refine (copyInts_z3 g _ (z3_keep HG.out.1 HL.out.1 HM0.out.2.2).1).mono ?_
  rintro e w2 ⟨⟨a, n, c, rfl⟩, hb2⟩
  have HM2 := Lib.hid (HM0.out.keep hb2)
  clear hb2 HM0
  have a10 := HM2.out.1.cell 10 _ rfl
  have a11 := HM2.out.1.cell 11 _ rfl
  have f10 := HM2.out.1.1.free 10
  go_wp2_with fail
  have HM3 := Lib.hid (HM2.out.set 10 (.slice a n c) (by omega))
  clear a10 a11 f10 HM2
  refine (copyInts_z3 h _ (z3_keep HG.out.2 HL.out.2 HM3.out.2.2).1).mono ?_
  rintro e w4 ⟨⟨a2, n2, c2, rfl⟩, hb4⟩
  have HM4 := Lib.hid (HM3.out.keep hb4)
  clear hb4 HM3
  have a11 := HM4.out.1.cell 11 _ rfl
  have f11 := HM4.out.1.1.free 11
  have HM5 := Lib.hid (HM4.out.set 11 (.slice a2 n2 c2) (by omega))
  have hA := HM5.out.1
  have hR := HM5.out.2.1
  go_wp2_with (first
    | (with_reducible refine wpList_box_load 25 1 w.heap.size (memL 1 3 1 1 2 1 1 3 nil 0 (.slice a n c) (.slice a2 n2 c2)) _ _ _ _ _ _ ?_ hA wideMem ?_)
    | (with_reducible refine wpList_box_store 25 2 (.tmp 15) (w.heap.size + 1) zL (memL 1 3 1 1 2 1 1 3 nil 0 (.slice a n c) (.slice a2 n2 c2)) _ _ _ _ _ _ ?_ ?_ hR (memOk _ _ _ _ _ _ _ _ _ _ _ _ _ _ _ _ _ _) wideMem ?_))
  · rfl
  · rfl
  · rfl
  rintro w6 hB hO
  have r0 := hB.cell 0 _ rfl
  have r1 := hB.cell 1 _ rfl
  have r2 := hB.cell 2 _ rfl
  have r3 := hB.cell 3 _ rfl
  have r4 := hB.cell 4 _ rfl
  have r5 := hB.cell 5 _ rfl
  have r6 := hB.cell 6 _ rfl
  have r7 := hB.cell 7 _ rfl
  have r8 := hB.cell 8 _ rfl
  have r9 := hB.cell 9 _ rfl
  have r10 := hB.cell 10 _ rfl
  have r11 := hB.cell 11 _ rfl
  go_wp2_with fail
  exact bodyPost_ret (v := mem 1 3 1 1 2 1 1 3 nil 0 (.slice a n c) (.slice a2 n2 c2)) (by simp [results, Try.results36, go_sem, r0, r1, r2, r3, r4, r5, r6, r7, r8, r9, r10, r11]) rfl ⟨a, n, c, a2, n2, c2, rfl, HM5.out.2.2.trans (hO.below _ (by omega))⟩
set_option maxRecDepth 100000 in
set_option maxHeartbeats 800000 in
theorem step_p (g h : Nat) (w : World) (hg : w.rangeAt g 0 z3) (lg : g < w.heap.size) (hh : w.rangeAt h 0 z3) (lh : h < w.heap.size) :
    Calls Try.prog 30 #[pV g h, .int .i64 2] w fun e w' => e = .returned (mem 1 3 2 (-1) 0 (-1) 13 0 nil 0 nil nil) ∧ Below w.heap.size w w' := by
  have HM0 := Lib.hid (MM.start w (pL g h) 25 rfl)
  have HG := Lib.hid (And.intro hg hh)
  have HL := Lib.hid (And.intro lg lh)
  clear hg hh lg lh
  go_enter Try.func30, Try.ntmps30
  go_wp2_with fail
  refine (copyMember_p g h _ (z3_keep HG.out.1 HL.out.1 HM0.out.2.2).1 (z3_keep HG.out.1 HL.out.1 HM0.out.2.2).2 (z3_keep HG.out.2 HL.out.2 HM0.out.2.2).1 (z3_keep HG.out.2 HL.out.2 HM0.out.2.2).2).mono ?_
  rintro e w1 ⟨a, n, c, a2, n2, c2, rfl, hb1⟩
  have HM1 := Lib.hid (HM0.out.keep hb1)
  clear hb1 HM0
  go_wp2_with fail
  refine (follow_any 1 3 1 1 2 1 1 3 none 0 0 0 a n c a2 n2 c2 2 _ (by omega) (by omega)).mono ?_
  rintro e w2 ⟨he, hb2⟩
  rw [if_neg (by decide), if_pos (by decide)] at he
  subst he
  have HM2 := Lib.hid (HM1.out.keep hb2)
  clear hb2 HM1
  have hR := HM2.out.2.1
  go_wp2_with (with_reducible refine wpList_box_store 25 4 (.tmp 8) (w.heap.size + 1) zL (memL 1 3 2 (-1) 0 (-1) 13 0 nil 0 nil nil) _ _ _ _ _ _ ?_ ?_ hR (memOk _ _ _ _ _ _ _ _ _ _ _ _ _ _ _ _ _ _) wideMem ?_)
  · rfl
  · rfl
  rintro w3 hB hO
  have r0 := hB.cell 0 _ rfl
  have r1 := hB.cell 1 _ rfl
  have r2 := hB.cell 2 _ rfl
  have r3 := hB.cell 3 _ rfl
  have r4 := hB.cell 4 _ rfl
  have r5 := hB.cell 5 _ rfl
  have r6 := hB.cell 6 _ rfl
  have r7 := hB.cell 7 _ rfl
  have r8 := hB.cell 8 _ rfl
  have r9 := hB.cell 9 _ rfl
  have r10 := hB.cell 10 _ rfl
  have r11 := hB.cell 11 _ rfl
  go_wp2_with fail
  exact bodyPost_ret (v := mem 1 3 2 (-1) 0 (-1) 13 0 nil 0 nil nil) (by simp [results, Try.results30, go_sem, r0, r1, r2, r3, r4, r5, r6, r7, r8, r9, r10, r11]) rfl ⟨rfl, HM2.out.2.2.trans (hO.below _ (by omega))⟩
set_option maxRecDepth 100000 in
set_option maxHeartbeats 800000 in
theorem step_c (w : World) : Calls Try.prog 30 #[mem 1 3 1 1 1 (-1) 13 2 nil 0 nil nil, .int .i64 1] w fun e w' => e = .returned (mem 1 3 1 1 1 (-1) 13 2 nil 0 nil nil) ∧ Below w.heap.size w w' := by
  have HM0 := Lib.hid (MM.start w (memL 1 3 1 1 1 (-1) 13 2 nil 0 nil nil) 25 rfl)
  go_enter Try.func30, Try.ntmps30
  go_wp2_with fail
  refine (copyMember_nil _ _ _ _ _ _ _ _ _ _).mono ?_
  rintro e w1 ⟨rfl, hb1⟩
  have HM1 := Lib.hid (HM0.out.keep hb1)
  clear hb1 HM0
  go_wp2_with fail
  refine (follow_any 1 3 1 1 1 (-1) 13 2 none 0 0 0 none 0 0 none 0 0 1 _ (by omega) (by omega)).mono ?_
  rintro e w2 ⟨he, hb2⟩
  rw [if_pos (by decide)] at he
  subst he
  have HM2 := Lib.hid (HM1.out.keep hb2)
  clear hb2 HM1
  have hR := HM2.out.2.1
  go_wp2_with (with_reducible refine wpList_box_store 25 4 (.tmp 8) (w.heap.size + 1) zL (memL 1 3 1 1 1 (-1) 13 2 nil 0 nil nil) _ _ _ _ _ _ ?_ ?_ hR (memOk _ _ _ _ _ _ _ _ _ _ _ _ _ _ _ _ _ _) wideMem ?_)
  · rfl
  · rfl
  rintro w3 hB hO
  have r0 := hB.cell 0 _ rfl
  have r1 := hB.cell 1 _ rfl
  have r2 := hB.cell 2 _ rfl
  have r3 := hB.cell 3 _ rfl
  have r4 := hB.cell 4 _ rfl
  have r5 := hB.cell 5 _ rfl
  have r6 := hB.cell 6 _ rfl
  have r7 := hB.cell 7 _ rfl
  have r8 := hB.cell 8 _ rfl
  have r9 := hB.cell 9 _ rfl
  have r10 := hB.cell 10 _ rfl
  have r11 := hB.cell 11 _ rfl
  go_wp2_with fail
  exact bodyPost_ret (v := mem 1 3 1 1 1 (-1) 13 2 nil 0 nil nil) (by simp [results, Try.results30, go_sem, r0, r1, r2, r3, r4, r5, r6, r7, r8, r9, r10, r11]) rfl ⟨rfl, HM2.out.2.2.trans (hO.below _ (by omega))⟩
end Go.Proofs.Ytfpgklhbghahoaa
