/- Election: the campaign of the law's example. -/
import Derived.Test.YtfpgklhbghahoaaEl2
import Derived.Test.YtfpgklhbghahoaaBox
import Derived.Deep.RegionHeld3
import Derived.Deep.AppendLies
namespace Go.Proofs.Ytfpgklhbghahoaa
open Go.ChangeShapes Go.WideShapes Go.ChangeAt Go.RowKit Go.Deep
set_option linter.unusedVariables false
set_option linter.unusedSimpArgs false
abbrev m0 : Value := mem 1 3 0 (-1) 0 (-1) 13 0 nil 0 nil nil
abbrev m1 : Value := mem 1 3 1 1 1 (-1) 13 2 nil 0 nil nil
abbrev memL (id sz tm vt rl ld ti vs : Int) (lg : Value) (cm : Int) (nx mt : Value) : List Value := [.int .i64 id, .int .i64 sz, .int .i64 tm, .int .i64 vt, .int .i64 rl, .int .i64 ld, .int .i64 ti, .int .i64 vs, lg, .int .i64 cm, nx, mt]
abbrev zL : List Value := memL 0 0 0 0 0 0 0 0 nil 0 nil nil
theorem wideMem : Wide Try.prog 25 12 := ⟨by kernel_rfl, _, Try.underlying25, rfl⟩
theorem memOk (id sz tm vt rl ld ti vs : Int) (ga : Option Addr) (gl gc : Nat) (cm : Int) (na : Option Addr) (nl nc : Nat) (ma : Option Addr) (ml mc : Nat) : Cells 12 (memL id sz tm vt rl ld ti vs (.slice ga gl gc) cm (.slice na nl nc) (.slice ma ml mc)) := ⟨rfl, rfl⟩
/-- a member's box and the result's -/
def MM (w : World) (cs rs : List Value) (W : World) : Prop := BoxN 12 W w.heap.size cs ∧ BoxN 12 W (w.heap.size + 1) rs ∧ Below w.heap.size w W
theorem MM.start (w : World) (cs : List Value) (T : TypeId) (h : cs.length = 12) : MM w cs zL ((w.alloc (.cells cs.toArray T)).alloc (.cells zL.toArray T)) :=
  ⟨(BoxN.new w cs 12 T h).alloc _, by simpa using BoxN.new (w.alloc (.cells cs.toArray T)) zL 12 T rfl, ((Below.refl _ _).alloc (Nat.le_refl _) _).alloc (by simp) _⟩
theorem MM.keep {w : World} {cs rs : List Value} {W W' : World} (h : MM w cs rs W) (hb : Below W.heap.size W W') : MM w cs rs W' := ⟨h.1.keep hb, h.2.1.keep hb, h.2.2.trans (hb.mono h.2.2.size)⟩
theorem MM.own {w : World} {cs rs vs : List Value} {W W' : World} (h : MM w cs rs W) (h1 : BoxN 12 W' w.heap.size vs) (h2 : Only W W' w.heap.size) : MM w vs rs W' := ⟨h1, h.2.1.other h2 (by omega), h.2.2.trans (h2.below _ (Nat.le_refl _))⟩
theorem MM.res {w : World} {cs rs vs : List Value} {W W' : World} (h : MM w cs rs W) (h1 : BoxN 12 W' (w.heap.size + 1) vs) (h2 : Only W W' (w.heap.size + 1)) : MM w cs vs W' := ⟨h.1.other h2 (by omega), h1, h.2.2.trans (h2.below _ (by omega))⟩
theorem MM.set {w : World} {cs rs : List Value} {W : World} (h : MM w cs rs W) (j : Nat) (v : Value) (hj : j < 12) : MM w (cs.set j v) rs (W.setCell ⟨w.heap.size, j, none⟩ v) := ⟨h.1.setCell j v hj, h.2.1.setOther j v (by omega), h.2.2.setCell (Nat.le_refl _) _⟩
theorem MM.far {w : World} {cs rs : List Value} {W W' : World} (h : MM w cs rs W) (hb : Below (w.heap.size + 2) W W') : MM w cs rs W' := by
  obtain ⟨h1, h2, h3⟩ := h
  exact ⟨h1.far hb (by omega), h2.far hb (by omega), h3.trans (hb.mono (by omega))⟩
theorem MM.drew {w : World} {cs rs : List Value} {W : World} (h : MM w cs rs W) : MM w cs rs W.drew := h.keep (Below.drew (Below.refl _ _))
/-- the cells of a request for a vote, by its receiver -/
def msgC (to : Int) : List Value := [.int .i64 1, .int .i64 to, .int .i64 1, .int .i64 1, .int .i64 0, .int .i64 0, .int .i64 0, .slice none 0 0, .bool false]
def tos : Nat → List Int
  | 0 => []
  | 1 => [0]
  | 2 => [0]
  | _ => [0, 2]
def zmsg : Value := .agg #[.int .i64 0, .int .i64 0, .int .i64 0, .int .i64 0, .int .i64 0, .int .i64 0, .int .i64 0, .slice none 0 0, .bool false]
theorem infoMsg : (Try.prog.info? 35).map (fun i => (i.zero, i.size, i.bytes)) = some (some zmsg, 9, 88) := by kernel_rfl
def msgs (l : List Int) : List Value := l.flatMap msgC
theorem msgs_length (l : List Int) : (msgs l).length = l.length * 9 := by
  induction l with
  | nil => rfl
  | cons a l ih =>
    simp only [msgs, List.flatMap_cons, List.length_append, List.length_cons] at *
    rw [ih, show (msgC a).length = 9 from rfl]; omega
theorem own_ge {w : World} {base : Nat} {e : TypeId} {size : Nat} {v : Value} {n : Nat} {xs : List Value} (h : w.ownsRow base e size v n xs) : ∀ k, v.ownBlock = some k → base ≤ k := by
  intro k hk
  rcases h.2 with ⟨rfl, _⟩ | ⟨g, cap, cur, rfl, hb, _⟩
  · simp [Value.ownBlock] at hk
  · simp [Value.ownBlock] at hk
    omega
theorem own_mono {w : World} {base base' : Nat} {e : TypeId} {size n : Nat} {v : Value} {xs : List Value} (h : w.ownsRow base e size v n xs) (hb : base' ≤ base) : w.ownsRow base' e size v n xs :=
  ⟨h.1, h.2.imp id fun ⟨g, cap, cur, h1, h2, h3⟩ => ⟨g, cap, cur, h1, Nat.le_trans hb h2, h3⟩⟩
theorem own_only {w w' : World} {base : Nat} {e : TypeId} {size g n cap b : Nat} {xs : List Value} (h : w.ownsRow base e size (.slice (some ⟨g, 0, none⟩) n cap) n xs) (ho : Only w w' b) (hne : b ≠ g) : w'.ownsRow base e size (.slice (some ⟨g, 0, none⟩) n cap) n xs :=
  h.kept (row := some b) ⟨(ho.below 0 (Nat.zero_le _)).os, (ho.below 0 (Nat.zero_le _)).tape, (ho.below 0 (Nat.zero_le _)).output, by rw [ho.size]; exact Nat.le_refl _, fun k _ hk => ho.heap k (fun e => hk (by rw [e]))⟩ (.inr (by simp [Value.ownBlock]; omega))
def CampOut (w : World) (e : Ending) (w' : World) : Prop := ∃ g cap, e = .returned (.tuple #[m1, .slice (some ⟨g, 0, none⟩) 2 cap]) ∧ w'.ownsRow w.heap.size 35 9 (.slice (some ⟨g, 0, none⟩) 2 cap) 2 (msgs [0, 2]) ∧ Below w.heap.size w w'
set_option maxRecDepth 100000 in
set_option maxHeartbeats 2000000 in
theorem campaign_ex (w : World) : Calls Try.prog 24 #[m0] w (CampOut w) := by
  obtain ⟨iM, hiM, hz0, hz1, hz2⟩ := info_parts infoMsg
  go_enter Try.func24, Try.ntmps24
  go_wp2_with fail
  have HM0 := Lib.hid (MM.start w (memL 1 3 0 (-1) 0 (-1) 13 0 nil 0 nil nil) 25 rfl)
  refine (copyMember_nil _ _ _ _ _ _ _ _ _ _).mono ?_
  rintro e w1 ⟨rfl, hb1⟩
  have HM1 := Lib.hid (HM0.out.keep hb1)
  clear hb1 HM0
  have hA1 := HM1.out.1
  go_wp2_with (with_reducible refine wpList_box_store 25 1 (.tmp 7) w.heap.size _ (memL 1 3 0 (-1) 0 (-1) 13 0 nil 0 nil nil) _ _ _ _ _ _ ?_ ?_ hA1 (memOk _ _ _ _ _ _ _ _ _ _ _ _ _ _ _ _ _ _) wideMem ?_)
  · rfl
  · rfl
  rintro w2 hA hO
  have HM2 := Lib.hid (HM1.out.own hA hO)
  go_wp2_with (with_reducible refine wpList_box_load 25 1 w.heap.size (memL 1 3 0 (-1) 0 (-1) 13 0 nil 0 nil nil) _ _ _ _ _ _ ?_ hA wideMem ?_)
  · rfl
  go_wp2_with fail
  refine (known_yes 1 3 0 (-1) 0 (-1) 13 0 nil 0 nil nil _ (by omega) (by omega) (by omega) (by omega)).mono ?_
  rintro e w3 ⟨rfl, hb3⟩
  have HM3 := Lib.hid (HM2.out.keep hb3)
  clear hb3 hA hA1 hO HM1 HM2
  have a2 := HM3.out.1.cell 2 _ rfl
  have hfr := HM3.out.1.1.free 2
  go_wp2_with fail
  refine wp_named (fun W => MM w (memL 1 3 1 (-1) 0 (-1) 13 0 nil 0 nil nil) zL W) (HM3.out.set 2 (.int .i64 1) (by omega)) ?_
  clear HM3 a2 hfr
  rintro w4 hM4
  have HM4 := Lib.hid hM4
  have a0 := hM4.1.cell 0 _ rfl
  have a3 := hM4.1.cell 3 _ rfl
  have a4 := hM4.1.cell 4 _ rfl
  have a5 := hM4.1.cell 5 _ rfl
  have a7 := hM4.1.cell 7 _ rfl
  have f3 := hM4.1.1.free 3
  have f4 := hM4.1.1.free 4
  have f5 := hM4.1.1.free 5
  have f7 := hM4.1.1.free 7
  clear hM4
  go_region
  go_wp2_with fail
  refine calls_named (fun W => MM w (memL 1 3 1 1 1 (-1) 13 2 nil 0 nil nil) zL W) (((((HM4.out.set 4 (.int .i64 1) (by omega)).set 3 (.int .i64 1) (by omega)).set 7 (.int .i64 2) (by omega)).set 5 (.int .i64 (-1)) (by omega)).drew) ?_
  clear HM4 a0 a3 a4 a5 a7 f3 f4 f5 f7
  rintro w5 hM5
  have HM5 := Lib.hid hM5
  clear hM5
  refine (usual_any 1 _ (by omega) (by omega)).mono ?_
  rintro e w6 ⟨rfl, rfl⟩
  have a6 := HM5.out.1.cell 6 _ rfl
  have a10 := HM5.out.1.cell 10 _ rfl
  have a11 := HM5.out.1.cell 11 _ rfl
  have a1 := HM5.out.1.cell 1 _ rfl
  have f6 := HM5.out.1.1.free 6
  have f10 := HM5.out.1.1.free 10
  have f11 := HM5.out.1.1.free 11
  go_wp2_with fail
  refine wp_named (fun W => MM w (memL 1 3 1 1 1 (-1) 13 2 nil 0 nil nil) zL W) (((HM5.out.set 6 (.int .i64 13) (by omega)).set 10 (.slice none 0 0) (by omega)).set 11 (.slice none 0 0) (by omega)) ?_
  clear HM5 a6 a10 a11 a1 f6 f10 f11
  rintro w7 hM7
  have HM7 := Lib.hid hM7
  clear hM7
  go_loopw [4, 38] (fun l t W => ∃ k : Nat, k ≤ 3 ∧ t = .int .i64 k ∧ W.ownsRow (w.heap.size + 2) 35 9 l (tos k).length (msgs (tos k)) ∧ MM w (memL 1 3 1 1 1 (-1) 13 2 nil 0 nil nil) zL W) (fun _ t _ => 3 - (intOf t).toNat)
  case atStart => exact ⟨0, by omega, rfl, World.ownsRow_nil _ _ _ _, HM7.out⟩
  case round =>
    clear HM7
    obtain ⟨k, hk, rfl, hO, hM⟩ := hrel
    have HO := Lib.hid hO
    have HM := Lib.hid hM
    have a0 := hM.1.cell 0 _ rfl
    have a2 := hM.1.cell 2 _ rfl
    have a8 := hM.1.cell 8 _ rfl
    have hBlt := hM.1.1.lt
    have hz2' : w.heap.size + 2 ≤ wr.heap.size := hM.2.1.1.lt
    clear hO hM
    have hk4 : k = 0 ∨ k = 1 ∨ k = 2 ∨ k = 3 := by omega
    rcases hk4 with rfl | rfl | rfl | rfl
    · go_wp2_with fail
      have hne : u4.ownBlock ≠ some w.heap.size := fun e => by have := own_ge HO.out _ e; omega
      have lb := hBlt
      go_region_held3 (fun W => W.cell? ⟨w.heap.size, 0, none⟩ = some (.int .i64 1) ∧ W.cell? ⟨w.heap.size, 2, none⟩ = some (.int .i64 1) ∧ W.cell? ⟨w.heap.size, 8, none⟩ = some nil)
        (first
          | go_keep
          | (go_split_ands
             refine ⟨?_, ?_, ?_⟩
             · (rw [hgrow.cell_far _ (by simp; omega) (Ne.symm hne)]; assumption)
             · (rw [hgrow.cell_far _ (by simp; omega) (Ne.symm hne)]; assumption)
             · (rw [hgrow.cell_far _ (by simp; omega) (Ne.symm hne)]; assumption)))
        (first
          | (go_at_call 38; refine (lastTerm_nil _).mono ?_; rintro e w' ⟨rfl, rfl⟩)
          | (refine step_append_lies _ (by rfl) _ _ _ (by rfl) (w.heap.size + 2) 35 iM zmsg 9 88 Try.underlying37 hiM hz0 hz1 hz2 rfl (by omega) _ 0 _ (by rfl) ((HO.out.alloc _).drew)
              ⟨wr.heap.size, 0, none⟩ 1 1 (msgC 0) (by rfl) (by rfl) (World.news_of_block (cs := (msgC 0).toArray) (t := 35) (fr := (0, 0)) (heap_alloc_new wr _)) (by simp [msgC, Value.oneCell'])
              (by omega) (by unfold maxLen; omega) (by omega) (by simp; omega) (wr.heap.size + 1) (by simp) ?_; intro gg cap w1 hown1 hgrow hat hlt))
      have HO1 : Hid (w1.ownsRow (w.heap.size + 2) 35 9 (.slice (some ⟨gg, 0, none⟩) (0 + 1) cap) (tos 1).length (msgs (tos 1))) := Lib.hid (by simpa [tos, msgs] using hown1)
      have hb1 : Below (w.heap.size + 2) wr w1 := ((((Below.refl _ _).alloc hz2' _).drew).grown hgrow (by simp; omega) (own_ge HO.out))
      have HM1 := Lib.hid (HM.out.far hb1)
      clear hown1 hgrow hat hlt hb1
      go_wp2_with fail
      go_roundw
      case rel => exact ⟨1, by omega, rfl, HO1.out, HM1.out⟩
      case measure => simp [intOf]
    · go_wp2_with fail
      go_roundw
      case rel => exact ⟨2, by omega, rfl, HO.out, HM.out⟩
      case measure => simp [intOf]
    · go_wp2_with fail
      have hne : u4.ownBlock ≠ some w.heap.size := fun e => by have := own_ge HO.out _ e; omega
      have lb := hBlt
      go_region_held3 (fun W => W.cell? ⟨w.heap.size, 0, none⟩ = some (.int .i64 1) ∧ W.cell? ⟨w.heap.size, 2, none⟩ = some (.int .i64 1) ∧ W.cell? ⟨w.heap.size, 8, none⟩ = some nil)
        (first
          | go_keep
          | (go_split_ands
             refine ⟨?_, ?_, ?_⟩
             · (rw [hgrow.cell_far _ (by simp; omega) (Ne.symm hne)]; assumption)
             · (rw [hgrow.cell_far _ (by simp; omega) (Ne.symm hne)]; assumption)
             · (rw [hgrow.cell_far _ (by simp; omega) (Ne.symm hne)]; assumption)))
        (first
          | (go_at_call 38; refine (lastTerm_nil _).mono ?_; rintro e w' ⟨rfl, rfl⟩)
          | (refine step_append_lies _ (by rfl) _ _ _ (by rfl) (w.heap.size + 2) 35 iM zmsg 9 88 Try.underlying37 hiM hz0 hz1 hz2 rfl (by omega) _ 1 _ (by rfl) ((HO.out.alloc _).drew)
              ⟨wr.heap.size, 0, none⟩ 1 1 (msgC 2) (by rfl) (by rfl) (World.news_of_block (cs := (msgC 2).toArray) (t := 35) (fr := (0, 0)) (heap_alloc_new wr _)) (by simp [msgC, Value.oneCell'])
              (by omega) (by unfold maxLen; omega) (by omega) (by simp; omega) (wr.heap.size + 1) (by simp) ?_; intro gg cap w1 hown1 hgrow hat hlt))
      have HO1 : Hid (w1.ownsRow (w.heap.size + 2) 35 9 (.slice (some ⟨gg, 0, none⟩) (1 + 1) cap) (tos 3).length (msgs (tos 3))) := Lib.hid (by simpa [tos, msgs] using hown1)
      have hb1 : Below (w.heap.size + 2) wr w1 := ((((Below.refl _ _).alloc hz2' _).drew).grown hgrow (by simp; omega) (own_ge HO.out))
      have HM1 := Lib.hid (HM.out.far hb1)
      clear hown1 hgrow hat hlt hb1
      go_wp2_with fail
      go_roundw
      case rel => exact ⟨3, by omega, rfl, HO1.out, HM1.out⟩
      case measure => simp [intOf]
    · have hB := HM.out.1
      have hR := HM.out.2.1
      obtain ⟨g, cap, rfl, hg, hgl⟩ := HO.out.form (by decide)
      go_wp2_with (first | (with_reducible refine wpList_box_load 25 1 w.heap.size (memL 1 3 1 1 1 (-1) 13 2 nil 0 nil nil) _ _ _ _ _ _ ?_ hB wideMem ?_) | (with_reducible refine wpList_box_store 25 2 (.tmp 61) (w.heap.size + 1) _ (memL 1 3 1 1 1 (-1) 13 2 nil 0 nil nil) _ _ _ _ _ _ ?_ ?_ hR (memOk _ _ _ _ _ _ _ _ _ _ _ _ _ _ _ _ _ _) wideMem ?_))
      · rfl
      · rfl
      · rfl
      rintro w9 hB9 hO9
      have r0 := hB9.cell 0 _ rfl
      have r1 := hB9.cell 1 _ rfl
      have r2 := hB9.cell 2 _ rfl
      have r3 := hB9.cell 3 _ rfl
      have r4 := hB9.cell 4 _ rfl
      have r5 := hB9.cell 5 _ rfl
      have r6 := hB9.cell 6 _ rfl
      have r7 := hB9.cell 7 _ rfl
      have r8 := hB9.cell 8 _ rfl
      have r9 := hB9.cell 9 _ rfl
      have r10 := hB9.cell 10 _ rfl
      have r11 := hB9.cell 11 _ rfl
      go_wp2_with fail
      refine bodyPost_ret (v := .tuple #[m1, .slice (some ⟨g, 0, none⟩) 2 cap]) (by simp [results, Try.results24, go_sem, r0, r1, r2, r3, r4, r5, r6, r7, r8, r9, r10, r11, tos]) rfl ?_
      refine ⟨g, cap, rfl, ?_, ?_⟩
      · exact own_mono (own_only HO.out hO9 (by have := own_ge HO.out g rfl; omega)) (by omega)
      · exact HM.out.2.2.trans (hO9.below _ (by omega))
end Go.Proofs.Ytfpgklhbghahoaa
