/- Btree: the law Scans. -/
import Derived.Test.YtegljepgncicjaaBu29
namespace Go.Proofs.Ytegljepgncicjaa
open Go.ChangeShapes Go.WideShapes Go.ChangeAt Go.RowKit Go.Deep Go.Shelf
set_option linter.unusedVariables false
set_option linter.unusedSimpArgs false
theorem prAt_take {W : World} {g n c : Nat} {L : List Pr} (h : PrAt W (.slice (some ⟨g, 0, none⟩) L.length c) L) (hn : n ≤ L.length) : PrAt W (.slice (some ⟨g, 0, none⟩) n c) (L.take n) := by
  rcases h with ⟨h, _⟩ | ⟨g', c', e, h1, h2, h3, h4⟩
  · cases h
  · cases e
    have hl : (L.take n).length = n := by rw [List.length_take]; omega
    refine .inr ⟨g, c, by rw [hl], by omega, h2, h3, fun j hj => ?_⟩
    have := h4 j (by omega)
    rw [List.getElem_take]
    exact this
theorem FilledOut.split {w0 W' : World} {o : Nat} {L : List Pr} {e : Ending} (h : FilledOut w0 o L e W') : ∃ T va vc, e = .returned (.tuple #[.pointer (some ⟨T, 0, none⟩), .agg #[.int .i64 o, .slice va L.length vc]]) ∧ (∃ Y, Tr W' T o L Y ∧ (∀ k, (Value.slice va L.length vc).ownBlock = some k → ¬ Y k ∧ w0.heap.size ≤ k) ∧ (∀ k, Y k → w0.heap.size ≤ k)) ∧ PrAt W' (.slice va L.length vc) L ∧ Below w0.heap.size w0 W' := by
  obtain ⟨T, v, Y, rfl, h1, h2, h3, h4, h5⟩ := h
  obtain ⟨a, c, rfl⟩ := h2.len
  exact ⟨T, a, c, rfl, ⟨Y, h1, h3, h4⟩, h2, h5⟩
theorem Tr.below {W W' : World} {T o : Nat} {L : List Pr} {Y : Nat → Prop} (h : Tr W T o L Y) (hb : Below W.heap.size W W') : Tr W' T o L Y :=
  h.kept (S := fun k => ¬ k < W.heap.size) ⟨hb.os, hb.tape, hb.output, hb.size, fun k hk hs => hb.block k (Decidable.not_not.1 hs)⟩ (fun k hy hs => hs (h.yl k hy))
theorem pairs_1000 (T o : Nat) (lo hi : Bs) (back : Bool) (L : List Pr) (Y : Nat → Prop) (w : World) (h : Tr w T o L Y) (hl : L.length ≤ 1000) :
    Calls Try.prog 19 #[.pointer (some ⟨T, 0, none⟩), .string lo, .string hi, .bool back, .int .i64 1000] w (PairsOut (scanL lo hi back L) w) := by
  have := pairs_T T o lo hi back 1000 L Y w h hl
  rw [List.take_of_length_le (Nat.le_trans (scanL_len lo hi back L) hl)] at this
  exact this
set_option maxRecDepth 100000 in
set_option maxHeartbeats 1600000 in
theorem scans_e1 (o : Int) (ka : Option Addr) (kl kc : Nat) (lo hi : Bs) (back : Bool) (st : Int) (w : World) (h : o < 4) :
    Calls Try.prog 4 #[.int .i64 o, .slice ka kl kc, .agg #[.string lo, .string hi, .bool back, .int .u8 st]] w (LawOut w) := by
  have HB := Lib.hid ((Below.refl w.heap.size w).alloc (Nat.le_refl _) (.cells #[.string lo, .string hi, .bool back, .int .u8 st] 42))
  have d1 : decide (o < 4) = true := decide_eq_true h
  go_enter Try.func4, Try.ntmps4
  go_wp2_with fail
  refine (awake_any _).mono ?_
  rintro e w1 ⟨rfl, hb⟩
  have HB2 := Lib.hid (HB.out.trans (hb.mono HB.out.size))
  clear hb
  go_wp2_with fail
  go_ret
  exact ⟨rfl, HB2.out⟩
set_option maxRecDepth 100000 in
set_option maxHeartbeats 1600000 in
theorem scans_e2 (o : Int) (ka : Option Addr) (kl kc : Nat) (lo hi : Bs) (back : Bool) (st : Int) (w : World) (h : 256 < o) :
    Calls Try.prog 4 #[.int .i64 o, .slice ka kl kc, .agg #[.string lo, .string hi, .bool back, .int .u8 st]] w (LawOut w) := by
  have HB := Lib.hid ((Below.refl w.heap.size w).alloc (Nat.le_refl _) (.cells #[.string lo, .string hi, .bool back, .int .u8 st] 42))
  have d1 : decide (o < 4) = false := decide_eq_false (by omega)
  have d2 : decide (256 < o) = true := decide_eq_true h
  go_enter Try.func4, Try.ntmps4
  go_wp2_with fail
  refine (awake_any _).mono ?_
  rintro e w1 ⟨rfl, hb⟩
  have HB2 := Lib.hid (HB.out.trans (hb.mono HB.out.size))
  clear hb
  go_wp2_with fail
  go_ret
  exact ⟨rfl, HB2.out⟩
set_option maxRecDepth 100000 in
set_option maxHeartbeats 1600000 in
theorem scans_e3 (o : Int) (ka : Option Addr) (kl kc : Nat) (lo hi : Bs) (back : Bool) (st : Int) (w : World) (h1 : 4 ≤ o) (h2 : o ≤ 256) (h : 300 < kl) :
    Calls Try.prog 4 #[.int .i64 o, .slice ka kl kc, .agg #[.string lo, .string hi, .bool back, .int .u8 st]] w (LawOut w) := by
  have HB := Lib.hid ((Below.refl w.heap.size w).alloc (Nat.le_refl _) (.cells #[.string lo, .string hi, .bool back, .int .u8 st] 42))
  have d1 : decide (o < 4) = false := decide_eq_false (by omega)
  have d2 : decide (256 < o) = false := decide_eq_false (by omega)
  have d3 : decide ((300 : Int) < (kl : Int)) = true := decide_eq_true (by omega)
  go_enter Try.func4, Try.ntmps4
  go_wp2_with fail
  refine (awake_any _).mono ?_
  rintro e w1 ⟨rfl, hb⟩
  have HB2 := Lib.hid (HB.out.trans (hb.mono HB.out.size))
  clear hb
  go_wp2_with fail
  go_ret
  exact ⟨rfl, HB2.out⟩
set_option maxRecDepth 100000 in
set_option maxHeartbeats 3200000 in
theorem scans_go (o : Nat) (h4 : 4 ≤ o) (h6 : o ≤ 256) (ka : Option Addr) (kc : Nat) (ks : List Bs) (lo hi : Bs) (back : Bool) (st : Nat) (hst : st < 256) (w : World) (hk : KeysArg w (.slice ka ks.length kc) ks) (hl : ks.length ≤ 300) :
    Calls Try.prog 4 #[.int .i64 o, .slice ka ks.length kc, .agg #[.string lo, .string hi, .bool back, .int .u8 st]] w (LawOut w) := by
  have HB := Lib.hid ((Below.refl w.heap.size w).alloc (Nat.le_refl _) (.cells #[.string lo, .string hi, .bool back, .int .u8 st] 42))
  have HXB := Lib.hid (Box.new w [.string lo, .string hi, .bool back, .int .u8 st] 42)
  have HK := Lib.hid (hk.below HB.out)
  have HLL := Lib.hid (fillL_len ks ks.length)
  have d1 : decide ((o : Int) < 4) = false := decide_eq_false (by omega)
  have d2 : decide ((256 : Int) < (o : Int)) = false := decide_eq_false (by omega)
  have d3 : decide ((300 : Int) < (ks.length : Int)) = false := decide_eq_false (by omega)
  clear hk
  go_enter Try.func4, Try.ntmps4
  go_wp2_with fail
  clear d1 d2 d3
  refine (filled_any o h4 h6 (.slice ka ks.length kc) ks _ HK.out (by omega)).mono ?_
  rintro e W1 hF
  obtain ⟨T, va, vc, rfl, hY, hp, hb⟩ := hF.split
  have HFI := Lib.hid (And.intro hY (And.intro hp hb))
  obtain ⟨L, hL⟩ : ∃ L, L = fillL ks ks.length := ⟨_, rfl⟩
  rw [← hL] at HFI HLL ⊢
  have HX1 := Lib.hid (HXB.out.keep hb)
  have HB1 := Lib.hid (HB.out.trans (hb.mono HB.out.size))
  clear hF hY hp hb hL HK HXB HB
  have x0 := HX1.out.cell 0 _ rfl
  have x1 := HX1.out.cell 1 _ rfl
  have x2 := HX1.out.cell 2 _ rfl
  have hxl := HX1.out.lt
  have hxn := Nat.ne_of_lt HX1.out.lt
  go_wp2_with fail
  clear x0 x1 x2 hxl hxn
  have HR0 := Lib.hid (Box.new W1 [.int .i64 o, .slice va L.length vc] 30)
  have hbr : Below W1.heap.size W1 (W1.alloc (.cells #[.int .i64 o, .slice va L.length vc] 30)) := (Below.refl _ W1).alloc (Nat.le_refl _) _
  have HX2 := Lib.hid (HX1.out.keep hbr)
  have HB2 := Lib.hid (HB1.out.trans (hbr.mono HB1.out.size))
  have HT2 : Hid (∃ Y, Tr (W1.alloc (.cells #[.int .i64 o, .slice va L.length vc] 30)) T o L Y) := Lib.hid (by obtain ⟨⟨Y, h, _⟩, _⟩ := HFI.out; exact ⟨Y, h.below hbr⟩)
  have HP2 := Lib.hid (HFI.out.2.1.below hbr)
  clear hbr HX1 HB1 HFI
  generalize W1.heap.size = R at HR0 ⊢
  generalize W1.alloc _ = W2 at *
  refine (rScan_any o (.slice va L.length vc) L lo hi back W2 HP2.out (by have := HLL.out; omega)).mono ?_
  rintro e W3 ⟨v3, rfl, hp3, hb3⟩
  have HT3 : Hid (∃ Y, Tr W3 T o L Y) := Lib.hid (by obtain ⟨Y, h⟩ := HT2.out; exact ⟨Y, h.below hb3⟩)
  have HX3 := Lib.hid (HX2.out.keep hb3)
  have HB3 := Lib.hid (HB2.out.trans (hb3.mono HB2.out.size))
  have HSL := Lib.hid (scanL_len lo hi back L)
  obtain ⟨g3, c3, rfl⟩ := hp3.len
  have HP3 := Lib.hid hp3
  clear hp3 hb3 HX2 HB2 HT2 HP2 HR0
  have x3 := HX3.out.cell 3 _ rfl
  obtain ⟨D, hD⟩ : ∃ D, D = scanL lo hi back L := ⟨_, rfl⟩
  rw [← hD] at HP3 HSL
  rw [← hD]
  have HD := Lib.hid hD
  clear hD
  have hw0 : IntKind.i64.wrap (st : Int) = (st : Int) := by rw [IntKind.wrap_i64]; omega
  obtain ⟨Y, hT3⟩ := HT3.out
  have HT := Lib.hid hT3
  clear HT3 hT3
  rcases HP3.out with ⟨hv3, hD0⟩ | ⟨g, c', hv3, hg1, hg2, hg3, hg4⟩
  · have hDl : D.length = 0 := by rw [hD0]; rfl
    have hg0 : g3 = none ∧ c3 = 0 := by rw [hDl] at hv3; cases hv3; exact ⟨rfl, rfl⟩
    obtain ⟨rfl, rfl⟩ := hg0
    have hL2 := Lib.hid hD0
    clear hv3 hD0
    rw [hDl] at HP3
    rw [hDl]
    have HPn := Lib.hid (show PrAt W3 (.slice none 0 0) (D.take 0) by rw [hL2.out]; exact .inl ⟨rfl, by simp⟩)
    by_cases hst2 : 0 < st
    · have hd : decide ((0 : Int) < (st : Int)) = true := decide_eq_true (by omega)
      go_wp2_with fail
      refine wp_region_ordW 29 23 [(0, 0), (1, 0), (2, 1), (3, 0), (4, 1), (5, 0), (6, 1), (7, 0), (9, 0), (10, 0), (11, 0), (8, 2), (12, 2), (13, 0), (14, 0), (15, 0), (16, 1), (17, 0), (18, 1), (19, 0), (20, 1), (22, 0), (21, 2), (23, 3), (24, 0), (25, 0), (26, 3), (27, 0), (28, 0)] (fun U => U.cell? ⟨w.heap.size, 0, none⟩ = some (.string lo) ∧ U.cell? ⟨w.heap.size, 1, none⟩ = some (.string hi) ∧ U.cell? ⟨w.heap.size, 2, none⟩ = some (.bool back)) (by kernel_rfl) (by kernel_rfl) ⟨HX3.out.cell 0 _ rfl, HX3.out.cell 1 _ rfl, HX3.out.cell 2 _ rfl⟩ (fun c a d v w h => by cases d <;> exact h) ?_
      apply wpOrd_read0
      case hi => rfl
      case hw => rfl
      case hy => (intro w; go_simp; try rfl)
      intro K hK; go_simp; refine hK _ _ ?_; clear hK K
      apply wpOrd_read0
      case hi => rfl
      case hw => rfl
      case hy => (intro w; go_simp; try rfl)
      intro K hK; go_simp; refine hK _ _ ?_; clear hK K
      apply wpOrd_read1
      case hi => rfl
      case hw => rfl
      case hy => (intro w hw; obtain ⟨h1, h2, h3⟩ := hw; go_simp; try rfl)
      intro K hK; go_simp; refine hK _ _ ?_; clear hK K
      apply wpOrd_read0
      case hi => rfl
      case hw => rfl
      case hy => (intro w; go_simp; try rfl)
      intro K hK; go_simp; refine hK _ _ ?_; clear hK K
      apply wpOrd_read1
      case hi => rfl
      case hw => rfl
      case hy => (intro w hw; obtain ⟨h1, h2, h3⟩ := hw; go_simp; try rfl)
      intro K hK; go_simp; refine hK _ _ ?_; clear hK K
      apply wpOrd_read0
      case hi => rfl
      case hw => rfl
      case hy => (intro w; go_simp; try rfl)
      intro K hK; go_simp; refine hK _ _ ?_; clear hK K
      apply wpOrd_read1
      case hi => rfl
      case hw => rfl
      case hy => (intro w hw; obtain ⟨h1, h2, h3⟩ := hw; go_simp; try rfl)
      intro K hK; go_simp; refine hK _ _ ?_; clear hK K
      apply wpOrd_read0
      case hi => rfl
      case hw => rfl
      case hy => (intro w; go_simp; try rfl)
      intro K hK; go_simp; refine hK _ _ ?_; clear hK K
      apply wpOrd_read0
      case hi => rfl
      case hw => rfl
      case hy => (intro w; go_simp; try rfl)
      intro K hK; go_simp; refine hK _ _ ?_; clear hK K
      apply wpOrd_read0
      case hi => rfl
      case hw => rfl
      case hy => (intro w; go_simp; try rfl)
      intro K hK; go_simp; refine hK _ _ ?_; clear hK K
      apply wpOrd_read0
      case hi => rfl
      case hw => rfl
      case hy => (intro w; go_simp; try rfl)
      intro K hK; go_simp; refine hK _ _ ?_; clear hK K
      apply wpOrd_eff2
      case hi => rfl
      case hw => rfl
      intro K hK
      go_simp
      refine (pairs_T T o lo hi back 0 L Y W3.drew (HT.out.below ⟨rfl, rfl, rfl, Nat.le_refl _, fun _ _ => rfl⟩) (by have := HLL.out; omega)).mono ?_
      rintro e W4 ⟨v4, rfl, hr4, hb4⟩
      have hb34 : Below W3.heap.size W3 W4 := (Below.drew (Below.refl _ W3)).trans hb4
      have HP4 := Lib.hid (PrAt.of_own rfl hr4)
      have HV4 := Lib.hid (hr4.1)
      rw [← HD.out] at HP4
      have HT4 := Lib.hid (HT.out.below hb34)
      have HX4 := Lib.hid (HX3.out.keep hb34)
      have HB4 := Lib.hid (HB3.out.trans (hb34.mono HB3.out.size))
      have HQ4 := Lib.hid (HP3.out.below hb34)
      have HN4 := Lib.hid (HPn.out.below hb34)
      refine hK _ _ ⟨HX4.out.cell 0 _ rfl, HX4.out.cell 1 _ rfl, HX4.out.cell 2 _ rfl⟩ ?_
      clear hK K hr4 hb4 hb34 HT HX3 HB3 HP3 HPn
      apply wpOrd_eff2
      case hi => rfl
      case hw => rfl
      intro K hK
      go_simp
      refine (same_eq v4 (.slice none 0 0) (D.take 0) W4 HP4.out HN4.out (by rw [List.length_take]; omega)).mono ?_
      rintro e W5 ⟨rfl, q, rfl⟩
      refine hK _ _ ⟨HX4.out.cell 0 _ rfl, HX4.out.cell 1 _ rfl, HX4.out.cell 2 _ rfl⟩ ?_
      clear hK K
      apply wpOrd_read0
      case hi => rfl
      case hw => rfl
      case hy => (intro w; go_simp; try rfl)
      intro K hK; go_simp; refine hK _ _ ?_; clear hK K
      apply wpOrd_read0
      case hi => rfl
      case hw => rfl
      case hy => (intro w; go_simp; try rfl)
      intro K hK; go_simp; refine hK _ _ ?_; clear hK K
      apply wpOrd_read0
      case hi => rfl
      case hw => rfl
      case hy => (intro w; go_simp; try rfl)
      intro K hK; go_simp; refine hK _ _ ?_; clear hK K
      apply wpOrd_read1
      case hi => rfl
      case hw => rfl
      case hy => (intro w hw; obtain ⟨h1, h2, h3⟩ := hw; go_simp; try rfl)
      intro K hK; go_simp; refine hK _ _ ?_; clear hK K
      apply wpOrd_read0
      case hi => rfl
      case hw => rfl
      case hy => (intro w; go_simp; try rfl)
      intro K hK; go_simp; refine hK _ _ ?_; clear hK K
      apply wpOrd_read1
      case hi => rfl
      case hw => rfl
      case hy => (intro w hw; obtain ⟨h1, h2, h3⟩ := hw; go_simp; try rfl)
      intro K hK; go_simp; refine hK _ _ ?_; clear hK K
      apply wpOrd_read0
      case hi => rfl
      case hw => rfl
      case hy => (intro w; go_simp; try rfl)
      intro K hK; go_simp; refine hK _ _ ?_; clear hK K
      apply wpOrd_read1
      case hi => rfl
      case hw => rfl
      case hy => (intro w hw; obtain ⟨h1, h2, h3⟩ := hw; go_simp; try rfl)
      intro K hK; go_simp; refine hK _ _ ?_; clear hK K
      apply wpOrd_read0
      case hi => rfl
      case hw => rfl
      case hy => (intro w; go_simp; try rfl)
      intro K hK; go_simp; refine hK _ _ ?_; clear hK K
      apply wpOrd_eff2
      case hi => rfl
      case hw => rfl
      intro K hK
      go_simp
      refine (pairs_1000 T o lo hi back L Y (W4.drewN q) (HT4.out.below ⟨rfl, rfl, rfl, Nat.le_refl _, fun _ _ => rfl⟩) (by have := HLL.out; omega)).mono ?_
      rintro e W6 ⟨v6, rfl, hr6, hb6⟩
      have hb46 : Below W4.heap.size W4 W6 := (below_drewN'' (Below.refl _ W4) q).trans hb6
      have HP6 := Lib.hid (PrAt.of_own rfl hr6)
      rw [← HD.out] at HP6
      have HX6 := Lib.hid (HX4.out.keep hb46)
      have HB6 := Lib.hid (HB4.out.trans (hb46.mono HB4.out.size))
      have HQ6 := Lib.hid (HQ4.out.below hb46)
      refine hK _ _ ⟨HX6.out.cell 0 _ rfl, HX6.out.cell 1 _ rfl, HX6.out.cell 2 _ rfl⟩ ?_
      clear hK K hr6 hb6 hb46 HX4 HB4 HQ4 HN4 HP4 HT4
      apply wpOrd_eff3
      case hi => rfl
      case hw => rfl
      intro K hK
      go_simp
      refine (same_eq v6 (.slice none 0 0) D W6 HP6.out HQ6.out (by have := HSL.out; have := HLL.out; omega)).mono ?_
      rintro e W7 ⟨rfl, q7, rfl⟩
      refine hK _ _ ?_
      clear hK K
      apply wpOrd_read0
      case hi => rfl
      case hw => rfl
      case hy => (intro w; go_simp; try rfl)
      intro K hK; go_simp; refine hK _ _ ?_; clear hK K
      apply wpOrd_read0
      case hi => rfl
      case hw => rfl
      case hy => (intro w; go_simp; try rfl)
      intro K hK; go_simp; refine hK _ _ ?_; clear hK K
      apply wpOrd_eff3
      case hi => rfl
      case hw => rfl
      intro K hK
      go_simp
      refine (awake_any _).mono ?_
      rintro e W8 ⟨rfl, hb8⟩
      have HB8 := Lib.hid (HB6.out.trans (((below_drewN'' (Below.refl _ W6) q7).trans hb8).mono HB6.out.size))
      refine hK _ _ ?_
      clear hK K hb8
      apply wpOrd_read0
      case hi => rfl
      case hw => rfl
      case hy => (intro w; go_simp; try rfl)
      intro K hK; go_simp; refine hK _ _ ?_; clear hK K
      apply wpOrd_read0
      case hi => rfl
      case hw => rfl
      case hy => (intro w; go_simp; try rfl)
      intro K hK; go_simp; refine hK _ _ ?_; clear hK K
      refine wpOrd_nil ?_
      go_wp2_with fail
      go_ret
      exact ⟨rfl, HB8.out⟩
    · have hst0 : st = 0 := by omega
      subst hst0
      have hd : decide ((0 : Int) < ((0 : Nat) : Int)) = false := rfl
      go_wp2_with fail
      refine wp_region_ordW 29 23 [(0, 0), (1, 0), (2, 1), (3, 0), (4, 1), (5, 0), (6, 1), (7, 0), (9, 0), (10, 0), (11, 0), (8, 2), (12, 2), (13, 0), (14, 0), (15, 0), (16, 1), (17, 0), (18, 1), (19, 0), (20, 1), (22, 0), (21, 2), (23, 3), (24, 0), (25, 0), (26, 3), (27, 0), (28, 0)] (fun U => U.cell? ⟨w.heap.size, 0, none⟩ = some (.string lo) ∧ U.cell? ⟨w.heap.size, 1, none⟩ = some (.string hi) ∧ U.cell? ⟨w.heap.size, 2, none⟩ = some (.bool back)) (by kernel_rfl) (by kernel_rfl) ⟨HX3.out.cell 0 _ rfl, HX3.out.cell 1 _ rfl, HX3.out.cell 2 _ rfl⟩ (fun c a d v w h => by cases d <;> exact h) ?_
      apply wpOrd_read0
      case hi => rfl
      case hw => rfl
      case hy => (intro w; go_simp; try rfl)
      intro K hK; go_simp; refine hK _ _ ?_; clear hK K
      apply wpOrd_read0
      case hi => rfl
      case hw => rfl
      case hy => (intro w; go_simp; try rfl)
      intro K hK; go_simp; refine hK _ _ ?_; clear hK K
      apply wpOrd_read1
      case hi => rfl
      case hw => rfl
      case hy => (intro w hw; obtain ⟨h1, h2, h3⟩ := hw; go_simp; try rfl)
      intro K hK; go_simp; refine hK _ _ ?_; clear hK K
      apply wpOrd_read0
      case hi => rfl
      case hw => rfl
      case hy => (intro w; go_simp; try rfl)
      intro K hK; go_simp; refine hK _ _ ?_; clear hK K
      apply wpOrd_read1
      case hi => rfl
      case hw => rfl
      case hy => (intro w hw; obtain ⟨h1, h2, h3⟩ := hw; go_simp; try rfl)
      intro K hK; go_simp; refine hK _ _ ?_; clear hK K
      apply wpOrd_read0
      case hi => rfl
      case hw => rfl
      case hy => (intro w; go_simp; try rfl)
      intro K hK; go_simp; refine hK _ _ ?_; clear hK K
      apply wpOrd_read1
      case hi => rfl
      case hw => rfl
      case hy => (intro w hw; obtain ⟨h1, h2, h3⟩ := hw; go_simp; try rfl)
      intro K hK; go_simp; refine hK _ _ ?_; clear hK K
      apply wpOrd_read0
      case hi => rfl
      case hw => rfl
      case hy => (intro w; go_simp; try rfl)
      intro K hK; go_simp; refine hK _ _ ?_; clear hK K
      apply wpOrd_read0
      case hi => rfl
      case hw => rfl
      case hy => (intro w; go_simp; try rfl)
      intro K hK; go_simp; refine hK _ _ ?_; clear hK K
      apply wpOrd_read0
      case hi => rfl
      case hw => rfl
      case hy => (intro w; go_simp; try rfl)
      intro K hK; go_simp; refine hK _ _ ?_; clear hK K
      apply wpOrd_read0
      case hi => rfl
      case hw => rfl
      case hy => (intro w; go_simp; try rfl)
      intro K hK; go_simp; refine hK _ _ ?_; clear hK K
      apply wpOrd_eff2
      case hi => rfl
      case hw => rfl
      intro K hK
      go_simp
      refine (pairs_T T o lo hi back 0 L Y W3.drew (HT.out.below ⟨rfl, rfl, rfl, Nat.le_refl _, fun _ _ => rfl⟩) (by have := HLL.out; omega)).mono ?_
      rintro e W4 ⟨v4, rfl, hr4, hb4⟩
      have hb34 : Below W3.heap.size W3 W4 := (Below.drew (Below.refl _ W3)).trans hb4
      have HP4 := Lib.hid (PrAt.of_own rfl hr4)
      have HV4 := Lib.hid (hr4.1)
      rw [← HD.out] at HP4
      have HT4 := Lib.hid (HT.out.below hb34)
      have HX4 := Lib.hid (HX3.out.keep hb34)
      have HB4 := Lib.hid (HB3.out.trans (hb34.mono HB3.out.size))
      have HQ4 := Lib.hid (HP3.out.below hb34)
      have HN4 := Lib.hid (HPn.out.below hb34)
      refine hK _ _ ⟨HX4.out.cell 0 _ rfl, HX4.out.cell 1 _ rfl, HX4.out.cell 2 _ rfl⟩ ?_
      clear hK K hr4 hb4 hb34 HT HX3 HB3 HP3 HPn
      apply wpOrd_eff2
      case hi => rfl
      case hw => rfl
      intro K hK
      go_simp
      refine (same_eq v4 (.slice none 0 0) (D.take 0) W4 HP4.out HN4.out (by rw [List.length_take]; omega)).mono ?_
      rintro e W5 ⟨rfl, q, rfl⟩
      refine hK _ _ ⟨HX4.out.cell 0 _ rfl, HX4.out.cell 1 _ rfl, HX4.out.cell 2 _ rfl⟩ ?_
      clear hK K
      apply wpOrd_read0
      case hi => rfl
      case hw => rfl
      case hy => (intro w; go_simp; try rfl)
      intro K hK; go_simp; refine hK _ _ ?_; clear hK K
      apply wpOrd_read0
      case hi => rfl
      case hw => rfl
      case hy => (intro w; go_simp; try rfl)
      intro K hK; go_simp; refine hK _ _ ?_; clear hK K
      apply wpOrd_read0
      case hi => rfl
      case hw => rfl
      case hy => (intro w; go_simp; try rfl)
      intro K hK; go_simp; refine hK _ _ ?_; clear hK K
      apply wpOrd_read1
      case hi => rfl
      case hw => rfl
      case hy => (intro w hw; obtain ⟨h1, h2, h3⟩ := hw; go_simp; try rfl)
      intro K hK; go_simp; refine hK _ _ ?_; clear hK K
      apply wpOrd_read0
      case hi => rfl
      case hw => rfl
      case hy => (intro w; go_simp; try rfl)
      intro K hK; go_simp; refine hK _ _ ?_; clear hK K
      apply wpOrd_read1
      case hi => rfl
      case hw => rfl
      case hy => (intro w hw; obtain ⟨h1, h2, h3⟩ := hw; go_simp; try rfl)
      intro K hK; go_simp; refine hK _ _ ?_; clear hK K
      apply wpOrd_read0
      case hi => rfl
      case hw => rfl
      case hy => (intro w; go_simp; try rfl)
      intro K hK; go_simp; refine hK _ _ ?_; clear hK K
      apply wpOrd_read1
      case hi => rfl
      case hw => rfl
      case hy => (intro w hw; obtain ⟨h1, h2, h3⟩ := hw; go_simp; try rfl)
      intro K hK; go_simp; refine hK _ _ ?_; clear hK K
      apply wpOrd_read0
      case hi => rfl
      case hw => rfl
      case hy => (intro w; go_simp; try rfl)
      intro K hK; go_simp; refine hK _ _ ?_; clear hK K
      apply wpOrd_eff2
      case hi => rfl
      case hw => rfl
      intro K hK
      go_simp
      refine (pairs_1000 T o lo hi back L Y (W4.drewN q) (HT4.out.below ⟨rfl, rfl, rfl, Nat.le_refl _, fun _ _ => rfl⟩) (by have := HLL.out; omega)).mono ?_
      rintro e W6 ⟨v6, rfl, hr6, hb6⟩
      have hb46 : Below W4.heap.size W4 W6 := (below_drewN'' (Below.refl _ W4) q).trans hb6
      have HP6 := Lib.hid (PrAt.of_own rfl hr6)
      rw [← HD.out] at HP6
      have HX6 := Lib.hid (HX4.out.keep hb46)
      have HB6 := Lib.hid (HB4.out.trans (hb46.mono HB4.out.size))
      have HQ6 := Lib.hid (HQ4.out.below hb46)
      refine hK _ _ ⟨HX6.out.cell 0 _ rfl, HX6.out.cell 1 _ rfl, HX6.out.cell 2 _ rfl⟩ ?_
      clear hK K hr6 hb6 hb46 HX4 HB4 HQ4 HN4 HP4 HT4
      apply wpOrd_eff3
      case hi => rfl
      case hw => rfl
      intro K hK
      go_simp
      refine (same_eq v6 (.slice none 0 0) D W6 HP6.out HQ6.out (by have := HSL.out; have := HLL.out; omega)).mono ?_
      rintro e W7 ⟨rfl, q7, rfl⟩
      refine hK _ _ ?_
      clear hK K
      apply wpOrd_read0
      case hi => rfl
      case hw => rfl
      case hy => (intro w; go_simp; try rfl)
      intro K hK; go_simp; refine hK _ _ ?_; clear hK K
      apply wpOrd_read0
      case hi => rfl
      case hw => rfl
      case hy => (intro w; go_simp; try rfl)
      intro K hK; go_simp; refine hK _ _ ?_; clear hK K
      apply wpOrd_eff3
      case hi => rfl
      case hw => rfl
      intro K hK
      go_simp
      refine (awake_any _).mono ?_
      rintro e W8 ⟨rfl, hb8⟩
      have HB8 := Lib.hid (HB6.out.trans (((below_drewN'' (Below.refl _ W6) q7).trans hb8).mono HB6.out.size))
      refine hK _ _ ?_
      clear hK K hb8
      apply wpOrd_read0
      case hi => rfl
      case hw => rfl
      case hy => (intro w; go_simp; try rfl)
      intro K hK; go_simp; refine hK _ _ ?_; clear hK K
      apply wpOrd_read0
      case hi => rfl
      case hw => rfl
      case hy => (intro w; go_simp; try rfl)
      intro K hK; go_simp; refine hK _ _ ?_; clear hK K
      refine wpOrd_nil ?_
      go_wp2_with fail
      go_ret
      exact ⟨rfl, HB8.out⟩
  · have hg0 : g3 = some ⟨g, 0, none⟩ ∧ c3 = c' := by cases hv3; exact ⟨rfl, rfl⟩
    obtain ⟨rfl, rfl⟩ := hg0
    clear hv3 hg4 hg3
    have hsl := HSL.out
    have hll := HLL.out
    by_cases hst2 : D.length < st
    · have hd : decide ((D.length : Int) < (st : Int)) = true := decide_eq_true (by omega)
      have HPn := Lib.hid (prAt_take HP3.out (Nat.le_refl D.length))
      have hnc : D.length ≤ c3 := hg1
      go_wp2_with fail
      refine wp_region_ordW 29 23 [(0, 0), (1, 0), (2, 1), (3, 0), (4, 1), (5, 0), (6, 1), (7, 0), (9, 0), (10, 0), (11, 0), (8, 2), (12, 2), (13, 0), (14, 0), (15, 0), (16, 1), (17, 0), (18, 1), (19, 0), (20, 1), (22, 0), (21, 2), (23, 3), (24, 0), (25, 0), (26, 3), (27, 0), (28, 0)] (fun U => U.cell? ⟨w.heap.size, 0, none⟩ = some (.string lo) ∧ U.cell? ⟨w.heap.size, 1, none⟩ = some (.string hi) ∧ U.cell? ⟨w.heap.size, 2, none⟩ = some (.bool back)) (by kernel_rfl) (by kernel_rfl) ⟨HX3.out.cell 0 _ rfl, HX3.out.cell 1 _ rfl, HX3.out.cell 2 _ rfl⟩ (fun c a d v w h => by cases d <;> exact h) ?_
      apply wpOrd_read0
      case hi => rfl
      case hw => rfl
      case hy => (intro w; go_simp; try rfl)
      intro K hK; go_simp; refine hK _ _ ?_; clear hK K
      apply wpOrd_read0
      case hi => rfl
      case hw => rfl
      case hy => (intro w; go_simp; try rfl)
      intro K hK; go_simp; refine hK _ _ ?_; clear hK K
      apply wpOrd_read1
      case hi => rfl
      case hw => rfl
      case hy => (intro w hw; obtain ⟨h1, h2, h3⟩ := hw; go_simp; try rfl)
      intro K hK; go_simp; refine hK _ _ ?_; clear hK K
      apply wpOrd_read0
      case hi => rfl
      case hw => rfl
      case hy => (intro w; go_simp; try rfl)
      intro K hK; go_simp; refine hK _ _ ?_; clear hK K
      apply wpOrd_read1
      case hi => rfl
      case hw => rfl
      case hy => (intro w hw; obtain ⟨h1, h2, h3⟩ := hw; go_simp; try rfl)
      intro K hK; go_simp; refine hK _ _ ?_; clear hK K
      apply wpOrd_read0
      case hi => rfl
      case hw => rfl
      case hy => (intro w; go_simp; try rfl)
      intro K hK; go_simp; refine hK _ _ ?_; clear hK K
      apply wpOrd_read1
      case hi => rfl
      case hw => rfl
      case hy => (intro w hw; obtain ⟨h1, h2, h3⟩ := hw; go_simp; try rfl)
      intro K hK; go_simp; refine hK _ _ ?_; clear hK K
      apply wpOrd_read0
      case hi => rfl
      case hw => rfl
      case hy => (intro w; go_simp; try rfl)
      intro K hK; go_simp; refine hK _ _ ?_; clear hK K
      apply wpOrd_read0
      case hi => rfl
      case hw => rfl
      case hy => (intro w; go_simp; try rfl)
      intro K hK; go_simp; refine hK _ _ ?_; clear hK K
      apply wpOrd_read0
      case hi => rfl
      case hw => rfl
      case hy => (intro w; go_simp; try rfl)
      intro K hK; go_simp; refine hK _ _ ?_; clear hK K
      apply wpOrd_read0
      case hi => rfl
      case hw => rfl
      case hy => (intro w; go_simp; try rfl)
      intro K hK; go_simp; refine hK _ _ ?_; clear hK K
      apply wpOrd_eff2
      case hi => rfl
      case hw => rfl
      intro K hK
      go_simp
      refine (pairs_T T o lo hi back D.length L Y W3.drew (HT.out.below ⟨rfl, rfl, rfl, Nat.le_refl _, fun _ _ => rfl⟩) (by have := HLL.out; omega)).mono ?_
      rintro e W4 ⟨v4, rfl, hr4, hb4⟩
      have hb34 : Below W3.heap.size W3 W4 := (Below.drew (Below.refl _ W3)).trans hb4
      have HP4 := Lib.hid (PrAt.of_own rfl hr4)
      have HV4 := Lib.hid (hr4.1)
      rw [← HD.out] at HP4
      have HT4 := Lib.hid (HT.out.below hb34)
      have HX4 := Lib.hid (HX3.out.keep hb34)
      have HB4 := Lib.hid (HB3.out.trans (hb34.mono HB3.out.size))
      have HQ4 := Lib.hid (HP3.out.below hb34)
      have HN4 := Lib.hid (HPn.out.below hb34)
      refine hK _ _ ⟨HX4.out.cell 0 _ rfl, HX4.out.cell 1 _ rfl, HX4.out.cell 2 _ rfl⟩ ?_
      clear hK K hr4 hb4 hb34 HT HX3 HB3 HP3 HPn
      apply wpOrd_eff2
      case hi => rfl
      case hw => rfl
      intro K hK
      go_simp
      refine (same_eq v4 (.slice (some ⟨g, 0, none⟩) D.length c3) (D.take D.length) W4 HP4.out HN4.out (by rw [List.length_take]; omega)).mono ?_
      rintro e W5 ⟨rfl, q, rfl⟩
      refine hK _ _ ⟨HX4.out.cell 0 _ rfl, HX4.out.cell 1 _ rfl, HX4.out.cell 2 _ rfl⟩ ?_
      clear hK K
      apply wpOrd_read0
      case hi => rfl
      case hw => rfl
      case hy => (intro w; go_simp; try rfl)
      intro K hK; go_simp; refine hK _ _ ?_; clear hK K
      apply wpOrd_read0
      case hi => rfl
      case hw => rfl
      case hy => (intro w; go_simp; try rfl)
      intro K hK; go_simp; refine hK _ _ ?_; clear hK K
      apply wpOrd_read0
      case hi => rfl
      case hw => rfl
      case hy => (intro w; go_simp; try rfl)
      intro K hK; go_simp; refine hK _ _ ?_; clear hK K
      apply wpOrd_read1
      case hi => rfl
      case hw => rfl
      case hy => (intro w hw; obtain ⟨h1, h2, h3⟩ := hw; go_simp; try rfl)
      intro K hK; go_simp; refine hK _ _ ?_; clear hK K
      apply wpOrd_read0
      case hi => rfl
      case hw => rfl
      case hy => (intro w; go_simp; try rfl)
      intro K hK; go_simp; refine hK _ _ ?_; clear hK K
      apply wpOrd_read1
      case hi => rfl
      case hw => rfl
      case hy => (intro w hw; obtain ⟨h1, h2, h3⟩ := hw; go_simp; try rfl)
      intro K hK; go_simp; refine hK _ _ ?_; clear hK K
      apply wpOrd_read0
      case hi => rfl
      case hw => rfl
      case hy => (intro w; go_simp; try rfl)
      intro K hK; go_simp; refine hK _ _ ?_; clear hK K
      apply wpOrd_read1
      case hi => rfl
      case hw => rfl
      case hy => (intro w hw; obtain ⟨h1, h2, h3⟩ := hw; go_simp; try rfl)
      intro K hK; go_simp; refine hK _ _ ?_; clear hK K
      apply wpOrd_read0
      case hi => rfl
      case hw => rfl
      case hy => (intro w; go_simp; try rfl)
      intro K hK; go_simp; refine hK _ _ ?_; clear hK K
      apply wpOrd_eff2
      case hi => rfl
      case hw => rfl
      intro K hK
      go_simp
      refine (pairs_1000 T o lo hi back L Y (W4.drewN q) (HT4.out.below ⟨rfl, rfl, rfl, Nat.le_refl _, fun _ _ => rfl⟩) (by have := HLL.out; omega)).mono ?_
      rintro e W6 ⟨v6, rfl, hr6, hb6⟩
      have hb46 : Below W4.heap.size W4 W6 := (below_drewN'' (Below.refl _ W4) q).trans hb6
      have HP6 := Lib.hid (PrAt.of_own rfl hr6)
      rw [← HD.out] at HP6
      have HX6 := Lib.hid (HX4.out.keep hb46)
      have HB6 := Lib.hid (HB4.out.trans (hb46.mono HB4.out.size))
      have HQ6 := Lib.hid (HQ4.out.below hb46)
      refine hK _ _ ⟨HX6.out.cell 0 _ rfl, HX6.out.cell 1 _ rfl, HX6.out.cell 2 _ rfl⟩ ?_
      clear hK K hr6 hb6 hb46 HX4 HB4 HQ4 HN4 HP4 HT4
      apply wpOrd_eff3
      case hi => rfl
      case hw => rfl
      intro K hK
      go_simp
      refine (same_eq v6 (.slice (some ⟨g, 0, none⟩) D.length c3) D W6 HP6.out HQ6.out (by have := HSL.out; have := HLL.out; omega)).mono ?_
      rintro e W7 ⟨rfl, q7, rfl⟩
      refine hK _ _ ?_
      clear hK K
      apply wpOrd_read0
      case hi => rfl
      case hw => rfl
      case hy => (intro w; go_simp; try rfl)
      intro K hK; go_simp; refine hK _ _ ?_; clear hK K
      apply wpOrd_read0
      case hi => rfl
      case hw => rfl
      case hy => (intro w; go_simp; try rfl)
      intro K hK; go_simp; refine hK _ _ ?_; clear hK K
      apply wpOrd_eff3
      case hi => rfl
      case hw => rfl
      intro K hK
      go_simp
      refine (awake_any _).mono ?_
      rintro e W8 ⟨rfl, hb8⟩
      have HB8 := Lib.hid (HB6.out.trans (((below_drewN'' (Below.refl _ W6) q7).trans hb8).mono HB6.out.size))
      refine hK _ _ ?_
      clear hK K hb8
      apply wpOrd_read0
      case hi => rfl
      case hw => rfl
      case hy => (intro w; go_simp; try rfl)
      intro K hK; go_simp; refine hK _ _ ?_; clear hK K
      apply wpOrd_read0
      case hi => rfl
      case hw => rfl
      case hy => (intro w; go_simp; try rfl)
      intro K hK; go_simp; refine hK _ _ ?_; clear hK K
      refine wpOrd_nil ?_
      go_wp2_with fail
      go_ret
      exact ⟨rfl, HB8.out⟩
    · have hd : decide ((D.length : Int) < (st : Int)) = false := decide_eq_false (by omega)
      have hsd : st ≤ D.length := by omega
      have hnc : st ≤ c3 := by omega
      have HPn := Lib.hid (prAt_take HP3.out hsd)
      go_wp2_with fail
      refine wp_region_ordW 29 23 [(0, 0), (1, 0), (2, 1), (3, 0), (4, 1), (5, 0), (6, 1), (7, 0), (9, 0), (10, 0), (11, 0), (8, 2), (12, 2), (13, 0), (14, 0), (15, 0), (16, 1), (17, 0), (18, 1), (19, 0), (20, 1), (22, 0), (21, 2), (23, 3), (24, 0), (25, 0), (26, 3), (27, 0), (28, 0)] (fun U => U.cell? ⟨w.heap.size, 0, none⟩ = some (.string lo) ∧ U.cell? ⟨w.heap.size, 1, none⟩ = some (.string hi) ∧ U.cell? ⟨w.heap.size, 2, none⟩ = some (.bool back)) (by kernel_rfl) (by kernel_rfl) ⟨HX3.out.cell 0 _ rfl, HX3.out.cell 1 _ rfl, HX3.out.cell 2 _ rfl⟩ (fun c a d v w h => by cases d <;> exact h) ?_
      apply wpOrd_read0
      case hi => rfl
      case hw => rfl
      case hy => (intro w; go_simp; try rfl)
      intro K hK; go_simp; refine hK _ _ ?_; clear hK K
      apply wpOrd_read0
      case hi => rfl
      case hw => rfl
      case hy => (intro w; go_simp; try rfl)
      intro K hK; go_simp; refine hK _ _ ?_; clear hK K
      apply wpOrd_read1
      case hi => rfl
      case hw => rfl
      case hy => (intro w hw; obtain ⟨h1, h2, h3⟩ := hw; go_simp; try rfl)
      intro K hK; go_simp; refine hK _ _ ?_; clear hK K
      apply wpOrd_read0
      case hi => rfl
      case hw => rfl
      case hy => (intro w; go_simp; try rfl)
      intro K hK; go_simp; refine hK _ _ ?_; clear hK K
      apply wpOrd_read1
      case hi => rfl
      case hw => rfl
      case hy => (intro w hw; obtain ⟨h1, h2, h3⟩ := hw; go_simp; try rfl)
      intro K hK; go_simp; refine hK _ _ ?_; clear hK K
      apply wpOrd_read0
      case hi => rfl
      case hw => rfl
      case hy => (intro w; go_simp; try rfl)
      intro K hK; go_simp; refine hK _ _ ?_; clear hK K
      apply wpOrd_read1
      case hi => rfl
      case hw => rfl
      case hy => (intro w hw; obtain ⟨h1, h2, h3⟩ := hw; go_simp; try rfl)
      intro K hK; go_simp; refine hK _ _ ?_; clear hK K
      apply wpOrd_read0
      case hi => rfl
      case hw => rfl
      case hy => (intro w; go_simp; try rfl)
      intro K hK; go_simp; refine hK _ _ ?_; clear hK K
      apply wpOrd_read0
      case hi => rfl
      case hw => rfl
      case hy => (intro w; go_simp; try rfl)
      intro K hK; go_simp; refine hK _ _ ?_; clear hK K
      apply wpOrd_read0
      case hi => rfl
      case hw => rfl
      case hy => (intro w; go_simp; try rfl)
      intro K hK; go_simp; refine hK _ _ ?_; clear hK K
      apply wpOrd_read0
      case hi => rfl
      case hw => rfl
      case hy => (intro w; go_simp; try rfl)
      intro K hK; go_simp; refine hK _ _ ?_; clear hK K
      apply wpOrd_eff2
      case hi => rfl
      case hw => rfl
      intro K hK
      go_simp
      refine (pairs_T T o lo hi back st L Y W3.drew (HT.out.below ⟨rfl, rfl, rfl, Nat.le_refl _, fun _ _ => rfl⟩) (by have := HLL.out; omega)).mono ?_
      rintro e W4 ⟨v4, rfl, hr4, hb4⟩
      have hb34 : Below W3.heap.size W3 W4 := (Below.drew (Below.refl _ W3)).trans hb4
      have HP4 := Lib.hid (PrAt.of_own rfl hr4)
      have HV4 := Lib.hid (hr4.1)
      rw [← HD.out] at HP4
      have HT4 := Lib.hid (HT.out.below hb34)
      have HX4 := Lib.hid (HX3.out.keep hb34)
      have HB4 := Lib.hid (HB3.out.trans (hb34.mono HB3.out.size))
      have HQ4 := Lib.hid (HP3.out.below hb34)
      have HN4 := Lib.hid (HPn.out.below hb34)
      refine hK _ _ ⟨HX4.out.cell 0 _ rfl, HX4.out.cell 1 _ rfl, HX4.out.cell 2 _ rfl⟩ ?_
      clear hK K hr4 hb4 hb34 HT HX3 HB3 HP3 HPn
      apply wpOrd_eff2
      case hi => rfl
      case hw => rfl
      intro K hK
      go_simp
      refine (same_eq v4 (.slice (some ⟨g, 0, none⟩) st c3) (D.take st) W4 HP4.out HN4.out (by rw [List.length_take]; omega)).mono ?_
      rintro e W5 ⟨rfl, q, rfl⟩
      refine hK _ _ ⟨HX4.out.cell 0 _ rfl, HX4.out.cell 1 _ rfl, HX4.out.cell 2 _ rfl⟩ ?_
      clear hK K
      apply wpOrd_read0
      case hi => rfl
      case hw => rfl
      case hy => (intro w; go_simp; try rfl)
      intro K hK; go_simp; refine hK _ _ ?_; clear hK K
      apply wpOrd_read0
      case hi => rfl
      case hw => rfl
      case hy => (intro w; go_simp; try rfl)
      intro K hK; go_simp; refine hK _ _ ?_; clear hK K
      apply wpOrd_read0
      case hi => rfl
      case hw => rfl
      case hy => (intro w; go_simp; try rfl)
      intro K hK; go_simp; refine hK _ _ ?_; clear hK K
      apply wpOrd_read1
      case hi => rfl
      case hw => rfl
      case hy => (intro w hw; obtain ⟨h1, h2, h3⟩ := hw; go_simp; try rfl)
      intro K hK; go_simp; refine hK _ _ ?_; clear hK K
      apply wpOrd_read0
      case hi => rfl
      case hw => rfl
      case hy => (intro w; go_simp; try rfl)
      intro K hK; go_simp; refine hK _ _ ?_; clear hK K
      apply wpOrd_read1
      case hi => rfl
      case hw => rfl
      case hy => (intro w hw; obtain ⟨h1, h2, h3⟩ := hw; go_simp; try rfl)
      intro K hK; go_simp; refine hK _ _ ?_; clear hK K
      apply wpOrd_read0
      case hi => rfl
      case hw => rfl
      case hy => (intro w; go_simp; try rfl)
      intro K hK; go_simp; refine hK _ _ ?_; clear hK K
      apply wpOrd_read1
      case hi => rfl
      case hw => rfl
      case hy => (intro w hw; obtain ⟨h1, h2, h3⟩ := hw; go_simp; try rfl)
      intro K hK; go_simp; refine hK _ _ ?_; clear hK K
      apply wpOrd_read0
      case hi => rfl
      case hw => rfl
      case hy => (intro w; go_simp; try rfl)
      intro K hK; go_simp; refine hK _ _ ?_; clear hK K
      apply wpOrd_eff2
      case hi => rfl
      case hw => rfl
      intro K hK
      go_simp
      refine (pairs_1000 T o lo hi back L Y (W4.drewN q) (HT4.out.below ⟨rfl, rfl, rfl, Nat.le_refl _, fun _ _ => rfl⟩) (by have := HLL.out; omega)).mono ?_
      rintro e W6 ⟨v6, rfl, hr6, hb6⟩
      have hb46 : Below W4.heap.size W4 W6 := (below_drewN'' (Below.refl _ W4) q).trans hb6
      have HP6 := Lib.hid (PrAt.of_own rfl hr6)
      rw [← HD.out] at HP6
      have HX6 := Lib.hid (HX4.out.keep hb46)
      have HB6 := Lib.hid (HB4.out.trans (hb46.mono HB4.out.size))
      have HQ6 := Lib.hid (HQ4.out.below hb46)
      refine hK _ _ ⟨HX6.out.cell 0 _ rfl, HX6.out.cell 1 _ rfl, HX6.out.cell 2 _ rfl⟩ ?_
      clear hK K hr6 hb6 hb46 HX4 HB4 HQ4 HN4 HP4 HT4
      apply wpOrd_eff3
      case hi => rfl
      case hw => rfl
      intro K hK
      go_simp
      refine (same_eq v6 (.slice (some ⟨g, 0, none⟩) D.length c3) D W6 HP6.out HQ6.out (by have := HSL.out; have := HLL.out; omega)).mono ?_
      rintro e W7 ⟨rfl, q7, rfl⟩
      refine hK _ _ ?_
      clear hK K
      apply wpOrd_read0
      case hi => rfl
      case hw => rfl
      case hy => (intro w; go_simp; try rfl)
      intro K hK; go_simp; refine hK _ _ ?_; clear hK K
      apply wpOrd_read0
      case hi => rfl
      case hw => rfl
      case hy => (intro w; go_simp; try rfl)
      intro K hK; go_simp; refine hK _ _ ?_; clear hK K
      apply wpOrd_eff3
      case hi => rfl
      case hw => rfl
      intro K hK
      go_simp
      refine (awake_any _).mono ?_
      rintro e W8 ⟨rfl, hb8⟩
      have HB8 := Lib.hid (HB6.out.trans (((below_drewN'' (Below.refl _ W6) q7).trans hb8).mono HB6.out.size))
      refine hK _ _ ?_
      clear hK K hb8
      apply wpOrd_read0
      case hi => rfl
      case hw => rfl
      case hy => (intro w; go_simp; try rfl)
      intro K hK; go_simp; refine hK _ _ ?_; clear hK K
      apply wpOrd_read0
      case hi => rfl
      case hw => rfl
      case hy => (intro w; go_simp; try rfl)
      intro K hK; go_simp; refine hK _ _ ?_; clear hK K
      refine wpOrd_nil ?_
      go_wp2_with fail
      go_ret
      exact ⟨rfl, HB8.out⟩
theorem law_scans (o : Int) (kv : Value) (ks : List Bs) (lo hi : Bs) (back : Bool) (st : Int) (hst : 0 ≤ st ∧ st < 256) (w : World) (hk : KeysArg w kv ks) :
    Calls Try.prog 4 #[.int .i64 o, kv, .agg #[.string lo, .string hi, .bool back, .int .u8 st]] w (LawOut w) := by
  have hk2 := hk
  obtain ⟨a, c, rfl, _⟩ := hk
  by_cases h1 : o < 4
  · exact scans_e1 o a ks.length c lo hi back st w h1
  · by_cases h2 : 256 < o
    · exact scans_e2 o a ks.length c lo hi back st w h2
    · by_cases h3 : 300 < ks.length
      · exact scans_e3 o a ks.length c lo hi back st w (by omega) (by omega) h3
      · obtain ⟨o, rfl⟩ := Int.eq_ofNat_of_zero_le (show 0 ≤ o by omega)
        obtain ⟨st, rfl⟩ := Int.eq_ofNat_of_zero_le hst.1
        exact scans_go o (by omega) (by omega) a c ks lo hi back st (by omega) w hk2 (by omega)
end Go.Proofs.Ytegljepgncicjaa
