/- Btree: New; filled. -/
import Derived.Test.YtegljepgncicjaaBu28
import Derived.Test.YtegljepgncicjaaBu9c
namespace Go.Proofs.Ytegljepgncicjaa
open Go.ChangeShapes Go.WideShapes Go.ChangeAt Go.RowKit Go.Deep Go.Shelf
set_option linter.unusedVariables false
set_option linter.unusedSimpArgs false
theorem New_ok (o : Nat) (h4 : 4 ≤ o) (h6 : o ≤ 256) (W : World) :
    Calls Try.prog 10 #[.int .i64 o] W fun e W' => e = .returned (.tuple #[.pointer (some ⟨W.heap.size, 0, none⟩), .int .i64 0]) ∧ W' = W.alloc (.cells #[.int .i64 o, .int .i64 0, .pointer none] 68) := by
  have d1 : decide ((o : Int) < 4) = false := decide_eq_false (by omega)
  have d2 : decide ((256 : Int) < o) = false := decide_eq_false (by omega)
  go_enter Try.func10, Try.ntmps10
  go_wp2_with fail
  go_ret2
  exact ⟨rfl, rfl⟩
theorem New_no (o : Int) (h : o < 4 ∨ 256 < o) (W : World) :
    Calls Try.prog 10 #[.int .i64 o] W fun e W' => e = .returned (.tuple #[.pointer none, .int .i64 1]) ∧ W' = W := by
  by_cases h1 : o < 4
  · have d1 : decide (o < 4) = true := decide_eq_true h1
    go_enter Try.func10, Try.ntmps10
    go_wp2_with fail
    go_ret2
    exact ⟨rfl, rfl⟩
  · have d1 : decide (o < 4) = false := decide_eq_false h1
    have d2 : decide (256 < o) = true := decide_eq_true (by omega)
    go_enter Try.func10, Try.ntmps10
    go_wp2_with fail
    go_ret2
    exact ⟨rfl, rfl⟩
theorem tr_new (o : Nat) (h4 : 4 ≤ o) (h6 : o ≤ 256) (W : World) : Tr (W.alloc (.cells #[.int .i64 o, .int .i64 0, .pointer none] 68)) W.heap.size o [] (fun k => k = W.heap.size) :=
  ⟨none, ⟨fun _ => none, fun _ => none⟩, fun _ _ => .bool false, fun k => (k, 9), ⟨Box.new W [.int .i64 o, .int .i64 0, .pointer none] 68, fun N nd hN => (by cases hN), fun k ⟨N, nd, hN, _⟩ => (by cases hN), rfl, fun k hk => by rw [hk]; simp, List.Pairwise.nil, rfl, h4, h6⟩⟩
/-- a slice of strings that came in -/
def KeysArg (w : World) (v : Value) (xs : List Bs) : Prop :=
  ∃ a c, v = .slice a xs.length c ∧ (0 < xs.length → ∃ B o, a = some ⟨B, o, none⟩ ∧ B < w.heap.size ∧ ∀ j, j < xs.length → w.cell? ⟨B, o + j, none⟩ = some (.string (sx xs j)))
theorem KeysArg.below {w w' : World} {v : Value} {xs : List Bs} (h : KeysArg w v xs) (hb : Below w.heap.size w w') : KeysArg w' v xs := by
  obtain ⟨a, c, rfl, h⟩ := h
  refine ⟨a, c, rfl, fun h0 => ?_⟩
  obtain ⟨B, o, h1, h2, h3⟩ := h h0
  exact ⟨B, o, h1, Nat.lt_of_lt_of_le h2 hb.size, fun j hj => (hb.cell (p := ⟨B, o + j, none⟩) h2).trans (h3 j hj)⟩
/-- a tree that holds L and a boxed tree of the reference that holds M -/
structure FB (w0 : World) (T R o : Nat) (L M : List Pr) (Y : Nat → Prop) (v : Value) (W : World) : Prop where
  tr : Tr W T o L Y
  pr : PrAt W v M
  bx : Box W R [.int .i64 o, v]
  vy : ∀ k, v.ownBlock = some k → ¬ Y k
  ry : ¬ Y R
  y0 : ∀ k, Y k → w0.heap.size ≤ k
  r0 : w0.heap.size ≤ R
  vr : ∀ k, v.ownBlock = some k → k ≠ R
  v0 : ∀ k, v.ownBlock = some k → w0.heap.size ≤ k
  b : Below w0.heap.size w0 W
section
variable {w0 W W1 : World} {T R o : Nat} {L M : List Pr} {Y : Nat → Prop} {v : Value}
theorem FB.kept {S : Nat → Prop} (h : FB w0 T R o L M Y v W) (hk : Kept S W W1) (h1 : ∀ k, Y k → ¬ S k) (h2 : ∀ k, v.ownBlock = some k → ¬ S k) (h3 : ¬ S R) (h4 : ∀ k, S k → w0.heap.size ≤ k) : FB w0 T R o L M Y v W1 :=
  ⟨h.tr.kept hk h1, h.pr.kept hk h2, h.bx.kept hk h3, h.vy, h.ry, h.y0, h.r0, h.vr, h.v0, h.b.trans (hk.below h.b.size h4)⟩
theorem FB.below (h : FB w0 T R o L M Y v W) (hb : Below W.heap.size W W1) : FB w0 T R o L M Y v W1 := by
  have hk : Kept (fun k => ¬ k < W.heap.size) W W1 := ⟨hb.os, hb.tape, hb.output, hb.size, fun k hk _ => hb.block k hk⟩
  exact h.kept hk (fun k hy hs => hs (h.tr.yl k hy)) (fun k hk hs => hs (h.pr.own_lt k hk)) (fun hs => hs h.bx.lt) (fun k hs => Nat.le_trans h.b.size (Nat.le_of_not_lt hs))
theorem FB.cast {L' : List Pr} (h : FB w0 T R o L L Y v W) (e : L' = L) : FB w0 T R o L' L' Y v W := by subst e; exact h
theorem FB.drew (h : FB w0 T R o L M Y v W) : FB w0 T R o L M Y v W.drew := h.below ⟨rfl, rfl, rfl, Nat.le_refl _, fun _ _ => rfl⟩
theorem FB.drewN (h : FB w0 T R o L M Y v W) (q : Nat) : FB w0 T R o L M Y v (W.drewN q) := h.below ⟨rfl, rfl, rfl, Nat.le_refl _, fun _ _ => rfl⟩
/-- the tree has been worked on -/
theorem FB.tree {L' : List Pr} (h : FB w0 T R o L M Y v W) (ht : Tr W1 T o L' (GrowY Y W W1)) (hk : Kept Y W W1) : FB w0 T R o L' M (GrowY Y W W1) v W1 := by
  refine ⟨ht, h.pr.kept hk h.vy, h.bx.kept hk h.ry, fun k hk2 hy => ?_, fun hy => ?_, fun k hy => ?_, h.r0, h.vr, h.v0, h.b.trans (hk.below h.b.size h.y0)⟩
  · rcases hy with hy | hy
    · exact h.vy k hk2 hy
    · have := h.pr.own_lt k hk2; omega
  · rcases hy with hy | hy
    · exact h.ry hy
    · have := h.bx.lt; omega
  · rcases hy with hy | hy
    · exact h.y0 k hy
    · have := h.b.size; omega
/-- the reference's tree has been worked on and is stored again -/
theorem FB.ref {M' : List Pr} {a : Option Addr} {n c : Nat} (h : FB w0 T R o L M Y v W) (hb : Below W.heap.size W W1) (hp : PrAt W1 (.slice a n c) M') (hf : ∀ k, (Value.slice a n c).ownBlock = some k → v.ownBlock = some k ∨ W.heap.size ≤ k) :
    FB w0 T R o L M' Y (.slice a n c) ((W1.setCell ⟨R, 0, none⟩ (.int .i64 o)).setCell ⟨R, 1, none⟩ (.slice a n c)) := by
  have h1 := h.below hb
  have hk : Kept (fun k => k = R) W1 ((W1.setCell ⟨R, 0, none⟩ (.int .i64 o)).setCell ⟨R, 1, none⟩ (.slice a n c)) := (Kept.refl (fun k => k = R) _).setCells R 0 [.int .i64 o, .slice a n c] (.inl rfl)
  have hvr : ∀ k, (Value.slice a n c).ownBlock = some k → k ≠ R := fun k hk => by
    rcases hf k hk with h2 | h2
    · exact h.vr k h2
    · have := h.bx.lt; omega
  refine ⟨h1.tr.kept hk (fun k hy e => h.ry (by rw [← e]; exact hy)), hp.kept hk hvr, (h1.bx.setCell 0 (.int .i64 o) (by simp)).setCell 1 (.slice a n c) (by simp), fun k hk hy => ?_, h.ry, h.y0, h.r0, hvr, fun k hk => (hf k hk).elim (h.v0 k) (fun h2 => Nat.le_trans h.b.size h2), h1.b.trans (hk.below h1.b.size (fun k e => by rw [e]; exact h.r0))⟩
  rcases hf k hk with h2 | h2
  · exact h.vy k h2 hy
  · have := h.tr.yl k hy; omega
end
/-- the pairs after n steps of filled -/
def fillL (ks : List Bs) : Nat → List Pr
  | 0 => []
  | i + 1 => putL (fillL ks i) (sx ks i) (sx ks (ks.length - 1 - i))
theorem putL_len1 (L : List Pr) (k v : Bs) : (putL L k v).length ≤ L.length + 1 := by
  rw [putL_len]; split <;> omega
theorem fillL_len (ks : List Bs) : ∀ n, (fillL ks n).length ≤ n
  | 0 => by simp [fillL]
  | n + 1 => by
    have := fillL_len ks n
    have := putL_len1 (fillL ks n) (sx ks n) (sx ks (ks.length - 1 - n))
    unfold fillL
    omega
def FilledOut (w0 : World) (o : Nat) (L : List Pr) (e : Ending) (W' : World) : Prop :=
  ∃ T v Y, e = .returned (.tuple #[.pointer (some ⟨T, 0, none⟩), .agg #[.int .i64 o, v]]) ∧ Tr W' T o L Y ∧ PrAt W' v L ∧ (∀ k, v.ownBlock = some k → ¬ Y k ∧ w0.heap.size ≤ k) ∧ (∀ k, Y k → w0.heap.size ≤ k) ∧ Below w0.heap.size w0 W'
set_option maxRecDepth 100000 in
set_option maxHeartbeats 1600000 in
theorem filled_any (o : Nat) (h4 : 4 ≤ o) (h6 : o ≤ 256) (kv : Value) (ks : List Bs) (w0 : World) (hk : KeysArg w0 kv ks) (hl : ks.length ≤ 400) :
    Calls Try.prog 16 #[.int .i64 o, kv] w0 (FilledOut w0 o (fillL ks ks.length)) := by
  obtain ⟨ka, kc, rfl, hkc⟩ := hk
  have HK := Lib.hid hkc
  clear hkc
  go_enter Try.func16, Try.ntmps16
  go_wp2_with fail
  refine (New_ok o h4 h6 _).mono ?_
  rintro e w1 ⟨rfl, hw⟩
  obtain rfl := hw.symm
  have HK0 := Lib.hid (show ∀ w' : World, Below w0.heap.size w0 w' → 0 < ks.length → ∃ B o, ka = some ⟨B, o, none⟩ ∧ B < w0.heap.size ∧ ∀ j, j < ks.length → w'.cell? ⟨B, o + j, none⟩ = some (.string (sx ks j)) from fun w' hb h0 => by
    obtain ⟨B, o, h1, h2, h3⟩ := HK.out h0
    exact ⟨B, o, h1, h2, fun j hj => (hb.cell (p := ⟨B, o + j, none⟩) h2).trans (h3 j hj)⟩)
  clear HK
  have hF0 := Box.new w0 [.int .i64 0, .slice none 0 0] 30
  have hB0 : Below w0.heap.size w0 (w0.alloc (.cells #[.int .i64 0, .slice none 0 0] 30)) := (Below.refl _ w0).alloc (Nat.le_refl _) _
  have hFz : (w0.alloc (.cells #[.int .i64 0, .slice none 0 0] 30)).heap.size = w0.heap.size + 1 := by simp
  go_wp2_with fail
  have hT0 := tr_new o h4 h6 (w0.alloc (.cells #[.int .i64 0, .slice none 0 0] 30))
  rw [hFz] at hT0
  generalize w0.alloc (.cells #[.int .i64 0, .slice none 0 0] 30) = wa at *
  refine (rNew_ok o _ (by omega) (by omega)).mono ?_
  rintro e w2 ⟨rfl, hb2⟩
  go_wp2_with fail
  have hkb : Kept (fun k => ¬ k < w0.heap.size + 2) (wa.alloc (.cells #[.int .i64 o, .int .i64 0, .pointer none] 68)) w2 := ⟨hb2.os, hb2.tape, hb2.output, hb2.size, fun k hk hs => hb2.block k hk⟩
  have hw2 : w0.heap.size + 2 ≤ w2.heap.size := by have := hb2.size; rw [World.size_alloc, hFz] at this; omega
  have hT2 := (hT0.kept hkb (fun k hk hs => hs (by omega))).kept ((Kept.refl (fun _ => False) w2).alloc (.cells #[.int .i64 o, .slice none 0 0] 30)) (fun _ _ h => h)
  have hR0 := Box.new w2 [.int .i64 o, .slice none 0 0] 30
  have hbw : Below wa.heap.size wa (w2.alloc (.cells #[.int .i64 o, .slice none 0 0] 30)) := (((Below.refl _ wa).alloc (Nat.le_refl _) _).trans (hb2.mono (by simp))).alloc (by omega) _
  have hfb : FB wa (w0.heap.size + 1) w2.heap.size o [] [] (fun k => k = w0.heap.size + 1) (.slice none 0 0) (w2.alloc (.cells #[.int .i64 o, .slice none 0 0] 30)) :=
    ⟨hT2, .inl ⟨rfl, rfl⟩, hR0, fun k hk => by simp [Value.ownBlock] at hk, fun e => by omega, fun k hk => by omega, by omega, fun k hk => by simp [Value.ownBlock] at hk, fun k hk => by simp [Value.ownBlock] at hk, hbw⟩
  have HFB := Lib.hid hfb
  have HF := Lib.hid (And.intro hF0 hFz)
  clear hT0 hT2 hR0 hkb hbw hfb hb2 hw2 hF0 hFz
  generalize w2.heap.size = R at HFB ⊢
  generalize w2.alloc _ = W1 at HFB ⊢
  have HB0 := Lib.hid hB0
  clear hB0
  go_loopw [10] (fun i wr => ∃ (k : Nat) (Y : Nat → Prop) (v : Value), k ≤ ks.length ∧ i = .int .i64 k ∧ FB wa (w0.heap.size + 1) R o (fillL ks k) (fillL ks k) Y v wr) (fun i _ => ks.length - (intOf i).toNat)
  case atStart => exact ⟨0, _, _, Nat.zero_le _, rfl, HFB.out⟩
  case round =>
    clear HFB
    obtain ⟨k, Y, v, hk, rfl, hfb⟩ := hrel
    have HFB := Lib.hid hfb
    clear hfb
    have HLn := Lib.hid (fillL_len ks k)
    by_cases hlt : k < ks.length
    · obtain ⟨B, bo, rfl, hBl, hcell⟩ := HK0.out wr (HB0.out.trans (HFB.out.b.mono HB0.out.size)) (by omega)
      have HCE := Lib.hid (show ∀ w', Below wa.heap.size wa w' → w'.cell? ⟨B, bo + k, none⟩ = some (.string (sx ks k)) ∧ w'.cell? ⟨B, bo + (ks.length - 1 - k), none⟩ = some (.string (sx ks (ks.length - 1 - k))) from fun w' hb => by
        obtain ⟨B', bo', he, _, h⟩ := HK0.out w' (HB0.out.trans (hb.mono HB0.out.size)) (by omega)
        cases he
        exact ⟨h k hlt, h _ (by omega)⟩)
      have a0 := hcell k hlt
      have a1 := hcell (ks.length - 1 - k) (by omega)
      have hw1 : IntKind.i64.wrap ((ks.length : Int) - 1) = ((ks.length - 1 : Nat) : Int) := by rw [IntKind.wrap_i64]; omega
      have hw2 : IntKind.i64.wrap (((ks.length - 1 : Nat) : Int) - (k : Int)) = ((ks.length - 1 - k : Nat) : Int) := by rw [IntKind.wrap_i64]; omega
      have HST : Hid (fillL ks (k + 1) = putL (fillL ks k) (sx ks k) (sx ks (ks.length - 1 - k))) := Lib.hid rfl
      have hjl : ks.length - 1 - k < ks.length := by omega
      clear hcell hBl
      generalize sx ks k = x at *
      generalize sx ks (ks.length - 1 - k) = y at *
      generalize ks.length - 1 - k = j at *
      have HA := Lib.hid (And.intro a0 a1)
      go_wp2_with fail
      go_still_tail 13, (by kernel_rfl)
      change wpList _ _ _ _ _ wr.drew
      clear a0 a1
      go_wp2_with fail
      refine (Put_T wr.drew (w0.heap.size + 1) o (fillL ks k) Y x y HFB.out.drew.tr (by have := HLn.out; omega)).mono ?_
      rintro e W2 ⟨rfl, ht2, hk2⟩
      have HF2 := Lib.hid (HFB.out.drew.tree ht2 hk2)
      clear ht2 hk2 HFB HA
      obtain ⟨va, vc, rfl⟩ := HF2.out.pr.len
      have r0 := HF2.out.bx.cell 0 _ rfl
      have r1 := HF2.out.bx.cell 1 _ rfl
      obtain ⟨a0, a1⟩ := HCE.out W2 HF2.out.b
      go_wp2_with fail
      refine wp_region_ordW 18 13 [(0, 1), (1, 0), (2, 0), (3, 0), (4, 1), (5, 0), (6, 0), (7, 0), (8, 0), (9, 0), (10, 0), (11, 0), (12, 1), (13, 3), (14, 0), (15, 0), (16, 0), (17, 3)] (fun X => X.cell? ⟨R, 0, none⟩ = some (.int .i64 o) ∧ X.cell? ⟨R, 1, none⟩ = some (.slice va (fillL ks k).length vc) ∧ X.cell? ⟨B, bo + k, none⟩ = some (.string x) ∧ X.cell? ⟨B, bo + j, none⟩ = some (.string y)) (by kernel_rfl) (by kernel_rfl) ⟨r0, r1, a0, a1⟩ (fun c a d v w h => by cases d <;> exact h) ?_
      apply wpOrd_read1
      case hi => rfl
      case hw => rfl
      case hy => (intro w hw; obtain ⟨h1, h2, h3, h4⟩ := hw; go_simp; try rfl)
      intro K hK; go_simp; refine hK _ _ ?_; clear hK K
      apply wpOrd_read0
      case hi => rfl
      case hw => rfl
      case hy => (intro w; go_simp; try rfl)
      intro K hK; go_simp; refine hK _ _ ?_; clear hK K
      apply wpOrd_read0
      case hi => rfl
      case hw => rfl
      case hy => (intro w; go_simp; try rfl)
      intro K hK; go_simp; refine hK _ _ ?_; clear hK K
      apply wpOrd_read0
      case hi => rfl
      case hw => rfl
      case hy => (intro w; go_simp; try rfl)
      intro K hK; go_simp; refine hK _ _ ?_; clear hK K
      apply wpOrd_read1
      case hi => rfl
      case hw => rfl
      case hy => (intro w hw; obtain ⟨h1, h2, h3, h4⟩ := hw; go_simp; try rfl)
      intro K hK; go_simp; refine hK _ _ ?_; clear hK K
      apply wpOrd_read0
      case hi => rfl
      case hw => rfl
      case hy => (intro w; go_simp; try rfl)
      intro K hK; go_simp; refine hK _ _ ?_; clear hK K
      apply wpOrd_read0
      case hi => rfl
      case hw => rfl
      case hy => (intro w; go_simp; try rfl)
      intro K hK; go_simp; refine hK _ _ ?_; clear hK K
      apply wpOrd_read0
      case hi => rfl
      case hw => rfl
      case hy => (intro w; go_simp; try rfl)
      intro K hK; go_simp; refine hK _ _ ?_; clear hK K
      apply wpOrd_read0
      case hi => rfl
      case hw => rfl
      case hy => (intro w; go_simp; try rfl)
      intro K hK; go_simp; refine hK _ _ ?_; clear hK K
      apply wpOrd_read0
      case hi => rfl
      case hw => rfl
      case hy => (intro w; go_simp; try rfl)
      intro K hK; go_simp; refine hK _ _ ?_; clear hK K
      apply wpOrd_read0
      case hi => rfl
      case hw => rfl
      case hy => (intro w; go_simp; try rfl)
      intro K hK; go_simp; refine hK _ _ ?_; clear hK K
      apply wpOrd_read0
      case hi => rfl
      case hw => rfl
      case hy => (intro w; go_simp; try rfl)
      intro K hK; go_simp; refine hK _ _ ?_; clear hK K
      apply wpOrd_read1
      case hi => rfl
      case hw => rfl
      case hy => (intro w hw; obtain ⟨h1, h2, h3, h4⟩ := hw; go_simp; try rfl)
      intro K hK; go_simp; refine hK _ _ ?_; clear hK K
      apply wpOrd_eff3
      case hi => rfl
      case hw => rfl
      intro K hK
      go_simp
      refine (rPut_any o (.slice va (fillL ks k).length vc) (fillL ks k) x y W2.drew HF2.out.drew.pr (by have := HLn.out; omega)).mono ?_
      rintro e W3 ⟨v3, rfl, hp3, hb3, hf3⟩
      obtain ⟨a3, c3, rfl⟩ := hp3.len
      have HF3 := Lib.hid (HF2.out.drew.ref hb3 hp3 hf3)
      have hf3b := HF2.out.drew.below hb3
      have s0 := hf3b.bx.cell 0 _ rfl
      have s1 := hf3b.bx.cell 1 _ rfl
      have sf := hf3b.bx.free
      have sl := hf3b.bx.lt
      refine hK _ _ ?_
      clear hK K hp3 hb3 hf3 hf3b HF2
      apply wpOrd_read0
      case hi => rfl
      case hw => rfl
      case hy => (intro w; go_simp; try rfl)
      intro K hK; go_simp; refine hK _ _ ?_; clear hK K
      apply wpOrd_read0
      case hi => rfl
      case hw => rfl
      case hy => (intro w; go_simp; try rfl)
      intro K hK; go_simp; refine hK _ _ ?_; clear hK K
      apply wpOrd_read0
      case hi => rfl
      case hw => rfl
      case hy => (intro w; go_simp; try rfl)
      intro K hK; go_simp; refine hK _ _ ?_; clear hK K
      apply wpOrd_eff3
      case hi => rfl
      case hw => rfl
      intro K hK
      go_simp
      refine hK _ _ (wpOrd_nil ?_)
      clear hK K
      go_wp2_with fail
      go_roundw
      case rel => exact ⟨k + 1, _, _, hlt, by go_num, HF3.out.cast HST.out⟩
      case measure => simp [intOf]; omega
    · have hkn : k = ks.length := by omega
      subst hkn
      obtain ⟨va, vc, rfl⟩ := HFB.out.pr.len
      have r0 := HFB.out.bx.cell 0 _ rfl
      have r1 := HFB.out.bx.cell 1 _ rfl
      have hbF := HF.out.1.far HFB.out.b (by rw [HF.out.2]; omega)
      have f0 := hbF.cell 0 _ rfl
      have f1 := hbF.cell 1 _ rfl
      have ff := hbF.free
      have fl := hbF.lt
      clear hbF
      go_wp2_with fail
      refine wp_region_ordW 4 3 [(0, 0), (1, 1), (2, 0), (3, 3)] (fun X => X.cell? ⟨R, 0, none⟩ = some (.int .i64 o) ∧ X.cell? ⟨R, 1, none⟩ = some (.slice va (fillL ks ks.length).length vc)) (by kernel_rfl) (by kernel_rfl) ⟨r0, r1⟩ (fun c a d v w h => by cases d <;> exact h) ?_
      apply wpOrd_read0
      case hi => rfl
      case hw => rfl
      case hy => (intro w; go_simp; try rfl)
      intro K hK; go_simp; refine hK _ _ ?_; clear hK K
      apply wpOrd_read1
      case hi => rfl
      case hw => rfl
      case hy => (intro w hw; obtain ⟨h1, h2⟩ := hw; go_simp; try rfl)
      intro K hK; go_simp; refine hK _ _ ?_; clear hK K
      apply wpOrd_read0
      case hi => rfl
      case hw => rfl
      case hy => (intro w; go_simp; try rfl)
      intro K hK; go_simp; refine hK _ _ ?_; clear hK K
      apply wpOrd_eff3
      case hi => rfl
      case hw => rfl
      intro K hK
      go_simp
      refine hK _ _ (wpOrd_nil ?_)
      clear hK K
      go_wp2_with fail
      have hfz := HF.out.2
      have hfr := HFB.out.drew
      have hst : Kept (fun k => k = w0.heap.size) wr ((wr.setCell ⟨w0.heap.size, 0, none⟩ (.int .i64 o)).setCell ⟨w0.heap.size, 1, none⟩ (.slice va (fillL ks ks.length).length vc)) := (Kept.refl (fun k => k = w0.heap.size) _).setCells w0.heap.size 0 [.int .i64 o, .slice va (fillL ks ks.length).length vc] (.inl rfl)
      have hst2 := hst.drew
      have hbx := (((HF.out.1.far HFB.out.b (by omega)).setCell 0 (.int .i64 o) (by simp)).setCell 1 (.slice va (fillL ks ks.length).length vc) (by simp)).drew
      have e0 := hbx.cell 0 _ rfl
      have e1 := hbx.cell 1 _ rfl
      refine bodyPost_ret (v := .tuple #[.pointer (some ⟨w0.heap.size + 1, 0, none⟩), .agg #[.int .i64 o, .slice va (fillL ks ks.length).length vc]]) (by simp [results, Try.results16, go_sem, e0, e1]) rfl ?_
      refine ⟨_, _, Y, rfl, HFB.out.tr.kept hst2 (fun k hy e => ?_), HFB.out.pr.kept hst2 (fun k hk e => ?_), fun k hk => ⟨HFB.out.vy k hk, ?_⟩, fun k hy => ?_, (HB0.out.trans (HFB.out.b.mono HB0.out.size)).trans (hst2.below ?_ (fun k e => ?_))⟩
      · have := HFB.out.y0 k hy; omega
      · have := HFB.out.v0 k hk; omega
      · have := HFB.out.v0 k hk; omega
      · have := HFB.out.y0 k hy; omega
      · have := HFB.out.b.size; omega
      · omega
end Go.Proofs.Ytegljepgncicjaa
