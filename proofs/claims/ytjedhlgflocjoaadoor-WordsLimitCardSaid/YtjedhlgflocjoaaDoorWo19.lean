/- Words: the library's Split, Trim and Contains in this chapter's words; three slices that grow. -/
import Derived.Test.YtjedhlgflocjoaaDoorWo18
import Derived.Lib.SplitLaws
namespace Wd
open Go.Lib in
theorem split_cut : ∀ (l cur : Str), ∃ h tl, splitK [34] 0 (count l [34]) l = h :: tl ∧ cutQ cur l = (cur ++ h) :: tl
  | [], cur => ⟨[], [], by rw [show count [] [34] = 0 from by simp [count_one]]; rfl, by simp [cutQ]⟩
  | c :: t, cur => by
    by_cases hc : c = 34
    · subst hc
      obtain ⟨h, tl, h1, h2⟩ := split_cut t []
      refine ⟨[], h :: tl, ?_, ?_⟩
      · rw [count_cons_eq, Nat.add_comm]
        unfold splitK
        have hi : Go.Lib.index (34 :: t) [34] = 0 := by unfold Go.Lib.index; rw [if_pos (by simp [List.isPrefixOf])]
        rw [hi]
        simp [h1]
      · unfold cutQ
        rw [if_pos rfl, h2]
        simp
    · obtain ⟨h, tl, h1, h2⟩ := split_cut t (cur ++ [c])
      refine ⟨c :: h, tl, ?_, ?_⟩
      · rw [count_cons_ne _ _ _ hc]
        have hi : Go.Lib.index (c :: t) [34] = if Go.Lib.index t [34] == -1 then -1 else Go.Lib.index t [34] + 1 := by
          conv => lhs; unfold Go.Lib.index
          rw [if_neg (by simp [List.isPrefixOf, Ne.symm hc])]
        cases hn : count t [34] with
        | zero =>
          rw [hn] at h1
          unfold splitK at h1 ⊢
          simp only [List.cons.injEq] at h1
          rw [← h1.1, ← h1.2]
        | succ n =>
          rw [hn] at h1
          unfold splitK at h1 ⊢
          rw [hi]
          by_cases hm : (Go.Lib.index t [34] == -1) = true
          · rw [if_pos hm] at h1
            simp only [List.cons.injEq] at h1
            simp only [hm, if_true]
            rw [if_pos (by decide), ← h1.1, ← h1.2]
          · rw [if_neg hm] at h1
            simp only [List.cons.injEq] at h1
            have hge := Go.Lib.index_ge t [34]
            have hm' : Go.Lib.index t [34] ≠ -1 := by simpa using hm
            have e : (Go.Lib.index t [34] + 1).toNat = (Go.Lib.index t [34]).toNat + 1 := by omega
            rw [if_neg hm, if_neg (by rw [beq_iff_eq]; omega), e]
            have e4 : List.drop ((Go.Lib.index t [34]).toNat + 1 + [(34 : UInt8)].length) (c :: t) = List.drop ((Go.Lib.index t [34]).toNat + [(34 : UInt8)].length) t := by
              show List.drop ((Go.Lib.index t [34]).toNat + 1 + 1) (c :: t) = List.drop ((Go.Lib.index t [34]).toNat + 1) t
              rw [List.drop_succ_cons]
            rw [e4, h1.2]
            rw [← h1.1]
            rfl
      · unfold cutQ
        rw [if_neg hc, h2]
        simp
open Go.Lib in
theorem split_is (s : ByteArray) : (splitB ⟨#[34]⟩ 0 (countB s ⟨#[34]⟩) s).map (·.data.toList) = cutQ [] s.data.toList := by
  rw [splitB_data]
  obtain ⟨h, tl, h1, h2⟩ := split_cut s.data.toList []
  rw [h2, List.nil_append, ← h1]
  try rfl
open Go.Lib in
theorem split_strs (s : ByteArray) : (splitB ⟨#[34]⟩ 0 (countB s ⟨#[34]⟩) s) = (cutQ [] s.data.toList).map (fun l => ⟨l.toArray⟩) := by
  rw [← split_is, List.map_map]
  exact (List.map_id'' (fun _ => rfl) _).symm
end Wd
namespace Go.Proofs.YtjedhlgflocjoaaDoor
open Go.ChangeShapes Go.WideShapes Go.ChangeAt Go.RowKit Go.Sort
set_option linter.unusedVariables false
set_option linter.unusedSimpArgs false
/-- what the program alone needs of a world: the cell of the library's longest needle -/
structure EnvB (w : World) : Prop where
  big : ∃ m : Int, w.cell? ⟨1, 0, none⟩ = some (.int .i64 m)
  size : 2 ≤ w.heap.size
theorem EnvB.keep {w w' : World} (h : EnvB w) (hb : Below w.heap.size w w') : EnvB w' := by
  obtain ⟨m, hm⟩ := h.big
  have := h.size
  exact ⟨⟨m, (hb.cell (p := ⟨1, 0, none⟩) (by show 1 < _; omega)).trans hm⟩, Nat.le_trans h.size hb.size⟩
theorem Env.b {w : World} (h : Env w) : EnvB w := ⟨h.big, h.size⟩
theorem split34_any (s : ByteArray) (w : World) (hw : EnvB w) (hs : s.size ≤ 50000) :
    Calls Tryd.prog 36 #[.string s, .string ⟨#[34]⟩] w fun e w' => ∃ g cap, e = .returned (.slice (some ⟨g, 0, none⟩) (Wd.cutQ [] s.data.toList).length cap) ∧ StrsAt w' (.slice (some ⟨g, 0, none⟩) (Wd.cutQ [] s.data.toList).length cap) (Wd.cutQ [] s.data.toList) ∧ Below w.heap.size w w' ∧ w.heap.size ≤ g := by
  obtain ⟨m, hm⟩ := hw.big
  refine (Tryd.strings_Split s ⟨#[34]⟩ m w (by omega) hm (by decide)).mono ?_
  rintro e w' ⟨rfl, rfl⟩
  have hl : Lib.countB s ⟨#[34]⟩ + 1 = (Wd.cutQ [] s.data.toList).length := by
    rw [← Lib.splitB_all ⟨#[34]⟩ (by decide) 0 _ s rfl, Wd.split_strs, List.length_map]
  rw [hl, Wd.split_strs, List.map_map]
  refine ⟨w.heap.size, _, rfl, .inr ⟨w.heap.size, _, rfl, Nat.le_refl _, by simp, fun j hj => ?_⟩, (Below.refl _ _).alloc (Nat.le_refl _) _, Nat.le_refl _⟩
  rw [World.cell?_alloc_new]
  simp [hj]
  rfl
theorem trim_any (s : ByteArray) (w : World) (hs : s.size ≤ 50000) :
    Calls Tryd.prog 37 #[.string s, .string ⟨#[9, 10, 13, 32]⟩] w fun e w' => e = .returned (.string (Wd.bs (Lib.trimS s.data.toList Wd.blanks))) ∧ Below w.heap.size w w' := by
  by_cases h0 : s.size = 0
  · refine (Go.Proofs.Any.strings_Trim_empty Tryd.lays160 s ⟨#[9, 10, 13, 32]⟩ w (.inl h0)).mono ?_
    rintro e w' ⟨rfl, rfl⟩
    refine ⟨ret_str ?_, Below.refl _ _⟩
    have e0 : s.data.toList = [] := List.eq_nil_of_length_eq_zero (by rw [size_list]; exact h0)
    rw [e0]
    have : s = Wd.bs s.data.toList := rfl
    rw [this, e0]
    rfl
  · refine (Go.Proofs.Any.strings_Trim_set Tryd.lays160 (fun w => by kernel_rfl) (by kernel_rfl) s ⟨#[9, 10, 13, 32]⟩ w (by decide) (by omega) (by omega) (by decide) ?_).mono ?_
    · intro j b hb
      have hm : b ∈ [9, 10, 13, 32] := List.mem_of_getElem? hb
      simp at hm
      rcases hm with rfl | rfl | rfl | rfl <;> decide
    · rintro e w' ⟨rfl, q, rfl⟩
      refine ⟨rfl, ?_⟩
      have hb : Below w.heap.size w ((w.alloc (.cells (Lib.setCells [9, 10, 13, 32]) (Tryd.lays160_ren.t 116))).alloc (.cells (Lib.setCells [9, 10, 13, 32]) (Tryd.lays160_ren.t 116))) := ((Below.refl _ _).alloc (Nat.le_refl _) _).alloc (by simp) _
      exact ⟨hb.os, hb.tape, hb.output, hb.size, hb.block⟩
theorem contains_any (v : Value) (ls : List Wd.Str) (x : ByteArray) (w : World) (hv : StrsAt w v ls) (hl : ls.length ≤ 1000000) :
    Calls Tryd.prog 39 #[v, .string x] w fun e w' => e = .returned (.bool (Wd.has ls x.data.toList)) ∧ w = w' := by
  rcases hv with ⟨rfl, rfl⟩ | ⟨g, cap, rfl, hc, hg, hcell⟩
  · refine (Tryd.slices_Contains_string_empty none 0 x w).mono ?_
    rintro e w' ⟨rfl, rfl⟩
    exact ⟨rfl, rfl⟩
  · refine (Tryd.slices_Contains_string g 0 ls.length cap (ls.map Wd.bs) x w (by simp) (by omega) (fun j hj => ?_)).mono ?_
    · have hj' : j < ls.length := by simpa using hj
      rw [Nat.zero_add, hcell j hj']
      simp [List.getD_eq_getElem?_getD, hj']
    · rintro e w' ⟨rfl, rfl⟩
      refine ⟨ret_bool ?_, rfl⟩
      rw [List.take_of_length_le (by simp), Bool.eq_iff_iff, Wd.has_iff, Lib.containsS, decide_eq_true_eq, Lib.idxOfS_nonneg_iff, List.mem_map]
      constructor
      · rintro ⟨a, ha, rfl⟩; exact ha
      · intro h; exact ⟨_, h, rfl⟩
/-- three slices of the call's own -/
structure Th (w W : World) (a p b : Value) (A P B : List Wd.Str) : Prop where
  sa : SL w W a A
  sp : SL w W p P
  sb : SL w W b B
  ap : Apart a p
  pa : Apart p a
  ab : Apart a b
  ba : Apart b a
  pb : Apart p b
  bp : Apart b p
theorem Th.keep {w W W' : World} {a p b : Value} {A P B : List Wd.Str} (h : Th w W a p b A P B) (hb : Below W.heap.size W W') : Th w W' a p b A P B :=
  ⟨h.sa.keep hb, h.sp.keep hb, h.sb.keep hb, h.ap, h.pa, h.ab, h.ba, h.pb, h.bp⟩
theorem Th.start (w W : World) (hb : Below w.heap.size w W) : Th w W (.slice none 0 0) (.slice none 0 0) (.slice none 0 0) [] [] [] :=
  ⟨SL.nil w W hb, SL.nil w W hb, SL.nil w W hb, .inl rfl, .inl rfl, .inl rfl, .inl rfl, .inl rfl, .inl rfl⟩
theorem Th.stepA {w W W' : World} {a a' p b : Value} {A A' P B : List Wd.Str} (h : Th w W a p b A P B) (hg : Grew W W' a a') (hs : SL w W' a' A') : Th w W' a' p b A' P B :=
  have hp := h.sp.other hg h.sa h.pa
  have hb := h.sb.other hg h.sa h.ba
  ⟨hs, hp.1, hb.1, apart_new hg h.sp.own h.ap h.pa, hp.2, apart_new hg h.sb.own h.ab h.ba, hb.2, h.pb, h.bp⟩
theorem Th.stepP {w W W' : World} {a p p' b : Value} {A P P' B : List Wd.Str} (h : Th w W a p b A P B) (hg : Grew W W' p p') (hs : SL w W' p' P') : Th w W' a p' b A P' B :=
  have ha := h.sa.other hg h.sp h.ap
  have hb := h.sb.other hg h.sp h.bp
  ⟨ha.1, hs, hb.1, ha.2, apart_new hg h.sa.own h.pa h.ap, h.ab, h.ba, apart_new hg h.sb.own h.pb h.bp, hb.2⟩
theorem Th.stepB {w W W' : World} {a p b b' : Value} {A P B B' : List Wd.Str} (h : Th w W a p b A P B) (hg : Grew W W' b b') (hs : SL w W' b' B') : Th w W' a p b' A P B' :=
  have ha := h.sa.other hg h.sb h.ab
  have hp := h.sp.other hg h.sb h.pb
  ⟨ha.1, hp.1, hs, h.ap, h.pa, ha.2, apart_new hg h.sa.own h.ba h.ab, hp.2, apart_new hg h.sp.own h.bp h.pb⟩
theorem Th.below {w W : World} {a p b : Value} {A P B : List Wd.Str} (h : Th w W a p b A P B) : Below w.heap.size w W := h.sa.below
/-- a slice apart from all three -/
structure Fr (u a p b : Value) : Prop where
  fa : Apart u a
  fp : Apart u p
  fb : Apart u b
theorem WordsAt.other {W W' : World} {v p p' : Value} {ws : List (Wd.Str × Bool)} (h : WordsAt W v ws) (hg : Grew W W' p p') (ha : Apart v p) : WordsAt W' v ws ∧ Apart v p' := by
  rcases h with ⟨rfl, rfl⟩ | ⟨g, cap, rfl, hgl, hcell⟩
  · exact ⟨.inl ⟨rfl, rfl⟩, .inl rfl⟩
  · have hne : some g ≠ p.ownBlock := by
      rcases ha with ha | ha
      · simp [Value.ownBlock] at ha
      · exact ha
    have hblk := hg.by'.block g hgl hne
    refine ⟨.inr ⟨g, cap, rfl, Nat.lt_of_lt_of_le hgl hg.by'.size, fun j hj => ⟨(World.cell?_of_block (a := ⟨g, j * 2, none⟩) hblk).trans (hcell j hj).1, (World.cell?_of_block (a := ⟨g, j * 2 + 1, none⟩) hblk).trans (hcell j hj).2⟩⟩, .inr fun e => ?_⟩
    rcases hg.blk g (by rw [← e]; rfl) with h3 | h3
    · exact hne h3.symm
    · omega
theorem WordsAt.keep {W W' : World} {v : Value} {ws : List (Wd.Str × Bool)} (h : WordsAt W v ws) (hb : Below W.heap.size W W') : WordsAt W' v ws := by
  rcases h with h | ⟨g, cap, rfl, hg, h2⟩
  · exact .inl h
  · exact .inr ⟨g, cap, rfl, Nat.lt_of_lt_of_le hg hb.size, fun j hj => ⟨(hb.cell (p := ⟨g, j * 2, none⟩) hg).trans (h2 j hj).1, (hb.cell (p := ⟨g, j * 2 + 1, none⟩) hg).trans (h2 j hj).2⟩⟩
/-- a slice of a later call is apart from one that lay before -/
theorem apart_later {W : World} {u v : Value} {B n sz : Nat} {E : TypeId} {xs : List Value} (hu : ∀ k, u.ownBlock = some k → W.heap.size ≤ k) (hv : W.ownsRow B E sz v n xs) : Apart u v := by
  cases hk : u.ownBlock with
  | none => exact .inl hk
  | some k =>
    refine .inr fun e => ?_
    have h1 := hu k hk
    have h2 := (hv.lt k (by rw [← e, hk])).2
    omega
end Go.Proofs.YtjedhlgflocjoaaDoor
