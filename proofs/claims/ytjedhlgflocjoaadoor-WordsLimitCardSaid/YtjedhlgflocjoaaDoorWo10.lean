/- Words: addStem, distinct and Index. -/
import Derived.Test.YtjedhlgflocjoaaDoorWo9
import Derived.Sort.OwnSorted
namespace Wd
theorem stemsOf_one (x : Str) : stemsOf [x] = if stop x then [] else [stem x] := by
  unfold stemsOf
  cases h : stop x <;> simp [h]
theorem stemsOf_append (a b : List Str) : stemsOf (a ++ b) = stemsOf a ++ stemsOf b := by simp [stemsOf]
theorem stemsOf_len (a : List Str) : (stemsOf a).length ≤ a.length := by unfold stemsOf; rw [List.length_map]; exact List.length_filter_le _ _
theorem uniq_len_le (xs : List Str) : (uniq xs).length ≤ xs.length := by
  have h : ∀ (xs l : List Str), (addAll l xs).length ≤ l.length + xs.length := by
    intro xs
    induction xs with
    | nil => intro l; exact Nat.le_refl _
    | cons x xs ih =>
      intro l
      have h1 := ih (ins l x)
      have h2 : (ins l x).length ≤ l.length + 1 := by
        unfold ins
        split
        · omega
        · have := @List.takeWhile_append_dropWhile _ (fun y => decide (y ≤ x)) l
          have := congrArg List.length this
          simp only [List.length_append] at this ⊢
          simp; omega
      show (addAll (ins l x) xs).length ≤ _
      simp; omega
  have := h xs []
  rw [List.length_nil, Nat.zero_add] at this
  exact this
end Wd
namespace Go.Proofs.YtjedhlgflocjoaaDoor
open Go.ChangeShapes Go.WideShapes Go.ChangeAt Go.RowKit Go.Sort
set_option linter.unusedVariables false
set_option linter.unusedSimpArgs false
/-- the slice v became v': nothing else that lay has turned -/
structure Grew (w w' : World) (v v' : Value) : Prop where
  by' : w.grownBy w' v.ownBlock
  blk : ∀ k, v'.ownBlock = some k → v.ownBlock = some k ∨ w.heap.size ≤ k
theorem Grew.trans {w w1 w2 : World} {v v1 v2 : Value} (h : Grew w w1 v v1) (h2 : Grew w1 w2 v1 v2) : Grew w w2 v v2 := by
  refine ⟨⟨h2.by'.os.trans h.by'.os, h2.by'.tape.trans h.by'.tape, h2.by'.output.trans h.by'.output, Nat.le_trans h.by'.size h2.by'.size, fun k hk hne => ?_⟩, fun k hk => ?_⟩
  · rw [h2.by'.block k (Nat.lt_of_lt_of_le hk h.by'.size) ?_, h.by'.block k hk hne]
    intro e
    rcases h.blk k e.symm with h3 | h3
    · exact hne h3.symm
    · omega
  · rcases h2.blk k hk with h3 | h3
    · exact h.blk k h3
    · exact .inr (Nat.le_trans h.by'.size h3)
theorem Grew.of_below {w w' : World} (v : Value) (hb : Below w.heap.size w w') : Grew w w' v v := ⟨⟨hb.os, hb.tape, hb.output, hb.size, fun k hk _ => hb.block k hk⟩, fun k hk => .inl hk⟩
theorem Grew.alloc {w w' : World} {v v' : Value} (h : Grew w w' v v') (o : Obj) : Grew w (w'.alloc o) v v' := h.trans (Grew.of_below v' ((Below.refl _ _).alloc (Nat.le_refl _) _))
/-- the slice u is another one than v -/
def Apart (u v : Value) : Prop := u.ownBlock = none ∨ u.ownBlock ≠ v.ownBlock
theorem Grew.apart {w w' : World} {v v' u : Value} {B n sz : Nat} {E : TypeId} {xs : List Value} (h : Grew w w' v v') (hu : w.ownsRow B E sz u n xs) (ha : Apart u v) : w'.ownsRow B E sz u n xs ∧ Apart u v' := by
  refine ⟨hu.kept h.by' ha, ?_⟩
  cases hk : u.ownBlock with
  | none => exact .inl hk
  | some k =>
    refine .inr fun e => ?_
    rcases h.blk k (by rw [← e, hk]) with h3 | h3
    · rcases ha with ha | ha
      · rw [ha] at hk; cases hk
      · exact ha (by rw [hk, h3])
    · have := (hu.lt k hk).2; omega
theorem Grew.below {w0 w w' : World} {v v' : Value} {ls : List Wd.Str} (h : Grew w w' v v') (hs : SL w0 w v ls) : Below w0.heap.size w0 w' := hs.below.grown h.by' hs.below.size (own_ge hs.own)
theorem SL.other {w0 w w' : World} {v v' u : Value} {ls us : List Wd.Str} (hu : SL w0 w u us) (h : Grew w w' v v') (hv : SL w0 w v ls) (ha : Apart u v) : SL w0 w' u us ∧ Apart u v' :=
  ⟨⟨(h.apart hu.own ha).1, h.below hv⟩, (h.apart hu.own ha).2⟩
def AddOut (w0 w : World) (v : Value) (ls : List Wd.Str) (e : Ending) (w' : World) : Prop := ∃ v', e = .returned v' ∧ SL w0 w' v' ls ∧ Grew w w' v v'
set_option maxHeartbeats 400000 in
theorem addStem_any (w0 : World) (v : Value) (ls : List Wd.Str) (x : ByteArray) (w : World) (hv : SL w0 w v ls) (hl : ls.length ≤ 1000000) (hx : x.size ≤ 1000000) :
    Calls Tryd.prog 33 #[v, .string x] w (AddOut w0 w v (ls ++ Wd.stemsOf [x.data.toList])) := by
  have HV := Lib.hid hv
  clear hv
  have hzw := HV.out.below.size
  rw [Wd.stemsOf_one]
  cases hs : Wd.stop x.data.toList with
  | true =>
    have HS := Lib.hid hs
    clear hs
    rw [if_pos rfl, List.append_nil]
    go_enter Tryd.func33, Tryd.ntmps33
    go_wp2_with fail
    refine (isStop_yes x _ HS.out).mono ?_
    rintro e w1 ⟨rfl, rfl⟩
    go_wp2_with fail
    go_ret
    exact ⟨v, rfl, HV.out, Grew.of_below v (Below.refl _ _)⟩
  | false =>
    have HS := Lib.hid hs
    clear hs
    rw [if_neg (by simp)]
    generalize hst : Wd.stem x.data.toList = st
    have hcall : ∀ w, Calls Tryd.prog 14 #[.string x] w fun e w' => e = .returned (.string (Wd.bs st)) ∧ w = w' := fun w => by rw [← hst]; exact stem_any x w hx
    have HC := Lib.hid hcall
    clear hcall hst
    go_enter Tryd.func33, Tryd.ntmps33
    go_wp2_with fail
    refine (isStop_no x _ HS.out).mono ?_
    rintro e w1 ⟨rfl, rfl⟩
    go_wp2_with fail
    refine (HC.out _).mono ?_
    rintro e w1 ⟨rfl, rfl⟩
    go_wp2_with (with_reducible refine wpList_app 8 11 w0.heap.size v ls st w.heap.size _ _ _ _ _ (HV.out.alloc _).own ?_ ?_)
    · exact ⟨rfl, rfl, by simp [go_sem], by omega, by first | omega | (simp; omega) | simp⟩
    rintro v' w2 hown2 hgrow hblk
    have HG := Lib.hid ((Grew.of_below v ((Below.refl w.heap.size w).alloc (Nat.le_refl _) _)).trans (⟨hgrow, hblk⟩ : Grew _ w2 v v'))
    have HOW2 := Lib.hid ((HV.out.alloc _).grown hown2 hgrow)
    clear hown2 hgrow hblk
    go_wp2_with fail
    go_ret
    exact ⟨v', rfl, HOW2.out, HG.out⟩
theorem strs_enc (ls : List Wd.Str) : ls.map encStr = strs ls := rfl
theorem ownsRow_shrink {w : World} {B g n m cap : Nat} {E : TypeId} {xs : List Value} (h : w.ownsRow B E 1 (.slice (some ⟨g, 0, none⟩) n cap) n xs) (hm : m ≤ n) : w.ownsRow B E 1 (.slice (some ⟨g, 0, none⟩) m cap) m (xs.take m) := by
  obtain ⟨h1, h2⟩ := h
  rcases h2 with ⟨h2, _⟩ | ⟨g', cap', cur, e1, e2, e3, e4, e5, e6, e7⟩
  · cases h2
  · injection e1 with e1 e1n e1c
    injection e1 with e1
    injection e1 with e1
    subst e1; subst e1c
    refine ⟨by rw [List.length_take]; omega, .inr ⟨g, cap, cur, rfl, e2, e3, by omega, e5, e6, ?_⟩⟩
    rw [← e7, List.take_take, Nat.mul_one, Nat.mul_one, Nat.min_eq_left hm]
theorem SL.shrink {w W : World} {g n m cap : Nat} {ls : List Wd.Str} (h : SL w W (.slice (some ⟨g, 0, none⟩) ls.length cap) ls) (hm : m ≤ ls.length) : SL w W (.slice (some ⟨g, 0, none⟩) m cap) (ls.take m) := by
  refine ⟨?_, h.below⟩
  have h1 := ownsRow_shrink h.own hm
  have e : (ls.take m).length = m := by rw [List.length_take]; omega
  rw [e]
  have e2 : strs (ls.take m) = (strs ls).take m := by simp [strs]
  rw [e2]
  exact h1
theorem sort_any (w0 : World) (v : Value) (ls : List Wd.Str) (w : World) (hv : SL w0 w v ls) (hl : ls.length ≤ 1000000) :
    Calls Tryd.prog 52 #[v] w fun e w' => e = .returned (.tuple #[]) ∧ SL w0 w' v (ls.mergeSort fun x y => decide (x ≤ y)) ∧ Grew w w' v v := by
  have ho := hv.own
  have hsl : (ls.mergeSort fun x y => decide (x ≤ y)).length = ls.length := List.length_mergeSort ls
  have hnil : ls.length = 0 → (ls.mergeSort fun x y => decide (x ≤ y)) = ls := fun h => by
    rw [List.eq_nil_of_length_eq_zero h]; simp
  rcases ho.2 with ⟨rfl, h0⟩ | ⟨g, cap, cur, rfl, hbase, hb, h1, h2, h3, h4⟩
  · rw [hnil h0]
    refine (Tryd.slices_Sort_string_none _ _ _).mono ?_
    rintro e w1 ⟨rfl, rfl⟩
    exact ⟨rfl, hv, Grew.of_below _ (Below.refl _ _)⟩
  · by_cases hz : ls.length = 0
    · rw [hnil hz]
      have : ls.length = 0 := hz
      rw [hz]
      rw [hz] at hv
      refine (Tryd.slices_Sort_string_none _ _ _).mono ?_
      rintro e w1 ⟨rfl, rfl⟩
      exact ⟨rfl, hv, Grew.of_below _ (Below.refl _ _)⟩
    · refine (Tryd.slices_Sort_string g 0 cap ls w (holds_of_block hb (by rw [Nat.mul_one] at h4; rw [h4]; rfl)) (own_lt ho) (by omega)).mono ?_
      rintro e w1 ⟨rfl, n, os, rfl⟩
      have hG : Grew w (grow (putRow encStr (Sort.ahead w n) g 0 (ls.mergeSort fun x y => decide (x ≤ y)).toArray) os) (.slice (some ⟨g, 0, none⟩) ls.length cap) (.slice (some ⟨g, 0, none⟩) ls.length cap) := ⟨grownBy_sorted _, fun k hk => .inl hk⟩
      have hO := ownsRow_sorted (n := n) (os := os) hsl hbase hb h1 h2 h3
      refine ⟨rfl, ⟨?_, hG.below hv⟩, hG⟩
      rw [hsl]
      exact hO
theorem compact_any (w0 : World) (v : Value) (ss : List Wd.Str) (w : World) (hv : SL w0 w v ss) (hl : ss.length ≤ 1000000) (hc : (Lib.compact ss).length ≤ ss.length) (hn : ss = [] → Lib.compact ss = []) :
    Calls Tryd.prog 53 #[v] w (AddOut w0 w v (Lib.compact ss)) := by
  have ho := hv.own
  rcases ho.2 with ⟨rfl, h0⟩ | ⟨g, cap, cur, rfl, hbase, hb, h1, h2, h3, h4⟩
  · obtain rfl : ss = [] := List.eq_nil_of_length_eq_zero h0
    rw [hn rfl]
    refine (Tryd.slices_Compact_string_empty _ _ _).mono ?_
    rintro e w1 ⟨rfl, rfl⟩
    exact ⟨_, rfl, hv, Grew.of_below _ (Below.refl _ _)⟩
  · by_cases hz : ss.length = 0
    · obtain rfl : ss = [] := List.eq_nil_of_length_eq_zero hz
      rw [hn rfl]
      refine (Tryd.slices_Compact_string_empty _ _ _).mono ?_
      rintro e w1 ⟨rfl, rfl⟩
      exact ⟨_, rfl, hv, Grew.of_below _ (Below.refl _ _)⟩
    · refine (Tryd.slices_Compact_string g 0 cap ss w (holds_of_block hb (by rw [Nat.mul_one] at h4; rw [h4]; rfl)) (by omega) (by omega)).mono ?_
      rintro e w1 ⟨rfl, q, rfl⟩
      have hlen : (Lib.compact ss ++ List.replicate (ss.length - (Lib.compact ss).length) ([] : List UInt8)).length = ss.length := by simp; omega
      have hG : Grew w (putRow encStr (Sort.ahead w q) g 0 (Lib.compact ss ++ List.replicate (ss.length - (Lib.compact ss).length) []).toArray) (.slice (some ⟨g, 0, none⟩) ss.length cap) (.slice (some ⟨g, 0, none⟩) (Lib.compact ss).length cap) := by
        have := grownBy_sorted (w := w) (g := g) (n := q) (os := #[]) (Lib.compact ss ++ List.replicate (ss.length - (Lib.compact ss).length) []).toArray
        rw [grow_empty] at this
        exact ⟨this, fun k hk => .inl hk⟩
      have hO := ownsRow_sorted (n := q) (os := #[]) hlen hbase hb h1 h2 h3
      rw [grow_empty] at hO
      refine ⟨_, rfl, ⟨?_, hG.below hv⟩, hG⟩
      have h5 := ownsRow_shrink hO hc
      have e : ((Lib.compact ss ++ List.replicate (ss.length - (Lib.compact ss).length) []).map encStr).take (Lib.compact ss).length = strs (Lib.compact ss) := by
        rw [List.map_append, List.take_append_of_le_length (by simp), List.take_of_length_le (by simp)]
        rfl
      rw [e] at h5
      exact h5
set_option maxHeartbeats 400000 in
theorem distinct_any (w0 : World) (v : Value) (ls : List Wd.Str) (w : World) (hv : SL w0 w v ls) (hl : ls.length ≤ 1000000) :
    Calls Tryd.prog 34 #[v] w (AddOut w0 w v (Wd.uniq ls)) := by
  have HV := Lib.hid hv
  have hsl : (ls.mergeSort fun x y => decide (x ≤ y)).length = ls.length := List.length_mergeSort ls
  have HSL := Lib.hid hsl
  have HSC := Lib.hid (Wd.sort_compact ls)
  have HUL := Lib.hid (Wd.uniq_len_le ls)
  clear hv hsl
  go_enter Tryd.func34, Tryd.ntmps34
  go_wp2_with fail
  refine (sort_any w0 v ls _ HV.out hl).mono ?_
  rintro e w1 ⟨rfl, hs1, hg1⟩
  have HS1 := Lib.hid hs1
  have HG1 := Lib.hid hg1
  clear hs1 hg1
  go_wp2_with fail
  refine (compact_any w0 v _ _ HS1.out (by rw [HSL.out]; exact hl) (by rw [HSC.out, HSL.out]; exact HUL.out) (fun h => by rw [h]; rfl)).mono ?_
  rintro e w2 ⟨v', rfl, hs2, hg2⟩
  rw [HSC.out] at hs2
  have HS2 := Lib.hid hs2
  have HG2 := Lib.hid hg2
  clear hs2 hg2
  go_wp2_with fail
  go_ret
  exact ⟨v', rfl, HS2.out, HG1.out.trans HG2.out⟩
end Go.Proofs.YtjedhlgflocjoaaDoor
