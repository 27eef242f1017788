/- Words: the reference cuts a part into words with and without a minus sign. -/
import Derived.Test.YtjedhlgflocjoaaDoorWo15
namespace Wd
def yesOf (l : List (Str × Bool)) : List Str := (l.filter (fun x => !x.2)).map (·.1)
def noOf (l : List (Str × Bool)) : List Str := (l.filter (·.2)).map (·.1)
def Wx (s : Str) (b i : Nat) : List (Str × Bool) := if i ≤ s.length then W s b i else []
theorem Wx_in {s : Str} {b i : Nat} (h : i ≤ s.length) : Wx s b i = W s b i := by unfold Wx; rw [if_pos h]
theorem Wx_emit (s : Str) (b i : Nat) (hb : b ≤ i) (hi : i ≤ s.length) (hl : ∀ h : i < s.length, isL s[i] = false) :
    Wx s b i = (if b < i then [(lower ((s.drop b).take (i - b)), flag s b)] else []) ++ Wx s (i + 1) (i + 1) := by
  rw [Wx_in hi]
  by_cases h : i < s.length
  · rw [W_skip s b i hb h (hl h), Wx_in (by omega)]
  · obtain rfl : i = s.length := by omega
    have e : Wx s (s.length + 1) (s.length + 1) = [] := by unfold Wx; exact if_neg (by omega)
    rw [W_end, e, List.append_nil]
theorem yes_cons (x : Str) (f : Bool) (l : List (Str × Bool)) : yesOf ([(x, f)] ++ l) = (if f then [] else [x]) ++ yesOf l := by cases f <;> rfl
theorem no_cons (x : Str) (f : Bool) (l : List (Str × Bool)) : noOf ([(x, f)] ++ l) = (if f then [x] else []) ++ noOf l := by cases f <;> rfl
end Wd
namespace Go.Proofs.YtjedhlgflocjoaaDoor
open Go.ChangeShapes Go.WideShapes Go.ChangeAt Go.RowKit Go.Sort
set_option linter.unusedVariables false
set_option linter.unusedSimpArgs false
/-- two slices of the call's own, apart -/
structure Two (w W : World) (a b : Value) (ys ns : List Wd.Str) : Prop where
  fst : SL w W a ys
  snd : SL w W b ns
  ab : Apart a b
  ba : Apart b a
theorem Two.start (w : World) : Two w w (.slice none 0 0) (.slice none 0 0) [] [] := ⟨SL.start w, SL.start w, .inl rfl, .inl rfl⟩
theorem Two.keep {w W W' : World} {a b : Value} {ys ns : List Wd.Str} (h : Two w W a b ys ns) (hb : Below W.heap.size W W') : Two w W' a b ys ns := ⟨h.fst.keep hb, h.snd.keep hb, h.ab, h.ba⟩
theorem Two.alloc {w W : World} {a b : Value} {ys ns : List Wd.Str} (h : Two w W a b ys ns) (o : Obj) : Two w (W.alloc o) a b ys ns := h.keep ((Below.refl _ _).alloc (Nat.le_refl _) _)
theorem apart_new {w w' : World} {a b b' : Value} {B n sz : Nat} {E : TypeId} {xs : List Value} (h : Grew w w' b b') (ha : w.ownsRow B E sz a n xs) (hba : Apart b a) (hab : Apart a b) : Apart b' a := by
  cases hk : b'.ownBlock with
  | none => exact .inl hk
  | some k =>
    refine .inr fun e => ?_
    rcases h.blk k hk with h3 | h3
    · rcases hba with hb | hb
      · rw [hb] at h3; cases h3
      · exact hb (by rw [h3, ← hk, e])
    · have := (ha.lt k (by rw [← e, hk])).2; omega
theorem Two.stepFst {w W W' : World} {a a' b : Value} {ys ys' ns : List Wd.Str} (h : Two w W a b ys ns) (hg : Grew W W' a a') (hs : SL w W' a' ys') : Two w W' a' b ys' ns := by
  have h1 := h.snd.other hg h.fst h.ba
  exact ⟨hs, h1.1, apart_new hg h.snd.own h.ab h.ba, h1.2⟩
theorem Two.stepSnd {w W W' : World} {a b b' : Value} {ys ns ns' : List Wd.Str} (h : Two w W a b ys ns) (hg : Grew W W' b b') (hs : SL w W' b' ns') : Two w W' a b' ys ns' := by
  have h1 := h.fst.other hg h.snd h.ab
  exact ⟨h1.1, hs, h1.2, apart_new hg h.fst.own h.ba h.ab⟩
theorem two_ret {a b c d : Value} (h1 : a = c) (h2 : b = d) : Ending.returned (.tuple #[a, b]) = .returned (.tuple #[c, d]) := by rw [h1, h2]
def SplOut (s : ByteArray) (w : World) (e : Ending) (w' : World) : Prop := ∃ a b, e = .returned (.tuple #[a, b]) ∧ Two w w' a b (Wd.yesOf (Wd.words s.data.toList)) (Wd.noOf (Wd.words s.data.toList))
def RSpl (s : ByteArray) (w W : World) (a b : Value) (k j : Nat) : Prop := ∃ ys ns, Two w W a b ys ns ∧ ys ++ Wd.yesOf (Wd.Wx s.data.toList k j) = Wd.yesOf (Wd.words s.data.toList) ∧ ns ++ Wd.noOf (Wd.Wx s.data.toList k j) = Wd.noOf (Wd.words s.data.toList) ∧ ys.length ≤ k ∧ ns.length ≤ k
set_option maxHeartbeats 2000000 in
theorem rsplit_any (s : ByteArray) (w : World) (hs : s.size ≤ 500000) : Calls Tryd.prog 42 #[.string s] w (SplOut s w) := by
  have hsl : s.data.toList.length = s.size := size_list s
  have HSL := Lib.hid hsl
  clear hsl
  go_enter Tryd.func42, Tryd.ntmps42
  go_wp2_with fail
  go_loopw [4, 5, 6, 7] (fun a b p i wr => ∃ (k j : Nat), k ≤ j ∧ j ≤ s.size + 1 ∧ p = .int .i64 k ∧ i = .int .i64 j ∧ RSpl s w wr a b k j) (fun _ _ _ i _ => s.size + 1 - (intOf i).toNat)
  case atStart => exact ⟨0, 0, Nat.le_refl _, by omega, rfl, rfl, [], [], Two.start w, by rw [Wd.Wx_in (by omega), Wd.W_start]; rfl, by rw [Wd.Wx_in (by omega), Wd.W_start]; rfl, Nat.le_refl _, Nat.le_refl _⟩
  case round =>
    obtain ⟨k, j, hkj, hj, rfl, rfl, hR⟩ := hrel
    have HR := Lib.hid hR
    clear hR
    by_cases hj1 : j ≤ s.size
    · by_cases hlt : j < s.size
      · have hjl : j < s.data.toList.length := by rw [HSL.out]; exact hlt
        cases hl : Wd.isL s[j] with
        | true =>
          have HL := Lib.hid hl
          have HN := Lib.hid (Wd.W_letter s.data.toList k j hkj hjl hl)
          have HX : Hid (Wd.Wx s.data.toList k j = Wd.Wx s.data.toList k (j + 1)) := Lib.hid (by rw [Wd.Wx_in (by omega), Wd.Wx_in (by omega)]; exact HN.out)
          clear hl
          go_wp2_with (go_at_call 29; refine (letter_yes s[j] _ HL.out).mono ?_; rintro e w1 ⟨rfl, rfl⟩)
          go_roundw
          case rel => exact ⟨k, j + 1, by omega, by omega, rfl, by go_num, by have h := HR.out; unfold RSpl at h ⊢; rw [HX.out] at h; exact h⟩
          case measure => simp [intOf] <;> omega
        | false =>
          have HL := Lib.hid hl
          have HN := Lib.hid (Wd.Wx_emit s.data.toList k j hkj (by omega) (fun _ => hl))
          clear hl
          obtain ⟨ys, ns, hT, hy, hn, hyl, hnl⟩ := HR.out
          have HT := Lib.hid hT
          have HY := Lib.hid hy
          have HNO := Lib.hid hn
          clear hT hy hn HR
          by_cases hkl : k < j
          · obtain ⟨X, hX⟩ : ∃ X, X = (s.data.toList.drop k).take (j - k) := ⟨_, rfl⟩
            have HX := Lib.hid ((Lib.extract_data s k j).trans hX.symm)
            rw [← hX, if_pos hkl] at HN
            have HZ : Hid ((s.extract k j).size ≤ 1000000) := Lib.hid (by simp only [ByteArray.size_extract]; omega)
            clear hX
            by_cases h0 : k = 0
            · have hf0 : Wd.flag s.data.toList k = false := by rw [h0]; rfl
              rw [hf0] at HN
              have hd0 : decide ((0 : Int) < (k : Int)) = false := by simp; omega
              have hk1 : k < 1 := by omega
              clear h0 hf0
              go_wp2_with (go_at_call 29; refine (letter_no s[j] _ HL.out).mono ?_; rintro e w1 ⟨rfl, rfl⟩)
              refine (rlower_at _ X HX.out _ HZ.out).mono ?_
              rintro e w1 ⟨rfl, hb1⟩
              have HT1 := Lib.hid (HT.out.keep hb1)
              have hz1 : w.heap.size ≤ w1.heap.size := HT1.out.fst.below.size
              clear hb1
              go_wp2_with (with_reducible refine wpList_app 44 50 w.heap.size u4 ys (Wd.lower X) w1.heap.size _ _ _ _ _ (HT1.out.alloc _).fst.own ?_ ?_)
              · exact ⟨rfl, rfl, by simp [go_sem], by omega, by first | omega | (simp; omega) | simp⟩
              rintro v' w2 hown2 hgrow hblk
              have HT2 := Lib.hid ((HT1.out.alloc _).stepFst ⟨hgrow, hblk⟩ ((HT1.out.alloc _).fst.grown hown2 hgrow))
              clear hown2 hgrow hblk hz1
              go_wp2_with fail
              go_roundw
              case rel => exact ⟨j + 1, j + 1, by omega, by omega, by go_num, by go_num, ys ++ [Wd.lower X], ns, HT2.out, by rw [← HY.out, HN.out, Wd.yes_cons]; simp, by rw [← HNO.out, HN.out, Wd.no_cons]; rfl, by simp; omega, by omega⟩
              case measure => simp [intOf] <;> omega
            · have h0' : 0 < k := by omega
              have hfl := flag_pos s k h0' (by omega)
              have e1 : ((k : Int) - 1).toNat = k - 1 := by omega
              have e2 : (0 : Int) ≤ (k : Int) - 1 := by omega
              have e3 : k - 1 < s.size := by omega
              generalize Wd.flag s.data.toList k = fl at hfl HN
              cases fl
              case false =>
                go_wp2_with (go_at_call 29; refine (letter_no s[j] _ HL.out).mono ?_; rintro e w1 ⟨rfl, rfl⟩)
                refine (rlower_at _ X HX.out _ HZ.out).mono ?_
                rintro e w1 ⟨rfl, hb1⟩
                have HT1 := Lib.hid (HT.out.keep hb1)
                have hz1 : w.heap.size ≤ w1.heap.size := HT1.out.fst.below.size
                clear hb1
                go_wp2_with (with_reducible refine wpList_app 44 50 w.heap.size u4 ys (Wd.lower X) w1.heap.size _ _ _ _ _ (HT1.out.alloc _).fst.own ?_ ?_)
                · exact ⟨rfl, rfl, by simp [go_sem], by omega, by first | omega | (simp; omega) | simp⟩
                rintro v' w2 hown2 hgrow hblk
                have HT2 := Lib.hid ((HT1.out.alloc _).stepFst ⟨hgrow, hblk⟩ ((HT1.out.alloc _).fst.grown hown2 hgrow))
                clear hown2 hgrow hblk hz1
                go_wp2_with fail
                go_roundw
                case rel => exact ⟨j + 1, j + 1, by omega, by omega, by go_num, by go_num, ys ++ [Wd.lower X], ns, HT2.out, by rw [← HY.out, HN.out, Wd.yes_cons]; simp, by rw [← HNO.out, HN.out, Wd.no_cons]; rfl, by simp; omega, by omega⟩
                case measure => simp [intOf] <;> omega
              case true =>
                go_wp2_with (go_at_call 29; refine (letter_no s[j] _ HL.out).mono ?_; rintro e w1 ⟨rfl, rfl⟩)
                refine (rlower_at _ X HX.out _ HZ.out).mono ?_
                rintro e w1 ⟨rfl, hb1⟩
                have HT1 := Lib.hid (HT.out.keep hb1)
                have hz1 : w.heap.size ≤ w1.heap.size := HT1.out.fst.below.size
                clear hb1
                go_wp2_with (with_reducible refine wpList_app 36 42 w.heap.size u5 ns (Wd.lower X) w1.heap.size _ _ _ _ _ (HT1.out.alloc _).snd.own ?_ ?_)
                · exact ⟨rfl, rfl, by simp [go_sem], by omega, by first | omega | (simp; omega) | simp⟩
                rintro v' w2 hown2 hgrow hblk
                have HT2 := Lib.hid ((HT1.out.alloc _).stepSnd ⟨hgrow, hblk⟩ ((HT1.out.alloc _).snd.grown hown2 hgrow))
                clear hown2 hgrow hblk hz1
                go_wp2_with fail
                go_roundw
                case rel => exact ⟨j + 1, j + 1, by omega, by omega, by go_num, by go_num, ys, ns ++ [Wd.lower X], HT2.out, by rw [← HY.out, HN.out, Wd.yes_cons]; rfl, by rw [← HNO.out, HN.out, Wd.no_cons]; simp, by omega, by simp; omega⟩
                case measure => simp [intOf] <;> omega
          · rw [if_neg hkl] at HN
            go_wp2_with (go_at_call 29; refine (letter_no s[j] _ HL.out).mono ?_; rintro e w1 ⟨rfl, rfl⟩)
            go_roundw
            case rel => exact ⟨j + 1, j + 1, by omega, by omega, by go_num, by go_num, ys, ns, HT.out, by rw [← HY.out, HN.out]; rfl, by rw [← HNO.out, HN.out]; rfl, by omega, by omega⟩
            case measure => simp [intOf] <;> omega
      · obtain rfl : j = s.size := by omega
        have HN := Lib.hid (Wd.Wx_emit s.data.toList k s.size hkj (by rw [HSL.out]; exact Nat.le_refl _) (fun h => absurd h (by rw [HSL.out]; omega)))
        obtain ⟨ys, ns, hT, hy, hn, hyl, hnl⟩ := HR.out
        have HT := Lib.hid hT
        have HY := Lib.hid hy
        have HNO := Lib.hid hn
        clear hT hy hn HR
        by_cases hkl : k < s.size
        · obtain ⟨X, hX⟩ : ∃ X, X = (s.data.toList.drop k).take (s.size - k) := ⟨_, rfl⟩
          have HX := Lib.hid ((Lib.extract_data s k s.size).trans hX.symm)
          rw [← hX, if_pos hkl] at HN
          have HZ : Hid ((s.extract k s.size).size ≤ 1000000) := Lib.hid (by simp only [ByteArray.size_extract]; omega)
          clear hX
          by_cases h0 : k = 0
          · have hf0 : Wd.flag s.data.toList k = false := by rw [h0]; rfl
            rw [hf0] at HN
            have hd0 : decide ((0 : Int) < (k : Int)) = false := by simp; omega
            have hk1 : k < 1 := by omega
            clear h0 hf0
            go_wp2_with fail
            refine (rlower_at _ X HX.out _ HZ.out).mono ?_
            rintro e w1 ⟨rfl, hb1⟩
            have HT1 := Lib.hid (HT.out.keep hb1)
            have hz1 : w.heap.size ≤ w1.heap.size := HT1.out.fst.below.size
            clear hb1
            go_wp2_with (with_reducible refine wpList_app 44 50 w.heap.size u4 ys (Wd.lower X) w1.heap.size _ _ _ _ _ (HT1.out.alloc _).fst.own ?_ ?_)
            · exact ⟨rfl, rfl, by simp [go_sem], by omega, by first | omega | (simp; omega) | simp⟩
            rintro v' w2 hown2 hgrow hblk
            have HT2 := Lib.hid ((HT1.out.alloc _).stepFst ⟨hgrow, hblk⟩ ((HT1.out.alloc _).fst.grown hown2 hgrow))
            clear hown2 hgrow hblk hz1
            go_wp2_with fail
            go_roundw
            case rel => exact ⟨s.size + 1, s.size + 1, by omega, by omega, by go_num, by go_num, ys ++ [Wd.lower X], ns, HT2.out, by rw [← HY.out, HN.out, Wd.yes_cons]; simp, by rw [← HNO.out, HN.out, Wd.no_cons]; rfl, by simp; omega, by omega⟩
            case measure => simp [intOf] <;> omega
          · have h0' : 0 < k := by omega
            have hfl := flag_pos s k h0' (by omega)
            have e1 : ((k : Int) - 1).toNat = k - 1 := by omega
            have e2 : (0 : Int) ≤ (k : Int) - 1 := by omega
            have e3 : k - 1 < s.size := by omega
            generalize Wd.flag s.data.toList k = fl at hfl HN
            cases fl
            case false =>
              go_wp2_with fail
              refine (rlower_at _ X HX.out _ HZ.out).mono ?_
              rintro e w1 ⟨rfl, hb1⟩
              have HT1 := Lib.hid (HT.out.keep hb1)
              have hz1 : w.heap.size ≤ w1.heap.size := HT1.out.fst.below.size
              clear hb1
              go_wp2_with (with_reducible refine wpList_app 44 50 w.heap.size u4 ys (Wd.lower X) w1.heap.size _ _ _ _ _ (HT1.out.alloc _).fst.own ?_ ?_)
              · exact ⟨rfl, rfl, by simp [go_sem], by omega, by first | omega | (simp; omega) | simp⟩
              rintro v' w2 hown2 hgrow hblk
              have HT2 := Lib.hid ((HT1.out.alloc _).stepFst ⟨hgrow, hblk⟩ ((HT1.out.alloc _).fst.grown hown2 hgrow))
              clear hown2 hgrow hblk hz1
              go_wp2_with fail
              go_roundw
              case rel => exact ⟨s.size + 1, s.size + 1, by omega, by omega, by go_num, by go_num, ys ++ [Wd.lower X], ns, HT2.out, by rw [← HY.out, HN.out, Wd.yes_cons]; simp, by rw [← HNO.out, HN.out, Wd.no_cons]; rfl, by simp; omega, by omega⟩
              case measure => simp [intOf] <;> omega
            case true =>
              go_wp2_with fail
              refine (rlower_at _ X HX.out _ HZ.out).mono ?_
              rintro e w1 ⟨rfl, hb1⟩
              have HT1 := Lib.hid (HT.out.keep hb1)
              have hz1 : w.heap.size ≤ w1.heap.size := HT1.out.fst.below.size
              clear hb1
              go_wp2_with (with_reducible refine wpList_app 36 42 w.heap.size u5 ns (Wd.lower X) w1.heap.size _ _ _ _ _ (HT1.out.alloc _).snd.own ?_ ?_)
              · exact ⟨rfl, rfl, by simp [go_sem], by omega, by first | omega | (simp; omega) | simp⟩
              rintro v' w2 hown2 hgrow hblk
              have HT2 := Lib.hid ((HT1.out.alloc _).stepSnd ⟨hgrow, hblk⟩ ((HT1.out.alloc _).snd.grown hown2 hgrow))
              clear hown2 hgrow hblk hz1
              go_wp2_with fail
              go_roundw
              case rel => exact ⟨s.size + 1, s.size + 1, by omega, by omega, by go_num, by go_num, ys, ns ++ [Wd.lower X], HT2.out, by rw [← HY.out, HN.out, Wd.yes_cons]; rfl, by rw [← HNO.out, HN.out, Wd.no_cons]; simp, by omega, by simp; omega⟩
              case measure => simp [intOf] <;> omega
        · rw [if_neg hkl] at HN
          go_wp2_with fail
          go_roundw
          case rel => exact ⟨s.size + 1, s.size + 1, by omega, by omega, by go_num, by go_num, ys, ns, HT.out, by rw [← HY.out, HN.out]; rfl, by rw [← HNO.out, HN.out]; rfl, by omega, by omega⟩
          case measure => simp [intOf] <;> omega
    · obtain rfl : j = s.size + 1 := by omega
      obtain ⟨ys, ns, hT, hy, hn, _, _⟩ := HR.out
      have hx : Wd.Wx s.data.toList k (s.size + 1) = [] := by unfold Wd.Wx; rw [if_neg (by rw [HSL.out]; omega)]
      rw [hx] at hy hn
      have hy' : ys = Wd.yesOf (Wd.words s.data.toList) := by simpa [Wd.yesOf] using hy
      have hn' : ns = Wd.noOf (Wd.words s.data.toList) := by simpa [Wd.noOf] using hn
      rw [hy', hn'] at hT
      have HT := Lib.hid hT
      clear hT hy hn hx hy' hn'
      go_wp2_with fail
      go_ret2
      exact ⟨_, _, rfl, HT.out⟩
end Go.Proofs.YtjedhlgflocjoaaDoor
