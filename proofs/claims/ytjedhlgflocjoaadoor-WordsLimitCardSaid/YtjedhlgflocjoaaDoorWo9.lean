/- Words: Tokens. -/
import Derived.Test.YtjedhlgflocjoaaDoorWo8
namespace Go.Proofs.YtjedhlgflocjoaaDoor
open Go.ChangeShapes Go.WideShapes Go.ChangeAt Go.RowKit
set_option linter.unusedVariables false
set_option linter.unusedSimpArgs false
theorem ownsRow_weaken {w : World} {B B' : Nat} {E : TypeId} {sz : Nat} {v : Value} {n : Nat} {xs : List Value} (h : w.ownsRow B E sz v n xs) (hb : B' ≤ B) : w.ownsRow B' E sz v n xs := by
  obtain ⟨h1, h2⟩ := h
  refine ⟨h1, ?_⟩
  rcases h2 with h2 | ⟨g, cap, cur, e1, e2, e3⟩
  · exact .inl h2
  · exact .inr ⟨g, cap, cur, e1, by omega, e3⟩
theorem SL.far {w w1 W : World} {v : Value} {ls : List Wd.Str} (h : SL w1 W v ls) (hb : Below w.heap.size w w1) : SL w W v ls := ⟨ownsRow_weaken h.own hb.size, hb.trans (h.below.mono hb.size)⟩
theorem WL.far {w w1 W : World} {v : Value} {ls : List (Wd.Str × Bool)} (h : WL w1 W v ls) (hb : Below w.heap.size w w1) : WL w W v ls := ⟨ownsRow_weaken h.own hb.size, hb.trans (h.below.mono hb.size)⟩
theorem SL.alloc {w W : World} {v : Value} {ls : List Wd.Str} (h : SL w W v ls) (o : Obj) : SL w (W.alloc o) v ls := h.keep ((Below.refl _ _).alloc (Nat.le_refl _) _)
theorem SL.start (w : World) : SL w w (.slice none 0 0) [] := ⟨World.ownsRow_nil _ _ _ _, Below.refl _ _⟩
/-- a slice of words that can be read -/
def WordsAt (W : World) (v : Value) (ws : List (Wd.Str × Bool)) : Prop :=
  (v = .slice none 0 0 ∧ ws = []) ∨ ∃ g cap, v = .slice (some ⟨g, 0, none⟩) ws.length cap ∧ g < W.heap.size ∧ ∀ j (h : j < ws.length), W.cell? ⟨g, j * 2, none⟩ = some (.string (Wd.bs ws[j].1)) ∧ W.cell? ⟨g, j * 2 + 1, none⟩ = some (.bool ws[j].2)
theorem own_lt {w : World} {B : Nat} {E : TypeId} {sz : Nat} {g cap n m : Nat} {xs : List Value} (h : w.ownsRow B E sz (.slice (some ⟨g, 0, none⟩) m cap) n xs) : g < w.heap.size := (h.lt g rfl).2
theorem WL.reads {w W : World} {v : Value} {ws : List (Wd.Str × Bool)} (h : WL w W v ws) : WordsAt W v ws := by
  have ho := h.own
  rcases ho.2 with ⟨rfl, h0⟩ | ⟨g, cap, cur, rfl, _⟩
  · exact .inl ⟨rfl, List.eq_nil_of_length_eq_zero h0⟩
  · refine .inr ⟨g, cap, rfl, own_lt ho, fun j hj => ?_⟩
    obtain ⟨h1, h2⟩ := wds_get ws j hj
    exact ⟨by rw [ho.cellAt (j * 2) (by omega)]; exact h1, by rw [ho.cellAt (j * 2 + 1) (by omega)]; exact h2⟩
/-- what an append asks of its place, under one name -/
def AppSide (a : Act) (x y : Nat) (v : Value) (g : Nat) (w : World) (s : Wd.Str) (n B : Nat) : Prop :=
  a.eval (.tmp x) = v ∧ a.eval (.tmp y) = .slice (some ⟨g, 0, none⟩) 1 1 ∧ w.cell? ⟨g, 0, none⟩ = some (.string (Wd.bs s)) ∧ n ≤ 1000000 ∧ B ≤ w.heap.size
theorem wpList_app {ops : Array Oper} {rest : List Oper} {Q : Exit → Act → World → Prop} (x y : Nat) (B : Nat) (v : Value) (ls : List Wd.Str) (s : Wd.Str) (g : Nat) (d : Option Nat) (pos : String) (af) (a : Act) (w : World)
    (hown : w.ownsRow B 9 1 v ls.length (strs ls)) (hside : AppSide a x y v g w s ls.length B)
    (h : ∀ v' w', w'.ownsRow B 9 1 v' (ls ++ [s]).length (strs (ls ++ [s])) → w.grownBy w' v.ownBlock → (∀ k, v'.ownBlock = some k → v.ownBlock = some k ∨ w.heap.size ≤ k) → wpList Tryd.prog ops Q rest (a.put d v') w') :
    wpList Tryd.prog ops Q ({ dst := d, op := Op.call { callee := .builtin .append, args := #[.tmp x, .tmp y], argTypes := #[24, 24] }, type := 24, pos := pos, after := af, guard := none } :: rest) a w :=
  wpList_appS x y B v ls s g d pos af a w hside.1 hside.2.1 hown hside.2.2.1 hside.2.2.2.1 hside.2.2.2.2 h
def TokOut (s : ByteArray) (w : World) (e : Ending) (w' : World) : Prop := ∃ v, e = .returned v ∧ SL w w' v (Wd.tokens s.data.toList)
theorem tok_take (ws : List (Wd.Str × Bool)) (k : Nat) (h : k < ws.length) : (ws.map (·.1)).take (k + 1) = (ws.map (·.1)).take k ++ [ws[k].1] := by
  rw [List.take_succ_eq_append_getElem (by simpa using h)]
  simp
set_option maxHeartbeats 1000000 in
theorem tokens_any (s : ByteArray) (w : World) (hs : s.size ≤ 1000000) : Calls Tryd.prog 12 #[.string s] w (TokOut s w) := by
  have HLN := Lib.hid (show (Wd.words s.data.toList).length ≤ 1000000 by have := Wd.words_len s.data.toList; rw [size_list] at this; omega)
  go_enter Tryd.func12, Tryd.ntmps12
  go_wp2_with fail
  refine (split_any s _ hs).mono ?_
  rintro e w1 ⟨v, rfl, hv⟩
  have HB := Lib.hid hv.below
  have hr := hv.reads
  clear hv
  have HT : Hid (Wd.tokens s.data.toList = (Wd.words s.data.toList).map (·.1)) := Lib.hid rfl
  generalize Wd.words s.data.toList = ws at *
  rcases hr with ⟨rfl, rfl⟩ | ⟨g, cap, rfl, hg, hc⟩
  · go_wp2_with fail
    go_loop [3, 9] (fun v i => v = .slice none 0 0 ∧ i = .int .i64 0) (fun _ _ => 0)
    case atStart => exact ⟨rfl, rfl⟩
    case round =>
      obtain ⟨rfl, rfl⟩ := hrel
      go_wp2_with fail
      go_ret
      exact ⟨_, rfl, by rw [HT.out]; exact (SL.start w1).far HB.out⟩
  · have HC := Lib.hid hc
    clear hc
    go_wp2_with fail
    go_loopw [3, 9] (fun v i wr => ∃ k : Nat, k ≤ ws.length ∧ i = .int .i64 k ∧ SL w1 wr v ((ws.map (·.1)).take k)) (fun _ i _ => ws.length - (intOf i).toNat)
    case atStart => exact ⟨0, Nat.zero_le _, rfl, SL.start w1⟩
    case round =>
      obtain ⟨k, hk, rfl, hown⟩ := hrel
      have HOWN := Lib.hid hown
      clear hown
      have hlen := HLN.out
      by_cases hlt : k < ws.length
      · have hc1 : wr.cell? ⟨g, k * 2, none⟩ = some (.string (Wd.bs ws[k].1)) := (HOWN.out.below.cell (p := ⟨g, k * 2, none⟩) hg).trans (HC.out k hlt).1
        have hc2 : wr.cell? ⟨g, k * 2 + 1, none⟩ = some (.bool ws[k].2) := (HOWN.out.below.cell (p := ⟨g, k * 2 + 1, none⟩) hg).trans (HC.out k hlt).2
        have HTK := Lib.hid (tok_take ws k hlt)
        have htl : ((ws.map (·.1)).take k).length ≤ 1000000 := by have := List.length_take_le k (ws.map (·.1)); omega
        generalize (ws.map (·.1)).take k = ls at *
        generalize ws[k].1 = x at *
        generalize ws[k].2 = m at *
        have hzr := HOWN.out.below.size
        go_wp2_with (with_reducible refine wpList_app 13 16 w1.heap.size u3 ls x (wr.heap.size + 1) _ _ _ _ _ ((HOWN.out.alloc _).alloc _).own ?_ ?_)
        · exact ⟨rfl, rfl, by simp [go_sem], by omega, by first | omega | (simp; omega) | simp⟩
        rintro v' w2 hown2 hgrow _
        have HOW2 := Lib.hid (((HOWN.out.alloc _).alloc _).grown hown2 hgrow)
        clear hown2 hgrow hzr
        go_wp2_with fail
        go_roundw
        case rel => exact ⟨k + 1, by omega, by go_num, by rw [HTK.out]; exact HOW2.out⟩
        case measure => simp [intOf] <;> omega
      · obtain rfl : k = ws.length := by omega
        go_wp2_with fail
        go_ret
        exact ⟨_, rfl, by
          rw [HT.out]
          have h := HOWN.out
          rw [List.take_of_length_le (by simp)] at h
          exact h.far HB.out⟩
def flagged (s : ByteArray) (b i : Nat) : List (Wd.Str × Bool) := Wd.W s.data.toList b i
def RTok (s : ByteArray) (w W : World) (v : Value) (b i : Nat) : Prop := ∃ ls, SL w W v ls ∧ ls ++ (Wd.W s.data.toList b i).map (·.1) = Wd.tokens s.data.toList ∧ ls.length ≤ b
set_option maxHeartbeats 1000000 in
theorem rtokens_any (s : ByteArray) (w : World) (hs : s.size ≤ 1000000) : Calls Tryd.prog 13 #[.string s] w (TokOut s w) := by
  have hsl : s.data.toList.length = s.size := size_list s
  have HSL := Lib.hid hsl
  clear hsl
  go_enter Tryd.func13, Tryd.ntmps13
  go_wp2_with fail
  go_loopw [3, 4, 5] (fun v b i wr => ∃ (k j : Nat), k ≤ j ∧ j ≤ s.size + 1 ∧ k ≤ s.size + 1 ∧ b = .int .i64 k ∧ i = .int .i64 j ∧ (j ≤ s.size → RTok s w wr v k j) ∧ (j = s.size + 1 → SL w wr v (Wd.tokens s.data.toList))) (fun _ _ i _ => s.size + 1 - (intOf i).toNat)
  case atStart => exact ⟨0, 0, Nat.le_refl _, by omega, by omega, rfl, rfl, fun _ => ⟨[], SL.start w, by rw [Wd.W_start]; rfl, Nat.le_refl _⟩, fun h => by omega⟩
  case round =>
    obtain ⟨k, j, hkj, hj, hk, rfl, rfl, h1, h2⟩ := hrel
    have H1 := Lib.hid h1
    have H2 := Lib.hid h2
    clear h1 h2
    by_cases hj1 : j ≤ s.size
    · obtain ⟨ls, hown, hW, hlk⟩ := H1.out hj1
      have HOWN := Lib.hid hown
      have HW := Lib.hid hW
      clear hown hW H1 H2
      have hz0 := HOWN.out.below.size
      by_cases hlt : j < s.size
      · have hjl : j < s.data.toList.length := by rw [HSL.out]; exact hlt
        cases hl : Wd.isL s[j] with
        | true =>
          have HL := Lib.hid hl
          have HN := Lib.hid (Wd.W_letter s.data.toList k j hkj hjl hl)
          clear hl
          go_wp2_with (go_at_call 29; refine (letter_yes s[j] _ HL.out).mono ?_; rintro e w1 ⟨rfl, rfl⟩)
          go_roundw
          case rel => exact ⟨k, j + 1, by omega, by omega, by omega, rfl, by go_num, fun _ => ⟨ls, HOWN.out, by rw [← HN.out]; exact HW.out, hlk⟩, fun h => by omega⟩
          case measure => simp [intOf] <;> omega
        | false =>
          have HL := Lib.hid hl
          have HN := Lib.hid (Wd.W_skip s.data.toList k j hkj hjl hl)
          clear hl
          by_cases hkl : k < j
          · obtain ⟨X, hX⟩ : ∃ X, X = (s.data.toList.drop k).take (j - k) := ⟨_, rfl⟩
            have HX := Lib.hid ((Lib.extract_data s k j).trans hX.symm)
            rw [← hX, if_pos hkl] at HN
            have HZ : Hid ((s.extract k j).size ≤ 1000000) := Lib.hid (by simp only [ByteArray.size_extract]; omega)
            clear hX
            go_wp2_with (go_at_call 29; refine (letter_no s[j] _ HL.out).mono ?_; rintro e w1 ⟨rfl, rfl⟩)
            refine (rlower_at _ X HX.out _ HZ.out).mono ?_
            rintro e w1 ⟨rfl, hb1⟩
            have HOW1 := Lib.hid (HOWN.out.keep hb1)
            have hz1 : w.heap.size ≤ w1.heap.size := HOW1.out.below.size
            clear hb1
            go_wp2_with (with_reducible refine wpList_app 25 31 w.heap.size u3 ls (Wd.lower X) w1.heap.size _ _ _ _ _ (HOW1.out.alloc _).own ?_ ?_)
            · exact ⟨rfl, rfl, by simp [go_sem], by omega, by first | omega | (simp; omega) | simp⟩
            rintro v' w2 hown2 hgrow _
            have HOW2 := Lib.hid ((HOW1.out.alloc _).grown hown2 hgrow)
            clear hown2 hgrow hz1
            go_wp2_with fail
            go_roundw
            case rel => exact ⟨j + 1, j + 1, by omega, by omega, by omega, by go_num, by go_num, fun _ => ⟨ls ++ [Wd.lower X], HOW2.out, by rw [← HW.out, HN.out]; simp, by simp; omega⟩, fun h => by omega⟩
            case measure => simp [intOf] <;> omega
          · rw [if_neg hkl] at HN
            go_wp2_with (go_at_call 29; refine (letter_no s[j] _ HL.out).mono ?_; rintro e w1 ⟨rfl, rfl⟩)
            go_roundw
            case rel => exact ⟨j + 1, j + 1, by omega, by omega, by omega, by go_num, by go_num, fun _ => ⟨ls, HOWN.out, by rw [← HW.out, HN.out]; rfl, by omega⟩, fun h => by omega⟩
            case measure => simp [intOf] <;> omega
      · obtain rfl : j = s.size := by omega
        have HN := Lib.hid (Wd.W_end s.data.toList k)
        rw [HSL.out] at HN
        by_cases hkl : k < s.size
        · obtain ⟨X, hX⟩ : ∃ X, X = (s.data.toList.drop k).take (s.size - k) := ⟨_, rfl⟩
          have HX := Lib.hid ((Lib.extract_data s k s.size).trans hX.symm)
          rw [← hX, if_pos hkl] at HN
          have HZ : Hid ((s.extract k s.size).size ≤ 1000000) := Lib.hid (by simp only [ByteArray.size_extract]; omega)
          clear hX
          go_wp2_with fail
          refine (rlower_at _ X HX.out _ HZ.out).mono ?_
          rintro e w1 ⟨rfl, hb1⟩
          have HOW1 := Lib.hid (HOWN.out.keep hb1)
          have hz1 : w.heap.size ≤ w1.heap.size := HOW1.out.below.size
          clear hb1
          go_wp2_with (with_reducible refine wpList_app 25 31 w.heap.size u3 ls (Wd.lower X) w1.heap.size _ _ _ _ _ (HOW1.out.alloc _).own ?_ ?_)
          · exact ⟨rfl, rfl, by simp [go_sem], by omega, by first | omega | (simp; omega) | simp⟩
          rintro v' w2 hown2 hgrow _
          have HOW2 := Lib.hid ((HOW1.out.alloc _).grown hown2 hgrow)
          clear hown2 hgrow hz1
          go_wp2_with fail
          go_roundw
          case rel => exact ⟨s.size + 1, s.size + 1, by omega, by omega, by omega, by go_num, by go_num, fun h => by omega, fun _ => by rw [← HW.out, HN.out]; exact HOW2.out⟩
          case measure => simp [intOf] <;> omega
        · rw [if_neg hkl] at HN
          go_wp2_with fail
          go_roundw
          case rel => exact ⟨s.size + 1, s.size + 1, by omega, by omega, by omega, by go_num, by go_num, fun h => by omega, fun _ => by rw [← HW.out, HN.out]; simpa using HOWN.out⟩
          case measure => simp [intOf] <;> omega
    · obtain rfl : j = s.size + 1 := by omega
      go_wp2_with fail
      go_ret
      exact ⟨_, rfl, by first | exact H2.out trivial | exact H2.out rfl⟩
end Go.Proofs.YtjedhlgflocjoaaDoor
