/- Words: Index. -/
import Derived.Test.YtjedhlgflocjoaaDoorWo10
import Derived.WalkLawsBesides
namespace Wd
/-- a list has a string -/
def has (l : List Str) (x : Str) : Bool := l.contains x
theorem has_iff {l : List Str} {x : Str} : has l x = true ↔ x ∈ l := by unfold has; simp
end Wd
namespace Go.Proofs.YtjedhlgflocjoaaDoor
open Go.ChangeShapes Go.WideShapes Go.ChangeAt Go.RowKit Go.Sort
set_option linter.unusedVariables false
set_option linter.unusedSimpArgs false
def StrsOut (ls : List Wd.Str) (w : World) (e : Ending) (w' : World) : Prop := ∃ v, e = .returned v ∧ SL w w' v ls
theorem stemsOf_take (ws : List (Wd.Str × Bool)) (k : Nat) (h : k < ws.length) : Wd.stemsOf ((ws.map (·.1)).take (k + 1)) = Wd.stemsOf ((ws.map (·.1)).take k) ++ Wd.stemsOf [ws[k].1] := by
  rw [tok_take ws k h, Wd.stemsOf_append]
theorem words_each (s : ByteArray) (k : Nat) (h : k < (Wd.words s.data.toList).length) : ((Wd.words s.data.toList)[k].1).length ≤ s.size := by
  have := Wd.wordsG_each s.data.toList [] false false s.size (by rw [size_list]; simp) (Wd.words s.data.toList)[k] (List.getElem_mem h)
  exact this
theorem take_min {w W : World} {g cap : Nat} {us : List Wd.Str} (h : SL w W (.slice (some ⟨g, 0, none⟩) us.length cap) us) : SL w W (.slice (some ⟨g, 0, none⟩) (min us.length 128) cap) (us.take 128) := by
  have h1 := SL.shrink (n := 0) (m := min us.length 128) h (by omega)
  have e : us.take (min us.length 128) = us.take 128 := by
    by_cases hb : us.length ≤ 128
    · rw [Nat.min_eq_left hb, List.take_of_length_le (Nat.le_refl _), List.take_of_length_le hb]
    · rw [Nat.min_eq_right (by omega)]
  rw [e] at h1
  exact h1
set_option maxHeartbeats 1000000 in
theorem index_any (s : ByteArray) (w : World) (hs : s.size ≤ 1000000) : Calls Tryd.prog 16 #[.string s] w (StrsOut (Wd.index s.data.toList) w) := by
  have HLN := Lib.hid (show (Wd.words s.data.toList).length ≤ 1000000 by have := Wd.words_len s.data.toList; rw [size_list] at this; omega)
  have HEA := Lib.hid (words_each s)
  go_enter Tryd.func16, Tryd.ntmps16
  go_wp2_with fail
  refine (split_any s _ hs).mono ?_
  rintro e w1 ⟨v, rfl, hv⟩
  have HB := Lib.hid hv.below
  have hr := hv.reads
  clear hv
  have HT : Hid (Wd.index s.data.toList = (Wd.uniq (Wd.stemsOf ((Wd.words s.data.toList).map (·.1)))).take 128) := Lib.hid rfl
  generalize Wd.words s.data.toList = ws at *
  rcases hr with ⟨rfl, rfl⟩ | ⟨g, cap, rfl, hg, hc⟩
  · go_wp2_with fail
    go_loop [3, 9] (fun v i => v = .slice none 0 0 ∧ i = .int .i64 0) (fun _ _ => 0)
    case atStart => exact ⟨rfl, rfl⟩
    case round =>
      obtain ⟨rfl, rfl⟩ := hrel
      go_wp2_with fail
      refine (distinct_any w1 _ [] _ (SL.start w1) (by simp)).mono ?_
      rintro e w2 ⟨v', rfl, hs2, _⟩
      have hsh := hs2.own.2
      have HS2 := Lib.hid hs2
      have hu : Wd.uniq [] = [] := rfl
      rw [hu] at hsh HS2
      clear hs2 hu
      rcases hsh with ⟨rfl, _⟩ | ⟨g, cap, cur, rfl, _, _, h1, _⟩
      · go_wp2_with fail
        go_ret
        exact ⟨_, rfl, by rw [HT.out]; exact HS2.out.far HB.out⟩
      · simp only [List.length_nil] at *
        go_wp2_with fail
        go_ret
        exact ⟨_, rfl, by rw [HT.out]; exact HS2.out.far HB.out⟩
  · have HC := Lib.hid hc
    clear hc
    go_wp2_with fail
    go_loopw [3, 9] (fun v i wr => ∃ k : Nat, k ≤ ws.length ∧ i = .int .i64 k ∧ SL w1 wr v (Wd.stemsOf ((ws.map (·.1)).take k))) (fun _ i _ => ws.length - (intOf i).toNat)
    case atStart => exact ⟨0, Nat.zero_le _, rfl, SL.start w1⟩
    case round =>
      obtain ⟨k, hk, rfl, hown⟩ := hrel
      have HOWN := Lib.hid hown
      clear hown
      have hlen := HLN.out
      have HLT : Hid ((Wd.stemsOf ((ws.map (·.1)).take k)).length ≤ 1000000) := Lib.hid (by
        have h1 := Wd.stemsOf_len ((ws.map (·.1)).take k)
        have h2 := List.length_take_le k (ws.map (·.1))
        omega)
      by_cases hlt : k < ws.length
      · have hc1 : wr.cell? ⟨g, k * 2, none⟩ = some (.string (Wd.bs ws[k].1)) := (HOWN.out.below.cell (p := ⟨g, k * 2, none⟩) hg).trans (HC.out k hlt).1
        have hc2 : wr.cell? ⟨g, k * 2 + 1, none⟩ = some (.bool ws[k].2) := (HOWN.out.below.cell (p := ⟨g, k * 2 + 1, none⟩) hg).trans (HC.out k hlt).2
        have HTK := Lib.hid (stemsOf_take ws k hlt)
        have HXL : Hid (ws[k].1.length ≤ 1000000) := Lib.hid (Nat.le_trans (HEA.out k hlt) hs)
        generalize Wd.stemsOf ((ws.map (·.1)).take k) = ls at *
        generalize ws[k].1 = x at *
        generalize ws[k].2 = m at *
        go_wp2_with fail
        refine (addStem_any w1 u3 ls (Wd.bs x) _ (HOWN.out.alloc _) HLT.out HXL.out).mono ?_
        rintro e w2 ⟨v', rfl, hs2, _⟩
        have HS2 := Lib.hid hs2
        clear hs2
        go_wp2_with fail
        go_roundw
        case rel => exact ⟨k + 1, by omega, by go_num, by rw [HTK.out]; exact HS2.out⟩
        case measure => simp [intOf]; omega
      · obtain rfl : k = ws.length := by omega
        have HTA : Hid (Wd.stemsOf ((ws.map (·.1)).take ws.length) = Wd.stemsOf (ws.map (·.1))) := Lib.hid (by rw [List.take_of_length_le (by simp)])
        have HUL := Lib.hid (Wd.uniq_len_le (Wd.stemsOf ((ws.map (·.1)).take ws.length)))
        go_wp2_with fail
        refine (distinct_any w1 u3 _ _ HOWN.out HLT.out).mono ?_
        rintro e w2 ⟨v', rfl, hs2, _⟩
        rw [HTA.out] at hs2 HUL HLT
        have hul : (Wd.uniq (Wd.stemsOf (ws.map (·.1)))).length ≤ 1000000 := Nat.le_trans HUL.out HLT.out
        have hsh := hs2.own.2
        have HS2 := Lib.hid hs2
        clear hs2
        generalize Wd.uniq (Wd.stemsOf (ws.map (·.1))) = us at *
        rcases hsh with ⟨rfl, h0⟩ | ⟨g', cap', cur, rfl, _, _, h1, _⟩
        · obtain rfl : us = [] := List.eq_nil_of_length_eq_zero h0
          clear h0 hul
          go_wp2_with fail
          go_ret
          exact ⟨_, rfl, by rw [HT.out]; exact HS2.out.far HB.out⟩
        · have e : (min (us.length : Int) 128).toNat = min us.length 128 := by omega
          have HSH := Lib.hid (take_min HS2.out)
          rw [← e] at HSH
          have HE := Lib.hid e
          clear e
          go_wp2_with fail
          go_ret
          exact ⟨_, rfl, by rw [HT.out]; exact HSH.out.far HB.out⟩
/-- a slice of strings that can be read -/
def StrsAt (W : World) (v : Value) (ls : List Wd.Str) : Prop :=
  (v = .slice none 0 0 ∧ ls = []) ∨ ∃ g cap, v = .slice (some ⟨g, 0, none⟩) ls.length cap ∧ ls.length ≤ cap ∧ g < W.heap.size ∧ ∀ j (h : j < ls.length), W.cell? ⟨g, j, none⟩ = some (.string (Wd.bs ls[j]))
theorem SL.reads {w W : World} {v : Value} {ls : List Wd.Str} (h : SL w W v ls) : StrsAt W v ls := by
  have ho := h.own
  rcases ho.2 with ⟨rfl, h0⟩ | ⟨g, cap, cur, rfl, _, _, hc, _⟩
  · exact .inl ⟨rfl, List.eq_nil_of_length_eq_zero h0⟩
  · exact .inr ⟨g, cap, rfl, hc, own_lt ho, fun j hj => by rw [ho.cellAt j (by omega)]; simp [strs, hj]⟩
theorem StrsAt.keep {W W' : World} {v : Value} {ls : List Wd.Str} (h : StrsAt W v ls) (hb : Below W.heap.size W W') : StrsAt W' v ls := by
  rcases h with h | ⟨g, cap, rfl, hc, hg, h2⟩
  · exact .inl h
  · exact .inr ⟨g, cap, rfl, hc, Nat.lt_of_lt_of_le hg hb.size, fun j hj => (hb.cell (p := ⟨g, j, none⟩) hg).trans (h2 j hj)⟩
set_option maxHeartbeats 400000 in
theorem has_any (v : Value) (ls : List Wd.Str) (x : ByteArray) (w : World) (hv : StrsAt w v ls) (hl : ls.length ≤ 1000000) :
    Calls Tryd.prog 41 #[v, .string x] w fun e w' => e = .returned (.bool (Wd.has ls x.data.toList)) ∧ w = w' := by
  rcases hv with ⟨rfl, rfl⟩ | ⟨g, cap, rfl, hcp, hg, hc⟩
  · go_enter Tryd.func41, Tryd.ntmps41
    go_wp2_with fail
    go_loop [5] (fun i => i = .int .i64 0) (fun _ => 0)
    case atStart => rfl
    case round =>
      obtain rfl := hrel
      go_wp2_with fail
      go_ret
      exact ⟨rfl, rfl⟩
  · have HC := Lib.hid hc
    clear hc
    go_enter Tryd.func41, Tryd.ntmps41
    go_wp2_with fail
    go_loop [5] (fun i => ∃ k : Nat, k ≤ ls.length ∧ i = .int .i64 k ∧ ∀ j (h : j < ls.length), j < k → ls[j] ≠ x.data.toList) (fun i => ls.length - (intOf i).toNat)
    case atStart => exact ⟨0, by omega, rfl, fun j _ h => absurd h (by omega)⟩
    case round =>
      obtain ⟨k, hk, rfl, hno⟩ := hrel
      have HNO := Lib.hid hno
      clear hno
      by_cases hlt : k < ls.length
      · have hcell := HC.out k hlt
        by_cases he : ls[k] = x.data.toList
        · rw [he] at hcell
          have hbs : Wd.bs x.data.toList = x := rfl
          rw [hbs] at hcell
          have HE : Hid (Wd.has ls x.data.toList = true) := Lib.hid (Wd.has_iff.2 (by rw [← he]; exact List.getElem_mem hlt))
          clear he hbs
          go_wp2_with fail
          go_ret
          exact ⟨by rw [HE.out]; rfl, rfl⟩
        · have hne : ((Wd.bs ls[k]).toList == x.toList) = false := by
            rw [beq_eq_false_iff_ne, Lib.toList_data, Lib.toList_data]; exact he
          have HE := Lib.hid he
          clear he
          generalize Wd.bs ls[k] = y at hcell hne
          go_wp2_with fail
          go_round
          case rel => exact ⟨k + 1, by omega, by go_num, fun j hj h => by
            by_cases e : j = k
            · subst e; exact HE.out
            · exact HNO.out j hj (by omega)⟩
          case measure => simp [intOf] <;> omega
      · have HE : Hid (Wd.has ls x.data.toList = false) := Lib.hid (by
          rw [Bool.eq_false_iff]
          intro h
          have hm : x.data.toList ∈ ls := Wd.has_iff.1 h
          obtain ⟨j, hj, e⟩ := List.getElem_of_mem hm
          exact HNO.out j hj (by omega) e)
        go_wp2_with fail
        go_ret
        exact ⟨by rw [HE.out]; rfl, rfl⟩
end Go.Proofs.YtjedhlgflocjoaaDoor
