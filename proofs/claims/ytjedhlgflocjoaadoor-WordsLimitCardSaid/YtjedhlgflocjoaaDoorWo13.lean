/- Words: the reference's add, stems and Index. -/
import Derived.Test.YtjedhlgflocjoaaDoorWo12
import Derived.Deep.Cut
namespace Go.Proofs.YtjedhlgflocjoaaDoor
open Go.ChangeShapes Go.WideShapes Go.ChangeAt Go.RowKit Go.Sort
set_option linter.unusedVariables false
set_option linter.unusedSimpArgs false
/-- a slice of strings that can be read comes back; nothing that lay has turned -/
def AtOut (v : Value) (ls : List Wd.Str) (w : World) (e : Ending) (w' : World) : Prop := ∃ v', e = .returned v' ∧ StrsAt w' v' ls ∧ Below w.heap.size w w' ∧ (∀ k, v'.ownBlock = some k → v.ownBlock = some k ∨ w.heap.size ≤ k)
theorem add_at (g k j : Nat) : (⟨g, k, none⟩ : Addr).add j = ⟨g, k + j, none⟩ := by
  unfold Addr.add
  by_cases h : j = 0
  · rw [if_pos h, h]; rfl
  · rw [if_neg h]
theorem less_at (a x : Wd.Str) (b : Bool) (h : decide (x < a) = b) (y : ByteArray) (hy : y.data.toList = x) : (Op.bytesLess (Wd.bs a).toList y.toList || (Wd.bs a).toList == y.toList) = !b := by
  rw [bytesLess_eq, Lib.toList_data, Lib.toList_data, hy, ← h]
  show (decide (a < x) || a == x) = !decide (x < a)
  rcases Wd.str_tri a x with h1 | h1 | h1
  · have : ¬ x < a := fun h2 => Wd.str_irrefl _ (Wd.str_trans h1 h2)
    simp [h1, this]
  · subst h1
    have : ¬ a < a := Wd.str_irrefl a
    simp [this]
  · have h2 : ¬ a < x := fun h2 => Wd.str_irrefl _ (Wd.str_trans h1 h2)
    have h3 : a ≠ x := fun e => by subst e; exact Wd.str_irrefl _ h1
    simp [h1, h2, h3]
set_option maxHeartbeats 1000000 in
theorem add_has (v : Value) (ls : List Wd.Str) (x : ByteArray) (w : World) (hv : StrsAt w v ls) (hl : ls.length ≤ 1000000) (hx : Wd.has ls x.data.toList = true) :
    Calls Tryd.prog 54 #[v, .string x] w (AtOut v (Wd.ins ls x.data.toList) w) := by
  have HI : Hid (Wd.ins ls x.data.toList = ls) := Lib.hid (by unfold Wd.ins; rw [if_pos (Wd.has_iff.1 hx)])
  have HV := Lib.hid hv
  have HC : Hid (∀ w, StrsAt w v ls → Calls Tryd.prog 41 #[v, .string x] w fun e w' => e = .returned (.bool true) ∧ w = w') := Lib.hid (fun w h => by rw [← hx]; exact has_any v ls x w h hl)
  clear hv hx
  go_enter Tryd.func54, Tryd.ntmps54
  go_wp2_with fail
  refine (HC.out _ HV.out).mono ?_
  rintro e w1 ⟨rfl, rfl⟩
  go_wp2_with fail
  go_ret
  exact ⟨v, rfl, by rw [HI.out]; exact HV.out, Below.refl _ _, fun k hk => .inl hk⟩
theorem src_nil (w : World) : SrcAt w (.slice none 0 0) [] := .inl ⟨0, rfl, rfl⟩
theorem cell_one (w : World) (x : ByteArray) (T : TypeId) : (w.alloc (.cells #[.string x] T)).cell? ⟨w.heap.size, 0, none⟩ = some (.string (Wd.bs x.data.toList)) := by
  show _ = some (Value.string x)
  simp [go_sem]
set_option maxHeartbeats 1000000 in
theorem add_nil (x : ByteArray) (w : World) : Calls Tryd.prog 54 #[.slice none 0 0, .string x] w (AtOut (.slice none 0 0) (Wd.ins [] x.data.toList) w) := by
  have HI : Hid (Wd.ins [] x.data.toList = [x.data.toList]) := Lib.hid rfl
  have HC : Hid (∀ w, Calls Tryd.prog 41 #[.slice none 0 0, .string x] w fun e w' => e = .returned (.bool false) ∧ w = w') := Lib.hid (fun w => has_any _ [] x w (.inl ⟨rfl, rfl⟩) (by simp))
  go_enter Tryd.func54, Tryd.ntmps54
  go_wp2_with fail
  refine (HC.out _).mono ?_
  rintro e w1 ⟨rfl, rfl⟩
  go_wp2_with fail
  go_loop [5] (fun i => i = .int .i64 0) (fun _ => 0)
  case atStart => rfl
  case round =>
    obtain rfl := hrel
    go_upto_region 6 with fail
    go_cut [6] from 24 to 25 (fun v wx => v = .slice none 0 0 ∧ wx = w)
    case first =>
      go_wp2_with fail
      go_meet
      exact ⟨rfl, rfl⟩
    case rest =>
      obtain ⟨hv, rfl⟩ := hcut
      have HS0 : Hid (SL wc wc u6 []) := Lib.hid (by rw [hv]; exact SL.start wc)
      clear hv
      have hsrc1 : SrcAt wc (.slice none 0 0) [] := src_nil _
      go_wp2_with (with_reducible refine wpList_appM 26 29 wc.heap.size u6 (.slice none 0 0) [] [] _ _ _ _ _ HS0.out.own hsrc1 ?_ ?_)
      · exact ⟨rfl, rfl, by simp, by simp, Nat.le_refl _⟩
      rintro v1 w1 ho1 hg1 hb1
      have hs1 : SL wc w1 v1 [] := HS0.out.grown ho1 hg1
      have HS1 := Lib.hid hs1
      have hz1 := hs1.below.size
      clear ho1 hg1 hb1 hs1 HS0 hsrc1
      go_wp2_with (with_reducible refine wpList_app 31 33 wc.heap.size v1 [] x.data.toList w1.heap.size _ _ _ _ _ (HS1.out.alloc _).own ?_ ?_)
      · exact ⟨rfl, rfl, cell_one _ _ _, by simp, by simp; omega⟩
      rintro v2 w2 ho2 hg2 hb2
      have hs2 : SL wc w2 v2 ([] ++ [x.data.toList]) := (HS1.out.alloc _).grown ho2 hg2
      have HS2 := Lib.hid hs2
      clear ho2 hg2 hb2 hs2 HS1 hz1
      have hz2 := HS2.out.below.size
      have hsrc2 : SrcAt w2 (.slice none 0 0) [] := src_nil _
      go_wp2_with (with_reducible refine wpList_appM 35 38 wc.heap.size v2 (.slice none 0 0) ([] ++ [x.data.toList]) [] _ _ _ _ _ HS2.out.own hsrc2 ?_ ?_)
      · exact ⟨rfl, rfl, by simp, by simp, hz2⟩
      rintro v3 w3 ho3 hg3 hb3
      have hs3 : SL wc w3 v3 ([] ++ [x.data.toList] ++ []) := HS2.out.grown ho3 hg3
      have HS3 := Lib.hid hs3
      clear ho3 hg3 hb3 hs3 HS2 hz2 hsrc2
      go_wp2_with fail
      go_ret
      exact ⟨v3, rfl, by rw [HI.out]; exact HS3.out.reads, HS3.out.below, fun k hk => .inr (own_ge HS3.out.own k hk)⟩
theorem src_take {w W : World} {g k cap : Nat} {ls : List Wd.Str} (hg : g < w.heap.size) (hc : ∀ j (h : j < ls.length), w.cell? ⟨g, j, none⟩ = some (.string (Wd.bs ls[j]))) (hb : Below w.heap.size w W) (hk : k ≤ ls.length) : SrcAt W (.slice (some ⟨g, 0, none⟩) k cap) (ls.take k) := by
  have e : (ls.take k).length = k := by rw [List.length_take]; omega
  refine .inr ⟨⟨g, 0, none⟩, cap, by rw [e], fun j hj => ?_⟩
  rw [add_at, Nat.zero_add, hb.cell (p := ⟨g, j, none⟩) hg, hc j (by omega), List.getElem_take]
theorem src_drop {w W : World} {g k o c n : Nat} {ls : List Wd.Str} (hg : g < w.heap.size) (hc : ∀ j (h : j < ls.length), w.cell? ⟨g, j, none⟩ = some (.string (Wd.bs ls[j]))) (hb : Below w.heap.size w W) (hn : n = ls.length - k) (ho : k < ls.length → o = k) : SrcAt W (.slice (some ⟨g, o, none⟩) n c) (ls.drop k) := by
  subst hn
  refine .inr ⟨⟨g, o, none⟩, c, by rw [List.length_drop], fun j hj => ?_⟩
  have hj' : k + j < ls.length := by rw [List.length_drop] at hj; omega
  obtain rfl := ho (by omega)
  rw [add_at, hb.cell (p := ⟨g, o + j, none⟩) hg, hc (o + j) hj', List.getElem_drop]
set_option maxHeartbeats 2000000 in
theorem add_new (g cap : Nat) (ls : List Wd.Str) (x : ByteArray) (w : World) (hc : ls.length ≤ cap) (hg : g < w.heap.size) (hcell : ∀ j (h : j < ls.length), w.cell? ⟨g, j, none⟩ = some (.string (Wd.bs ls[j])))
    (hl : ls.length ≤ 500000) (ha : Wd.Asc ls) (hx : Wd.has ls x.data.toList = false) :
    Calls Tryd.prog 54 #[.slice (some ⟨g, 0, none⟩) ls.length cap, .string x] w (AtOut (.slice (some ⟨g, 0, none⟩) ls.length cap) (Wd.ins ls x.data.toList) w) := by
  have HC : Hid (∀ w, StrsAt w (.slice (some ⟨g, 0, none⟩) ls.length cap) ls → Calls Tryd.prog 41 #[.slice (some ⟨g, 0, none⟩) ls.length cap, .string x] w fun e w' => e = .returned (.bool false) ∧ w = w') := Lib.hid (fun w h => by rw [← hx]; exact has_any _ ls x w h (by omega))
  have hnx : x.data.toList ∉ ls := fun h => by rw [Wd.has_iff.2 h] at hx; cases hx
  have HA := Lib.hid ha
  have HNX := Lib.hid hnx
  have HCELL := Lib.hid hcell
  clear ha hx hcell hnx
  go_enter Tryd.func54, Tryd.ntmps54
  go_wp2_with fail
  refine (HC.out _ (.inr ⟨g, cap, rfl, hc, hg, HCELL.out⟩)).mono ?_
  rintro e w1 ⟨rfl, rfl⟩
  go_wp2_with fail
  go_loop [5] (fun i => ∃ k : Nat, k ≤ ls.length ∧ i = .int .i64 k ∧ ∀ j (h : j < ls.length), k ≤ j → x.data.toList < ls[j]) (fun i => (intOf i).toNat)
  case atStart => exact ⟨ls.length, Nat.le_refl _, rfl, fun j h1 h2 => absurd h2 (by omega)⟩
  case round =>
    obtain ⟨k, hk, rfl, hgt⟩ := hrel
    have HGT := Lib.hid hgt
    clear hgt
    have fin : ∀ (hle : ∀ h : k - 1 < ls.length, 0 < k → ls[k - 1] ≤ x.data.toList), Hid (Wd.ins ls x.data.toList = ls.take k ++ [x.data.toList] ++ ls.drop k) := fun hle => Lib.hid (Wd.take_le_asc hk HA.out HGT.out hle HNX.out)
    by_cases h0 : 0 < k
    · have hk1 : k - 1 < ls.length := by omega
      have hcell := HCELL.out (k - 1) hk1
      have e1 : ((k : Int) - 1).toNat = k - 1 := by omega
      have e2 : (0 : Int) ≤ (k : Int) - 1 := by omega
      cases hlt : decide (x.data.toList < ls[k - 1]) with
      | true =>
        have hcmp := less_at ls[k - 1] x.data.toList true hlt x rfl
        have HLT := Lib.hid (of_decide_eq_true hlt)
        clear hlt fin
        generalize Wd.bs ls[k - 1] = y at hcell hcmp
        go_wp2_with fail
        go_round
        case rel => exact ⟨k - 1, by omega, by go_num, fun j hj h => by
          by_cases e : j = k - 1
          · subst e; exact HLT.out
          · exact HGT.out j hj (by omega)⟩
        case measure => simp [intOf] <;> omega
      | false =>
        have hcmp := less_at ls[k - 1] x.data.toList false hlt x rfl
        have HF := fin (fun _ _ => of_decide_eq_false hlt)
        clear hlt fin
        generalize Wd.bs ls[k - 1] = y at hcell hcmp
        by_cases hcap : cap = k
        · subst hcap
          go_upto_region 6 with fail
          go_cut [6] from 24 to 25 (fun v wx => v = .slice none 0 0 ∧ wx = w)
          case first =>
            go_wp2_with fail
            go_meet
            exact ⟨rfl, rfl⟩
          case rest =>
            obtain ⟨hv, rfl⟩ := hcut
            have HS0 : Hid (SL wc wc u6 []) := Lib.hid (by rw [hv]; exact SL.start wc)
            clear hv
            have hsrc1 : SrcAt wc (.slice (some ⟨g, 0, none⟩) cap cap) (ls.take cap) := src_take hg HCELL.out (Below.refl _ _) (by omega)
            have HSRC2 : Hid (∀ W, Below wc.heap.size wc W → SrcAt W (.slice (some ⟨g, 0, none⟩) 0 0) (ls.drop cap)) := Lib.hid (fun W hW => src_drop hg HCELL.out hW (by omega) (fun h => by omega))
            have hA : (ls.take cap).length ≤ 500000 := by rw [List.length_take]; omega
            have hD : (ls.drop cap).length ≤ 500000 := by rw [List.length_drop]; omega
            generalize ls.take cap = A at *
            generalize ls.drop cap = D at *
            go_wp2_with (with_reducible refine wpList_appM 26 29 wc.heap.size u6 (.slice (some ⟨g, 0, none⟩) cap cap) [] A _ _ _ _ _ HS0.out.own hsrc1 ?_ ?_)
            · exact ⟨rfl, rfl, by simp, by omega, Nat.le_refl _⟩
            rintro v1 w1 ho1 hg1 hb1
            have hs1 : SL wc w1 v1 A := HS0.out.grown ho1 hg1
            have HS1 := Lib.hid hs1
            have hz1 := hs1.below.size
            clear ho1 hg1 hb1 hs1 HS0 hsrc1
            go_wp2_with (with_reducible refine wpList_app 31 33 wc.heap.size v1 A x.data.toList w1.heap.size _ _ _ _ _ (HS1.out.alloc _).own ?_ ?_)
            · exact ⟨rfl, rfl, cell_one _ _ _, by omega, by simp; omega⟩
            rintro v2 w2 ho2 hg2 hb2
            have hs2 : SL wc w2 v2 (A ++ [x.data.toList]) := (HS1.out.alloc _).grown (by first | exact ho2 | (rw [List.length_append]; exact ho2)) hg2
            have HS2 := Lib.hid hs2
            clear ho2 hg2 hb2 hs2 HS1 hz1
            have hz2 := HS2.out.below.size
            have hsrc2 := HSRC2.out _ HS2.out.below
            have hE : (A ++ [x.data.toList]).length ≤ 500001 := by simp; omega
            generalize A ++ [x.data.toList] = E at *
            go_wp2_with (with_reducible refine wpList_appM 35 38 wc.heap.size v2 (.slice (some ⟨g, 0, none⟩) 0 0) E D _ _ _ _ _ HS2.out.own hsrc2 ?_ ?_)
            · exact ⟨rfl, rfl, by omega, by omega, hz2⟩
            rintro v3 w3 ho3 hg3 hb3
            have hs3 : SL wc w3 v3 (E ++ D) := HS2.out.grown (by first | exact ho3 | (rw [List.length_append]; exact ho3)) hg3
            have HS3 := Lib.hid hs3
            clear ho3 hg3 hb3 hs3 HS2 hz2 hsrc2
            go_wp2_with fail
            go_ret
            exact ⟨v3, rfl, by rw [HF.out]; exact HS3.out.reads, HS3.out.below, fun k hk => .inr (own_ge HS3.out.own k hk)⟩
        · go_upto_region 6 with fail
          go_cut [6] from 24 to 25 (fun v wx => v = .slice none 0 0 ∧ wx = w)
          case first =>
            go_wp2_with fail
            go_meet
            exact ⟨rfl, rfl⟩
          case rest =>
            obtain ⟨hv, rfl⟩ := hcut
            have HS0 : Hid (SL wc wc u6 []) := Lib.hid (by rw [hv]; exact SL.start wc)
            clear hv
            have hsrc1 : SrcAt wc (.slice (some ⟨g, 0, none⟩) k cap) (ls.take k) := src_take hg HCELL.out (Below.refl _ _) (by omega)
            have HSRC2 : Hid (∀ W, Below wc.heap.size wc W → SrcAt W (.slice (some ⟨g, k, none⟩) (ls.length - k) (cap - k)) (ls.drop k)) := Lib.hid (fun W hW => src_drop hg HCELL.out hW rfl (fun _ => rfl))
            have hA : (ls.take k).length ≤ 500000 := by rw [List.length_take]; omega
            have hD : (ls.drop k).length ≤ 500000 := by rw [List.length_drop]; omega
            generalize ls.take k = A at *
            generalize ls.drop k = D at *
            go_wp2_with (with_reducible refine wpList_appM 26 29 wc.heap.size u6 (.slice (some ⟨g, 0, none⟩) k cap) [] A _ _ _ _ _ HS0.out.own hsrc1 ?_ ?_)
            · exact ⟨rfl, rfl, by simp, by omega, Nat.le_refl _⟩
            rintro v1 w1 ho1 hg1 hb1
            have hs1 : SL wc w1 v1 A := HS0.out.grown ho1 hg1
            have HS1 := Lib.hid hs1
            have hz1 := hs1.below.size
            clear ho1 hg1 hb1 hs1 HS0 hsrc1
            go_wp2_with (with_reducible refine wpList_app 31 33 wc.heap.size v1 A x.data.toList w1.heap.size _ _ _ _ _ (HS1.out.alloc _).own ?_ ?_)
            · exact ⟨rfl, rfl, cell_one _ _ _, by omega, by simp; omega⟩
            rintro v2 w2 ho2 hg2 hb2
            have hs2 : SL wc w2 v2 (A ++ [x.data.toList]) := (HS1.out.alloc _).grown (by first | exact ho2 | (rw [List.length_append]; exact ho2)) hg2
            have HS2 := Lib.hid hs2
            clear ho2 hg2 hb2 hs2 HS1 hz1
            have hz2 := HS2.out.below.size
            have hsrc2 := HSRC2.out _ HS2.out.below
            have hE : (A ++ [x.data.toList]).length ≤ 500001 := by simp; omega
            generalize A ++ [x.data.toList] = E at *
            go_wp2_with (with_reducible refine wpList_appM 35 38 wc.heap.size v2 (.slice (some ⟨g, k, none⟩) (ls.length - k) (cap - k)) E D _ _ _ _ _ HS2.out.own hsrc2 ?_ ?_)
            · exact ⟨rfl, rfl, by omega, by omega, hz2⟩
            rintro v3 w3 ho3 hg3 hb3
            have hs3 : SL wc w3 v3 (E ++ D) := HS2.out.grown (by first | exact ho3 | (rw [List.length_append]; exact ho3)) hg3
            have HS3 := Lib.hid hs3
            clear ho3 hg3 hb3 hs3 HS2 hz2 hsrc2
            go_wp2_with fail
            go_ret
            exact ⟨v3, rfl, by rw [HF.out]; exact HS3.out.reads, HS3.out.below, fun k hk => .inr (own_ge HS3.out.own k hk)⟩
    · have HF := fin (fun _ h => absurd h h0)
      obtain rfl : k = 0 := by omega
      clear fin h0
      go_upto_region 6 with fail
      go_cut [6] from 24 to 25 (fun v wx => v = .slice none 0 0 ∧ wx = w)
      case first =>
        go_wp2_with fail
        go_meet
        exact ⟨rfl, rfl⟩
      case rest =>
        obtain ⟨hv, rfl⟩ := hcut
        have HS0 : Hid (SL wc wc u6 []) := Lib.hid (by rw [hv]; exact SL.start wc)
        clear hv
        have hsrc1 : SrcAt wc (.slice (some ⟨g, 0, none⟩) 0 cap) (ls.take 0) := src_take hg HCELL.out (Below.refl _ _) (by omega)
        have HSRC2 : Hid (∀ W, Below wc.heap.size wc W → SrcAt W (.slice (some ⟨g, 0, none⟩) ls.length cap) (ls.drop 0)) := Lib.hid (fun W hW => src_drop hg HCELL.out hW (by omega) (fun _ => rfl))
        have hA : (ls.take 0).length ≤ 500000 := by rw [List.length_take]; omega
        have hD : (ls.drop 0).length ≤ 500000 := by rw [List.length_drop]; omega
        generalize ls.take 0 = A at *
        generalize ls.drop 0 = D at *
        go_wp2_with (with_reducible refine wpList_appM 26 29 wc.heap.size u6 (.slice (some ⟨g, 0, none⟩) 0 cap) [] A _ _ _ _ _ HS0.out.own hsrc1 ?_ ?_)
        · exact ⟨rfl, rfl, by simp, by omega, Nat.le_refl _⟩
        rintro v1 w1 ho1 hg1 hb1
        have hs1 : SL wc w1 v1 A := HS0.out.grown ho1 hg1
        have HS1 := Lib.hid hs1
        have hz1 := hs1.below.size
        clear ho1 hg1 hb1 hs1 HS0 hsrc1
        go_wp2_with (with_reducible refine wpList_app 31 33 wc.heap.size v1 A x.data.toList w1.heap.size _ _ _ _ _ (HS1.out.alloc _).own ?_ ?_)
        · exact ⟨rfl, rfl, cell_one _ _ _, by omega, by simp; omega⟩
        rintro v2 w2 ho2 hg2 hb2
        have hs2 : SL wc w2 v2 (A ++ [x.data.toList]) := (HS1.out.alloc _).grown (by first | exact ho2 | (rw [List.length_append]; exact ho2)) hg2
        have HS2 := Lib.hid hs2
        clear ho2 hg2 hb2 hs2 HS1 hz1
        have hz2 := HS2.out.below.size
        have hsrc2 := HSRC2.out _ HS2.out.below
        have hE : (A ++ [x.data.toList]).length ≤ 500001 := by simp; omega
        generalize A ++ [x.data.toList] = E at *
        go_wp2_with (with_reducible refine wpList_appM 35 38 wc.heap.size v2 (.slice (some ⟨g, 0, none⟩) ls.length cap) E D _ _ _ _ _ HS2.out.own hsrc2 ?_ ?_)
        · exact ⟨rfl, rfl, by omega, by omega, hz2⟩
        rintro v3 w3 ho3 hg3 hb3
        have hs3 : SL wc w3 v3 (E ++ D) := HS2.out.grown (by first | exact ho3 | (rw [List.length_append]; exact ho3)) hg3
        have HS3 := Lib.hid hs3
        clear ho3 hg3 hb3 hs3 HS2 hz2 hsrc2
        go_wp2_with fail
        go_ret
        exact ⟨v3, rfl, by rw [HF.out]; exact HS3.out.reads, HS3.out.below, fun k hk => .inr (own_ge HS3.out.own k hk)⟩
end Go.Proofs.YtjedhlgflocjoaaDoor
