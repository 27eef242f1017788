/- Words: the reference's Index, blanks and substrings. -/
import Derived.Test.YtjedhlgflocjoaaDoorWo14
import Derived.Lib.SlTrimSet
import Derived.Lib.IndexLaws
namespace Wd
def blanks : Str := [9, 10, 13, 32]
/-- without blanks at both ends -/
def trm (l : Str) : Str := Go.Lib.trimRightS (Go.Lib.trimLeftS l blanks) blanks
theorem dropWhile_stop (p : UInt8 → Bool) : ∀ (X : Str) (c : UInt8) (Y : Str), p c = false → (X ++ c :: Y).dropWhile p = X.dropWhile p ++ c :: Y
  | [], c, Y, h => by rw [List.nil_append, List.dropWhile_cons_of_neg (by simp [h])]; rfl
  | x :: X, c, Y, h => by
    rw [List.cons_append]
    by_cases hx : p x = true
    · rw [List.dropWhile_cons_of_pos hx, List.dropWhile_cons_of_pos hx]; exact dropWhile_stop p X c Y h
    · rw [List.dropWhile_cons_of_neg hx, List.dropWhile_cons_of_neg hx]; rfl
theorem dropWhile_all (p : UInt8 → Bool) : ∀ (X : Str), (∀ x ∈ X, p x = true) → X.dropWhile p = []
  | [], _ => rfl
  | x :: X, h => by
    rw [List.dropWhile_cons_of_pos (h x (List.mem_cons_self ..))]
    exact dropWhile_all p X (fun y hy => h y (List.mem_cons_of_mem _ hy))
theorem all_or (p : UInt8 → Bool) : ∀ (l : Str), (∀ x ∈ l, p x = true) ∨ ∃ A c B, l = A ++ c :: B ∧ (∀ x ∈ A, p x = true) ∧ p c = false
  | [] => .inl (by simp)
  | x :: l => by
    cases hx : p x with
    | false => exact .inr ⟨[], x, l, rfl, by simp, hx⟩
    | true =>
      rcases all_or p l with h | ⟨A, c, B, rfl, hA, hc⟩
      · exact .inl (fun y hy => by rcases List.mem_cons.1 hy with rfl | hy; exact hx; exact h y hy)
      · exact .inr ⟨x :: A, c, B, rfl, fun y hy => by rcases List.mem_cons.1 hy with rfl | hy; exact hx; exact hA y hy, hc⟩
theorem trim_comm (l cs : Str) : Go.Lib.trimS l cs = Go.Lib.trimRightS (Go.Lib.trimLeftS l cs) cs := by
  unfold Go.Lib.trimS Go.Lib.trimLeftS Go.Lib.trimRightS
  rcases all_or (cs.contains ·) l with h | ⟨A, c, B, rfl, hA, hc⟩
  · have h2 : ∀ x ∈ l.reverse, (cs.contains ·) x = true := fun x hx => h x (List.mem_reverse.1 hx)
    rw [dropWhile_all _ _ h2, dropWhile_all _ _ h]
    rfl
  · have e1 : (A ++ c :: B).dropWhile (cs.contains ·) = c :: B := by
      rw [dropWhile_stop _ A c B hc, dropWhile_all _ A hA]; rfl
    have e2 : (A ++ c :: B).reverse = B.reverse ++ c :: A.reverse := by simp
    have e3 : (c :: B).reverse = B.reverse ++ c :: [] := by simp
    rw [e1, e2, e3, dropWhile_stop _ B.reverse c A.reverse hc, dropWhile_stop _ B.reverse c [] hc]
    simp only [List.reverse_append, List.reverse_cons, List.reverse_reverse, List.reverse_nil, List.nil_append, List.append_assoc, List.cons_append]
    rw [dropWhile_stop _ A c _ hc, dropWhile_all _ A hA]
    rfl
theorem low_blank (b : UInt8) : blanks.contains (low b) = blanks.contains b := by
  unfold low isU
  by_cases h : 65 ≤ b.toNat ∧ b.toNat ≤ 90
  · rw [if_pos (by simp [h.1, h.2])]
    have h1 : blanks.contains b = false := by
      rw [Bool.eq_false_iff]; intro hc
      simp only [blanks, List.contains_cons, List.contains_nil, Bool.or_false, Bool.or_eq_true, beq_iff_eq] at hc
      rcases hc with rfl | rfl | rfl | rfl <;> simp at h
    have h2 : blanks.contains (b + 32) = false := by
      have e : (b + 32).toNat = b.toNat + 32 := by simp; omega
      rw [Bool.eq_false_iff]; intro hc
      simp only [blanks, List.contains_cons, List.contains_nil, Bool.or_false, Bool.or_eq_true, beq_iff_eq] at hc
      rcases hc with hc | hc | hc | hc <;> (rw [hc] at e; simp at e; try omega)
    rw [h1, h2]
  · rw [if_neg (by simp; omega)]
theorem lower_dropWhile : ∀ (l : Str), (lower l).dropWhile (blanks.contains ·) = lower (l.dropWhile (blanks.contains ·))
  | [] => rfl
  | x :: l => by
    show (low x :: lower l).dropWhile _ = _
    by_cases hx : blanks.contains x = true
    · rw [List.dropWhile_cons_of_pos (by rw [low_blank]; exact hx), List.dropWhile_cons_of_pos hx]; exact lower_dropWhile l
    · rw [List.dropWhile_cons_of_neg (by rw [low_blank]; exact hx), List.dropWhile_cons_of_neg hx]; rfl
theorem lower_trm (l : Str) : lower (trm l) = Go.Lib.trimS (lower l) blanks := by
  rw [trim_comm]
  unfold trm Go.Lib.trimRightS Go.Lib.trimLeftS
  rw [lower_dropWhile]
  have e : ∀ m : Str, (lower m).reverse = lower m.reverse := fun m => by simp [lower]
  rw [e, lower_dropWhile, ← e]
end Wd
namespace Go.Proofs.YtjedhlgflocjoaaDoor
open Go.ChangeShapes Go.WideShapes Go.ChangeAt Go.RowKit Go.Sort
set_option linter.unusedVariables false
set_option linter.unusedSimpArgs false
theorem StrsAt.take {W : World} {g cap n : Nat} {ls : List Wd.Str} (hn : n = ls.length) (h : StrsAt W (.slice (some ⟨g, 0, none⟩) n cap) ls) : StrsAt W (.slice (some ⟨g, 0, none⟩) (min n 128) cap) (ls.take 128) := by
  subst hn
  rcases h with ⟨h, _⟩ | ⟨g', cap', e, hc, hg, hcell⟩
  · cases h
  · injection e with e1 e2 e3
    injection e1 with e1
    injection e1 with e1
    subst e1; subst e3
    have e : (ls.take 128).length = min ls.length 128 := by rw [List.length_take]; omega
    refine .inr ⟨g, cap, by rw [e], by omega, hg, fun j hj => ?_⟩
    rw [e] at hj
    rw [hcell j (by omega), List.getElem_take]
set_option maxHeartbeats 400000 in
theorem rindex_any (s : ByteArray) (w : World) (hw : Env w) (hs : s.size ≤ 200000) : Calls Tryd.prog 17 #[.string s] w (AtOut (.slice none 0 0) (Wd.index s.data.toList) w) := by
  have HW := Lib.hid hw
  clear hw
  have HTL : Hid ((Wd.tokens s.data.toList).length ≤ 200000) := Lib.hid (by
    have := Wd.words_len s.data.toList
    rw [size_list] at this
    unfold Wd.tokens
    rw [List.length_map]
    omega)
  have HEA : Hid (∀ x ∈ Wd.tokens s.data.toList, x.length ≤ 1000000) := Lib.hid (fun x hx => by
    unfold Wd.tokens at hx
    obtain ⟨y, hy, rfl⟩ := List.mem_map.1 hx
    have := Wd.wordsG_each s.data.toList [] false false s.size (by rw [size_list]; simp) y hy
    omega)
  have HI : Hid (Wd.index s.data.toList = (Wd.addAll [] (Wd.stemsOf (Wd.tokens s.data.toList))).take 128) := Lib.hid rfl
  go_enter Tryd.func17, Tryd.ntmps17
  go_wp2_with fail
  refine (rtokens_any s _ (by omega)).mono ?_
  rintro e w1 ⟨v, rfl, hv⟩
  have HV := Lib.hid hv
  clear hv
  go_wp2_with fail
  refine (stems_any (.slice none 0 0) [] v _ _ (HW.out.keep HV.out.below) (StrsAt.nil _) HV.out.reads (by simp; exact Nat.le_trans HTL.out (by omega)) List.Pairwise.nil HEA.out).mono ?_
  rintro e w2 ⟨v2, rfl, hat, hb2, hblk⟩
  have HBLK : Hid (∀ k, v2.ownBlock = some k → w.heap.size ≤ k) := Lib.hid (fun k hk => by
    rcases hblk k hk with h | h
    · simp [Value.ownBlock] at h
    · exact Nat.le_trans HV.out.below.size h)
  have hsh := hat
  have HAT := Lib.hid hat
  have HB := Lib.hid (HV.out.below.trans (hb2.mono HV.out.below.size))
  clear hat hb2 hblk
  generalize Wd.addAll [] (Wd.stemsOf (Wd.tokens s.data.toList)) = us at *
  rcases hsh with ⟨rfl, rfl⟩ | ⟨g, cap, rfl, hc, hg, _⟩
  · go_wp2_with fail
    go_ret
    exact ⟨_, rfl, by rw [HI.out]; exact StrsAt.nil _, HB.out, fun k hk => .inr (HBLK.out k hk)⟩
  · have HSH := Lib.hid (StrsAt.take rfl HAT.out)
    have e : (min (us.length : Int) 128).toNat = min us.length 128 := by omega
    rw [← e] at HSH
    clear e
    go_wp2_with fail
    go_ret
    exact ⟨_, rfl, by rw [HI.out]; exact HSH.out, HB.out, fun k hk => .inr (HBLK.out k hk)⟩
theorem blank_any (c : UInt8) (w : World) : Calls Tryd.prog 64 #[.int .u8 (c.toNat : Int)] w fun e w' => e = .returned (.bool (Wd.blanks.contains c)) ∧ w = w' := by
  by_cases h : Wd.blanks.contains c = true
  · rw [h]
    simp only [Wd.blanks, List.contains_cons, List.contains_nil, Bool.or_false, Bool.or_eq_true, beq_iff_eq] at h
    rcases h with rfl | rfl | rfl | rfl
    all_goals
      go_enter Tryd.func64, Tryd.ntmps64
      go_wp2
      go_ret
      exact ⟨rfl, rfl⟩
  · have h' : Wd.blanks.contains c = false := by simpa using h
    rw [h']
    simp only [Wd.blanks, List.contains_cons, List.contains_nil, Bool.or_false, Bool.or_eq_true, beq_iff_eq, not_or] at h
    obtain ⟨h1, h2, h3, h4⟩ := h
    have g1 : ((c.toNat : Int) == 9) = false := by rw [beq_eq_false_iff_ne]; intro e; exact h1 (UInt8.toNat_inj.1 (by show _ = 9; omega))
    have g2 : ((c.toNat : Int) == 10) = false := by rw [beq_eq_false_iff_ne]; intro e; exact h2 (UInt8.toNat_inj.1 (by show _ = 10; omega))
    have g3 : ((c.toNat : Int) == 13) = false := by rw [beq_eq_false_iff_ne]; intro e; exact h3 (UInt8.toNat_inj.1 (by show _ = 13; omega))
    have g4 : ((c.toNat : Int) == 32) = false := by rw [beq_eq_false_iff_ne]; intro e; exact h4 (UInt8.toNat_inj.1 (by show _ = 32; omega))
    clear h1 h2 h3 h4 h'
    generalize (c.toNat : Int) = n at *
    go_enter Tryd.func64, Tryd.ntmps64
    go_wp2
    go_ret
    exact ⟨rfl, rfl⟩
theorem blank_at (s : ByteArray) (k : Nat) (h : k < s.size) (b : Bool) (hb : Wd.blanks.contains s[k] = b) (w : World) : Calls Tryd.prog 64 #[.int .u8 (s[k].toNat : Int)] w fun e w' => e = .returned (.bool b) ∧ w = w' := by
  subst hb; exact blank_any s[k] w
theorem get_some (s : ByteArray) (j : Nat) (b : UInt8) (h : s.data.toList[j]? = some b) : ∃ hj : j < s.size, s[j] = b := by
  obtain ⟨hj, e⟩ := List.getElem?_eq_some_iff.1 h
  have hj' : j < s.size := by rw [← size_list]; exact hj
  exact ⟨hj', by rw [← e]; rfl⟩
set_option maxHeartbeats 1000000 in
theorem rtrim_any (s : ByteArray) (w : World) (hs : s.size ≤ 1000000) : Calls Tryd.prog 40 #[.string s] w fun e w' => e = .returned (.string (Wd.bs (Wd.trm s.data.toList))) ∧ w = w' := by
  have hsl : s.data.toList.length = s.size := size_list s
  have HSL := Lib.hid hsl
  clear hsl
  go_enter Tryd.func40, Tryd.ntmps40
  go_wp2_with fail
  go_loop [3] (fun i => ∃ k : Nat, k ≤ s.size ∧ i = .int .i64 k ∧ ∀ j (h : j < s.size), j < k → Wd.blanks.contains s[j] = true) (fun i => s.size - (intOf i).toNat)
  case atStart => exact ⟨0, by omega, rfl, fun j _ h => absurd h (by omega)⟩
  case round =>
    obtain ⟨k, hk, rfl, hbl⟩ := hrel
    have HBL := Lib.hid hbl
    clear hbl
    have fin : ∀ (hstop : ∀ h : k < s.size, Wd.blanks.contains s[k] = false), Hid (Lib.trimLeftS s.data.toList Wd.blanks = s.data.toList.drop k) := fun hstop => Lib.hid (by
      refine Lib.trimLeftS_drop _ _ k (by rw [HSL.out]; exact hk) (fun j b hj hb => ?_) (fun b hb => ?_)
      · obtain ⟨h, rfl⟩ := get_some s j b hb
        exact HBL.out j h hj
      · obtain ⟨h, rfl⟩ := get_some s k b hb
        exact hstop h)
    by_cases hlt : k < s.size
    · cases hb : Wd.blanks.contains s[k] with
      | true =>
        have HB := Lib.hid hb
        clear hb fin
        go_wp2_with (go_at_call 64; refine (blank_at s k hlt true HB.out _).mono ?_; rintro e w1 ⟨rfl, rfl⟩)
        go_round
        case rel => exact ⟨k + 1, by omega, by go_num, fun j hj h => by
          by_cases e : j = k
          · subst e; exact HB.out
          · exact HBL.out j hj (by omega)⟩
        case measure => simp [intOf] <;> omega
      | false =>
        have HB := Lib.hid hb
        have HF := fin (fun _ => hb)
        clear hb fin
        go_wp2_with (go_at_call 64; refine (blank_at s k hlt false HB.out _).mono ?_; rintro e w1 ⟨rfl, rfl⟩)
        go_loop [4] (fun i => ∃ m : Nat, k ≤ m ∧ m ≤ s.size ∧ i = .int .i64 m ∧ ∀ j (h : j < s.size), m ≤ j → Wd.blanks.contains s[j] = true) (fun i => (intOf i).toNat)
        case atStart => exact ⟨s.size, by omega, Nat.le_refl _, rfl, fun j h1 h2 => absurd h2 (by omega)⟩
        case round =>
          obtain ⟨m, hkm, hm, rfl, hbl2⟩ := hrel
          have HBL2 := Lib.hid hbl2
          clear hbl2
          have fin2 : ∀ (hstop : ∀ h : m - 1 < s.size, k < m → Wd.blanks.contains s[m - 1] = false), Hid (s.extract k m = Wd.bs (Wd.trm s.data.toList)) := fun hstop => Lib.hid (by
            have e : Wd.trm s.data.toList = (s.data.toList.drop k).take (m - k) := by
              unfold Wd.trm
              rw [HF.out]
              refine Lib.trimRightS_take _ _ (m - k) (by rw [List.length_drop, HSL.out]; omega) (fun j b hj hb => ?_) (fun b h0 hb => ?_)
              · rw [List.getElem?_drop] at hb
                obtain ⟨h, rfl⟩ := get_some s (k + j) b hb
                exact HBL2.out (k + j) h (by omega)
              · rw [List.getElem?_drop, show k + (m - k - 1) = m - 1 by omega] at hb
                obtain ⟨h, rfl⟩ := get_some s (m - 1) b hb
                exact hstop h (by omega)
            rw [e, ← Lib.extract_data s k m]
            rfl)
          by_cases hlt2 : k < m
          · have hm1 : m - 1 < s.size := by omega
            have e1 : ((m : Int) - 1).toNat = m - 1 := by omega
            have e2 : (0 : Int) ≤ (m : Int) - 1 := by omega
            cases hb2 : Wd.blanks.contains s[m - 1] with
            | true =>
              have HB2 := Lib.hid hb2
              clear hb2 fin2
              go_wp2_with (go_at_call 64; refine (blank_at s (m - 1) hm1 true HB2.out _).mono ?_; rintro e w1 ⟨rfl, rfl⟩)
              go_round
              case rel => exact ⟨m - 1, by omega, by omega, by go_num, fun j hj h => by
                by_cases e : j = m - 1
                · subst e; exact HB2.out
                · exact HBL2.out j hj (by omega)⟩
              case measure => simp [intOf] <;> omega
            | false =>
              have HB2 := Lib.hid hb2
              have HF2 := fin2 (fun _ _ => hb2)
              clear hb2 fin2
              go_wp2_with (go_at_call 64; refine (blank_at s (m - 1) hm1 false HB2.out _).mono ?_; rintro e w1 ⟨rfl, rfl⟩)
              go_ret
              exact ⟨ret_str HF2.out, rfl⟩
          · have HF2 := fin2 (fun _ h => absurd h hlt2)
            clear fin2
            go_wp2_with fail
            go_ret
            exact ⟨ret_str HF2.out, rfl⟩
    · have HF := fin (fun h => absurd h hlt)
      clear fin
      go_wp2_with fail
      go_loop [4] (fun i => ∃ m : Nat, k ≤ m ∧ m ≤ s.size ∧ i = .int .i64 m ∧ ∀ j (h : j < s.size), m ≤ j → Wd.blanks.contains s[j] = true) (fun i => (intOf i).toNat)
      case atStart => exact ⟨s.size, by omega, Nat.le_refl _, rfl, fun j h1 h2 => absurd h2 (by omega)⟩
      case round =>
        obtain ⟨m, hkm, hm, rfl, hbl2⟩ := hrel
        have HBL2 := Lib.hid hbl2
        clear hbl2
        have fin2 : ∀ (hstop : ∀ h : m - 1 < s.size, k < m → Wd.blanks.contains s[m - 1] = false), Hid (s.extract k m = Wd.bs (Wd.trm s.data.toList)) := fun hstop => Lib.hid (by
          have e : Wd.trm s.data.toList = (s.data.toList.drop k).take (m - k) := by
            unfold Wd.trm
            rw [HF.out]
            refine Lib.trimRightS_take _ _ (m - k) (by rw [List.length_drop, HSL.out]; omega) (fun j b hj hb => ?_) (fun b h0 hb => ?_)
            · rw [List.getElem?_drop] at hb
              obtain ⟨h, rfl⟩ := get_some s (k + j) b hb
              exact HBL2.out (k + j) h (by omega)
            · rw [List.getElem?_drop, show k + (m - k - 1) = m - 1 by omega] at hb
              obtain ⟨h, rfl⟩ := get_some s (m - 1) b hb
              exact hstop h (by omega)
          rw [e, ← Lib.extract_data s k m]
          rfl)
        by_cases hlt2 : k < m
        · exfalso; omega
        · have HF2 := fin2 (fun _ h => absurd h hlt2)
          clear fin2
          go_wp2_with fail
          go_ret
          exact ⟨ret_str HF2.out, rfl⟩
theorem within_step (s p : ByteArray) (i : Nat) (h : i + p.size ≤ s.size) : ((s.extract i (i + p.size)).toList == p.toList) = Lib.occAt s.data.toList p.data.toList i := by
  unfold Lib.occAt
  rw [Lib.toList_data, Lib.toList_data, Lib.extract_data, Nat.add_sub_cancel_left, Bool.eq_iff_iff, beq_iff_eq, List.isPrefixOf_iff_prefix]
  constructor
  · intro e; rw [← e]; exact List.take_prefix _ _
  · intro e
    have := List.prefix_iff_eq_take.1 e
    rw [size_list] at this
    exact this.symm
set_option maxHeartbeats 1000000 in
theorem within_any (p s : ByteArray) (w : World) (hs : s.size ≤ 1000000) (hp : p.size ≤ 1000000) : Calls Tryd.prog 44 #[.string p, .string s] w fun e w' => e = .returned (.bool (Lib.contains s.data.toList p.data.toList)) ∧ w = w' := by
  go_enter Tryd.func44, Tryd.ntmps44
  go_wp2_with fail
  go_loop [5] (fun i => ∃ k : Nat, k ≤ s.size + 1 ∧ i = .int .i64 k ∧ Lib.NoOcc s.data.toList p.data.toList k) (fun i => s.size + 1 - (intOf i).toNat)
  case atStart => exact ⟨0, by omega, rfl, Lib.NoOcc.zero _ _⟩
  case round =>
    obtain ⟨k, hk, rfl, hno⟩ := hrel
    have HNO := Lib.hid hno
    clear hno
    by_cases hlt : k + p.size ≤ s.size
    · have hst := within_step s p k hlt
      cases ho : Lib.occAt s.data.toList p.data.toList k with
      | true =>
        rw [ho] at hst
        have HE : Hid (Lib.contains s.data.toList p.data.toList = true) := Lib.hid (by
          unfold Lib.contains
          rw [Lib.index_hit HNO.out (by rw [size_list]; omega) ho]
          simp)
        have e1 : ((k : Int) + (p.size : Int)).toNat = k + p.size := by omega
        clear ho
        go_wp2_with fail
        go_ret
        exact ⟨by rw [HE.out]; rfl, rfl⟩
      | false =>
        rw [ho] at hst
        have HO := Lib.hid ho
        have e1 : ((k : Int) + (p.size : Int)).toNat = k + p.size := by omega
        clear ho
        go_wp2_with fail
        go_round
        case rel => exact ⟨k + 1, by omega, by go_num, HNO.out.succ HO.out⟩
        case measure => simp [intOf] <;> omega
    · have HE : Hid (Lib.contains s.data.toList p.data.toList = false) := Lib.hid (by
        unfold Lib.contains
        have hp : p.data.toList ≠ [] := by
          intro e
          have h1 : p.size = 0 := by rw [← size_list, e]; rfl
          rw [e] at HNO
          have := HNO.out 0 (by omega)
          simp [Lib.occAt] at this
        rw [Lib.index_past hp HNO.out (by rw [size_list, size_list]; omega)]
        simp)
      go_wp2_with fail
      go_ret
      exact ⟨by rw [HE.out]; rfl, rfl⟩
end Go.Proofs.YtjedhlgflocjoaaDoor
