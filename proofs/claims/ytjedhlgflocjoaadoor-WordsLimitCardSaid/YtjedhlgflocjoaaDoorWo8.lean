/- Words: split cuts a text into words. -/
import Derived.Test.YtjedhlgflocjoaaDoorWo7
namespace Go.Proofs.YtjedhlgflocjoaaDoor
open Go.ChangeShapes Go.WideShapes Go.ChangeAt Go.RowKit
set_option linter.unusedVariables false
set_option linter.unusedSimpArgs false
/-- words as cells: a string and a mark each -/
def wds : List (Wd.Str × Bool) → List Value
  | [] => []
  | x :: xs => .string (Wd.bs x.1) :: .bool x.2 :: wds xs
theorem wds_len : ∀ ws, (wds ws).length = ws.length * 2
  | [] => rfl
  | x :: xs => by simp [wds, wds_len xs]; omega
theorem wds_snoc : ∀ ws x, wds (ws ++ [x]) = wds ws ++ [.string (Wd.bs x.1), .bool x.2]
  | [], x => rfl
  | y :: ys, x => by simp [wds, wds_snoc ys x]
theorem wds_get : ∀ (ws : List (Wd.Str × Bool)) (j : Nat) (h : j < ws.length), (wds ws)[j * 2]? = some (.string (Wd.bs ws[j].1)) ∧ (wds ws)[j * 2 + 1]? = some (.bool ws[j].2)
  | x :: xs, 0, _ => ⟨rfl, rfl⟩
  | x :: xs, j + 1, h => by
    have := wds_get xs j (by simpa using h)
    have e : (j + 1) * 2 = j * 2 + 1 + 1 := by omega
    rw [e]
    exact this
theorem infoW : (Tryd.prog.info? 41).map (fun i => (i.zero, i.size, i.bytes)) = some (some (.agg #[.string ⟨#[]⟩, .bool false]), 2, 24) := by kernel_rfl
/-- 'append(l, x)' on a slice of words that the call owns -/
theorem wpList_appW {ops : Array Oper} {rest : List Oper} {Q : Exit → Act → World → Prop} (x y : Nat) (B : Nat) (v : Value) (ws : List (Wd.Str × Bool)) (s : Wd.Str × Bool) (g : Nat) (d : Option Nat) (pos : String) (af) (a : Act) (w : World)
    (hx : a.eval (.tmp x) = v) (hy : a.eval (.tmp y) = .slice (some ⟨g, 0, none⟩) 1 1) (hown : w.ownsRow B 41 2 v ws.length (wds ws)) (hc : w.cell? ⟨g, 0, none⟩ = some (.string (Wd.bs s.1)) ∧ w.cell? ⟨g, 1, none⟩ = some (.bool s.2)) (hl : ws.length ≤ 1000000) (hB : B ≤ w.heap.size)
    (h : ∀ v' w', w'.ownsRow B 41 2 v' (ws ++ [s]).length (wds (ws ++ [s])) → w.grownBy w' v.ownBlock → wpList Tryd.prog ops Q rest (a.put d v') w') :
    wpList Tryd.prog ops Q ({ dst := d, op := Op.call { callee := .builtin .append, args := #[.tmp x, .tmp y], argTypes := #[38, 38] }, type := 38, pos := pos, after := af, guard := none } :: rest) a w := by
  obtain ⟨i9, hi9, hz0, hz1, hz2⟩ := info_parts infoW
  have hnews : ∀ j u, [Value.string (Wd.bs s.1), Value.bool s.2][j]? = some u → w.cell? ((⟨g, 0, none⟩ : Addr).add j) = some u := by
    intro j u hu
    match j with
    | 0 => simp only [List.getElem?_cons_zero, Option.some.injEq] at hu; subst hu; simpa [Addr.add] using hc.1
    | 1 => simp at hu; subst hu; simpa [Addr.add] using hc.2
    | j + 2 => simp at hu
  have h1 : ∀ u ∈ [Value.string (Wd.bs s.1), Value.bool s.2], u.oneCell' = true := fun u hu => by simp at hu; rcases hu with rfl | rfl <;> rfl
  have h63 : ws.length + 1 ≤ maxLen := by unfold maxLen; omega
  have hby : (ws.length + 1) * 24 ≤ 140737488355328 := by omega
  obtain ⟨v', w', hr, h2, h3, _⟩ := run_append_own (P := Tryd.prog) w B 38 38 41 i9 (.agg #[.string ⟨#[]⟩, .bool false]) 2 24 Tryd.underlying38 hi9 hz0 hz1 hz2 rfl (by decide) v ws.length (wds ws) hown ⟨g, 0, none⟩ 1 1 [.string (Wd.bs s.1), .bool s.2] rfl hnews h1 h63 hby hB
  refine wpList_plain rfl fun K hK => ?_
  unfold Oper.wp execOp
  simp only [resolve, invoke, builtin, Sem.run_bind, Sem.run_pure, Result.andThen_ok, List.map_toArray, List.map_cons, List.map_nil, hx, hy, hr]
  refine hK _ _ (h v' w' ?_ h3)
  rw [List.length_append, wds_snoc]
  exact h2
/-- what the call has made so far: a slice of words of its own -/
structure WL (w W : World) (v : Value) (ws : List (Wd.Str × Bool)) : Prop where
  own : W.ownsRow w.heap.size 41 2 v ws.length (wds ws)
  below : Below w.heap.size w W
theorem WL.keep {w W W' : World} {v : Value} {ls : List (Wd.Str × Bool)} (h : WL w W v ls) (hb : Below W.heap.size W W') : WL w W' v ls := ⟨ownsRow_below h.own hb, h.below.trans (hb.mono h.below.size)⟩
theorem WL.grown {w W W' : World} {v v' : Value} {ls ls' : List (Wd.Str × Bool)} (h : WL w W v ls) (ho : W'.ownsRow w.heap.size 41 2 v' ls'.length (wds ls')) (hg : W.grownBy W' v.ownBlock) : WL w W' v' ls' := ⟨ho, h.below.grown hg h.below.size (own_ge h.own)⟩
theorem WL.alloc {w W : World} {v : Value} {ls : List (Wd.Str × Bool)} (h : WL w W v ls) (o : Obj) : WL w (W.alloc o) v ls := h.keep ((Below.refl _ _).alloc (Nat.le_refl _) _)
/-- lower of a string whose bytes are known -/
theorem lower_at (b : ByteArray) (X : List UInt8) (hX : b.data.toList = X) (w : World) (hs : b.size ≤ 1000000) : Calls Tryd.prog 38 #[.string b] w fun e w' => e = .returned (.string (Wd.bs (Wd.lower X))) ∧ Below w.heap.size w w' := by
  subst hX; exact lower_any b w hs
theorem rlower_at (b : ByteArray) (X : List UInt8) (hX : b.data.toList = X) (w : World) (hs : b.size ≤ 1000000) : Calls Tryd.prog 30 #[.string b] w fun e w' => e = .returned (.string (Wd.bs (Wd.lower X))) ∧ Below w.heap.size w w' := by
  subst hX; exact rlower_any b w hs
def SplitOut (s : ByteArray) (w : World) (e : Ending) (w' : World) : Prop := ∃ v, e = .returned v ∧ WL w w' v (Wd.words s.data.toList)
theorem flag_0 (l : List UInt8) : Wd.flag l 0 = false := rfl
theorem flag_pos (s : ByteArray) (k : Nat) (h0 : 0 < k) (h : k - 1 < s.size) : ((↑(s[k - 1]'h).toNat : Int) == 45) = Wd.flag s.data.toList k := by
  have e : s.data.toList[k - 1]? = some (s[k - 1]'h) := by
    rw [List.getElem?_eq_getElem (by rw [size_list]; exact h)]; rfl
  unfold Wd.flag
  rw [e, decide_eq_true h0, Bool.true_and, Option.getD_some, Bool.eq_iff_iff, beq_iff_eq, beq_iff_eq]
  constructor
  · intro h; apply UInt8.toNat_inj.1; show _ = 45; omega
  · intro h; rw [h]; rfl
set_option maxHeartbeats 1000000 in
theorem split_any (s : ByteArray) (w : World) (hs : s.size ≤ 1000000) : Calls Tryd.prog 28 #[.string s] w (SplitOut s w) := by
  have hsl : s.data.toList.length = s.size := size_list s
  have HSL := Lib.hid hsl
  clear hsl
  go_enter Tryd.func28, Tryd.ntmps28
  go_wp2
  go_loopw [3, 4, 5] (fun v i _ wr => ∃ (k : Nat) (ws : List (Wd.Str × Bool)), k ≤ s.size ∧ i = .int .i64 k ∧ WL w wr v ws ∧ ws ++ Wd.W s.data.toList k k = Wd.words s.data.toList ∧ ws.length ≤ k) (fun _ i _ _ => s.size - (intOf i).toNat)
  case atStart => exact ⟨0, [], Nat.zero_le _, rfl, ⟨World.ownsRow_nil _ _ _ _, Below.refl _ _⟩, Wd.W_start _, Nat.le_refl _⟩
  case round =>
    obtain ⟨k, ws, hk, rfl, hown, hW, hwk⟩ := hrel
    have HW := Lib.hid hW
    have HOWN := Lib.hid hown
    clear hW hown
    by_cases hlt : k < s.size
    · have hkl : k < s.data.toList.length := by rw [HSL.out]; exact hlt
      cases hl : Wd.isL s[k] with
      | false =>
        have HL := Lib.hid hl
        have HN := Lib.hid (Wd.W_skip s.data.toList k k (Nat.le_refl _) hkl hl)
        clear hl
        go_wp2_with (go_at_call 50; refine (isLetter_no s[k] _ HL.out).mono ?_; rintro e w1 ⟨rfl, rfl⟩)
        go_roundw
        case rel => exact ⟨k + 1, ws, by omega, by go_num, HOWN.out, by rw [← HW.out, HN.out, if_neg (by omega)]; rfl, by omega⟩
        case measure => simp [intOf]; omega
      | true =>
        have HL := Lib.hid hl
        have HN := Lib.hid (Wd.W_letter s.data.toList k k (Nat.le_refl _) hkl hl)
        clear hl
        go_wp2_with (go_at_call 50; refine (isLetter_yes s[k] _ HL.out).mono ?_; rintro e w1 ⟨rfl, rfl⟩)
        obtain ⟨wo, rfl⟩ : ∃ wo : World, wo = wr := ⟨_, rfl⟩
        go_loop [4] (fun i => ∃ j : Nat, k ≤ j ∧ j ≤ s.size ∧ i = .int .i64 j ∧ Wd.W s.data.toList k j = Wd.W s.data.toList k k) (fun i => s.size - (intOf i).toNat)
        case atStart => exact ⟨k, Nat.le_refl _, by omega, rfl, rfl⟩
        case round =>
          obtain ⟨j, hkj, hj, rfl, hWj⟩ := hrel
          have HWJ := Lib.hid hWj
          clear hWj
          by_cases hjl : j < s.size
          · have hjl' : j < s.data.toList.length := by rw [HSL.out]; exact hjl
            cases hl2 : Wd.isL s[j] with
            | true =>
              have HL2 := Lib.hid hl2
              have HN2 := Lib.hid (Wd.W_letter s.data.toList k j hkj hjl' hl2)
              clear hl2
              go_wp2_with (go_at_call 50; refine (isLetter_yes s[j] _ HL2.out).mono ?_; rintro e w1 ⟨rfl, rfl⟩)
              go_round
              case rel => exact ⟨j + 1, by omega, by omega, by go_num, by rw [← HN2.out]; exact HWJ.out⟩
              case measure => simp [intOf]; omega
            | false =>
              have HL2 := Lib.hid hl2
              have hkj2 : k < j := by
                rcases Nat.lt_or_ge k j with h | h
                · exact h
                · obtain rfl : k = j := by omega
                  rw [HL.out] at hl2; cases hl2
              have HWW := Lib.hid (Wd.W_word s.data.toList k j hkj2 (by rw [HSL.out]; exact hj) (fun _ => HL2.out))
              clear hl2
              obtain ⟨X, hX⟩ : ∃ X, X = (s.data.toList.drop k).take (j - k) := ⟨_, rfl⟩
              have HX := Lib.hid ((Lib.extract_data s k j).trans hX.symm)
              rw [← hX] at HWW
              have hz : (s.extract k j).size ≤ 1000000 := by simp only [ByteArray.size_extract]; omega
              have HZ := Lib.hid hz
              clear hX hz
              by_cases h0 : k = 0
              · subst h0
                rw [flag_0] at HWW
                go_wp2_with (go_at_call 50; refine (isLetter_no s[j] _ HL2.out).mono ?_; rintro e w1 ⟨rfl, rfl⟩)
                refine (lower_at _ X HX.out _ HZ.out).mono ?_
                rintro e w1 ⟨rfl, hb1⟩
                have HOW1 := Lib.hid (HOWN.out.keep hb1)
                have hz1 : w.heap.size ≤ w1.heap.size := HOW1.out.below.size
                clear hb1
                go_wp2_with (with_reducible refine wpList_appW 30 46 w.heap.size u3 ws (Wd.lower X, false) w1.heap.size _ _ _ _ _ ?_ ?_ (HOW1.out.alloc _).own ?_ ?_ ?_ ?_)
                · rfl
                · rfl
                · omega
                · simp; omega
                rintro v' w2 hown2 hgrow
                have HOW2 := Lib.hid ((HOW1.out.alloc _).grown hown2 hgrow)
                clear hown2 hgrow hz1
                go_wp2_with fail
                go_roundw
                case rel => exact ⟨j, ws ++ [(Wd.lower X, false)], by omega, rfl, HOW2.out, by rw [← HW.out, ← HWJ.out, HWW.out, List.append_assoc], by simp; omega⟩
                case measure => simp [intOf]; omega
              · have h0' : 0 < k := by omega
                have hfl := flag_pos s k h0' (by omega)
                have e1 : ((k : Int) - 1).toNat = k - 1 := by omega
                have e2 : (0 : Int) ≤ (k : Int) - 1 := by omega
                have e3 : k - 1 < s.size := by omega
                generalize Wd.flag s.data.toList k = fl at hfl HWW
                go_wp2_with (go_at_call 50; refine (isLetter_no s[j] _ HL2.out).mono ?_; rintro e w1 ⟨rfl, rfl⟩)
                refine (lower_at _ X HX.out _ HZ.out).mono ?_
                rintro e w1 ⟨rfl, hb1⟩
                have HOW1 := Lib.hid (HOWN.out.keep hb1)
                have hz1 : w.heap.size ≤ w1.heap.size := HOW1.out.below.size
                clear hb1
                go_wp2_with (with_reducible refine wpList_appW 30 46 w.heap.size u3 ws (Wd.lower X, fl) w1.heap.size _ _ _ _ _ ?_ ?_ (HOW1.out.alloc _).own ?_ ?_ ?_ ?_)
                · rfl
                · rfl
                · omega
                · simp; omega
                rintro v' w2 hown2 hgrow
                have HOW2 := Lib.hid ((HOW1.out.alloc _).grown hown2 hgrow)
                clear hown2 hgrow hz1
                go_wp2_with fail
                go_roundw
                case rel => exact ⟨j, ws ++ [(Wd.lower X, fl)], by omega, rfl, HOW2.out, by rw [← HW.out, ← HWJ.out, HWW.out, List.append_assoc], by simp; omega⟩
                case measure => simp [intOf]; omega
          · have hkj2 : k < j := by omega
            have HWW := Lib.hid (Wd.W_word s.data.toList k j hkj2 (by rw [HSL.out]; exact hj) (fun h => absurd h (by rw [HSL.out]; exact hjl)))
            obtain ⟨X, hX⟩ : ∃ X, X = (s.data.toList.drop k).take (j - k) := ⟨_, rfl⟩
            have HX := Lib.hid ((Lib.extract_data s k j).trans hX.symm)
            rw [← hX] at HWW
            have hz : (s.extract k j).size ≤ 1000000 := by simp only [ByteArray.size_extract]; omega
            have HZ := Lib.hid hz
            clear hX hz
            by_cases h0 : k = 0
            · subst h0
              rw [flag_0] at HWW
              go_wp2_with fail
              refine (lower_at _ X HX.out _ HZ.out).mono ?_
              rintro e w1 ⟨rfl, hb1⟩
              have HOW1 := Lib.hid (HOWN.out.keep hb1)
              have hz1 : w.heap.size ≤ w1.heap.size := HOW1.out.below.size
              clear hb1
              go_wp2_with (with_reducible refine wpList_appW 30 46 w.heap.size u3 ws (Wd.lower X, false) w1.heap.size _ _ _ _ _ ?_ ?_ (HOW1.out.alloc _).own ?_ ?_ ?_ ?_)
              · rfl
              · rfl
              · omega
              · simp; omega
              rintro v' w2 hown2 hgrow
              have HOW2 := Lib.hid ((HOW1.out.alloc _).grown hown2 hgrow)
              clear hown2 hgrow hz1
              go_wp2_with fail
              go_roundw
              case rel => exact ⟨j, ws ++ [(Wd.lower X, false)], by omega, rfl, HOW2.out, by rw [← HW.out, ← HWJ.out, HWW.out, List.append_assoc], by simp; omega⟩
              case measure => simp [intOf]; omega
            · have h0' : 0 < k := by omega
              have hfl := flag_pos s k h0' (by omega)
              have e1 : ((k : Int) - 1).toNat = k - 1 := by omega
              have e2 : (0 : Int) ≤ (k : Int) - 1 := by omega
              have e3 : k - 1 < s.size := by omega
              generalize Wd.flag s.data.toList k = fl at hfl HWW
              go_wp2_with fail
              refine (lower_at _ X HX.out _ HZ.out).mono ?_
              rintro e w1 ⟨rfl, hb1⟩
              have HOW1 := Lib.hid (HOWN.out.keep hb1)
              have hz1 : w.heap.size ≤ w1.heap.size := HOW1.out.below.size
              clear hb1
              go_wp2_with (with_reducible refine wpList_appW 30 46 w.heap.size u3 ws (Wd.lower X, fl) w1.heap.size _ _ _ _ _ ?_ ?_ (HOW1.out.alloc _).own ?_ ?_ ?_ ?_)
              · rfl
              · rfl
              · omega
              · simp; omega
              rintro v' w2 hown2 hgrow
              have HOW2 := Lib.hid ((HOW1.out.alloc _).grown hown2 hgrow)
              clear hown2 hgrow hz1
              go_wp2_with fail
              go_roundw
              case rel => exact ⟨j, ws ++ [(Wd.lower X, fl)], by omega, rfl, HOW2.out, by rw [← HW.out, ← HWJ.out, HWW.out, List.append_assoc], by simp; omega⟩
              case measure => simp [intOf]; omega
    · obtain rfl : k = s.size := by omega
      have HE := Lib.hid (Wd.W_end s.data.toList s.size)
      go_wp2_with fail
      go_ret
      exact ⟨_, rfl, by
        have e : Wd.W s.data.toList s.size s.size = [] := by
          have h := HE.out
          rw [HSL.out, if_neg (by omega)] at h
          exact h
        have h := HW.out
        rw [e, List.append_nil] at h
        rw [← h]
        exact HOWN.out⟩
end Go.Proofs.YtjedhlgflocjoaaDoor
