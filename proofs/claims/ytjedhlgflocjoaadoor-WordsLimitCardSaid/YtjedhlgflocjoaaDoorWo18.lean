/- Words: Parse of the reference. -/
import Derived.Test.YtjedhlgflocjoaaDoorWo17
namespace Wd
theorem words_len2 (s : Str) (n : Nat) (h : s.length ≤ n) : (yesOf (words s)).length ≤ n ∧ (noOf (words s)).length ≤ n ∧ (tokens s).length ≤ n :=
  ⟨by have := yesOf_len (words s); have := words_len s; omega, by have := noOf_len (words s); have := words_len s; omega, by have := tokens_len s; omega⟩
end Wd
namespace Go.Proofs.YtjedhlgflocjoaaDoor
open Go.ChangeShapes Go.WideShapes Go.ChangeAt Go.RowKit Go.Sort
set_option linter.unusedVariables false
set_option linter.unusedSimpArgs false
theorem strsAt_list {W : World} {v : Value} {a b : List Wd.Str} (h : StrsAt W v a) (e : a = b) : StrsAt W v b := e ▸ h
/-- the reference's calls on one part -/
theorem stems_more (v : Value) (ns : List Wd.Str) (u : Value) (ws : List Wd.Str) (w : World) (hw : Env w) (hv : StrsAt w v (Wd.uniq ns)) (hu : StrsAt w u ws) (hl : ns.length + ws.length ≤ 400000) (hs : ∀ x ∈ ws, x.length ≤ 1000000) :
    Calls Tryd.prog 35 #[v, u] w (AtOut v (Wd.uniq (ns ++ Wd.stemsOf ws)) w) := by
  rw [← Wd.uniq_more]
  exact stems_any v (Wd.uniq ns) u ws w hw hv hu (by have := Wd.uniq_len_le ns; omega) (Wd.asc_uniq ns) hs
theorem neq34 (b : UInt8) (v : Bool) (h : (b != 34) = v) : ((b.toNat : Int) != 34) = v := by
  rw [← h, Bool.eq_iff_iff, bne_iff_ne, bne_iff_ne]
  constructor
  · intro h e; exact h (by rw [e]; rfl)
  · intro h e; exact h (UInt8.toNat_inj.1 (by show _ = 34; omega))
def RRel (s : ByteArray) (w W : World) (a p b : Value) (ins : Bool) (k j : Nat) : Prop := ∃ q, RP w W a p b q (2 * k) ∧ q.all ins (Wd.P s.data.toList k j) = Wd.parsed s.data.toList
set_option maxHeartbeats 2000000 in
theorem rparse_any (s : ByteArray) (w : World) (hw : Env w) (hs : s.size ≤ 50000) : Calls Tryd.prog 19 #[.string s] w (ParseOut (Wd.parsed s.data.toList) w) := by
  have hsl : s.data.toList.length = s.size := size_list s
  have HSL := Lib.hid hsl
  have HW := Lib.hid hw
  clear hsl hw
  go_enter Tryd.func19, Tryd.ntmps19
  go_wp2_with fail
  go_loopw [5, 6, 7, 8, 9, 10] (fun a p b ins bg i wr => ∃ (k j : Nat) (ib : Bool), k ≤ j ∧ j ≤ s.size + 1 ∧ bg = .int .i64 k ∧ i = .int .i64 j ∧ ins = .bool ib ∧ RRel s w wr a p b ib k j) (fun _ _ _ _ _ i _ => s.size + 1 - (intOf i).toNat)
  case atStart => exact ⟨0, 0, false, Nat.le_refl _, by omega, rfl, rfl, rfl, Wd.PQ.none, RP.start w, by rw [Wd.P_start]; rfl⟩
  case round =>
    obtain ⟨k, j, ib, hkj, hj, rfl, rfl, rfl, hR⟩ := hrel
    have HR := Lib.hid hR
    clear hR
    by_cases hj1 : j ≤ s.size
    · obtain ⟨X, hX⟩ : ∃ X, X = (s.data.toList.drop k).take (j - k) := ⟨_, rfl⟩
      have HX := Lib.hid ((Lib.extract_data s k j).trans hX.symm)
      have HXL : Hid (X.length ≤ j - k ∧ X.length ≤ 50000) := Lib.hid (by rw [hX, List.length_take, List.length_drop, HSL.out]; omega)
      have HZ : Hid ((s.extract k j).size ≤ 50000) := Lib.hid (by simp only [ByteArray.size_extract]; omega)
      have HEM : Hid ((∀ h : j < s.data.toList.length, s.data.toList[j] = 34) → Wd.P s.data.toList k j = X :: Wd.P s.data.toList (j + 1) (j + 1)) := Lib.hid (fun hq => by rw [Wd.P_emit s.data.toList k j hkj (by rw [HSL.out]; exact hj1) hq, ← hX])
      clear hX
      by_cases hlt : j < s.size
      · have hjl : j < s.data.toList.length := by rw [HSL.out]; exact hlt
        cases hq : (s[j] != 34) with
        | true =>
          have hne := neq34 s[j] true hq
          have HQ : Hid (s.data.toList[j] ≠ 34) := Lib.hid (by have : s.data.toList[j] = s[j] := rfl; rw [this]; simpa using hq)
          have HP := Lib.hid (Wd.P_on s.data.toList k j hkj hjl HQ.out)
          clear hq
          go_wp2_with fail
          go_roundw
          case rel => exact ⟨k, j + 1, ib, by omega, by omega, rfl, by go_num, rfl, by have h := HR.out; unfold RRel at h ⊢; rw [HP.out] at h; exact h⟩
          case measure => simp [intOf] <;> omega
        | false =>
          have hne := neq34 s[j] false hq
          have HP := Lib.hid (HEM.out (fun _ => by have : s.data.toList[j] = s[j] := rfl; rw [this]; simpa using hq))
          clear hq HEM
          obtain ⟨q, hrp, hall⟩ := HR.out
          rw [HP.out] at hall
          have HRP := Lib.hid hrp
          have HALL := Lib.hid hall
          clear hrp hall HR HP
          have HEN : Hid (Env wr) := Lib.hid (HW.out.keep HRP.out.phr.below)
          cases ib
          case true =>
            go_wp2_with fail
            refine (rtokens_any _ _ (by have := HZ.out; omega)).mono ?_
            rintro e w1 ⟨v, rfl, hv⟩
            rw [HX.out] at hv
            have HV := Lib.hid hv
            have HRP1 := Lib.hid (HRP.out.keep hv.below)
            have HEN1 := Lib.hid (HEN.out.keep hv.below)
            clear hv
            go_wp2_with fail
            refine (stems_more _ _ v _ _ HEN1.out HRP1.out.need HV.out.reads (by have h1 := HRP1.out.ln; have h2 := (Wd.words_len2 X _ HXL.out.2).2.2; omega) (fun x hx => Nat.le_trans (Wd.tokens_each X x hx) (by have := HXL.out.2; omega))).mono ?_
            rintro e w2 ⟨a2, rfl, hat2, hb2, hblk2⟩
            have HRP2 := Lib.hid (HRP1.out.stepNeed (k' := 2 * k + (j - k)) hat2 hb2 hblk2 (by have h1 := Wd.stemsOf_len (Wd.tokens X); have h2 := (Wd.words_len2 X _ HXL.out.1).2.2; omega))
            clear hat2 hb2 hblk2
            go_wp2_with fail
            refine (rtrim_any _ _ (by have := HZ.out; omega)).mono ?_
            rintro e w3 ⟨rfl, rfl⟩
            rw [HX.out]
            go_wp2_with fail
            refine (rlower_any _ _ (by have h1 := Wd.trm_len X; have h2 := HXL.out.2; rw [Wd.bs_size]; omega)).mono ?_
            rintro e w4 ⟨rfl, hb4⟩
            have HRP4 := Lib.hid (HRP2.out.keep hb4)
            have HPH : Hid (Wd.lower (Wd.bs (Wd.trm X)).data.toList = Wd.phraseOf X) := Lib.hid rfl
            rw [HPH.out]
            clear hb4
            have HAS : Hid (∀ W, StrsAt W u6 q.phr → Calls Tryd.prog 41 #[u6, .string (Wd.bs (Wd.phraseOf X))] W fun e w' => e = .returned (.bool (Wd.has q.phr (Wd.phraseOf X))) ∧ W = w') := Lib.hid (fun W h => has_any u6 q.phr (Wd.bs (Wd.phraseOf X)) W h (by have := HRP.out.lp; omega))
            have HIN : Hid (q.inside X = { q with need := q.need ++ Wd.stemsOf (Wd.tokens X), phr := if Wd.phraseOf X = [] ∨ Wd.phraseOf X ∈ q.phr then q.phr else q.phr ++ [Wd.phraseOf X] }) := Lib.hid rfl
            by_cases hp0 : Wd.phraseOf X = []
            · have HFIN : Hid (q.inside X = { q with need := q.need ++ Wd.stemsOf (Wd.tokens X) }) := Lib.hid (by rw [HIN.out, if_pos (.inl hp0)])
              rw [hp0]
              clear hp0 HIN HAS
              have hem : (Wd.bs []).toList = [] := by rw [Lib.toList_data]; rfl
              have hem2 : (!(Wd.bs []).toList.isEmpty) = false := by rw [hem]; rfl
              go_wp2_with fail
              go_roundw
              case rel => exact ⟨j + 1, j + 1, false, by omega, by omega, by go_num, by go_num, rfl, _, HRP4.out.up (by omega), by rw [← HFIN.out]; exact HALL.out⟩
              case measure => simp [intOf] <;> omega
            · have hem : (Wd.bs (Wd.phraseOf X)).toList.isEmpty = false := by rw [Lib.toList_data]; show (Wd.phraseOf X).isEmpty = false; cases h : Wd.phraseOf X with | nil => exact absurd h hp0 | cons _ _ => rfl
              cases hh : Wd.has q.phr (Wd.phraseOf X)
              case true =>
                have HFIN : Hid (q.inside X = { q with need := q.need ++ Wd.stemsOf (Wd.tokens X) }) := Lib.hid (by rw [HIN.out, if_pos (.inr (Wd.has_iff.1 hh))])
                rw [hh] at HAS
                clear hh hp0 HIN
                generalize Wd.bs (Wd.phraseOf X) = ph at *
                go_wp2_with fail
                refine (HAS.out _ HRP4.out.phr.reads).mono ?_
                rintro e w5 ⟨rfl, rfl⟩
                go_wp2_with fail
                go_roundw
                case rel => exact ⟨j + 1, j + 1, false, by omega, by omega, by go_num, by go_num, rfl, _, HRP4.out.up (by omega), by rw [← HFIN.out]; exact HALL.out⟩
                case measure => simp [intOf] <;> omega
              case false =>
                have HFIN : Hid (q.inside X = { q with need := q.need ++ Wd.stemsOf (Wd.tokens X), phr := q.phr ++ [Wd.phraseOf X] }) := Lib.hid (by rw [HIN.out, if_neg (fun h => by rcases h with h | h; exact hp0 h; rw [Wd.has_iff.2 h] at hh; cases hh)])
                rw [hh] at HAS
                clear hh hp0 HIN
                have hz4 : w.heap.size ≤ w4.heap.size := HRP4.out.phr.below.size
                have HLP : Hid (q.phr.length ≤ 1000000) := Lib.hid (by have := HRP.out.lp; omega)
                go_wp2_with fail
                refine (HAS.out _ HRP4.out.phr.reads).mono ?_
                rintro e w5 ⟨rfl, rfl⟩
                go_wp2_with (with_reducible refine wpList_app 53 55 w.heap.size u6 q.phr (Wd.phraseOf X) w4.heap.size _ _ _ _ _ (HRP4.out.phr.alloc _).own ?_ ?_)
                · exact ⟨rfl, rfl, by simp [go_sem], HLP.out, by simp; omega⟩
                rintro v' w6 hown6 hgrow6 hblk6
                have HRP6 := Lib.hid ((HRP4.out.keep ((Below.refl _ _).alloc (Nat.le_refl _) _)).stepPhr (k' := 2 * k + (j - k) + 1) ⟨hgrow6, hblk6⟩ ((HRP4.out.phr.alloc _).grown hown6 hgrow6) (Nat.le_refl _))
                clear hown6 hgrow6 hblk6 hz4
                go_wp2_with fail
                go_roundw
                case rel => exact ⟨j + 1, j + 1, false, by omega, by omega, by go_num, by go_num, rfl, _, HRP6.out.up (by omega), by rw [← HFIN.out]; exact HALL.out⟩
                case measure => simp [intOf] <;> omega
          case false =>
            go_wp2_with fail
            refine (rsplit_any _ _ (by have := HZ.out; omega)).mono ?_
            rintro e w1 ⟨va, vb, rfl, hv⟩
            rw [HX.out] at hv
            have HV := Lib.hid hv
            have HRP1 := Lib.hid (HRP.out.keep hv.fst.below)
            have HEN1 := Lib.hid (HEN.out.keep hv.fst.below)
            clear hv
            go_wp2_with fail
            refine (stems_more _ _ va _ _ HEN1.out HRP1.out.need HV.out.fst.reads (by have h1 := HRP1.out.ln; have h2 := (Wd.words_len2 X _ HXL.out.2).1; omega) (fun x hx => Nat.le_trans (Wd.yesOf_each X x hx) (by have := HXL.out.2; omega))).mono ?_
            rintro e w2 ⟨a2, rfl, hat2, hb2, hblk2⟩
            have HRP2 := Lib.hid (HRP1.out.stepNeed (k' := 2 * k + (j - k)) hat2 hb2 hblk2 (by have h1 := Wd.stemsOf_len (Wd.yesOf (Wd.words X)); have h2 := (Wd.words_len2 X _ HXL.out.1).1; omega))
            have HV2 := Lib.hid (HV.out.snd.reads.keep hb2)
            have HEN2 := Lib.hid (HEN1.out.keep hb2)
            clear hat2 hb2 hblk2
            go_wp2_with fail
            refine (stems_more _ _ vb _ _ HEN2.out HRP2.out.neg HV2.out (by show q.neg.length + _ ≤ _; have h1 := HRP1.out.lg; have h2 := (Wd.words_len2 X _ HXL.out.2).2.1; omega) (fun x hx => Nat.le_trans (Wd.noOf_each X x hx) (by have := HXL.out.2; omega))).mono ?_
            rintro e w3 ⟨b3, rfl, hat3, hb3, hblk3⟩
            have HRP3 := Lib.hid (HRP2.out.stepNeg (k' := 2 * k + (j - k) + (j - k)) hat3 hb3 hblk3 (by have h1 := Wd.stemsOf_len (Wd.noOf (Wd.words X)); have h2 := (Wd.words_len2 X _ HXL.out.1).2.1; omega))
            clear hat3 hb3 hblk3
            go_wp2_with fail
            go_roundw
            case rel => exact ⟨j + 1, j + 1, true, by omega, by omega, by go_num, by go_num, rfl, _, HRP3.out.up (by omega), HALL.out⟩
            case measure => simp [intOf] <;> omega
      · have HP := Lib.hid (HEM.out (fun h => absurd h (by rw [HSL.out]; omega)))
        obtain rfl : j = s.size := by omega
        clear HEM
        obtain ⟨q, hrp, hall⟩ := HR.out
        rw [HP.out] at hall
        have HRP := Lib.hid hrp
        have HALL := Lib.hid hall
        clear hrp hall HR HP
        have HEN : Hid (Env wr) := Lib.hid (HW.out.keep HRP.out.phr.below)
        cases ib
        case true =>
          go_wp2_with fail
          refine (rtokens_any _ _ (by have := HZ.out; omega)).mono ?_
          rintro e w1 ⟨v, rfl, hv⟩
          rw [HX.out] at hv
          have HV := Lib.hid hv
          have HRP1 := Lib.hid (HRP.out.keep hv.below)
          have HEN1 := Lib.hid (HEN.out.keep hv.below)
          clear hv
          go_wp2_with fail
          refine (stems_more _ _ v _ _ HEN1.out HRP1.out.need HV.out.reads (by have h1 := HRP1.out.ln; have h2 := (Wd.words_len2 X _ HXL.out.2).2.2; omega) (fun x hx => Nat.le_trans (Wd.tokens_each X x hx) (by have := HXL.out.2; omega))).mono ?_
          rintro e w2 ⟨a2, rfl, hat2, hb2, hblk2⟩
          have HRP2 := Lib.hid (HRP1.out.stepNeed (k' := 2 * k + (s.size - k)) hat2 hb2 hblk2 (by have h1 := Wd.stemsOf_len (Wd.tokens X); have h2 := (Wd.words_len2 X _ HXL.out.1).2.2; omega))
          clear hat2 hb2 hblk2
          go_wp2_with fail
          refine (rtrim_any _ _ (by have := HZ.out; omega)).mono ?_
          rintro e w3 ⟨rfl, rfl⟩
          rw [HX.out]
          go_wp2_with fail
          refine (rlower_any _ _ (by have h1 := Wd.trm_len X; have h2 := HXL.out.2; rw [Wd.bs_size]; omega)).mono ?_
          rintro e w4 ⟨rfl, hb4⟩
          have HRP4 := Lib.hid (HRP2.out.keep hb4)
          have HPH : Hid (Wd.lower (Wd.bs (Wd.trm X)).data.toList = Wd.phraseOf X) := Lib.hid rfl
          rw [HPH.out]
          clear hb4
          have HAS : Hid (∀ W, StrsAt W u6 q.phr → Calls Tryd.prog 41 #[u6, .string (Wd.bs (Wd.phraseOf X))] W fun e w' => e = .returned (.bool (Wd.has q.phr (Wd.phraseOf X))) ∧ W = w') := Lib.hid (fun W h => has_any u6 q.phr (Wd.bs (Wd.phraseOf X)) W h (by have := HRP.out.lp; omega))
          have HIN : Hid (q.inside X = { q with need := q.need ++ Wd.stemsOf (Wd.tokens X), phr := if Wd.phraseOf X = [] ∨ Wd.phraseOf X ∈ q.phr then q.phr else q.phr ++ [Wd.phraseOf X] }) := Lib.hid rfl
          by_cases hp0 : Wd.phraseOf X = []
          · have HFIN : Hid (q.inside X = { q with need := q.need ++ Wd.stemsOf (Wd.tokens X) }) := Lib.hid (by rw [HIN.out, if_pos (.inl hp0)])
            rw [hp0]
            clear hp0 HIN HAS
            have hem : (Wd.bs []).toList = [] := by rw [Lib.toList_data]; rfl
            have hem2 : (!(Wd.bs []).toList.isEmpty) = false := by rw [hem]; rfl
            go_wp2_with fail
            go_roundw
            case rel => exact ⟨s.size + 1, s.size + 1, false, by omega, by omega, by go_num, by go_num, rfl, _, HRP4.out.up (by omega), by rw [← HFIN.out]; exact HALL.out⟩
            case measure => simp [intOf] <;> omega
          · have hem : (Wd.bs (Wd.phraseOf X)).toList.isEmpty = false := by rw [Lib.toList_data]; show (Wd.phraseOf X).isEmpty = false; cases h : Wd.phraseOf X with | nil => exact absurd h hp0 | cons _ _ => rfl
            cases hh : Wd.has q.phr (Wd.phraseOf X)
            case true =>
              have HFIN : Hid (q.inside X = { q with need := q.need ++ Wd.stemsOf (Wd.tokens X) }) := Lib.hid (by rw [HIN.out, if_pos (.inr (Wd.has_iff.1 hh))])
              rw [hh] at HAS
              clear hh hp0 HIN
              generalize Wd.bs (Wd.phraseOf X) = ph at *
              go_wp2_with fail
              refine (HAS.out _ HRP4.out.phr.reads).mono ?_
              rintro e w5 ⟨rfl, rfl⟩
              go_wp2_with fail
              go_roundw
              case rel => exact ⟨s.size + 1, s.size + 1, false, by omega, by omega, by go_num, by go_num, rfl, _, HRP4.out.up (by omega), by rw [← HFIN.out]; exact HALL.out⟩
              case measure => simp [intOf] <;> omega
            case false =>
              have HFIN : Hid (q.inside X = { q with need := q.need ++ Wd.stemsOf (Wd.tokens X), phr := q.phr ++ [Wd.phraseOf X] }) := Lib.hid (by rw [HIN.out, if_neg (fun h => by rcases h with h | h; exact hp0 h; rw [Wd.has_iff.2 h] at hh; cases hh)])
              rw [hh] at HAS
              clear hh hp0 HIN
              have hz4 : w.heap.size ≤ w4.heap.size := HRP4.out.phr.below.size
              have HLP : Hid (q.phr.length ≤ 1000000) := Lib.hid (by have := HRP.out.lp; omega)
              go_wp2_with fail
              refine (HAS.out _ HRP4.out.phr.reads).mono ?_
              rintro e w5 ⟨rfl, rfl⟩
              go_wp2_with (with_reducible refine wpList_app 53 55 w.heap.size u6 q.phr (Wd.phraseOf X) w4.heap.size _ _ _ _ _ (HRP4.out.phr.alloc _).own ?_ ?_)
              · exact ⟨rfl, rfl, by simp [go_sem], HLP.out, by simp; omega⟩
              rintro v' w6 hown6 hgrow6 hblk6
              have HRP6 := Lib.hid ((HRP4.out.keep ((Below.refl _ _).alloc (Nat.le_refl _) _)).stepPhr (k' := 2 * k + (s.size - k) + 1) ⟨hgrow6, hblk6⟩ ((HRP4.out.phr.alloc _).grown hown6 hgrow6) (Nat.le_refl _))
              clear hown6 hgrow6 hblk6 hz4
              go_wp2_with fail
              go_roundw
              case rel => exact ⟨s.size + 1, s.size + 1, false, by omega, by omega, by go_num, by go_num, rfl, _, HRP6.out.up (by omega), by rw [← HFIN.out]; exact HALL.out⟩
              case measure => simp [intOf] <;> omega
        case false =>
          go_wp2_with fail
          refine (rsplit_any _ _ (by have := HZ.out; omega)).mono ?_
          rintro e w1 ⟨va, vb, rfl, hv⟩
          rw [HX.out] at hv
          have HV := Lib.hid hv
          have HRP1 := Lib.hid (HRP.out.keep hv.fst.below)
          have HEN1 := Lib.hid (HEN.out.keep hv.fst.below)
          clear hv
          go_wp2_with fail
          refine (stems_more _ _ va _ _ HEN1.out HRP1.out.need HV.out.fst.reads (by have h1 := HRP1.out.ln; have h2 := (Wd.words_len2 X _ HXL.out.2).1; omega) (fun x hx => Nat.le_trans (Wd.yesOf_each X x hx) (by have := HXL.out.2; omega))).mono ?_
          rintro e w2 ⟨a2, rfl, hat2, hb2, hblk2⟩
          have HRP2 := Lib.hid (HRP1.out.stepNeed (k' := 2 * k + (s.size - k)) hat2 hb2 hblk2 (by have h1 := Wd.stemsOf_len (Wd.yesOf (Wd.words X)); have h2 := (Wd.words_len2 X _ HXL.out.1).1; omega))
          have HV2 := Lib.hid (HV.out.snd.reads.keep hb2)
          have HEN2 := Lib.hid (HEN1.out.keep hb2)
          clear hat2 hb2 hblk2
          go_wp2_with fail
          refine (stems_more _ _ vb _ _ HEN2.out HRP2.out.neg HV2.out (by show q.neg.length + _ ≤ _; have h1 := HRP1.out.lg; have h2 := (Wd.words_len2 X _ HXL.out.2).2.1; omega) (fun x hx => Nat.le_trans (Wd.noOf_each X x hx) (by have := HXL.out.2; omega))).mono ?_
          rintro e w3 ⟨b3, rfl, hat3, hb3, hblk3⟩
          have HRP3 := Lib.hid (HRP2.out.stepNeg (k' := 2 * k + (s.size - k) + (s.size - k)) hat3 hb3 hblk3 (by have h1 := Wd.stemsOf_len (Wd.noOf (Wd.words X)); have h2 := (Wd.words_len2 X _ HXL.out.1).2.1; omega))
          clear hat3 hb3 hblk3
          go_wp2_with fail
          go_roundw
          case rel => exact ⟨s.size + 1, s.size + 1, true, by omega, by omega, by go_num, by go_num, rfl, _, HRP3.out.up (by omega), HALL.out⟩
          case measure => simp [intOf] <;> omega
    · obtain rfl : j = s.size + 1 := by omega
      obtain ⟨q, hrp, hall⟩ := HR.out
      have hx : Wd.P s.data.toList k (s.size + 1) = [] := by rw [← HSL.out]; exact Wd.P_past _ _
      rw [hx] at hall
      have hq : q = Wd.parsed s.data.toList := by rw [← hall]; cases ib <;> rfl
      subst hq
      have HRP := Lib.hid hrp
      clear hrp hall hx
      go_wp2_with fail
      go_ret3
      exact ⟨_, _, _, rfl, HRP.out.need, HRP.out.phr.reads, HRP.out.neg, HRP.out.phr.below⟩
end Go.Proofs.YtjedhlgflocjoaaDoor
