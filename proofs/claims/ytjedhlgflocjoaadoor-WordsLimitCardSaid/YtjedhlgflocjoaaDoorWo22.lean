/- Words: Found and Score. -/
import Derived.Test.YtjedhlgflocjoaaDoorWo21
namespace Wd
theorem hits_take (n ws : List Str) (k : Nat) (h : k < ws.length) : hitsB n (ws.take (k + 1)) = hitsB n (ws.take k) + (if has n (stem ws[k]) && !stop ws[k] then 1 else 0) := by
  unfold hitsB
  rw [List.take_succ_eq_append_getElem h, List.filter_append, List.length_append]
  cases hc : (has n (stem ws[k]) && !stop ws[k]) <;> simp [hc]
theorem hits_le (n ws : List Str) : hitsB n ws ≤ ws.length := List.length_filter_le _ _
theorem stem_len (w : Str) : (stem w).length ≤ w.length + 1 := by
  unfold stem
  repeat' split
  all_goals simp
  all_goals omega
theorem all_facts : ∀ (ps : List Str) (q : PQ) (b : Bool), (q.all b ps).need.length ≤ q.need.length + tot ps ∧ (q.all b ps).neg.length ≤ q.neg.length + tot ps ∧ (q.all b ps).phr.length ≤ q.phr.length + ps.length ∧ ∀ x ∈ (q.all b ps).phr, x ∈ q.phr ∨ x.length ≤ tot ps
  | [], q, b => ⟨by simp [PQ.all, tot], by simp [PQ.all, tot], by simp [PQ.all], fun x hx => .inl (by simpa [PQ.all] using hx)⟩
  | p :: ps, q, true => by
    have h := all_facts ps (q.inside p) false
    have h1 := stemsOf_len (tokens p)
    have h2 := tokens_len p
    have h3 : (phraseOf p).length ≤ p.length := by unfold phraseOf; rw [lower_length]; exact trm_len p
    refine ⟨?_, ?_, ?_, fun x hx => ?_⟩
    · have := h.1
      simp only [PQ.all, PQ.inside, tot, List.length_append] at this ⊢
      omega
    · have := h.2.1
      simp only [PQ.all, PQ.inside, tot] at this ⊢
      omega
    · have h6 : (q.inside p).phr.length ≤ q.phr.length + 1 := by
        simp only [PQ.inside]
        split
        · omega
        · simp
      have h7 := h.2.2.1
      show ((q.inside p).all false ps).phr.length ≤ q.phr.length + (p :: ps).length
      rw [List.length_cons]
      omega
    · rcases h.2.2.2 x hx with h4 | h4
      · simp only [PQ.inside] at h4
        split at h4
        · exact .inl h4
        · rcases List.mem_append.1 h4 with h5 | h5
          · exact .inl h5
          · refine .inr ?_
            rw [List.mem_singleton.1 h5]
            simp only [tot]
            omega
      · exact .inr (by simp only [tot]; omega)
  | p :: ps, q, false => by
    have h := all_facts ps (q.outside p) true
    have h1 := stemsOf_len (yesOf (words p))
    have h2 := yesOf_len (words p)
    have h3 := words_len p
    have h4 := stemsOf_len (noOf (words p))
    have h5 := noOf_len (words p)
    refine ⟨?_, ?_, ?_, fun x hx => ?_⟩
    · have := h.1
      simp only [PQ.all, PQ.outside, tot, List.length_append] at this ⊢
      omega
    · have := h.2.1
      simp only [PQ.all, PQ.outside, tot, List.length_append] at this ⊢
      omega
    · have := h.2.2.1
      simp only [PQ.all, PQ.outside, List.length_cons] at this ⊢
      omega
    · rcases h.2.2.2 x hx with h4 | h4
      · exact .inl h4
      · exact .inr (by simp only [tot]; omega)
theorem parsed_facts (s : Str) : (uniq (parsed s).need).length ≤ s.length ∧ (uniq (parsed s).neg).length ≤ s.length ∧ (parsed s).phr.length ≤ s.length + 1 ∧ ∀ x ∈ (parsed s).phr, x.length ≤ s.length := by
  have h := all_facts (cutQ [] s) PQ.none false
  have h1 := tot_cut s []
  have h2 := len_cut s []
  have h3 := uniq_len_le (parsed s).need
  have h4 := uniq_len_le (parsed s).neg
  have e1 : (PQ.none).need.length = 0 := rfl
  have e2 : (PQ.none).neg.length = 0 := rfl
  have e3 : (PQ.none).phr.length = 0 := rfl
  have e4 : ([] : Str).length = 0 := rfl
  have g1 : (parsed s).need.length ≤ _ := h.1
  have g2 : (parsed s).neg.length ≤ _ := h.2.1
  have g3 : (parsed s).phr.length ≤ _ := h.2.2.1
  refine ⟨by omega, by omega, by omega, fun x hx => ?_⟩
  rcases h.2.2.2 x hx with h5 | h5
  · cases h5
  · omega
end Wd
namespace Go.Proofs.YtjedhlgflocjoaaDoor
open Go.ChangeShapes Go.WideShapes Go.ChangeAt Go.RowKit Go.Sort
set_option linter.unusedVariables false
set_option linter.unusedSimpArgs false
/-- found of what Parse has given, at any later world -/
def FoundAt (w W : World) (a p b : Value) (n ph ng : List Wd.Str) : Prop := StrsAt W a n ∧ StrsAt W p ph ∧ StrsAt W b ng ∧ Below w.heap.size w W ∧ EnvB W
set_option maxHeartbeats 1000000 in
theorem Found_any (s t : ByteArray) (w : World) (hw : EnvB w) (hs : s.size ≤ 50000) (ht : t.size ≤ 50000) :
    Calls Tryd.prog 20 #[.string s, .string t] w fun e w' => e = .returned (.bool (Wd.foundS s.data.toList t.data.toList)) ∧ Below w.heap.size w w' := by
  have HF : Hid (Wd.foundS s.data.toList t.data.toList = Wd.foundB (Wd.uniq (Wd.parsed s.data.toList).need) (Wd.parsed s.data.toList).phr (Wd.uniq (Wd.parsed s.data.toList).neg) t.data.toList) := Lib.hid rfl
  have HL := Lib.hid (Wd.parsed_facts s.data.toList)
  have HSL := Lib.hid (size_list s)
  have HW := Lib.hid hw
  have HP := Lib.hid (parse_any s w hw hs)
  clear hw
  generalize Wd.parsed s.data.toList = q at *
  generalize Wd.foundS s.data.toList t.data.toList = F at *
  go_enter Tryd.func20, Tryd.ntmps20
  go_wp2_with fail
  refine HP.out.mono ?_
  rintro e w1 ⟨a, p, b, rfl, h1, h2, h3, h4⟩
  have HFA : Hid (FoundAt w w1 a p b (Wd.uniq q.need) q.phr (Wd.uniq q.neg)) := Lib.hid ⟨h1, h2, h3, h4, HW.out.keep h4⟩
  clear h1 h2 h3 h4 HP
  go_wp2_with fail
  refine (found_any a p b _ _ _ t w1 HFA.out.2.2.2.2 HFA.out.1 HFA.out.2.1 HFA.out.2.2.1 (by have := HL.out.1; have := HSL.out; omega) (by have := HL.out.2.2.1; have := HSL.out; omega) (by have := HL.out.2.1; have := HSL.out; omega) (fun x hx => Nat.le_trans (HL.out.2.2.2 x hx) (by have := HSL.out; omega)) ht).mono ?_
  rintro e w2 ⟨rfl, hb2⟩
  have HB := Lib.hid hb2
  clear hb2
  rw [← HF.out]
  go_wp2_with fail
  go_ret
  exact ⟨rfl, HFA.out.2.2.2.1.trans (HB.out.mono HFA.out.2.2.2.1.size)⟩
set_option maxHeartbeats 2000000 in
theorem Score_any (s t : ByteArray) (w : World) (hw : EnvB w) (hs : s.size ≤ 50000) (ht : t.size ≤ 50000) :
    Calls Tryd.prog 22 #[.string s, .string t] w fun e w' => e = .returned (.int .i64 (Wd.scoreS s.data.toList t.data.toList : Nat)) ∧ Below w.heap.size w w' := by
  have HF : Hid (Wd.scoreS s.data.toList t.data.toList = if Wd.foundB (Wd.uniq (Wd.parsed s.data.toList).need) (Wd.parsed s.data.toList).phr (Wd.uniq (Wd.parsed s.data.toList).neg) t.data.toList then 5 * (Wd.parsed s.data.toList).phr.length + 10 * Wd.hitsB (Wd.uniq (Wd.parsed s.data.toList).need) ((Wd.words t.data.toList).map (·.1)) else 0) := Lib.hid rfl
  have HL := Lib.hid (Wd.parsed_facts s.data.toList)
  have HASC := Lib.hid (Wd.asc_uniq (Wd.parsed s.data.toList).need)
  have HSL := Lib.hid (size_list s)
  have HTL : Hid ((Wd.words t.data.toList).length ≤ 50000) := Lib.hid (by have := Wd.words_len t.data.toList; rw [size_list] at this; omega)
  have HEA := Lib.hid (words_each t)
  have HW := Lib.hid hw
  have HP := Lib.hid (parse_any s w hw hs)
  have HFO := Lib.hid (fun a p b n ph ng W => found_any a p b n ph ng t W)
  have HSP := Lib.hid (fun W => split_any t W (by omega))
  have HSO : ∀ W, Hid (SplitOut t W = fun e w' => ∃ v, e = .returned v ∧ WL W w' v (Wd.words t.data.toList)) := fun W => Lib.hid rfl
  clear hw
  generalize Wd.parsed s.data.toList = q at *
  generalize Wd.scoreS s.data.toList t.data.toList = F at *
  generalize Wd.words t.data.toList = ws at *
  go_enter Tryd.func22, Tryd.ntmps22
  go_wp2_with fail
  refine HP.out.mono ?_
  rintro e w1 ⟨a, p, b, rfl, h1, h2, h3, h4⟩
  have HFA : Hid (FoundAt w w1 a p b (Wd.uniq q.need) q.phr (Wd.uniq q.neg)) := Lib.hid ⟨h1, h2, h3, h4, HW.out.keep h4⟩
  have hsp : ∃ x c, p = .slice x q.phr.length c := by
    rcases h2 with ⟨rfl, e2⟩ | ⟨g, cap, rfl, _⟩
    · rw [e2]; exact ⟨_, _, rfl⟩
    · exact ⟨_, _, rfl⟩
  obtain ⟨xp, cp, rfl⟩ := hsp
  clear h1 h2 h3 h4 HP
  have hpl : q.phr.length ≤ 50001 := by have := HL.out.2.2.1; have := HSL.out; omega
  cases hfo : Wd.foundB (Wd.uniq q.need) q.phr (Wd.uniq q.neg) t.data.toList with
  | false =>
    have HR : Hid (F = 0) := Lib.hid (by rw [HF.out, hfo]; rfl)
    clear HF
    go_wp2_with fail
    refine (HFO.out a _ b _ _ _ w1 HFA.out.2.2.2.2 HFA.out.1 HFA.out.2.1 HFA.out.2.2.1 (by have := HL.out.1; have := HSL.out; omega) (by have := HL.out.2.2.1; have := HSL.out; omega) (by have := HL.out.2.1; have := HSL.out; omega) (fun x hx => Nat.le_trans (HL.out.2.2.2 x hx) (by have := HSL.out; omega)) ht).mono ?_
    rintro e w2 ⟨rfl, hb2⟩
    rw [hfo]
    have HB := Lib.hid hb2
    clear hb2 hfo
    go_wp2_with fail
    go_ret
    exact ⟨by rw [HR.out]; rfl, HFA.out.2.2.2.1.trans (HB.out.mono HFA.out.2.2.2.1.size)⟩
  | true =>
    have HR : Hid (F = 5 * q.phr.length + 10 * Wd.hitsB (Wd.uniq q.need) (ws.map (·.1))) := Lib.hid (by rw [HF.out, hfo]; rfl)
    clear HF
    go_wp2_with fail
    refine (HFO.out a _ b _ _ _ w1 HFA.out.2.2.2.2 HFA.out.1 HFA.out.2.1 HFA.out.2.2.1 (by have := HL.out.1; have := HSL.out; omega) (by have := HL.out.2.2.1; have := HSL.out; omega) (by have := HL.out.2.1; have := HSL.out; omega) (fun x hx => Nat.le_trans (HL.out.2.2.2 x hx) (by have := HSL.out; omega)) ht).mono ?_
    rintro e w2 ⟨rfl, hb2⟩
    rw [hfo]
    have HA2 := Lib.hid (HFA.out.1.keep hb2)
    have HB2 := Lib.hid (HFA.out.2.2.2.1.trans (hb2.mono HFA.out.2.2.2.1.size))
    clear hb2 hfo HFA HFO
    go_wp2_with fail
    refine (HSP.out _).mono ?_
    rw [(HSO _).out]
    rintro e w3 ⟨v, rfl, hv⟩
    have HA3 := Lib.hid (HA2.out.keep hv.below)
    have HB3 := Lib.hid (HB2.out.trans (hv.below.mono HB2.out.size))
    have hr := hv.reads
    clear hv HSP HA2 HB2
    rcases hr with ⟨rfl, rfl⟩ | ⟨g, cap, rfl, hg, hc⟩
    · go_wp2_with fail
      go_loop [8, 31] (fun v i => v = .int .i64 ((5 * q.phr.length : Nat) : Int) ∧ i = .int .i64 0) (fun _ _ => 0)
      case atStart => exact ⟨by go_num, rfl⟩
      case round =>
        obtain ⟨rfl, rfl⟩ := hrel
        have HR2 : Hid (F = 5 * q.phr.length) := Lib.hid HR.out
        go_wp2_with fail
        go_ret
        exact ⟨by rw [HR2.out, Int.natCast_mul]; rfl, HB3.out⟩
    · have HC := Lib.hid hc
      clear hc
      go_wp2_with fail
      go_loopw [8, 31] (fun v i wr => ∃ k : Nat, k ≤ ws.length ∧ v = .int .i64 ((5 * q.phr.length + 10 * Wd.hitsB (Wd.uniq q.need) ((ws.map (·.1)).take k) : Nat) : Int) ∧ i = .int .i64 k ∧ Below w3.heap.size w3 wr) (fun _ i _ => ws.length - (intOf i).toNat)
      case atStart => exact ⟨0, Nat.zero_le _, by go_num, rfl, Below.refl _ _⟩
      case round =>
        obtain ⟨k, hk, rfl, rfl, hbk⟩ := hrel
        have HBK := Lib.hid hbk
        clear hbk
        have hlen := HTL.out
        have HIT := Lib.hid (Wd.hits_le (Wd.uniq q.need) ((ws.map (·.1)).take k))
        have hit : Wd.hitsB (Wd.uniq q.need) ((ws.map (·.1)).take k) ≤ 50000 := by
          have h1 := HIT.out
          have h2 := List.length_take_le k (ws.map (·.1))
          omega
        by_cases hlt : k < ws.length
        · have hc1 : wr.cell? ⟨g, k * 2, none⟩ = some (.string (Wd.bs ws[k].1)) := (HBK.out.cell (p := ⟨g, k * 2, none⟩) hg).trans (HC.out k hlt).1
          have hc2 : wr.cell? ⟨g, k * 2 + 1, none⟩ = some (.bool ws[k].2) := (HBK.out.cell (p := ⟨g, k * 2 + 1, none⟩) hg).trans (HC.out k hlt).2
          have HTK : Hid (Wd.hitsB (Wd.uniq q.need) ((ws.map (·.1)).take (k + 1)) = Wd.hitsB (Wd.uniq q.need) ((ws.map (·.1)).take k) + (if Wd.has (Wd.uniq q.need) (Wd.stem ws[k].1) && !Wd.stop ws[k].1 then 1 else 0)) := Lib.hid (by
            have h := Wd.hits_take (Wd.uniq q.need) (ws.map (·.1)) k (by rw [List.length_map]; exact hlt)
            rw [List.getElem_map] at h
            exact h)
          have HXL : Hid (ws[k].1.length ≤ 50000) := Lib.hid (Nat.le_trans (HEA.out k hlt) ht)
          clear HIT
          generalize Wd.hitsB (Wd.uniq q.need) ((ws.map (·.1)).take k) = hk0 at *
          generalize ws[k].2 = y at *
          generalize ws[k].1 = x at *
          have HST : Hid (∀ W, Calls Tryd.prog 14 #[.string (Wd.bs x)] W fun e w' => e = .returned (.string (Wd.bs (Wd.stem x))) ∧ W = w') := Lib.hid (fun W => stem_any (Wd.bs x) W (by rw [Wd.bs_size]; have := HXL.out; omega))
          have HBS : Hid (∀ W, StrsAt W a (Wd.uniq q.need) → Calls Tryd.prog 45 #[a, .string (Wd.bs (Wd.stem x))] W fun e w' => ∃ i : Nat, e = .returned (.tuple #[.int .i64 i, .bool (Wd.has (Wd.uniq q.need) (Wd.stem x))]) ∧ ∃ q, w' = W.drewN q) := Lib.hid (fun W h => bsearch_any a (Wd.uniq q.need) (Wd.bs (Wd.stem x)) W h (by have := HL.out.1; have := HSL.out; omega) HASC.out)
          have HA4 := Lib.hid (HA3.out.keep HBK.out)
          cases hh : Wd.has (Wd.uniq q.need) (Wd.stem x) with
          | false =>
            rw [hh] at HBS HTK
            clear hh
            go_wp2_with fail
            refine (HST.out _).mono ?_
            rintro e w5 ⟨rfl, rfl⟩
            go_wp2_with fail
            refine (HBS.out _ (HA4.out.keep ((Below.refl _ _).alloc (Nat.le_refl _) _))).mono ?_
            rintro e w6 ⟨i6, rfl, q6, rfl⟩
            go_wp2_with fail
            go_roundw
            case rel => exact ⟨k + 1, by omega, by rw [HTK.out]; go_num, by go_num, (Below.alloc' HBK.out _).trans ((below_drewN _ _).mono (Nat.le_trans HBK.out.size (by simp)))⟩
            case measure => simp [intOf] <;> omega
          | true =>
            rw [hh] at HBS HTK
            clear hh
            have HIS : Hid (∀ W, Calls Tryd.prog 46 #[.string (Wd.bs x)] W fun e w' => e = .returned (.bool (Wd.stop x)) ∧ W = w') := Lib.hid (fun W => by
              cases hst : Wd.stop x with
              | false => exact isStop_no (Wd.bs x) W hst
              | true => exact isStop_yes (Wd.bs x) W hst)
            cases hst : Wd.stop x with
            | false =>
              rw [hst] at HIS HTK
              clear hst
              go_wp2_with fail
              refine (HST.out _).mono ?_
              rintro e w5 ⟨rfl, rfl⟩
              go_wp2_with fail
              refine (HBS.out _ (HA4.out.keep ((Below.refl _ _).alloc (Nat.le_refl _) _))).mono ?_
              rintro e w6 ⟨i6, rfl, q6, rfl⟩
              go_wp2_with fail
              refine (HIS.out _).mono ?_
              rintro e w7 ⟨rfl, rfl⟩
              go_wp2_with fail
              go_roundw
              case rel => exact ⟨k + 1, by omega, by rw [HTK.out]; go_num, by go_num, (Below.alloc' HBK.out _).trans ((below_drewN _ _).mono (Nat.le_trans HBK.out.size (by simp)))⟩
              case measure => simp [intOf] <;> omega
            | true =>
              rw [hst] at HIS HTK
              clear hst
              go_wp2_with fail
              refine (HST.out _).mono ?_
              rintro e w5 ⟨rfl, rfl⟩
              go_wp2_with fail
              refine (HBS.out _ (HA4.out.keep ((Below.refl _ _).alloc (Nat.le_refl _) _))).mono ?_
              rintro e w6 ⟨i6, rfl, q6, rfl⟩
              go_wp2_with fail
              refine (HIS.out _).mono ?_
              rintro e w7 ⟨rfl, rfl⟩
              go_wp2_with fail
              go_roundw
              case rel => exact ⟨k + 1, by omega, by rw [HTK.out]; go_num, by go_num, (Below.alloc' HBK.out _).trans ((below_drewN _ _).mono (Nat.le_trans HBK.out.size (by simp)))⟩
              case measure => simp [intOf] <;> omega
        · obtain rfl : k = ws.length := by omega
          have HFIN : Hid (F = 5 * q.phr.length + 10 * Wd.hitsB (Wd.uniq q.need) ((ws.map (·.1)).take ws.length)) := Lib.hid (by
            rw [List.take_of_length_le (by rw [List.length_map]; exact Nat.le_refl _)]
            exact HR.out)
          clear HR HIT
          generalize Wd.hitsB (Wd.uniq q.need) ((ws.map (·.1)).take ws.length) = hk0 at *
          go_wp2_with fail
          go_ret
          exact ⟨by rw [HFIN.out]; exact congrArg (fun x => Ending.returned (Value.int .i64 x)) (by go_num), HB3.out.trans (HBK.out.mono HB3.out.size)⟩
end Go.Proofs.YtjedhlgflocjoaaDoor
