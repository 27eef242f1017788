/- Words: what a text that is found has; common; lists in order. -/
import Derived.Test.YtjedhlgflocjoaaDoorWo26
namespace Wd
theorem has_mem {l : List Str} {x : Str} : has l x = true ↔ x ∈ l := has_iff
/-- a needed stem in the index of a text gives a hit -/
theorem hit_of_any (n : List Str) (t : Str) (h : n.any (has (index t)) = true) : 1 ≤ hitsB n (tokens t) := by
  obtain ⟨x, hx, hi⟩ := List.any_eq_true.1 h
  have hi' := has_iff.1 hi
  have h2 : x ∈ stemsOf (tokens t) := (mem_uniq _ _).1 (List.mem_of_mem_take hi')
  unfold stemsOf at h2
  obtain ⟨y, hy, rfl⟩ := List.mem_map.1 h2
  have hy' := List.mem_filter.1 hy
  unfold hitsB
  have hm : y ∈ (tokens t).filter (fun w => has n (stem w) && !stop w) := List.mem_filter.2 ⟨hy'.1, by rw [has_iff.2 hx]; simpa using hy'.2⟩
  exact List.length_pos_of_mem hm
theorem index_len (t : Str) : (index t).length ≤ 128 := by
  show ((uniq (stemsOf (tokens t))).take 128).length ≤ _
  rw [List.length_take]; omega
theorem score_of_found (n p g : List Str) (t : Str) (hf : foundB n p g t = true) (hn : n ≠ []) : 10 ≤ scoreB n p g t := by
  have h1 : n.any (has (index t)) = true := by
    unfold foundB at hf
    have he : n.isEmpty = false := by cases n with | nil => exact absurd rfl hn | cons _ _ => rfl
    rw [he] at hf
    simp only [Bool.and_eq_true, Bool.false_or] at hf
    exact hf.1.1.2
  have h2 := hit_of_any n t h1
  unfold scoreB
  rw [hf]
  simp only [if_true]
  omega
theorem found_parts (n p g : List Str) (t : Str) (hf : foundB n p g t = true) : (n ≠ [] → n.any (has (index t)) = true) ∧ g.any (has (index t)) = false ∧ 0 < n.length + p.length := by
  unfold foundB at hf
  simp only [Bool.and_eq_true, Bool.not_eq_true'] at hf
  obtain ⟨⟨⟨h1, h2⟩, _⟩, h4⟩ := hf
  refine ⟨fun hn => ?_, h4, ?_⟩
  · cases n with
    | nil => exact absurd rfl hn
    | cons _ _ => simpa using h2
  · cases n with
    | nil =>
      cases p with
      | nil => cases h1
      | cons _ _ => simp
    | cons _ _ => simp; omega
theorem unfound_parts (n g : List Str) (t : Str) (hf : foundB n [] g t = false) (hn : n ≠ []) (ha : n.any (has (index t)) = true) : g.any (has (index t)) = true := by
  unfold foundB at hf
  have he : n.isEmpty = false := by cases n with | nil => exact absurd rfl hn | cons _ _ => rfl
  rw [he, ha] at hf
  simpa using hf
end Wd
namespace Go.Proofs.YtjedhlgflocjoaaDoor
open Go.ChangeShapes Go.WideShapes Go.ChangeAt Go.RowKit Go.Sort
set_option linter.unusedVariables false
set_option linter.unusedSimpArgs false
theorem down_ok (ls : List Wd.Str) (ha : Wd.Asc ls) : Lib.downOK (fun x y : ByteArray => decide (x.data.toList < y.data.toList)) (ls.map Wd.bs).toArray (ls.length - 1) = true := by
  rw [Lib.downOK_iff]
  intro i hi
  have e : ∀ j (h : j < ls.length), (ls.map Wd.bs).toArray[j]! = Wd.bs ls[j] := fun j h => by simp [h]
  rw [e (i + 1) (by omega), e i (by omega)]
  refine decide_eq_false (fun h => ?_)
  have h2 := (List.pairwise_iff_getElem.1 ha) i (i + 1) (by omega) (by omega) (by omega)
  exact Wd.str_irrefl _ (Wd.str_trans h2 h)
theorem sorted_any (v : Value) (ls : List Wd.Str) (w : World) (hv : StrsAt w v ls) (hl : ls.length ≤ 1000000) (ha : Wd.Asc ls) :
    Calls Tryd.prog 26 #[v] w fun e w' => e = .returned (.bool true) ∧ Below w.heap.size w w' := by
  rcases hv with ⟨rfl, rfl⟩ | ⟨g, cap, rfl, hc, hg, hcell⟩
  · refine (Go.Proofs.AnyO.slices_IsSorted_string_none Tryd.laysIS none 0 w).mono ?_
    rintro e w' ⟨rfl, rfl⟩
    exact ⟨rfl, Below.refl _ _⟩
  · have hz : (ls.map Wd.bs).toArray.size = ls.length := by simp
    have h := Go.Proofs.AnyO.slices_IsSorted_string Tryd.laysIS g 0 cap (ls.map Wd.bs).toArray w (fun i hi => ?_) (by rw [hz]; omega)
    · rw [hz] at h
      refine h.mono ?_
      rintro e w' ⟨rfl, q, rfl⟩
      refine ⟨?_, below_drewN _ q⟩
      rw [down_ok ls ha]
    · have hi' : i < ls.length := by rw [hz] at hi; exact hi
      rw [Nat.zero_add, hcell i hi']
      simp [hi']
/-- common: whether a list has a string of the other -/
theorem common_any (v u : Value) (l m : List Wd.Str) (w : World) (hv : StrsAt w v l) (hu : StrsAt w u m) (hl : l.length ≤ 1000000) (hm : m.length ≤ 1000000) :
    Calls Tryd.prog 25 #[v, u] w fun e w' => e = .returned (.bool (l.any (Wd.has m))) ∧ w = w' := by
  have HC : Hid (∀ x, Calls Tryd.prog 39 #[u, .string (Wd.bs x)] w fun e w' => e = .returned (.bool (Wd.has m x)) ∧ w = w') := Lib.hid (fun x => contains_any u m (Wd.bs x) w hu hm)
  have HV := Lib.hid hv
  obtain ⟨x, c, rfl⟩ := strs_shape hv
  clear hv hu
  go_enter Tryd.func25, Tryd.ntmps25
  go_wp2_with fail
  go_loop [8] (fun i => ∃ k : Nat, k ≤ l.length ∧ i = .int .i64 k ∧ (l.take k).any (Wd.has m) = false) (fun i => l.length - (intOf i).toNat)
  case atStart => exact ⟨0, Nat.zero_le _, rfl, rfl⟩
  case round =>
    obtain ⟨k, hk, rfl, hall⟩ := hrel
    by_cases hlt : k < l.length
    · obtain ⟨g, rfl, _, hc⟩ := strs_at HV.out k hlt
      have HTK := Lib.hid (Wd.any_take (Wd.has m) l k hlt)
      have HMEM := Lib.hid (List.getElem_mem hlt)
      have HANY : Hid (Wd.has m l[k] = true → l.any (Wd.has m) = true) := Lib.hid (fun h => List.any_eq_true.2 ⟨_, HMEM.out, h⟩)
      have HX := Lib.hid (HC.out l[k])
      clear HMEM
      generalize l[k] = y at *
      cases hh : Wd.has m y with
      | true =>
        have HA := Lib.hid (HANY.out hh)
        rw [hh] at HX
        clear hh HTK HANY hall
        go_wp2_with fail
        refine HX.out.mono ?_
        rintro e w3 ⟨rfl, rfl⟩
        go_wp2_with fail
        go_ret
        exact ⟨by rw [HA.out]; rfl, rfl⟩
      | false =>
        have HN : Hid ((l.take (k + 1)).any (Wd.has m) = false) := Lib.hid (by rw [HTK.out, hall, hh]; rfl)
        rw [hh] at HX
        clear hh HTK HANY hall
        go_wp2_with fail
        refine HX.out.mono ?_
        rintro e w3 ⟨rfl, rfl⟩
        go_wp2_with fail
        go_round
        case rel => exact ⟨k + 1, by omega, by go_num, HN.out⟩
        case measure => simp [intOf] <;> omega
    · obtain rfl : k = l.length := by omega
      have HA : Hid (l.any (Wd.has m) = false) := Lib.hid (by rw [List.take_of_length_le (Nat.le_refl _)] at hall; exact hall)
      clear hall
      go_wp2_with fail
      go_ret
      exact ⟨by rw [HA.out]; rfl, rfl⟩
set_option maxHeartbeats 4000000 in
theorem law_common (s t : ByteArray) (w : World) (hw : EnvB w) : Calls Tryd.prog 7 #[.string s, .string t] w fun e w' => e = .returned (.bool true) ∧ Below w.heap.size w w' := by
  have HW := Lib.hid hw
  clear hw
  by_cases h : s.size ≤ 3000
  · by_cases h2 : t.size ≤ 3000
    · have HP : Hid (∀ W, EnvB W → Calls Tryd.prog 18 #[.string s] W fun e w' => ∃ a p b, e = .returned (.tuple #[a, p, b]) ∧ StrsAt w' a (Wd.uniq (Wd.parsed s.data.toList).need) ∧ StrsAt w' p (Wd.parsed s.data.toList).phr ∧ StrsAt w' b (Wd.uniq (Wd.parsed s.data.toList).neg) ∧ Below W.heap.size W w') := Lib.hid (fun W hW => parse_any s W hW (by omega))
      have HI : Hid (∀ W, Calls Tryd.prog 16 #[.string t] W fun e w' => ∃ v, e = .returned v ∧ StrsAt w' v (Wd.index t.data.toList) ∧ Below W.heap.size W w') := Lib.hid (fun W => by
        refine (index_any t W (by omega)).mono ?_
        rintro e w' ⟨v, rfl, hs⟩
        exact ⟨v, rfl, hs.reads, hs.below⟩)
      have HF : Hid (∀ W, EnvB W → Calls Tryd.prog 20 #[.string s, .string t] W fun e w' => e = .returned (.bool (Wd.foundS s.data.toList t.data.toList)) ∧ Below W.heap.size W w') := Lib.hid (fun W hW => Found_any s t W hW (by omega) (by omega))
      have HS : Hid (∀ W, EnvB W → Calls Tryd.prog 22 #[.string s, .string t] W fun e w' => e = .returned (.int .i64 (Wd.scoreS s.data.toList t.data.toList : Nat)) ∧ Below W.heap.size W w') := Lib.hid (fun W hW => Score_any s t W hW (by omega) (by omega))
      have HL0 := Wd.parsed_facts s.data.toList
      have HSL0 := size_list s
      have HL : Hid ((Wd.uniq (Wd.parsed s.data.toList).need).length ≤ 50000 ∧ (Wd.uniq (Wd.parsed s.data.toList).neg).length ≤ 50000 ∧ (Wd.parsed s.data.toList).phr.length ≤ 50001) := Lib.hid ⟨by omega, by omega, by omega⟩
      clear HL0 HSL0
      have HASN := Lib.hid (Wd.asc_uniq (Wd.parsed s.data.toList).need)
      have HASG := Lib.hid (Wd.asc_uniq (Wd.parsed s.data.toList).neg)
      have HASI := Lib.hid (Wd.asc_index t.data.toList)
      have HIL := Lib.hid (Wd.index_len t.data.toList)
      have HFT := Lib.hid (Wd.found_parts (Wd.uniq (Wd.parsed s.data.toList).need) (Wd.parsed s.data.toList).phr (Wd.uniq (Wd.parsed s.data.toList).neg) t.data.toList)
      have HFU := Lib.hid (Wd.unfound_parts (Wd.uniq (Wd.parsed s.data.toList).need) (Wd.uniq (Wd.parsed s.data.toList).neg) t.data.toList)
      have HSC := Lib.hid (Wd.score_of_found (Wd.uniq (Wd.parsed s.data.toList).need) (Wd.parsed s.data.toList).phr (Wd.uniq (Wd.parsed s.data.toList).neg) t.data.toList)
      have HFS : Hid (Wd.foundS s.data.toList t.data.toList = Wd.foundB (Wd.uniq (Wd.parsed s.data.toList).need) (Wd.parsed s.data.toList).phr (Wd.uniq (Wd.parsed s.data.toList).neg) t.data.toList) := Lib.hid rfl
      have HSS : Hid (Wd.scoreS s.data.toList t.data.toList = Wd.scoreB (Wd.uniq (Wd.parsed s.data.toList).need) (Wd.parsed s.data.toList).phr (Wd.uniq (Wd.parsed s.data.toList).neg) t.data.toList) := Lib.hid rfl
      have HS0 : Hid (Wd.foundS s.data.toList t.data.toList = false → Wd.scoreS s.data.toList t.data.toList = 0) := Lib.hid (fun h => by rw [HSS.out]; unfold Wd.scoreB; rw [← HFS.out, h]; rfl)
      have HSZ : Hid (Wd.scoreS s.data.toList t.data.toList ≤ 1000000) := Lib.hid (by
        rw [HSS.out]
        unfold Wd.scoreB
        have h1 := HL.out.2.2
        have h2 := Wd.hits_le (Wd.uniq (Wd.parsed s.data.toList).need) (Wd.tokens t.data.toList)
        have h3 := Wd.tokens_len t.data.toList
        rw [size_list] at h3
        split <;> omega)
      rw [← HFS.out] at HFT HSC
      rw [← HSS.out] at HSC
      clear HSS
      generalize Wd.scoreS s.data.toList t.data.toList = sc at *
      generalize Wd.foundS s.data.toList t.data.toList = fo at *
      generalize Wd.index t.data.toList = ix at *
      generalize Wd.parsed s.data.toList = q at *
      generalize Wd.uniq q.need = n at *
      generalize Wd.uniq q.neg = ng at *
      generalize q.phr = ph at *
      clear q
      cases fo with
      | true =>
        have HFT := Lib.hid (HFT.out rfl)
        have hsum : 0 < n.length + ph.length := HFT.out.2.2
        have HG : Hid (ng.any (Wd.has ix) = false) := Lib.hid HFT.out.2.1
        have hnl := HL.out.1
        have hpl := HL.out.2.2
        have hil := HIL.out
        have hsz := HSZ.out
        by_cases hn : n.length = 0
        · obtain rfl : n = [] := List.eq_nil_of_length_eq_zero hn
          have hp0 : ((ph.length : Int) == 0) = false := by rw [beq_eq_false_iff_ne]; simp at hsum; omega
          clear hn HFU
          go_enter Tryd.func7, Tryd.ntmps7
          go_wp2_with fail
          refine (HP.out _ HW.out).mono ?_
          rintro e w1 ⟨a, p, b, rfl, h1, h2, h3, h4⟩
          have H1 := Lib.hid h1
          have H2 := Lib.hid h2
          have H3 := Lib.hid h3
          have H4 := Lib.hid h4
          obtain ⟨xa, ca, rfl⟩ := strs_shape h1
          obtain ⟨xp, cp, rfl⟩ := strs_shape h2
          clear h1 h2 h3 h4 HP
          go_wp2_with fail
          refine (HI.out _).mono ?_
          rintro e w2 ⟨l, rfl, h5, h6⟩
          obtain ⟨xl, cl, rfl⟩ := strs_shape h5
          have HR := Lib.hid (show RF w w2 _ _ _ _ _ _ _ _ from ⟨H1.out.keep h6, H2.out.keep h6, H3.out.keep h6, h5, below_all H4.out h6⟩)
          clear h5 h6 H1 H2 H3 H4 HI
          go_wp2_with fail
          refine (HF.out _ (HW.out.keep HR.out.below)).mono ?_
          rintro e w3 ⟨rfl, hb⟩
          have HR := Lib.hid (HR.out.keep hb)
          clear hb HF
          go_wp2_with fail
          refine (common_any _ _ _ _ _ HR.out.hb HR.out.hl (by have := HL.out.2.1; omega) (by have := HIL.out; omega)).mono ?_
          rintro e wc ⟨rfl, rfl⟩
          rw [HG.out]
          go_wp2_with fail
          refine (sorted_any _ _ _ HR.out.ha (by have := HL.out.1; omega) HASN.out).mono ?_
          rintro e wq ⟨rfl, hb⟩
          have HR := Lib.hid (HR.out.keep hb)
          clear hb
          go_wp2_with fail
          refine (sorted_any _ _ _ HR.out.hb (by have := HL.out.2.1; omega) HASG.out).mono ?_
          rintro e wq ⟨rfl, hb⟩
          have HR := Lib.hid (HR.out.keep hb)
          clear hb
          go_wp2_with fail
          refine (sorted_any _ _ _ HR.out.hl (by have := HIL.out; omega) HASI.out).mono ?_
          rintro e wq ⟨rfl, hb⟩
          have HR := Lib.hid (HR.out.keep hb)
          clear hb
          go_wp2_with fail
          refine (awake_any _ (HW.out.keep HR.out.below)).mono ?_
          rintro e w9 ⟨rfl, hb9⟩
          have HB9 := Lib.hid (below_all HR.out.below hb9)
          clear hb9
          go_wp2_with fail
          go_ret
          exact ⟨rfl, HB9.out⟩
        · have hn0 : 0 < n.length := by omega
          have HCN : Hid (n.any (Wd.has ix) = true) := Lib.hid (HFT.out.1 (fun h => hn (by rw [h]; rfl)))
          have hsc : 10 ≤ sc := HSC.out rfl (fun h => hn (by rw [h]; rfl))
          have hp0 : ((n.length : Int) + (ph.length : Int) == 0) = false := by rw [beq_eq_false_iff_ne]; omega
          clear hn HFU HFT HFS
          go_enter Tryd.func7, Tryd.ntmps7
          go_wp2_with fail
          refine (HP.out _ HW.out).mono ?_
          rintro e w1 ⟨a, p, b, rfl, h1, h2, h3, h4⟩
          have H1 := Lib.hid h1
          have H2 := Lib.hid h2
          have H3 := Lib.hid h3
          have H4 := Lib.hid h4
          obtain ⟨xa, ca, rfl⟩ := strs_shape h1
          obtain ⟨xp, cp, rfl⟩ := strs_shape h2
          clear h1 h2 h3 h4 HP
          go_wp2_with fail
          refine (HI.out _).mono ?_
          rintro e w2 ⟨l, rfl, h5, h6⟩
          obtain ⟨xl, cl, rfl⟩ := strs_shape h5
          have HR := Lib.hid (show RF w w2 _ _ _ _ _ _ _ _ from ⟨H1.out.keep h6, H2.out.keep h6, H3.out.keep h6, h5, below_all H4.out h6⟩)
          clear h5 h6 H1 H2 H3 H4 HI
          go_wp2_with fail
          refine (HF.out _ (HW.out.keep HR.out.below)).mono ?_
          rintro e w3 ⟨rfl, hb⟩
          have HR := Lib.hid (HR.out.keep hb)
          clear hb HF
          go_wp2_with fail
          refine (common_any _ _ _ _ _ HR.out.ha HR.out.hl (by have := HL.out.1; omega) (by have := HIL.out; omega)).mono ?_
          rintro e wc ⟨rfl, rfl⟩
          rw [HCN.out]
          go_wp2_with fail
          refine (common_any _ _ _ _ _ HR.out.hb HR.out.hl (by have := HL.out.2.1; omega) (by have := HIL.out; omega)).mono ?_
          rintro e wc ⟨rfl, rfl⟩
          rw [HG.out]
          go_wp2_with fail
          refine (HS.out _ (HW.out.keep HR.out.below)).mono ?_
          rintro e w4 ⟨rfl, hb⟩
          have HR := Lib.hid (HR.out.keep hb)
          clear hb HS
          go_wp2_with fail
          refine (sorted_any _ _ _ HR.out.ha (by have := HL.out.1; omega) HASN.out).mono ?_
          rintro e wq ⟨rfl, hb⟩
          have HR := Lib.hid (HR.out.keep hb)
          clear hb
          go_wp2_with fail
          refine (sorted_any _ _ _ HR.out.hb (by have := HL.out.2.1; omega) HASG.out).mono ?_
          rintro e wq ⟨rfl, hb⟩
          have HR := Lib.hid (HR.out.keep hb)
          clear hb
          go_wp2_with fail
          refine (sorted_any _ _ _ HR.out.hl (by have := HIL.out; omega) HASI.out).mono ?_
          rintro e wq ⟨rfl, hb⟩
          have HR := Lib.hid (HR.out.keep hb)
          clear hb
          go_wp2_with fail
          refine (awake_any _ (HW.out.keep HR.out.below)).mono ?_
          rintro e w9 ⟨rfl, hb9⟩
          have HB9 := Lib.hid (below_all HR.out.below hb9)
          clear hb9
          go_wp2_with fail
          go_ret
          exact ⟨rfl, HB9.out⟩
      | false =>
        obtain rfl : sc = 0 := HS0.out rfl
        have hnl := HL.out.1
        have hpl := HL.out.2.2
        have hil := HIL.out
        have hsz := HSZ.out
        by_cases hn : n.length = 0
        · obtain rfl : n = [] := List.eq_nil_of_length_eq_zero hn
          clear hn HFU HFT HFS HSC HS0
          go_enter Tryd.func7, Tryd.ntmps7
          go_wp2_with fail
          refine (HP.out _ HW.out).mono ?_
          rintro e w1 ⟨a, p, b, rfl, h1, h2, h3, h4⟩
          have H1 := Lib.hid h1
          have H2 := Lib.hid h2
          have H3 := Lib.hid h3
          have H4 := Lib.hid h4
          obtain ⟨xa, ca, rfl⟩ := strs_shape h1
          obtain ⟨xp, cp, rfl⟩ := strs_shape h2
          clear h1 h2 h3 h4 HP
          go_wp2_with fail
          refine (HI.out _).mono ?_
          rintro e w2 ⟨l, rfl, h5, h6⟩
          obtain ⟨xl, cl, rfl⟩ := strs_shape h5
          have HR := Lib.hid (show RF w w2 _ _ _ _ _ _ _ _ from ⟨H1.out.keep h6, H2.out.keep h6, H3.out.keep h6, h5, below_all H4.out h6⟩)
          clear h5 h6 H1 H2 H3 H4 HI
          go_wp2_with fail
          refine (HF.out _ (HW.out.keep HR.out.below)).mono ?_
          rintro e w3 ⟨rfl, hb⟩
          have HR := Lib.hid (HR.out.keep hb)
          clear hb HF
          go_wp2_with fail
          refine (HS.out _ (HW.out.keep HR.out.below)).mono ?_
          rintro e w4 ⟨rfl, hb⟩
          have HR := Lib.hid (HR.out.keep hb)
          clear hb HS
          go_wp2_with fail
          refine (sorted_any _ _ _ HR.out.ha (by have := HL.out.1; omega) HASN.out).mono ?_
          rintro e wq ⟨rfl, hb⟩
          have HR := Lib.hid (HR.out.keep hb)
          clear hb
          go_wp2_with fail
          refine (sorted_any _ _ _ HR.out.hb (by have := HL.out.2.1; omega) HASG.out).mono ?_
          rintro e wq ⟨rfl, hb⟩
          have HR := Lib.hid (HR.out.keep hb)
          clear hb
          go_wp2_with fail
          refine (sorted_any _ _ _ HR.out.hl (by have := HIL.out; omega) HASI.out).mono ?_
          rintro e wq ⟨rfl, hb⟩
          have HR := Lib.hid (HR.out.keep hb)
          clear hb
          go_wp2_with fail
          refine (awake_any _ (HW.out.keep HR.out.below)).mono ?_
          rintro e w9 ⟨rfl, hb9⟩
          have HB9 := Lib.hid (below_all HR.out.below hb9)
          clear hb9
          go_wp2_with fail
          go_ret
          exact ⟨rfl, HB9.out⟩
        · have hn0 : 0 < n.length := by omega
          by_cases hp : ph.length = 0
          · obtain rfl : ph = [] := List.eq_nil_of_length_eq_zero hp
            have HFU := Lib.hid (HFU.out HFS.out.symm (fun h => hn (by rw [h]; rfl)))
            clear hp hn HFT HFS HSC HS0
            cases hcn : n.any (Wd.has ix) with
            | false =>
              have HCN := Lib.hid hcn
              clear hcn HFU
              go_enter Tryd.func7, Tryd.ntmps7
              go_wp2_with fail
              refine (HP.out _ HW.out).mono ?_
              rintro e w1 ⟨a, p, b, rfl, h1, h2, h3, h4⟩
              have H1 := Lib.hid h1
              have H2 := Lib.hid h2
              have H3 := Lib.hid h3
              have H4 := Lib.hid h4
              obtain ⟨xa, ca, rfl⟩ := strs_shape h1
              obtain ⟨xp, cp, rfl⟩ := strs_shape h2
              clear h1 h2 h3 h4 HP
              go_wp2_with fail
              refine (HI.out _).mono ?_
              rintro e w2 ⟨l, rfl, h5, h6⟩
              obtain ⟨xl, cl, rfl⟩ := strs_shape h5
              have HR := Lib.hid (show RF w w2 _ _ _ _ _ _ _ _ from ⟨H1.out.keep h6, H2.out.keep h6, H3.out.keep h6, h5, below_all H4.out h6⟩)
              clear h5 h6 H1 H2 H3 H4 HI
              go_wp2_with fail
              refine (HF.out _ (HW.out.keep HR.out.below)).mono ?_
              rintro e w3 ⟨rfl, hb⟩
              have HR := Lib.hid (HR.out.keep hb)
              clear hb HF
              go_wp2_with fail
              refine (HS.out _ (HW.out.keep HR.out.below)).mono ?_
              rintro e w4 ⟨rfl, hb⟩
              have HR := Lib.hid (HR.out.keep hb)
              clear hb HS
              go_wp2_with fail
              refine (common_any _ _ _ _ _ HR.out.ha HR.out.hl (by have := HL.out.1; omega) (by have := HIL.out; omega)).mono ?_
              rintro e wc ⟨rfl, rfl⟩
              rw [HCN.out]
              go_wp2_with fail
              refine (sorted_any _ _ _ HR.out.ha (by have := HL.out.1; omega) HASN.out).mono ?_
              rintro e wq ⟨rfl, hb⟩
              have HR := Lib.hid (HR.out.keep hb)
              clear hb
              go_wp2_with fail
              refine (sorted_any _ _ _ HR.out.hb (by have := HL.out.2.1; omega) HASG.out).mono ?_
              rintro e wq ⟨rfl, hb⟩
              have HR := Lib.hid (HR.out.keep hb)
              clear hb
              go_wp2_with fail
              refine (sorted_any _ _ _ HR.out.hl (by have := HIL.out; omega) HASI.out).mono ?_
              rintro e wq ⟨rfl, hb⟩
              have HR := Lib.hid (HR.out.keep hb)
              clear hb
              go_wp2_with fail
              refine (awake_any _ (HW.out.keep HR.out.below)).mono ?_
              rintro e w9 ⟨rfl, hb9⟩
              have HB9 := Lib.hid (below_all HR.out.below hb9)
              clear hb9
              go_wp2_with fail
              go_ret
              exact ⟨rfl, HB9.out⟩
            | true =>
              have HCN := Lib.hid hcn
              have HG := Lib.hid (HFU.out hcn)
              clear hcn HFU
              go_enter Tryd.func7, Tryd.ntmps7
              go_wp2_with fail
              refine (HP.out _ HW.out).mono ?_
              rintro e w1 ⟨a, p, b, rfl, h1, h2, h3, h4⟩
              have H1 := Lib.hid h1
              have H2 := Lib.hid h2
              have H3 := Lib.hid h3
              have H4 := Lib.hid h4
              obtain ⟨xa, ca, rfl⟩ := strs_shape h1
              obtain ⟨xp, cp, rfl⟩ := strs_shape h2
              clear h1 h2 h3 h4 HP
              go_wp2_with fail
              refine (HI.out _).mono ?_
              rintro e w2 ⟨l, rfl, h5, h6⟩
              obtain ⟨xl, cl, rfl⟩ := strs_shape h5
              have HR := Lib.hid (show RF w w2 _ _ _ _ _ _ _ _ from ⟨H1.out.keep h6, H2.out.keep h6, H3.out.keep h6, h5, below_all H4.out h6⟩)
              clear h5 h6 H1 H2 H3 H4 HI
              go_wp2_with fail
              refine (HF.out _ (HW.out.keep HR.out.below)).mono ?_
              rintro e w3 ⟨rfl, hb⟩
              have HR := Lib.hid (HR.out.keep hb)
              clear hb HF
              go_wp2_with fail
              refine (HS.out _ (HW.out.keep HR.out.below)).mono ?_
              rintro e w4 ⟨rfl, hb⟩
              have HR := Lib.hid (HR.out.keep hb)
              clear hb HS
              go_wp2_with fail
              refine (common_any _ _ _ _ _ HR.out.ha HR.out.hl (by have := HL.out.1; omega) (by have := HIL.out; omega)).mono ?_
              rintro e wc ⟨rfl, rfl⟩
              rw [HCN.out]
              go_wp2_with fail
              refine (common_any _ _ _ _ _ HR.out.hb HR.out.hl (by have := HL.out.2.1; omega) (by have := HIL.out; omega)).mono ?_
              rintro e wc ⟨rfl, rfl⟩
              rw [HG.out]
              go_wp2_with fail
              refine (sorted_any _ _ _ HR.out.ha (by have := HL.out.1; omega) HASN.out).mono ?_
              rintro e wq ⟨rfl, hb⟩
              have HR := Lib.hid (HR.out.keep hb)
              clear hb
              go_wp2_with fail
              refine (sorted_any _ _ _ HR.out.hb (by have := HL.out.2.1; omega) HASG.out).mono ?_
              rintro e wq ⟨rfl, hb⟩
              have HR := Lib.hid (HR.out.keep hb)
              clear hb
              go_wp2_with fail
              refine (sorted_any _ _ _ HR.out.hl (by have := HIL.out; omega) HASI.out).mono ?_
              rintro e wq ⟨rfl, hb⟩
              have HR := Lib.hid (HR.out.keep hb)
              clear hb
              go_wp2_with fail
              refine (awake_any _ (HW.out.keep HR.out.below)).mono ?_
              rintro e w9 ⟨rfl, hb9⟩
              have HB9 := Lib.hid (below_all HR.out.below hb9)
              clear hb9
              go_wp2_with fail
              go_ret
              exact ⟨rfl, HB9.out⟩
          · have hp0 : ((ph.length : Int) == 0) = false := by rw [beq_eq_false_iff_ne]; omega
            clear hp hn HFU HFT HFS HSC HS0
            go_enter Tryd.func7, Tryd.ntmps7
            go_wp2_with fail
            refine (HP.out _ HW.out).mono ?_
            rintro e w1 ⟨a, p, b, rfl, h1, h2, h3, h4⟩
            have H1 := Lib.hid h1
            have H2 := Lib.hid h2
            have H3 := Lib.hid h3
            have H4 := Lib.hid h4
            obtain ⟨xa, ca, rfl⟩ := strs_shape h1
            obtain ⟨xp, cp, rfl⟩ := strs_shape h2
            clear h1 h2 h3 h4 HP
            go_wp2_with fail
            refine (HI.out _).mono ?_
            rintro e w2 ⟨l, rfl, h5, h6⟩
            obtain ⟨xl, cl, rfl⟩ := strs_shape h5
            have HR := Lib.hid (show RF w w2 _ _ _ _ _ _ _ _ from ⟨H1.out.keep h6, H2.out.keep h6, H3.out.keep h6, h5, below_all H4.out h6⟩)
            clear h5 h6 H1 H2 H3 H4 HI
            go_wp2_with fail
            refine (HF.out _ (HW.out.keep HR.out.below)).mono ?_
            rintro e w3 ⟨rfl, hb⟩
            have HR := Lib.hid (HR.out.keep hb)
            clear hb HF
            go_wp2_with fail
            refine (HS.out _ (HW.out.keep HR.out.below)).mono ?_
            rintro e w4 ⟨rfl, hb⟩
            have HR := Lib.hid (HR.out.keep hb)
            clear hb HS
            go_wp2_with fail
            refine (sorted_any _ _ _ HR.out.ha (by have := HL.out.1; omega) HASN.out).mono ?_
            rintro e wq ⟨rfl, hb⟩
            have HR := Lib.hid (HR.out.keep hb)
            clear hb
            go_wp2_with fail
            refine (sorted_any _ _ _ HR.out.hb (by have := HL.out.2.1; omega) HASG.out).mono ?_
            rintro e wq ⟨rfl, hb⟩
            have HR := Lib.hid (HR.out.keep hb)
            clear hb
            go_wp2_with fail
            refine (sorted_any _ _ _ HR.out.hl (by have := HIL.out; omega) HASI.out).mono ?_
            rintro e wq ⟨rfl, hb⟩
            have HR := Lib.hid (HR.out.keep hb)
            clear hb
            go_wp2_with fail
            refine (awake_any _ (HW.out.keep HR.out.below)).mono ?_
            rintro e w9 ⟨rfl, hb9⟩
            have HB9 := Lib.hid (below_all HR.out.below hb9)
            clear hb9
            go_wp2_with fail
            go_ret
            exact ⟨rfl, HB9.out⟩
    · have h' : 3000 < t.size := by omega
      go_enter Tryd.func7, Tryd.ntmps7
      go_wp2_with fail
      refine (awake_any _ HW.out).mono ?_
      rintro e w9 ⟨rfl, hb9⟩
      have HB9 := Lib.hid hb9
      clear hb9
      go_wp2_with fail
      go_ret
      exact ⟨rfl, HB9.out⟩
  · have h' : 3000 < s.size := by omega
    go_enter Tryd.func7, Tryd.ntmps7
    go_wp2_with fail
    refine (awake_any _ HW.out).mono ?_
    rintro e w9 ⟨rfl, hb9⟩
    have HB9 := Lib.hid hb9
    clear hb9
    go_wp2_with fail
    go_ret
    exact ⟨rfl, HB9.out⟩
end Go.Proofs.YtjedhlgflocjoaaDoor
