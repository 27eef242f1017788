/- Words: the laws Tokens and Parse. -/
import Derived.Test.YtjedhlgflocjoaaDoorWo23
namespace Go.Proofs.YtjedhlgflocjoaaDoor
open Go.ChangeShapes Go.WideShapes Go.ChangeAt Go.RowKit Go.Sort
set_option linter.unusedVariables false
set_option linter.unusedSimpArgs false
theorem below_all {w W W' : World} (h : Below w.heap.size w W) (h' : Below W.heap.size W W') : Below w.heap.size w W' := h.trans (h'.mono h.size)
set_option maxHeartbeats 2000000 in
theorem law_tokens (s : ByteArray) (w : World) (hw : Env w) : Calls Tryd.prog 3 #[.string s] w fun e w' => e = .returned (.bool true) ∧ Below w.heap.size w w' := by
  have HW := Lib.hid hw
  clear hw
  by_cases h : s.size ≤ 3000
  · have HT : Hid (∀ W, Calls Tryd.prog 12 #[.string s] W fun e w' => ∃ v, e = .returned v ∧ StrsAt w' v (Wd.tokens s.data.toList) ∧ Below W.heap.size W w') := Lib.hid (fun W => by
      refine (tokens_any s W (by omega)).mono ?_
      rintro e w' ⟨v, rfl, hs⟩
      exact ⟨v, rfl, hs.reads, hs.below⟩)
    have HRT : Hid (∀ W, Calls Tryd.prog 13 #[.string s] W fun e w' => ∃ v, e = .returned v ∧ StrsAt w' v (Wd.tokens s.data.toList) ∧ Below W.heap.size W w') := Lib.hid (fun W => by
      refine (rtokens_any s W (by omega)).mono ?_
      rintro e w' ⟨v, rfl, hs⟩
      exact ⟨v, rfl, hs.reads, hs.below⟩)
    have HI : Hid (∀ W, Calls Tryd.prog 16 #[.string s] W fun e w' => ∃ v, e = .returned v ∧ StrsAt w' v (Wd.index s.data.toList) ∧ Below W.heap.size W w') := Lib.hid (fun W => by
      refine (index_any s W (by omega)).mono ?_
      rintro e w' ⟨v, rfl, hs⟩
      exact ⟨v, rfl, hs.reads, hs.below⟩)
    have HRI : Hid (∀ W, Env W → Calls Tryd.prog 17 #[.string s] W fun e w' => ∃ v, e = .returned v ∧ StrsAt w' v (Wd.index s.data.toList) ∧ Below W.heap.size W w') := Lib.hid (fun W hW => by
      refine (rindex_any s W hW (by omega)).mono ?_
      rintro e w' ⟨v, rfl, hs, hb, _⟩
      exact ⟨v, rfl, hs, hb⟩)
    have HST : Hid (∀ W, Calls Tryd.prog 14 #[.string s] W fun e w' => e = .returned (.string (Wd.bs (Wd.stem s.data.toList))) ∧ W = w') := Lib.hid (fun W => stem_any s W (by omega))
    have HRS : Hid (∀ W, Calls Tryd.prog 15 #[.string s] W fun e w' => e = .returned (.string (Wd.bs (Wd.stem s.data.toList))) ∧ W = w') := Lib.hid (fun W => rstem_any s W (by omega))
    have HL1 : Hid ((Wd.tokens s.data.toList).length ≤ 1000000) := Lib.hid (by have := Wd.tokens_len s.data.toList; rw [size_list] at this; omega)
    have HL2 : Hid ((Wd.index s.data.toList).length ≤ 1000000) := Lib.hid (by
      show ((Wd.uniq (Wd.stemsOf (Wd.tokens s.data.toList))).take 128).length ≤ _
      rw [List.length_take]; omega)
    generalize Wd.tokens s.data.toList = lt at *
    generalize Wd.index s.data.toList = li at *
    generalize Wd.bs (Wd.stem s.data.toList) = st at *
    go_enter Tryd.func3, Tryd.ntmps3
    go_wp2_with fail
    refine (HT.out _).mono ?_
    rintro e w1 ⟨v1, rfl, hv1, hb1⟩
    have HV1 := Lib.hid hv1
    have HB1 := Lib.hid hb1
    clear hv1 hb1
    go_wp2_with fail
    refine (HRT.out _).mono ?_
    rintro e w2 ⟨v2, rfl, hv2, hb2⟩
    have HV1 := Lib.hid (HV1.out.keep hb2)
    have HV2 := Lib.hid hv2
    have HB2 := Lib.hid (below_all HB1.out hb2)
    clear hv2 hb2 HB1
    go_wp2_with fail
    refine (eq_at v1 v2 lt _ HL1.out HV1.out HV2.out).mono ?_
    rintro e w3 ⟨rfl, hb3⟩
    have HB3 := Lib.hid (below_all HB2.out hb3)
    clear hb3 HB2
    go_wp2_with fail
    refine (HST.out _).mono ?_
    rintro e w4 ⟨rfl, rfl⟩
    go_wp2_with fail
    refine (HRS.out _).mono ?_
    rintro e w5 ⟨rfl, rfl⟩
    go_wp2_with fail
    refine (HI.out _).mono ?_
    rintro e w6 ⟨v6, rfl, hv6, hb6⟩
    have HV6 := Lib.hid hv6
    have HB6 := Lib.hid (below_all HB3.out hb6)
    clear hv6 hb6 HB3
    go_wp2_with fail
    refine (HRI.out _ (HW.out.keep HB6.out)).mono ?_
    rintro e w7 ⟨v7, rfl, hv7, hb7⟩
    have HV6 := Lib.hid (HV6.out.keep hb7)
    have HV7 := Lib.hid hv7
    have HB7 := Lib.hid (below_all HB6.out hb7)
    clear hv7 hb7 HB6
    go_wp2_with fail
    refine (eq_at v6 v7 li _ HL2.out HV6.out HV7.out).mono ?_
    rintro e w8 ⟨rfl, hb8⟩
    have HB8 := Lib.hid (below_all HB7.out hb8)
    clear hb8 HB7
    go_wp2_with fail
    refine (awake_any _ (HW.out.keep HB8.out).b).mono ?_
    rintro e w9 ⟨rfl, hb9⟩
    have HB9 := Lib.hid (below_all HB8.out hb9)
    clear hb9 HB8
    go_wp2_with fail
    go_ret
    exact ⟨rfl, HB9.out⟩
  · have h' : 3000 < s.size := by omega
    go_enter Tryd.func3, Tryd.ntmps3
    go_wp2_with fail
    refine (awake_any _ HW.out.b).mono ?_
    rintro e w9 ⟨rfl, hb9⟩
    have HB9 := Lib.hid hb9
    clear hb9
    go_wp2_with fail
    go_ret
    exact ⟨rfl, HB9.out⟩
set_option maxHeartbeats 2000000 in
theorem law_parse (s : ByteArray) (w : World) (hw : Env w) : Calls Tryd.prog 4 #[.string s] w fun e w' => e = .returned (.bool true) ∧ Below w.heap.size w w' := by
  have HW := Lib.hid hw
  clear hw
  by_cases h : s.size ≤ 3000
  · have HP : Hid (∀ W, EnvB W → Calls Tryd.prog 18 #[.string s] W (ParseOut (Wd.parsed s.data.toList) W)) := Lib.hid (fun W hW => parse_any s W hW (by omega))
    have HRP : Hid (∀ W, Env W → Calls Tryd.prog 19 #[.string s] W (ParseOut (Wd.parsed s.data.toList) W)) := Lib.hid (fun W hW => rparse_any s W hW (by omega))
    have HL := Lib.hid (Wd.parsed_facts s.data.toList)
    have HSL := Lib.hid (size_list s)
    generalize Wd.parsed s.data.toList = q at *
    go_enter Tryd.func4, Tryd.ntmps4
    go_wp2_with fail
    refine (HP.out _ HW.out.b).mono ?_
    rintro e w1 ⟨a, b, c, rfl, h1, h2, h3, h4⟩
    have H1 := Lib.hid h1
    have H2 := Lib.hid h2
    have H3 := Lib.hid h3
    have HB1 := Lib.hid h4
    clear h1 h2 h3 h4
    go_wp2_with fail
    refine (HRP.out _ (HW.out.keep HB1.out)).mono ?_
    rintro e w2 ⟨x, y, z, rfl, h1, h2, h3, h4⟩
    have H1 := Lib.hid (H1.out.keep h4)
    have H2 := Lib.hid (H2.out.keep h4)
    have H3 := Lib.hid (H3.out.keep h4)
    have G1 := Lib.hid h1
    have G2 := Lib.hid h2
    have G3 := Lib.hid h3
    have HB2 := Lib.hid (below_all HB1.out h4)
    clear h1 h2 h3 h4 HB1
    go_wp2_with fail
    refine (eq_at a x _ _ (by have := HL.out.1; have := HSL.out; omega) H1.out G1.out).mono ?_
    rintro e w3 ⟨rfl, hb3⟩
    have H2 := Lib.hid (H2.out.keep hb3)
    have H3 := Lib.hid (H3.out.keep hb3)
    have G2 := Lib.hid (G2.out.keep hb3)
    have G3 := Lib.hid (G3.out.keep hb3)
    have HB3 := Lib.hid (below_all HB2.out hb3)
    clear hb3 HB2
    go_wp2_with fail
    refine (eq_at b y _ _ (by have := HL.out.2.2.1; have := HSL.out; omega) H2.out G2.out).mono ?_
    rintro e w4 ⟨rfl, hb4⟩
    have H3 := Lib.hid (H3.out.keep hb4)
    have G3 := Lib.hid (G3.out.keep hb4)
    have HB4 := Lib.hid (below_all HB3.out hb4)
    clear hb4 HB3
    go_wp2_with fail
    refine (eq_at c z _ _ (by have := HL.out.2.1; have := HSL.out; omega) H3.out G3.out).mono ?_
    rintro e w5 ⟨rfl, hb5⟩
    have HB5 := Lib.hid (below_all HB4.out hb5)
    clear hb5 HB4
    go_wp2_with fail
    refine (awake_any _ (HW.out.keep HB5.out).b).mono ?_
    rintro e w9 ⟨rfl, hb9⟩
    have HB9 := Lib.hid (below_all HB5.out hb9)
    clear hb9 HB5
    go_wp2_with fail
    go_ret
    exact ⟨rfl, HB9.out⟩
  · have h' : 3000 < s.size := by omega
    go_enter Tryd.func4, Tryd.ntmps4
    go_wp2_with fail
    refine (awake_any _ HW.out.b).mono ?_
    rintro e w9 ⟨rfl, hb9⟩
    have HB9 := Lib.hid hb9
    clear hb9
    go_wp2_with fail
    go_ret
    exact ⟨rfl, HB9.out⟩
end Go.Proofs.YtjedhlgflocjoaaDoor
