/- Words: Found and Score of the reference. -/
import Derived.Test.YtjedhlgflocjoaaDoorWo25
import Derived.Deep.RegionHeld3
import Derived.StillTailTactics
namespace Wd
theorem found_alt (n p g : List Str) (t : Str) : foundB n p g t = ((((n.isEmpty || n.any (has (index t))) && p.all (Go.Lib.contains (lower t))) && !g.any (has (index t))) && decide (0 < n.length + p.length)) := by
  unfold foundB
  have h : (!(n.isEmpty && p.isEmpty)) = decide (0 < n.length + p.length) := by
    cases n <;> cases p <;> simp <;> omega
  rw [h]
  cases decide (0 < n.length + p.length) <;> cases (n.isEmpty || n.any (has (index t))) <;> cases p.all (Go.Lib.contains (lower t)) <;> cases g.any (has (index t)) <;> rfl
theorem any_take (f : Str → Bool) (l : List Str) (k : Nat) (h : k < l.length) : (l.take (k + 1)).any f = ((l.take k).any f || f l[k]) := by
  rw [List.take_succ_eq_append_getElem h, List.any_append]
  simp
end Wd
namespace Go.Proofs.YtjedhlgflocjoaaDoor
open Go.ChangeShapes Go.WideShapes Go.ChangeAt Go.RowKit Go.Sort
set_option linter.unusedVariables false
set_option linter.unusedSimpArgs false
/-- what Found of the reference carries -/
structure RF (w W : World) (a p b l : Value) (n ph ng ix : List Wd.Str) : Prop where
  ha : StrsAt W a n
  hp : StrsAt W p ph
  hb : StrsAt W b ng
  hl : StrsAt W l ix
  below : Below w.heap.size w W
theorem RF.keep {w W W' : World} {a p b l : Value} {n ph ng ix : List Wd.Str} (h : RF w W a p b l n ph ng ix) (hb : Below W.heap.size W W') : RF w W' a p b l n ph ng ix :=
  ⟨h.ha.keep hb, h.hp.keep hb, h.hb.keep hb, h.hl.keep hb, below_all h.below hb⟩
theorem strs_at {W : World} {x : Option Addr} {m c : Nat} {ls : List Wd.Str} (h : StrsAt W (.slice x m c) ls) (k : Nat) (hk : k < ls.length) : ∃ g, x = some ⟨g, 0, none⟩ ∧ m = ls.length ∧ W.cell? ⟨g, k, none⟩ = some (.string (Wd.bs ls[k])) := by
  rcases h with ⟨_, rfl⟩ | ⟨g, cap, e, _, _, hc⟩
  · exact absurd hk (by simp)
  · injection e with e1 e2 e3
    exact ⟨g, e1, e2, hc k hk⟩
theorem strs_shape {W : World} {v : Value} {ls : List Wd.Str} (h : StrsAt W v ls) : ∃ x c, v = .slice x ls.length c := by
  rcases h with ⟨rfl, rfl⟩ | ⟨g, cap, rfl, _⟩
  · exact ⟨_, _, rfl⟩
  · exact ⟨_, _, rfl⟩
theorem ls_keep {wr W W' : World} {a : Addr} {v : Value} (h : Below wr.heap.size wr W ∧ W.cell? a = some v) (hb : Below W.heap.size W W') : Below wr.heap.size wr W' ∧ W'.cell? a = some v :=
  ⟨below_all h.1 hb, (hb.cell (World.block_lt_of_cell? _ _ h.2)).trans h.2⟩
set_option maxHeartbeats 1600000 in
theorem rFound_any (s t : ByteArray) (w : World) (hw : Env w) (hs : s.size ≤ 50000) (ht : t.size ≤ 50000) :
    Calls Tryd.prog 21 #[.string s, .string t] w fun e w' => e = .returned (.bool (Wd.foundS s.data.toList t.data.toList)) ∧ Below w.heap.size w w' := by
  have HF : Hid (Wd.foundS s.data.toList t.data.toList = Wd.foundB (Wd.uniq (Wd.parsed s.data.toList).need) (Wd.parsed s.data.toList).phr (Wd.uniq (Wd.parsed s.data.toList).neg) t.data.toList) := Lib.hid rfl
  rw [Wd.found_alt] at HF
  have HL0 := Wd.parsed_facts s.data.toList
  have HSL0 := size_list s
  have HL : Hid ((Wd.uniq (Wd.parsed s.data.toList).need).length ≤ 50000 ∧ (Wd.uniq (Wd.parsed s.data.toList).neg).length ≤ 50000 ∧ (Wd.parsed s.data.toList).phr.length ≤ 50001 ∧ ∀ x ∈ (Wd.parsed s.data.toList).phr, x.length ≤ 50000) := Lib.hid ⟨by omega, by omega, by omega, fun x hx => Nat.le_trans (HL0.2.2.2 x hx) (by omega)⟩
  clear HL0 HSL0
  have HW := Lib.hid hw
  have HP := Lib.hid (rparse_any s w hw hs)
  have HIX : Hid (∀ W, Env W → Calls Tryd.prog 17 #[.string t] W fun e w' => ∃ v, e = .returned v ∧ StrsAt w' v (Wd.index t.data.toList) ∧ Below W.heap.size W w') := Lib.hid (fun W hW => by
    refine (rindex_any t W hW (by omega)).mono ?_
    rintro e w' ⟨v, rfl, hs, hb, _⟩
    exact ⟨v, rfl, hs, hb⟩)
  have HLO : Hid (∀ W, Calls Tryd.prog 30 #[.string t] W fun e w' => e = .returned (.string (Wd.bs (Wd.lower t.data.toList))) ∧ Below W.heap.size W w') := Lib.hid (fun W => rlower_any t W (by omega))
  have HLZ : Hid ((Wd.bs (Wd.lower t.data.toList)).size ≤ 50000) := Lib.hid (by rw [Wd.bs_size, Wd.lower_length, size_list]; exact ht)
  have HIL : Hid ((Wd.index t.data.toList).length ≤ 1000000) := Lib.hid (by
    show ((Wd.uniq (Wd.stemsOf (Wd.tokens t.data.toList))).take 128).length ≤ _
    rw [List.length_take]; omega)
  clear hw
  generalize Wd.foundS s.data.toList t.data.toList = F at *
  generalize Wd.index t.data.toList = ix at *
  generalize Wd.lower t.data.toList = lw at *
  generalize Wd.parsed s.data.toList = q at *
  have HQP : ∀ W, Hid (ParseOut q W = fun e w' => ∃ a p b, e = .returned (.tuple #[a, p, b]) ∧ StrsAt w' a (Wd.uniq q.need) ∧ StrsAt w' p q.phr ∧ StrsAt w' b (Wd.uniq q.neg) ∧ Below W.heap.size W w') := fun W => Lib.hid rfl
  rw [(HQP _).out] at HP
  clear HQP
  generalize Wd.uniq q.need = n at *
  generalize Wd.uniq q.neg = ng at *
  generalize q.phr = ph at *
  clear q
  go_enter Tryd.func21, Tryd.ntmps21
  go_wp2_with fail
  refine HP.out.mono ?_
  rintro e w1 ⟨a, p, b, rfl, h1, h2, h3, h4⟩
  have H1 := Lib.hid h1
  have H2 := Lib.hid h2
  have H3 := Lib.hid h3
  have H4 := Lib.hid h4
  clear h1 h2 h3 h4 HP
  obtain ⟨xa, ca, rfl⟩ := strs_shape H1.out
  obtain ⟨xp, cp, rfl⟩ := strs_shape H2.out
  obtain ⟨xb, cb, rfl⟩ := strs_shape H3.out
  go_wp2_with fail
  refine (HIX.out _ (HW.out.keep H4.out)).mono ?_
  rintro e w2 ⟨l, rfl, h5, h6⟩
  have HR := Lib.hid (show RF w w2 _ _ _ l n ph ng ix from ⟨H1.out.keep h6, H2.out.keep h6, H3.out.keep h6, h5, below_all H4.out h6⟩)
  clear h5 h6 H1 H2 H3 H4 HIX
  have HHAS : Hid (∀ W x, StrsAt W l ix → Calls Tryd.prog 41 #[l, .string (Wd.bs x)] W fun e w' => e = .returned (.bool (Wd.has ix x)) ∧ W = w') := Lib.hid (fun W x h => has_any l ix (Wd.bs x) W h HIL.out)
  have hemp : ((n.length : Int) == 0) = n.isEmpty := by cases n <;> simp <;> omega
  have hnl := HL.out.1
  have hgl := HL.out.2.1
  have hpl := HL.out.2.2.1
  go_wp2_with fail
  go_loop [9, 10] (fun hv i => ∃ k : Nat, k ≤ n.length ∧ hv = .bool (n.isEmpty || (n.take k).any (Wd.has ix)) ∧ i = .int .i64 k) (fun _ i => n.length - (intOf i).toNat)
  case atStart => exact ⟨0, Nat.zero_le _, by simp, rfl⟩
  case round =>
    obtain ⟨k, hk, rfl, rfl⟩ := hrel
    by_cases hlt : k < n.length
    · obtain ⟨g, rfl, _, hc⟩ := strs_at HR.out.ha k hlt
      have HTK := Lib.hid (Wd.any_take (Wd.has ix) n k hlt)
      have HX := Lib.hid (HHAS.out w2 n[k] HR.out.hl)
      generalize n[k] = x at *
      cases hcur : (n.isEmpty || (n.take k).any (Wd.has ix)) with
      | true =>
        have HNX : Hid ((n.isEmpty || (n.take (k + 1)).any (Wd.has ix)) = true) := Lib.hid (by rw [HTK.out, ← Bool.or_assoc, hcur]; rfl)
        clear hcur HTK hemp
        go_wp2_with fail
        go_round
        case rel => exact ⟨k + 1, by omega, by rw [HNX.out], by go_num⟩
        case measure => simp [intOf] <;> omega
      | false =>
        have HNX : Hid ((n.isEmpty || (n.take (k + 1)).any (Wd.has ix)) = Wd.has ix x) := Lib.hid (by rw [HTK.out, ← Bool.or_assoc, hcur]; rfl)
        clear hcur HTK hemp
        generalize Wd.has ix x = r at *
        go_wp2_with fail
        refine HX.out.mono ?_
        rintro e w3 ⟨rfl, rfl⟩
        go_wp2_with fail
        go_round
        case rel => exact ⟨k + 1, by omega, by rw [HNX.out], by go_num⟩
        case measure => simp [intOf] <;> omega
    · obtain rfl : k = n.length := by omega
      have H1F : Hid (F = ((((n.isEmpty || (n.take n.length).any (Wd.has ix)) && ph.all (Lib.contains lw)) && !ng.any (Wd.has ix)) && decide (0 < n.length + ph.length))) := Lib.hid (by rw [List.take_of_length_le (Nat.le_refl _)]; exact HF.out)
      clear HF hemp
      generalize (n.isEmpty || (n.take n.length).any (Wd.has ix)) = r1 at *
      go_wp2_with fail
      go_loopw [9, 11] (fun hv i wr => ∃ k : Nat, k ≤ ph.length ∧ hv = .bool (r1 && (ph.take k).all (Lib.contains lw)) ∧ i = .int .i64 k ∧ Below w2.heap.size w2 wr) (fun _ i _ => ph.length - (intOf i).toNat)
      case atStart => exact ⟨0, Nat.zero_le _, by simp, rfl, Below.refl _ _⟩
      case round =>
        obtain ⟨k, hk, rfl, rfl, hbk⟩ := hrel
        have HR2 := Lib.hid (HR.out.keep hbk)
        have HBK := Lib.hid hbk
        clear hbk
        by_cases hlt : k < ph.length
        · obtain ⟨g, rfl, _, hc⟩ := strs_at HR2.out.hp k hlt
          have HTK := Lib.hid (all_take (Lib.contains lw) ph k hlt)
          have HXL : Hid (ph[k].length ≤ 50000) := Lib.hid (HL.out.2.2.2 _ (List.getElem_mem hlt))
          generalize ph[k] = x at *
          have hS0 : Below wr.heap.size wr wr.drew ∧ wr.drew.cell? ⟨g, k, none⟩ = some (.string (Wd.bs x)) := ⟨below_drewN wr 1, hc⟩
          cases hcur : (r1 && (ph.take k).all (Lib.contains lw)) with
          | false =>
            have HNX : Hid ((r1 && (ph.take (k + 1)).all (Lib.contains lw)) = false) := Lib.hid (by rw [HTK.out, ← Bool.and_assoc, hcur]; rfl)
            clear hcur HTK
            go_wp2_with fail
            go_region
            all_goals go_wp2_with fail
            all_goals go_roundw
            all_goals first
              | exact ⟨k + 1, by omega, by rw [HNX.out], by go_num, below_all HBK.out hS0.1⟩
              | (simp [intOf] <;> omega)
          | true =>
            have HNX : Hid ((r1 && (ph.take (k + 1)).all (Lib.contains lw)) = Lib.contains lw x) := Lib.hid (by rw [HTK.out, ← Bool.and_assoc, hcur]; rfl)
            clear hcur HTK
            have HWI : Hid (∀ W, Calls Tryd.prog 44 #[.string (Wd.bs x), .string (Wd.bs lw)] W fun e w' => e = .returned (.bool (Lib.contains lw x)) ∧ W = w') := Lib.hid (fun W => within_any (Wd.bs x) (Wd.bs lw) W (by have := HLZ.out; omega) (by rw [Wd.bs_size]; have := HXL.out; omega))
            generalize Lib.contains lw x = r at *
            go_wp2_with fail
            go_region_held3 (fun W => Below wr.heap.size wr W ∧ W.cell? ⟨g, k, none⟩ = some (.string (Wd.bs x))) (first | assumption | (refine ls_keep ?_ (by assumption); assumption))
              (first
                | (go_at_call 30; refine (HLO.out _).mono ?_; rintro e wq ⟨rfl, hbq⟩)
                | (go_at_call 44; refine (HWI.out _).mono ?_; rintro e wq ⟨rfl, rfl⟩))
            all_goals go_wp2_with fail
            all_goals go_roundw
            all_goals first
              | exact ⟨k + 1, by omega, by rw [HNX.out], by go_num, below_all HBK.out (And.left (by assumption))⟩
              | (simp [intOf] <;> omega)
        · obtain rfl : k = ph.length := by omega
          have H2F : Hid (F = (((r1 && (ph.take ph.length).all (Lib.contains lw)) && !ng.any (Wd.has ix)) && decide (0 < n.length + ph.length))) := Lib.hid (by rw [List.take_of_length_le (Nat.le_refl _)]; exact H1F.out)
          clear H1F HLO HLZ
          generalize (r1 && (ph.take ph.length).all (Lib.contains lw)) = r2 at *
          go_wp2_with fail
          go_loop [9, 12] (fun hv i => ∃ k : Nat, k ≤ ng.length ∧ hv = .bool (r2 && !(ng.take k).any (Wd.has ix)) ∧ i = .int .i64 k) (fun _ i => ng.length - (intOf i).toNat)
          case atStart => exact ⟨0, Nat.zero_le _, by simp, rfl⟩
          case round =>
            obtain ⟨k, hk, rfl, rfl⟩ := hrel
            by_cases hlt : k < ng.length
            · obtain ⟨g, rfl, _, hc⟩ := strs_at HR2.out.hb k hlt
              have HTK := Lib.hid (Wd.any_take (Wd.has ix) ng k hlt)
              have HX := Lib.hid (HHAS.out wr ng[k] HR2.out.hl)
              generalize ng[k] = x at *
              cases hcur : (r2 && !(ng.take k).any (Wd.has ix)) with
              | false =>
                have HNX : Hid ((r2 && !(ng.take (k + 1)).any (Wd.has ix)) = false) := Lib.hid (by rw [HTK.out, Bool.not_or, ← Bool.and_assoc, hcur]; rfl)
                clear hcur HTK
                go_wp2_with fail
                go_round
                case rel => exact ⟨k + 1, by omega, by rw [HNX.out], by go_num⟩
                case measure => simp [intOf] <;> omega
              | true =>
                have HNX : Hid ((r2 && !(ng.take (k + 1)).any (Wd.has ix)) = !Wd.has ix x) := Lib.hid (by rw [HTK.out, Bool.not_or, ← Bool.and_assoc, hcur]; rfl)
                clear hcur HTK
                cases hh : Wd.has ix x
                all_goals
                  rw [hh] at HX HNX
                  clear hh
                  go_wp2_with fail
                  refine HX.out.mono ?_
                  rintro e w3 ⟨rfl, rfl⟩
                  go_wp2_with fail
                  go_round
                  case rel => exact ⟨k + 1, by omega, by rw [HNX.out]; rfl, by go_num⟩
                  case measure => simp [intOf] <;> omega
            · obtain rfl : k = ng.length := by omega
              have H3F : Hid (F = ((r2 && !(ng.take ng.length).any (Wd.has ix)) && decide (0 < n.length + ph.length))) := Lib.hid (by rw [List.take_of_length_le (Nat.le_refl _)]; exact H2F.out)
              clear H2F
              generalize (r2 && !(ng.take ng.length).any (Wd.has ix)) = r3 at *
              cases r3 with
              | false =>
                go_wp2_with fail
                go_ret
                exact ⟨by rw [H3F.out]; rfl, HR2.out.below⟩
              | true =>
                by_cases h0 : 0 < n.length + ph.length
                · have t1 : decide ((0 : Int) < (n.length : Int) + (ph.length : Int)) = true := by simp; omega
                  have HFF : Hid (F = true) := Lib.hid (by rw [H3F.out, decide_eq_true h0]; rfl)
                  go_wp2_with fail
                  go_ret
                  exact ⟨by rw [HFF.out]; first | rfl | simp [h0], HR2.out.below⟩
                · have t1 : decide ((0 : Int) < (n.length : Int) + (ph.length : Int)) = false := by simp; omega
                  have HFF : Hid (F = false) := Lib.hid (by rw [H3F.out, decide_eq_false h0]; rfl)
                  go_wp2_with fail
                  go_ret
                  exact ⟨by rw [HFF.out]; first | rfl | simp [h0], HR2.out.below⟩
set_option maxHeartbeats 4000000 in
theorem rScore_any (s t : ByteArray) (w : World) (hw : Env w) (hs : s.size ≤ 50000) (ht : t.size ≤ 50000) :
    Calls Tryd.prog 23 #[.string s, .string t] w fun e w' => e = .returned (.int .i64 (Wd.scoreS s.data.toList t.data.toList : Nat)) ∧ Below w.heap.size w w' := by
  have HF : Hid (Wd.scoreS s.data.toList t.data.toList = if Wd.foundS s.data.toList t.data.toList then 5 * (Wd.parsed s.data.toList).phr.length + 10 * Wd.hitsB (Wd.uniq (Wd.parsed s.data.toList).need) (Wd.tokens t.data.toList) else 0) := Lib.hid rfl
  have HL0 := Wd.parsed_facts s.data.toList
  have HSL0 := size_list s
  have HL : Hid ((Wd.uniq (Wd.parsed s.data.toList).need).length ≤ 50000 ∧ (Wd.parsed s.data.toList).phr.length ≤ 50001) := Lib.hid ⟨by omega, by omega⟩
  clear HL0 HSL0
  have HW := Lib.hid hw
  have HP := Lib.hid (fun W hW => rparse_any s W hW hs)
  have HFO := Lib.hid (rFound_any s t w hw hs ht)
  have HTK : Hid (∀ W, Calls Tryd.prog 13 #[.string t] W fun e w' => ∃ v, e = .returned v ∧ StrsAt w' v (Wd.tokens t.data.toList) ∧ Below W.heap.size W w') := Lib.hid (fun W => by
    refine (rtokens_any t W (by omega)).mono ?_
    rintro e w' ⟨v, rfl, hs⟩
    exact ⟨v, rfl, hs.reads, hs.below⟩)
  have HTL : Hid ((Wd.tokens t.data.toList).length ≤ 50000) := Lib.hid (by have := Wd.tokens_len t.data.toList; rw [size_list] at this; omega)
  have HEA : Hid (∀ x ∈ Wd.tokens t.data.toList, x.length ≤ 50000) := Lib.hid (fun x hx => by have := Wd.tokens_each t.data.toList x hx; rw [size_list] at this; omega)
  clear hw
  generalize Wd.scoreS s.data.toList t.data.toList = F at *
  generalize Wd.tokens t.data.toList = ts at *
  generalize Wd.foundS s.data.toList t.data.toList = fo at *
  generalize Wd.parsed s.data.toList = q at *
  have HQP : ∀ W, Hid (ParseOut q W = fun e w' => ∃ a p b, e = .returned (.tuple #[a, p, b]) ∧ StrsAt w' a (Wd.uniq q.need) ∧ StrsAt w' p q.phr ∧ StrsAt w' b (Wd.uniq q.neg) ∧ Below W.heap.size W w') := fun W => Lib.hid rfl
  generalize Wd.uniq q.need = n at *
  generalize q.phr = ph at *
  cases fo with
  | false =>
    go_enter Tryd.func23, Tryd.ntmps23
    go_wp2_with fail
    refine HFO.out.mono ?_
    rintro e w1 ⟨rfl, hb1⟩
    have HB := Lib.hid hb1
    clear hb1
    go_wp2_with fail
    go_ret
    exact ⟨by rw [HF.out]; rfl, HB.out⟩
  | true =>
    have HR : Hid (F = 5 * ph.length + 10 * Wd.hitsB n ts) := Lib.hid (by rw [HF.out]; rfl)
    clear HF
    go_enter Tryd.func23, Tryd.ntmps23
    go_wp2_with fail
    refine HFO.out.mono ?_
    rintro e w1 ⟨rfl, hb1⟩
    have HB1 := Lib.hid hb1
    clear hb1 HFO
    go_wp2_with fail
    have HPW := Lib.hid (HP.out w1 (HW.out.keep HB1.out))
    rw [(HQP _).out] at HPW
    refine HPW.out.mono ?_
    rintro e w2 ⟨a, p, b, rfl, h1, h2, h3, h4⟩
    have HA2 := Lib.hid h1
    have HB2 := Lib.hid (below_all HB1.out h4)
    obtain ⟨xp, cp, rfl⟩ := strs_shape h2
    clear h1 h2 h3 h4 HPW HP HB1 HQP
    have hpl := HL.out.2
    go_wp2_with fail
    refine (HTK.out _).mono ?_
    rintro e w3 ⟨v, rfl, h1, h2⟩
    have HA3 := Lib.hid (HA2.out.keep h2)
    have HV3 := Lib.hid h1
    have HB3 := Lib.hid (below_all HB2.out h2)
    have HW3 := Lib.hid (HW.out.keep HB3.out)
    obtain ⟨xv, cv, rfl⟩ := strs_shape h1
    clear h1 h2 HA2 HB2 HTK
    go_wp2_with fail
    go_loop [8, 10] (fun v i => ∃ k : Nat, k ≤ ts.length ∧ v = .int .i64 ((5 * ph.length + 10 * Wd.hitsB n (ts.take k) : Nat) : Int) ∧ i = .int .i64 k) (fun _ i => ts.length - (intOf i).toNat)
    case atStart => exact ⟨0, Nat.zero_le _, by go_num, rfl⟩
    case round =>
      obtain ⟨k, hk, rfl, rfl⟩ := hrel
      have hlen := HTL.out
      have hit : Wd.hitsB n (ts.take k) ≤ 50000 := by
        have h1 := Wd.hits_le n (ts.take k)
        have h2 := List.length_take_le k ts
        omega
      by_cases hlt : k < ts.length
      · obtain ⟨g, rfl, _, hc⟩ := strs_at HV3.out k hlt
        have HTK := Lib.hid (Wd.hits_take n ts k hlt)
        have HXL : Hid (ts[k].length ≤ 50000) := Lib.hid (HEA.out _ (List.getElem_mem hlt))
        generalize Wd.hitsB n (ts.take k) = hk0 at *
        generalize ts[k] = x at *
        have HST : Hid (∀ W, Calls Tryd.prog 15 #[.string (Wd.bs x)] W fun e w' => e = .returned (.string (Wd.bs (Wd.stem x))) ∧ W = w') := Lib.hid (fun W => rstem_any (Wd.bs x) W (by rw [Wd.bs_size]; have := HXL.out; omega))
        have HHA : Hid (∀ W, StrsAt W a n → Calls Tryd.prog 41 #[a, .string (Wd.bs (Wd.stem x))] W fun e w' => e = .returned (.bool (Wd.has n (Wd.stem x))) ∧ W = w') := Lib.hid (fun W h => has_any a n (Wd.bs (Wd.stem x)) W h (by have := HL.out.1; omega))
        have HIS : Hid (Calls Tryd.prog 47 #[.string (Wd.bs x)] w3 fun e w' => e = .returned (.bool (Wd.stop x)) ∧ w3 = w') := Lib.hid (rstop_any (Wd.bs x) w3 HW3.out)
        cases hst : Wd.stop x with
        | true =>
          rw [hst] at HIS HTK
          have HTK2 : Hid (Wd.hitsB n (ts.take (k + 1)) = hk0) := Lib.hid (by rw [HTK.out]; simp)
          clear hst HTK
          go_wp2_with fail
          refine HIS.out.mono ?_
          rintro e w4 ⟨rfl, rfl⟩
          go_wp2_with fail
          go_round
          case rel => exact ⟨k + 1, by omega, by rw [HTK2.out]; go_num, by go_num⟩
          case measure => simp [intOf] <;> omega
        | false =>
          rw [hst] at HIS HTK
          clear hst
          cases hh : Wd.has n (Wd.stem x) with
          | true =>
            rw [hh] at HHA HTK
            have HTK2 : Hid (Wd.hitsB n (ts.take (k + 1)) = hk0 + 1) := Lib.hid (by rw [HTK.out]; simp)
            clear hh HTK
            go_wp2_with fail
            refine HIS.out.mono ?_
            rintro e w4 ⟨rfl, rfl⟩
            go_wp2_with fail
            refine (HST.out _).mono ?_
            rintro e w5 ⟨rfl, rfl⟩
            go_wp2_with fail
            refine (HHA.out _ HA3.out).mono ?_
            rintro e w6 ⟨rfl, rfl⟩
            go_wp2_with fail
            go_round
            case rel => exact ⟨k + 1, by omega, by rw [HTK2.out]; go_num, by go_num⟩
            case measure => simp [intOf] <;> omega
          | false =>
            rw [hh] at HHA HTK
            have HTK2 : Hid (Wd.hitsB n (ts.take (k + 1)) = hk0) := Lib.hid (by rw [HTK.out]; simp)
            clear hh HTK
            go_wp2_with fail
            refine HIS.out.mono ?_
            rintro e w4 ⟨rfl, rfl⟩
            go_wp2_with fail
            refine (HST.out _).mono ?_
            rintro e w5 ⟨rfl, rfl⟩
            go_wp2_with fail
            refine (HHA.out _ HA3.out).mono ?_
            rintro e w6 ⟨rfl, rfl⟩
            go_wp2_with fail
            go_round
            case rel => exact ⟨k + 1, by omega, by rw [HTK2.out]; go_num, by go_num⟩
            case measure => simp [intOf] <;> omega
      · obtain rfl : k = ts.length := by omega
        have HFIN : Hid (F = 5 * ph.length + 10 * Wd.hitsB n (ts.take ts.length)) := Lib.hid (by
          rw [List.take_of_length_le (Nat.le_refl _)]
          exact HR.out)
        clear HR
        generalize Wd.hitsB n (ts.take ts.length) = hk0 at *
        go_wp2_with fail
        go_ret
        exact ⟨by rw [HFIN.out]; exact congrArg (fun x => Ending.returned (Value.int .i64 x)) (by go_num), HB3.out⟩
set_option maxHeartbeats 2000000 in
theorem law_found (s t : ByteArray) (w : World) (hw : Env w) : Calls Tryd.prog 5 #[.string s, .string t] w fun e w' => e = .returned (.bool true) ∧ Below w.heap.size w w' := by
  have HW := Lib.hid hw
  clear hw
  by_cases h : s.size ≤ 3000
  · by_cases h2 : t.size ≤ 3000
    · have HA : Hid (∀ W, EnvB W → Calls Tryd.prog 20 #[.string s, .string t] W fun e w' => e = .returned (.bool (Wd.foundS s.data.toList t.data.toList)) ∧ Below W.heap.size W w') := Lib.hid (fun W hW => Found_any s t W hW (by omega) (by omega))
      have HB : Hid (∀ W, Env W → Calls Tryd.prog 21 #[.string s, .string t] W fun e w' => e = .returned (.bool (Wd.foundS s.data.toList t.data.toList)) ∧ Below W.heap.size W w') := Lib.hid (fun W hW => rFound_any s t W hW (by omega) (by omega))
      have HC : Hid (∀ W, EnvB W → Calls Tryd.prog 22 #[.string s, .string t] W fun e w' => e = .returned (.int .i64 (Wd.scoreS s.data.toList t.data.toList : Nat)) ∧ Below W.heap.size W w') := Lib.hid (fun W hW => Score_any s t W hW (by omega) (by omega))
      have HD : Hid (∀ W, Env W → Calls Tryd.prog 23 #[.string s, .string t] W fun e w' => e = .returned (.int .i64 (Wd.scoreS s.data.toList t.data.toList : Nat)) ∧ Below W.heap.size W w') := Lib.hid (fun W hW => rScore_any s t W hW (by omega) (by omega))
      generalize Wd.foundS s.data.toList t.data.toList = fo at *
      generalize Wd.scoreS s.data.toList t.data.toList = sc at *
      go_enter Tryd.func5, Tryd.ntmps5
      go_wp2_with fail
      refine (HA.out _ HW.out.b).mono ?_
      rintro e w1 ⟨rfl, hb⟩
      have HB1 := Lib.hid hb
      clear hb
      go_wp2_with fail
      refine (HB.out _ (HW.out.keep HB1.out)).mono ?_
      rintro e w2 ⟨rfl, hb⟩
      have HB2 := Lib.hid (below_all HB1.out hb)
      clear hb HB1
      go_wp2_with fail
      refine (HC.out _ (HW.out.keep HB2.out).b).mono ?_
      rintro e w3 ⟨rfl, hb⟩
      have HB3 := Lib.hid (below_all HB2.out hb)
      clear hb HB2
      go_wp2_with fail
      refine (HD.out _ (HW.out.keep HB3.out)).mono ?_
      rintro e w4 ⟨rfl, hb⟩
      have HB4 := Lib.hid (below_all HB3.out hb)
      clear hb HB3
      go_wp2_with fail
      refine (awake_any _ (HW.out.keep HB4.out).b).mono ?_
      rintro e w5 ⟨rfl, hb⟩
      have HB5 := Lib.hid (below_all HB4.out hb)
      clear hb HB4
      go_wp2_with fail
      go_ret
      exact ⟨rfl, HB5.out⟩
    · have h' : 3000 < t.size := by omega
      go_enter Tryd.func5, Tryd.ntmps5
      go_wp2_with fail
      refine (awake_any _ HW.out.b).mono ?_
      rintro e w9 ⟨rfl, hb9⟩
      have HB9 := Lib.hid hb9
      clear hb9
      go_wp2_with fail
      go_ret
      exact ⟨rfl, HB9.out⟩
  · have h' : 3000 < s.size := by omega
    go_enter Tryd.func5, Tryd.ntmps5
    go_wp2_with fail
    refine (awake_any _ HW.out.b).mono ?_
    rintro e w9 ⟨rfl, hb9⟩
    have HB9 := Lib.hid hb9
    clear hb9
    go_wp2_with fail
    go_ret
    exact ⟨rfl, HB9.out⟩
end Go.Proofs.YtjedhlgflocjoaaDoor
