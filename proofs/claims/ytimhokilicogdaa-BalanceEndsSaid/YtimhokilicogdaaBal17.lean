/- Balance: Next, the loop . -/
import Derived.Test.YtimhokilicogdaaBal16
import Derived.Outline
namespace Go.Proofs.Ytimhokilicogdaa
open Go.ChangeShapes Go.WideShapes Go.ChangeAt Go.RowKit
set_option linter.unusedVariables false
set_option linter.unusedSimpArgs false
theorem calls_named {P : Program} {f : Nat} {args : Array Value} {K : Ending → World → Prop} {w : World} (F : World → Prop) (hF : F w) (h : ∀ W, F W → Calls P f args W K) : Calls P f args w K := h w hF
set_option maxRecDepth 100000 in
set_option maxHeartbeats 4000000 in
theorem next_yes (sp : ByteArray) (ks : Value) (hs : Bool) (ep vr : Int) (ch : Value) (cs : List Ch) (n : Nat) (dr : Value) (xs : List Int) (w : World) (h1 : 1 ≤ n) (h8 : n ≤ 8) (hsm : cs.length ≤ 1000000) (hc : ChsIn w ch cs) (hd : IntsIn w dr xs) :
    Calls Try.prog 11 #[rts sp ks hs ep vr ch, .int .i64 n, dr] w fun e w' => e = .returned (propV cs (wayOf cs xs n)) ∧ Below w.heap.size w w' := by
  have HC := Lib.hid hc
  have HD := Lib.hid hd
  clear hc hd
  go_enter Try.func11, Try.ntmps11
  go_wp2_with fail
  have HW0 : Hid (Below w.heap.size w ((w.alloc (.cells #[.string sp, ks, .bool hs, .int .i64 ep, .int .i64 vr, ch] 27)).alloc (.cells #[.string ⟨#[]⟩, .int .i64 0, .int .i64 0] 34))) := Lib.hid (((Below.refl _ _).alloc (Nat.le_refl _) _).alloc (by simp) _)
  refine (count_any sp ks hs ep vr ch cs n false _ h1 h8 (HC.out.below HW0.out)).mono ?_
  rintro e w1 ⟨⟨b, hee, hb1, hb2, hN⟩, hb⟩
  subst hee
  have hz : w.heap.size + 2 ≤ b := by simpa using hb1
  have c5 : w1.cell? ⟨w.heap.size, 5, none⟩ = some ch := by rw [(bcell hb).1 _ _ (by simp; omega)]; simp [go_sem]
  have r0 : w1.cell? ⟨w.heap.size + 1, 0, none⟩ = some (.string ⟨#[]⟩) := by rw [(bcell hb).1 _ _ (by simp)]; simp [go_sem]
  have r1 : w1.cell? ⟨w.heap.size + 1, 1, none⟩ = some (.int .i64 0) := by rw [(bcell hb).1 _ _ (by simp)]; simp [go_sem]
  have r2 : w1.cell? ⟨w.heap.size + 1, 2, none⟩ = some (.int .i64 0) := by rw [(bcell hb).1 _ _ (by simp)]; simp [go_sem]
  have f0 : w1.frozen? ⟨w.heap.size + 1, 0, none⟩ = false := by rw [(bcell hb).2 _ _ (by simp)]; simp [go_sem]
  have f1 : w1.frozen? ⟨w.heap.size + 1, 1, none⟩ = false := by rw [(bcell hb).2 _ _ (by simp)]; simp [go_sem]
  have f2 : w1.frozen? ⟨w.heap.size + 1, 2, none⟩ = false := by rw [(bcell hb).2 _ _ (by simp)]; simp [go_sem]
  have HN := Lib.hid hN
  have HB : Hid (Below w.heap.size w w1) := Lib.hid (HW0.out.trans (hb.mono (by simp; omega)))
  have hD1 : Hid (IntsIn w1 dr xs) := Lib.hid (HD.out.below HB.out)
  have hC1 : Hid (ChsIn w1 ch cs) := Lib.hid (HC.out.below HB.out)
  have hy0 : w.heap.size < w1.heap.size := by omega
  have hy1 : w.heap.size + 1 < w1.heap.size := by omega
  clear hN hb hb1 HW0 HD HC
  rw [counts_len]
  go_wp2_with fail
  go_loop [9, 10, 11, 21] (fun t f e i => ∃ k : Nat, k ≤ n ∧ i = .int .i64 k ∧ t = .int .i64 (oi (toOf cs xs k)) ∧ f = .int .i64 (oi (fullOf cs xs k)) ∧ e = .int .i64 (oi (emptyOf cs xs k))) (fun _ _ _ i => n - (intOf i).toNat)
  case atStart => exact ⟨0, Nat.zero_le _, rfl, rfl, rfl, rfl⟩
  case round =>
    obtain ⟨k, hk, rfl, ht, hf, he⟩ := hrel
    have HCELL : Hid (∀ s, s < n → w1.cell? ⟨b, s, none⟩ = some (.int .i64 (ldf cs s))) := Lib.hid (fun s hs => by
      rw [HN.out.cell s (by rw [counts_len]; exact hs), ldf_counts])
    by_cases hlt : k < n
    · have ck := HCELL.out k hlt
      have hnn := ldf_nonneg cs k
      by_cases hd : (k : Int) ∈ xs
      · have hdk : drn xs k = true := by simp [drn, hd]
        have ET : Hid (toOf cs xs (k + 1) = toOf cs xs k) := Lib.hid (pick_no (by simp [hdk]))
        have EF : Hid (fullOf cs xs (k + 1) = fullOf cs xs k) := Lib.hid (pick_no (by simp [hdk]))
        subst ht hf
        by_cases hp : 0 < ldf cs k
        · cases hek : emptyOf cs xs k with
          | none =>
            have EE : Hid (emptyOf cs xs (k + 1) = some k) := Lib.hid (pick_first (by simp [hdk, hp]) hek)
            rw [hek] at he
            change _ = Value.int .i64 (-1) at he
            subst he
            go_wp2_with (go_at_call 20; refine (contains_any dr xs _ _ hD1.out).mono ?_; rintro e w2 ⟨he2, hw2⟩; rw [decide_eq_true hd] at he2; subst he2; subst hw2)
            all_goals go_round
            all_goals first
              | exact ⟨k + 1, by omega, by go_num, by rw [ET.out]; try rfl, by rw [EF.out]; try rfl, by rw [EE.out]; try rfl⟩
              | (simp [intOf]; omega)
          | some m =>
            have hm := pick_lt hek
            have cm := HCELL.out m (by omega)
            have hmn : m < n := by omega
            rw [hek] at he
            change _ = Value.int .i64 (m : Int) at he
            subst he
            by_cases hb : ldf cs m < ldf cs k
            · have EE : Hid (emptyOf cs xs (k + 1) = some k) := Lib.hid (pick_better (by simp [hdk, hp]) hek (by simp [more, hb]))
              go_wp2_with (go_at_call 20; refine (contains_any dr xs _ _ hD1.out).mono ?_; rintro e w2 ⟨he2, hw2⟩; rw [decide_eq_true hd] at he2; subst he2; subst hw2)
              all_goals go_round
              all_goals first
                | exact ⟨k + 1, by omega, by go_num, by rw [ET.out]; try rfl, by rw [EF.out]; try rfl, by rw [EE.out]; try rfl⟩
                | (simp [intOf]; omega)
            · have EE : Hid (emptyOf cs xs (k + 1) = some m) := Lib.hid (pick_worse hek (by simp [more, hb]))
              go_wp2_with (go_at_call 20; refine (contains_any dr xs _ _ hD1.out).mono ?_; rintro e w2 ⟨he2, hw2⟩; rw [decide_eq_true hd] at he2; subst he2; subst hw2)
              all_goals go_round
              all_goals first
                | exact ⟨k + 1, by omega, by go_num, by rw [ET.out]; try rfl, by rw [EF.out]; try rfl, by rw [EE.out]; try rfl⟩
                | (simp [intOf]; omega)
        · have EE : Hid (emptyOf cs xs (k + 1) = emptyOf cs xs k) := Lib.hid (pick_no (by simp [hp]))
          subst he
          go_wp2_with (go_at_call 20; refine (contains_any dr xs _ _ hD1.out).mono ?_; rintro e w2 ⟨he2, hw2⟩; rw [decide_eq_true hd] at he2; subst he2; subst hw2)
          all_goals go_round
          all_goals first
            | exact ⟨k + 1, by omega, by go_num, by rw [ET.out]; try rfl, by rw [EF.out]; try rfl, by rw [EE.out]; try rfl⟩
            | (simp [intOf]; omega)
      · have hdk : drn xs k = false := by simp [drn, hd]
        have EE : Hid (emptyOf cs xs (k + 1) = emptyOf cs xs k) := Lib.hid (pick_no (by simp [hdk]))
        subst he
        cases htk : toOf cs xs k with
        | none =>
          have ET : Hid (toOf cs xs (k + 1) = some k) := Lib.hid (pick_first (by simp [hdk]) htk)
          rw [htk] at ht
          change _ = Value.int .i64 (-1) at ht
          subst ht
          cases hfk : fullOf cs xs k with
          | none =>
            have EF : Hid (fullOf cs xs (k + 1) = some k) := Lib.hid (pick_first (by simp [hdk]) hfk)
            rw [hfk] at hf
            change _ = Value.int .i64 (-1) at hf
            subst hf
            go_wp2_with (go_at_call 20; refine (contains_any dr xs _ _ hD1.out).mono ?_; rintro e w2 ⟨he2, hw2⟩; rw [decide_eq_false hd] at he2; subst he2; subst hw2)
            all_goals go_round
            all_goals first
              | exact ⟨k + 1, by omega, by go_num, by rw [ET.out]; try rfl, by rw [EF.out]; try rfl, by rw [EE.out]; try rfl⟩
              | (simp [intOf]; omega)
          | some m =>
            have hm := pick_lt hfk
            have cm := HCELL.out m (by omega)
            have hmn : m < n := by omega
            rw [hfk] at hf
            change _ = Value.int .i64 (m : Int) at hf
            subst hf
            by_cases hb : ldf cs m < ldf cs k
            · have EF : Hid (fullOf cs xs (k + 1) = some k) := Lib.hid (pick_better (by simp [hdk]) hfk (by simp [more, hb]))
              go_wp2_with (go_at_call 20; refine (contains_any dr xs _ _ hD1.out).mono ?_; rintro e w2 ⟨he2, hw2⟩; rw [decide_eq_false hd] at he2; subst he2; subst hw2)
              all_goals go_round
              all_goals first
                | exact ⟨k + 1, by omega, by go_num, by rw [ET.out]; try rfl, by rw [EF.out]; try rfl, by rw [EE.out]; try rfl⟩
                | (simp [intOf]; omega)
            · have EF : Hid (fullOf cs xs (k + 1) = some m) := Lib.hid (pick_worse hfk (by simp [more, hb]))
              go_wp2_with (go_at_call 20; refine (contains_any dr xs _ _ hD1.out).mono ?_; rintro e w2 ⟨he2, hw2⟩; rw [decide_eq_false hd] at he2; subst he2; subst hw2)
              all_goals go_round
              all_goals first
                | exact ⟨k + 1, by omega, by go_num, by rw [ET.out]; try rfl, by rw [EF.out]; try rfl, by rw [EE.out]; try rfl⟩
                | (simp [intOf]; omega)
        | some q =>
          have hq := pick_lt htk
          have cq := HCELL.out q (by omega)
          have hqn : q < n := by omega
          rw [htk] at ht
          change _ = Value.int .i64 (q : Int) at ht
          subst ht
          by_cases hbt : ldf cs k < ldf cs q
          · have ET : Hid (toOf cs xs (k + 1) = some k) := Lib.hid (pick_better (by simp [hdk]) htk (by simp [less, hbt]))
            cases hfk : fullOf cs xs k with
            | none =>
              have EF : Hid (fullOf cs xs (k + 1) = some k) := Lib.hid (pick_first (by simp [hdk]) hfk)
              rw [hfk] at hf
              change _ = Value.int .i64 (-1) at hf
              subst hf
              go_wp2_with (go_at_call 20; refine (contains_any dr xs _ _ hD1.out).mono ?_; rintro e w2 ⟨he2, hw2⟩; rw [decide_eq_false hd] at he2; subst he2; subst hw2)
              all_goals go_round
              all_goals first
                | exact ⟨k + 1, by omega, by go_num, by rw [ET.out]; try rfl, by rw [EF.out]; try rfl, by rw [EE.out]; try rfl⟩
                | (simp [intOf]; omega)
            | some m =>
              have hm := pick_lt hfk
              have cm := HCELL.out m (by omega)
              have hmn : m < n := by omega
              rw [hfk] at hf
              change _ = Value.int .i64 (m : Int) at hf
              subst hf
              by_cases hb : ldf cs m < ldf cs k
              · have EF : Hid (fullOf cs xs (k + 1) = some k) := Lib.hid (pick_better (by simp [hdk]) hfk (by simp [more, hb]))
                go_wp2_with (go_at_call 20; refine (contains_any dr xs _ _ hD1.out).mono ?_; rintro e w2 ⟨he2, hw2⟩; rw [decide_eq_false hd] at he2; subst he2; subst hw2)
                all_goals go_round
                all_goals first
                  | exact ⟨k + 1, by omega, by go_num, by rw [ET.out]; try rfl, by rw [EF.out]; try rfl, by rw [EE.out]; try rfl⟩
                  | (simp [intOf]; omega)
              · have EF : Hid (fullOf cs xs (k + 1) = some m) := Lib.hid (pick_worse hfk (by simp [more, hb]))
                go_wp2_with (go_at_call 20; refine (contains_any dr xs _ _ hD1.out).mono ?_; rintro e w2 ⟨he2, hw2⟩; rw [decide_eq_false hd] at he2; subst he2; subst hw2)
                all_goals go_round
                all_goals first
                  | exact ⟨k + 1, by omega, by go_num, by rw [ET.out]; try rfl, by rw [EF.out]; try rfl, by rw [EE.out]; try rfl⟩
                  | (simp [intOf]; omega)
          · have ET : Hid (toOf cs xs (k + 1) = some q) := Lib.hid (pick_worse htk (by simp [less, hbt]))
            cases hfk : fullOf cs xs k with
            | none =>
              have EF : Hid (fullOf cs xs (k + 1) = some k) := Lib.hid (pick_first (by simp [hdk]) hfk)
              rw [hfk] at hf
              change _ = Value.int .i64 (-1) at hf
              subst hf
              go_wp2_with (go_at_call 20; refine (contains_any dr xs _ _ hD1.out).mono ?_; rintro e w2 ⟨he2, hw2⟩; rw [decide_eq_false hd] at he2; subst he2; subst hw2)
              all_goals go_round
              all_goals first
                | exact ⟨k + 1, by omega, by go_num, by rw [ET.out]; try rfl, by rw [EF.out]; try rfl, by rw [EE.out]; try rfl⟩
                | (simp [intOf]; omega)
            | some m =>
              have hm := pick_lt hfk
              have cm := HCELL.out m (by omega)
              have hmn : m < n := by omega
              rw [hfk] at hf
              change _ = Value.int .i64 (m : Int) at hf
              subst hf
              by_cases hb : ldf cs m < ldf cs k
              · have EF : Hid (fullOf cs xs (k + 1) = some k) := Lib.hid (pick_better (by simp [hdk]) hfk (by simp [more, hb]))
                go_wp2_with (go_at_call 20; refine (contains_any dr xs _ _ hD1.out).mono ?_; rintro e w2 ⟨he2, hw2⟩; rw [decide_eq_false hd] at he2; subst he2; subst hw2)
                all_goals go_round
                all_goals first
                  | exact ⟨k + 1, by omega, by go_num, by rw [ET.out]; try rfl, by rw [EF.out]; try rfl, by rw [EE.out]; try rfl⟩
                  | (simp [intOf]; omega)
              · have EF : Hid (fullOf cs xs (k + 1) = some m) := Lib.hid (pick_worse hfk (by simp [more, hb]))
                go_wp2_with (go_at_call 20; refine (contains_any dr xs _ _ hD1.out).mono ?_; rintro e w2 ⟨he2, hw2⟩; rw [decide_eq_false hd] at he2; subst he2; subst hw2)
                all_goals go_round
                all_goals first
                  | exact ⟨k + 1, by omega, by go_num, by rw [ET.out]; try rfl, by rw [EF.out]; try rfl, by rw [EE.out]; try rfl⟩
                  | (simp [intOf]; omega)
    · have hkn : k = n := by omega
      subst hkn
      cases htk : toOf cs xs k with
      | none =>
        have HW : Hid (wayOf cs xs k = none) := Lib.hid (by simp [wayOf, htk])
        rw [htk] at ht
        change _ = Value.int .i64 (-1) at ht
        subst ht hf he
        go_wp2_with fail
        rw [HW.out]
        refine bodyPost_ret (v := propV cs none) (by simp [results, Try.results11, go_sem, propV, r0, r1, r2, hy1]) rfl ⟨rfl, ?_⟩
        exact ((HB.out.setCell (by simp) _).setCell (by simp) _).setCell (by simp) _
      | some t =>
        have hq := pick_lt htk
        have cq := HCELL.out t (by omega)
        rw [htk] at ht
        change _ = Value.int .i64 (t : Int) at ht
        subst ht
        cases hek : emptyOf cs xs k with
        | some m =>
          have HW : Hid (wayOf cs xs k = some (m, t)) := Lib.hid (by simp [wayOf, htk, hek])
          have hm := pick_lt hek
          rw [hek] at he
          change _ = Value.int .i64 (m : Int) at he
          subst he hf
          have hpos := way_pos HW.out
          rcases hC1.out with ⟨rfl, _⟩ | ⟨B, o, cap, rfl, hB, _, hl, hcs⟩
          · exfalso
            obtain ⟨c, hc, _⟩ := fit_ex hpos.1
            simp at hc
          have HIX : Hid (cs.findIdx (fit m) < cs.length) := Lib.hid (by
            obtain ⟨c, hc1, hc2⟩ := fit_ex hpos.1
            exact List.findIdx_lt_length_of_exists ⟨c, hc1, hc2⟩)
          have HCS := Lib.hid hcs
          clear hcs
          go_wp2_with fail
          refine calls_named (fun W => W.cell? ⟨w1.heap.size, 0, none⟩ = some (.int .i64 (m : Int)) ∧ w1.heap.size < W.heap.size ∧ Below w1.heap.size w1 W) ⟨by simp [go_sem], by simp, by repeat' (first | exact Below.refl _ _ | refine Below.drew ?_ | refine Below.setCell ?_ (by simp) _ | refine Below.alloc ?_ (by first | omega | (simp; omega) | simp) _)⟩ ?_
          rintro W ⟨hWf, hWs, hWb⟩
          have HWC : Hid (∀ j (h : j < cs.length), W.rangeAt B (o + j * 5) cs[j].cells) := Lib.hid (fun j h i u hu => (hWb.cell (p := ⟨B, o + j * 5 + i, none⟩) hB).trans (HCS.out j h i u hu))
          refine (idxf_in B o cap cs _ (m : Int) W hl (by omega) HWC.out hWs hWf (fit_ex hpos.1)).mono ?_
          rintro e w2 ⟨rfl, hb2'⟩
          have hb12 : Below w1.heap.size w1 w2 := hWb.trans (hb2'.mono (by omega))
          have hs2 : w1.heap.size < w2.heap.size := by have := hb2'.size; omega
          have fr : w2.cell? ⟨w1.heap.size, 0, none⟩ = some (.int .i64 (m : Int)) := (hb2'.cell (p := ⟨w1.heap.size, 0, none⟩) hWs).trans hWf
          have d5 := ((bcell hb12).1 _ _ hy0).trans c5
          have s0 := ((bcell hb12).1 _ _ hy1).trans r0
          have s1 := ((bcell hb12).1 _ _ hy1).trans r1
          have s2 := ((bcell hb12).1 _ _ hy1).trans r2
          have e0 := ((bcell hb12).2 _ _ hy1).trans f0
          have e1 := ((bcell hb12).2 _ _ hy1).trans f1
          have e2 := ((bcell hb12).2 _ _ hy1).trans f2
          have HB2 : Hid (Below w.heap.size w w2) := Lib.hid (HB.out.trans (hb12.mono (by omega)))
          have hix := HIX.out
          have glo : w2.cell? ⟨B, o + cs.findIdx (fit m) * 5, none⟩ = some (.string (cs[cs.findIdx (fit m)]'hix).lo) := (hb12.cell (p := ⟨B, o + cs.findIdx (fit m) * 5, none⟩) hB).trans (HCS.out _ hix 0 _ rfl)
          have HP : Hid (propV cs (wayOf cs xs k) = .tuple #[.agg #[.string (cs[cs.findIdx (fit m)]'hix).lo, .int .i64 m, .int .i64 t], .bool true]) := Lib.hid (by rw [HW.out]; simp [propV, hix])
          generalize (cs[cs.findIdx (fit m)]'hix).lo = L at glo HP
          generalize cs.findIdx (fit m) = ix at glo hix ⊢
          clear hb2' hb12 hWb hWf HWC HIX
          go_wp2_with fail
          go_region
          all_goals (try go_wp2_with fail)
          refine bodyPost_ret (v := .tuple #[.agg #[.string L, .int .i64 m, .int .i64 t], .bool true]) (by simp [results, Try.results11, go_sem, s0, s1, s2, hs2]) rfl ⟨by rw [HP.out], ?_⟩
          repeat' (first | with_reducible exact HB2.out | refine Below.drew ?_ | refine Below.setCell ?_ (by simp) _ | refine Below.alloc ?_ (by first | omega | (simp; omega) | simp) _)
        | none =>
          rw [hek] at he
          change _ = Value.int .i64 (-1) at he
          subst he
          obtain ⟨m, hfk⟩ := full_some htk
          have hm := pick_lt hfk
          have cm := HCELL.out m (by omega)
          rw [hfk] at hf
          change _ = Value.int .i64 (m : Int) at hf
          subst hf
          have l1 : ldf cs t ≤ 1000000 := by have := cntOf_le cs false t; unfold ldf; omega
          have l2 := ldf_nonneg cs t
          by_cases hlt2 : ldf cs m < ldf cs t + 2
          · have HW : Hid (wayOf cs xs k = none) := Lib.hid (by simp [wayOf, htk, hek, hfk, hlt2])
            go_wp2_with fail
            go_region
            all_goals (try go_wp2_with fail)
            all_goals (rw [HW.out]; refine bodyPost_ret (v := propV cs none) (by simp [results, Try.results11, go_sem, propV, r0, r1, r2, hy1]) rfl ⟨rfl, ?_⟩)
            repeat' (first | with_reducible exact HB.out | refine Below.drew ?_ | refine Below.setCell ?_ (by simp) _ | refine Below.alloc ?_ (by first | omega | (simp; omega) | simp) _)
          · have HW : Hid (wayOf cs xs k = some (m, t)) := Lib.hid (by simp [wayOf, htk, hek, hfk, hlt2])
            have hpos := way_pos HW.out
            rcases hC1.out with ⟨rfl, _⟩ | ⟨B, o, cap, rfl, hB, _, hl, hcs⟩
            · exfalso
              obtain ⟨c, hc, _⟩ := fit_ex hpos.1
              simp at hc
            have HIX : Hid (cs.findIdx (fit m) < cs.length) := Lib.hid (by
              obtain ⟨c, hc1, hc2⟩ := fit_ex hpos.1
              exact List.findIdx_lt_length_of_exists ⟨c, hc1, hc2⟩)
            have HCS := Lib.hid hcs
            clear hcs
            go_wp2_with fail
            go_region
            all_goals (try go_wp2_with fail)
            refine calls_named (fun W => W.cell? ⟨w1.heap.size, 0, none⟩ = some (.int .i64 (m : Int)) ∧ w1.heap.size < W.heap.size ∧ Below w1.heap.size w1 W) ⟨by simp [go_sem], by simp, by repeat' (first | exact Below.refl _ _ | refine Below.drew ?_ | refine Below.setCell ?_ (by simp) _ | refine Below.alloc ?_ (by first | omega | (simp; omega) | simp) _)⟩ ?_
            rintro W ⟨hWf, hWs, hWb⟩
            have HWC : Hid (∀ j (h : j < cs.length), W.rangeAt B (o + j * 5) cs[j].cells) := Lib.hid (fun j h i u hu => (hWb.cell (p := ⟨B, o + j * 5 + i, none⟩) hB).trans (HCS.out j h i u hu))
            refine (idxf_in B o cap cs _ (m : Int) W hl (by omega) HWC.out hWs hWf (fit_ex hpos.1)).mono ?_
            rintro e w2 ⟨rfl, hb2'⟩
            have hb12 : Below w1.heap.size w1 w2 := hWb.trans (hb2'.mono (by omega))
            have hs2 : w1.heap.size < w2.heap.size := by have := hb2'.size; omega
            have fr : w2.cell? ⟨w1.heap.size, 0, none⟩ = some (.int .i64 (m : Int)) := (hb2'.cell (p := ⟨w1.heap.size, 0, none⟩) hWs).trans hWf
            have d5 := ((bcell hb12).1 _ _ hy0).trans c5
            have s0 := ((bcell hb12).1 _ _ hy1).trans r0
            have s1 := ((bcell hb12).1 _ _ hy1).trans r1
            have s2 := ((bcell hb12).1 _ _ hy1).trans r2
            have e0 := ((bcell hb12).2 _ _ hy1).trans f0
            have e1 := ((bcell hb12).2 _ _ hy1).trans f1
            have e2 := ((bcell hb12).2 _ _ hy1).trans f2
            have HB2 : Hid (Below w.heap.size w w2) := Lib.hid (HB.out.trans (hb12.mono (by omega)))
            have hix := HIX.out
            have glo : w2.cell? ⟨B, o + cs.findIdx (fit m) * 5, none⟩ = some (.string (cs[cs.findIdx (fit m)]'hix).lo) := (hb12.cell (p := ⟨B, o + cs.findIdx (fit m) * 5, none⟩) hB).trans (HCS.out _ hix 0 _ rfl)
            have HP : Hid (propV cs (wayOf cs xs k) = .tuple #[.agg #[.string (cs[cs.findIdx (fit m)]'hix).lo, .int .i64 m, .int .i64 t], .bool true]) := Lib.hid (by rw [HW.out]; simp [propV, hix])
            generalize (cs[cs.findIdx (fit m)]'hix).lo = L at glo HP
            generalize cs.findIdx (fit m) = ix at glo hix ⊢
            clear hb2' hb12 hWb hWf HWC HIX
            go_wp2_with fail
            go_region
            all_goals (try go_wp2_with fail)
            refine bodyPost_ret (v := .tuple #[.agg #[.string L, .int .i64 m, .int .i64 t], .bool true]) (by simp [results, Try.results11, go_sem, s0, s1, s2, hs2]) rfl ⟨by rw [HP.out], ?_⟩
            repeat' (first | with_reducible exact HB2.out | refine Below.drew ?_ | refine Below.setCell ?_ (by simp) _ | refine Below.alloc ?_ (by first | omega | (simp; omega) | simp) _)
end Go.Proofs.Ytimhokilicogdaa
