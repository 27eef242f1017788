/- Balance: the reference's Next (exploration). -/
import Derived.Test.YtimhokilicogdaaBal24
import Derived.Deep.RegionHeld3
import Derived.Deep.QuietTactic
import Derived.BigQuiet
import Derived.Outline
namespace Go.Proofs.Ytimhokilicogdaa
open Go.ChangeShapes Go.WideShapes Go.ChangeAt Go.RowKit Go.Deep
set_option linter.unusedVariables false
set_option linter.unusedSimpArgs false
set_option maxRecDepth 100000 in
set_option maxHeartbeats 2000000 in
theorem rnext_yes (sp : ByteArray) (ks : Value) (hs : Bool) (ep vr : Int) (ch : Value) (cs : List Ch) (n : Nat) (dr : Value) (xs : List Int) (w : World) (h1 : 1 ≤ n) (h8 : n ≤ 8) (hsm : cs.length ≤ 1000000) (hc : ChsIn w ch cs) (hd : IntsIn w dr xs) :
    Calls Try.prog 12 #[rts sp ks hs ep vr ch, .int .i64 n, dr] w fun e w' => e = .returned (propV cs (wayOf cs xs n)) ∧ Below w.heap.size w w' := by
  have HC := Lib.hid hc
  have HD := Lib.hid hd
  clear hc hd
  have HS := Lib.hid (RX.start w sp ks hs ep vr ch 37)
  go_enter Try.func12, Try.ntmps12
  go_wp2_with fail
  refine (HS.out.next (least_any sp ks hs ep vr ch cs n dr xs _ h1 h8 (HC.out.below HS.out.2.2.2.2.2.2.2.2.2.2.2.2.2.2) (HD.out.below HS.out.2.2.2.2.2.2.2.2.2.2.2.2.2.2))).mono ?_
  rintro e w1 ⟨he1, hx1⟩
  cases htk : toOf cs xs n with
  | none =>
    rw [htk] at he1
    change _ = Ending.returned (Value.int .i64 (-1)) at he1
    subst he1
    have HW : Hid (wayOf cs xs n = none) := Lib.hid (by simp [wayOf, htk])
    obtain ⟨c0, c1, c2, c3, c4, c5, r0, r1, r2, f0, f1, f2, hz, hz1, hB⟩ := hx1
    have HB := Lib.hid hB
    clear hB
    go_wp2_with fail
    rw [HW.out]
    refine bodyPost_ret (v := propV cs none) (by simp [results, Try.results12, go_sem, propV, r0, r1, r2, hz1]) rfl ⟨rfl, ?_⟩
    exact ((HB.out.setCell (by simp) _).setCell (by simp) _).setCell (by simp) _
  | some t =>
    have ht := pick_lt htk
    rw [htk] at he1
    change _ = Ending.returned (Value.int .i64 (t : Int)) at he1
    subst he1
    have HX1 := Lib.hid hx1
    obtain ⟨c0, c1, c2, c3, c4, c5, r0, r1, r2, f0, f1, f2, hz, hz1, hB⟩ := hx1
    have HB := Lib.hid hB
    clear hB
    go_wp2_with fail
    refine (HX1.out.next (most_any sp ks hs ep vr ch cs n dr xs true _ h1 h8 (HC.out.below HB.out) (HD.out.below HB.out))).mono ?_
    rintro e w2 ⟨he2, hx2⟩
    have hee := empty_eq cs xs n
    cases hmk : mostOf cs xs true n with
    | none =>
      have hek : emptyOf cs xs n = none := by rw [hee, hmk]
      rw [hmk] at he2
      change _ = Ending.returned (Value.int .i64 (-1)) at he2
      subst he2
      clear HX1 HB c0 c1 c2 c3 c4 c5 r0 r1 r2 f0 f1 f2 hz hz1
      obtain ⟨f, hfk⟩ := full_some htk
      have hf := pick_lt hfk
      have HX2 := Lib.hid hx2
      obtain ⟨c0, c1, c2, c3, c4, c5, r0, r1, r2, f0, f1, f2, hz, hz1, hB⟩ := hx2
      have HB2 := Lib.hid hB
      clear hB
      go_wp2_with fail
      refine (HX2.out.next (most_any sp ks hs ep vr ch cs n dr xs false _ h1 h8 (HC.out.below HB2.out) (HD.out.below HB2.out))).mono ?_
      rintro e w3 ⟨he3, hx3⟩
      rw [most_false, hfk] at he3
      change _ = Ending.returned (Value.int .i64 (f : Int)) at he3
      subst he3
      clear c0 c1 c2 c3 c4 c5 r0 r1 r2 f0 f1 f2 hz hz1
      obtain ⟨c0, c1, c2, c3, c4, c5, r0, r1, r2, f0, f1, f2, hz, hz1, hB⟩ := hx3
      have hBd := hB.drew
      have lf : loadOf cs (f : Int) ≤ 1000000 := Nat.le_trans (loadOf_le _ _) hsm
      have lt : loadOf cs (t : Int) ≤ 1000000 := Nat.le_trans (loadOf_le _ _) hsm
      have hwr : IntKind.i64.wrap (((loadOf cs (f : Int) : Nat) : Int) - ((loadOf cs (t : Int) : Nat) : Int)) = ((loadOf cs (f : Int) : Nat) : Int) - ((loadOf cs (t : Int) : Nat) : Int) := wrap_id (by omega) (by omega)
      by_cases hcmp : ((loadOf cs (f : Int) : Nat) : Int) - ((loadOf cs (t : Int) : Nat) : Int) < 2
      · have HW : Hid (wayOf cs xs n = none) := Lib.hid (by
          have : ldf cs f < ldf cs t + 2 := by rw [ldf_load, ldf_load]; omega
          simp [wayOf, htk, hek, hfk, this])
        go_wp2_with fail
        go_region_held3 (fun W => W.cell? ⟨w.heap.size, 0, none⟩ = some (.string sp) ∧ W.cell? ⟨w.heap.size, 1, none⟩ = some (ks) ∧ W.cell? ⟨w.heap.size, 2, none⟩ = some (.bool hs) ∧ W.cell? ⟨w.heap.size, 3, none⟩ = some (.int .i64 ep) ∧ W.cell? ⟨w.heap.size, 4, none⟩ = some (.int .i64 vr) ∧ W.cell? ⟨w.heap.size, 5, none⟩ = some (ch) ∧ W.cell? ⟨w.heap.size + 1, 0, none⟩ = some (.string ⟨#[]⟩) ∧ W.cell? ⟨w.heap.size + 1, 1, none⟩ = some (.int .i64 0) ∧ W.cell? ⟨w.heap.size + 1, 2, none⟩ = some (.int .i64 0) ∧ W.frozen? ⟨w.heap.size + 1, 0, none⟩ = false ∧ W.frozen? ⟨w.heap.size + 1, 1, none⟩ = false ∧ W.frozen? ⟨w.heap.size + 1, 2, none⟩ = false ∧ w.heap.size < W.heap.size ∧ w.heap.size + 1 < W.heap.size ∧ Below w.heap.size w W) (refine ⟨?_, ?_, ?_, ?_, ?_, ?_, ?_, ?_, ?_, ?_, ?_, ?_, ?_, ?_, ?_⟩ <;> assumption) (first | (go_at_call 25; refine (RX.next (w := w) (sp := sp) (ks := ks) (hs := hs) (ep := ep) (vr := vr) (ch := ch) ⟨by assumption, by assumption, by assumption, by assumption, by assumption, by assumption, by assumption, by assumption, by assumption, by assumption, by assumption, by assumption, by assumption, by assumption, by assumption⟩ (rLoad_any sp ks hs ep vr ch cs _ _ (HC.out.below (by assumption)))).mono ?_; rintro e wn ⟨hee, c0, c1, c2, c3, c4, c5, r0, r1, r2, f0, f1, f2, hz, hz1, hB⟩; subst hee))
        all_goals (try go_wp2_with fail)
        rw [HW.out]
        refine bodyPost_ret (v := propV cs none) (by simp [results, Try.results12, go_sem, propV, r0, r1, r2, hz1]) rfl ⟨rfl, ?_⟩
        exact ((hB.setCell (by simp) _).setCell (by simp) _).setCell (by simp) _
      · have HW : Hid (wayOf cs xs n = some (f, t)) := Lib.hid (by
          have : ¬ ldf cs f < ldf cs t + 2 := by rw [ldf_load, ldf_load]; omega
          simp [wayOf, htk, hek, hfk, this])
        go_wp2_with fail
        go_region_held3 (fun W => W.cell? ⟨w.heap.size, 0, none⟩ = some (.string sp) ∧ W.cell? ⟨w.heap.size, 1, none⟩ = some (ks) ∧ W.cell? ⟨w.heap.size, 2, none⟩ = some (.bool hs) ∧ W.cell? ⟨w.heap.size, 3, none⟩ = some (.int .i64 ep) ∧ W.cell? ⟨w.heap.size, 4, none⟩ = some (.int .i64 vr) ∧ W.cell? ⟨w.heap.size, 5, none⟩ = some (ch) ∧ W.cell? ⟨w.heap.size + 1, 0, none⟩ = some (.string ⟨#[]⟩) ∧ W.cell? ⟨w.heap.size + 1, 1, none⟩ = some (.int .i64 0) ∧ W.cell? ⟨w.heap.size + 1, 2, none⟩ = some (.int .i64 0) ∧ W.frozen? ⟨w.heap.size + 1, 0, none⟩ = false ∧ W.frozen? ⟨w.heap.size + 1, 1, none⟩ = false ∧ W.frozen? ⟨w.heap.size + 1, 2, none⟩ = false ∧ w.heap.size < W.heap.size ∧ w.heap.size + 1 < W.heap.size ∧ Below w.heap.size w W) (refine ⟨?_, ?_, ?_, ?_, ?_, ?_, ?_, ?_, ?_, ?_, ?_, ?_, ?_, ?_, ?_⟩ <;> assumption) (first | (go_at_call 25; refine (RX.next (w := w) (sp := sp) (ks := ks) (hs := hs) (ep := ep) (vr := vr) (ch := ch) ⟨by assumption, by assumption, by assumption, by assumption, by assumption, by assumption, by assumption, by assumption, by assumption, by assumption, by assumption, by assumption, by assumption, by assumption, by assumption⟩ (rLoad_any sp ks hs ep vr ch cs _ _ (HC.out.below (by assumption)))).mono ?_; rintro e wn ⟨hee, c0, c1, c2, c3, c4, c5, r0, r1, r2, f0, f1, f2, hz, hz1, hB⟩; subst hee))
        have hpos := way_pos HW.out
        have HX : Hid (∃ c ∈ cs, fit f c = true) := Lib.hid (fit_ex hpos.1)
        have HP : Hid (propV cs (wayOf cs xs n) = .tuple #[.agg #[.string ((cs[cs.findIdx (fit f)]?.map Ch.lo).getD ⟨#[]⟩), .int .i64 f, .int .i64 t], .bool true]) := Lib.hid (by rw [HW.out]; rfl)
        have HCW := Lib.hid (HC.out.below hB)
        have HBW := Lib.hid hB
        clear hB
        rcases HCW.out with ⟨rfl, _⟩ | ⟨B, o, cap, rfl, hBw, _, hl, hcs⟩
        · exfalso
          obtain ⟨c, hc, _⟩ := HX.out
          simp at hc
        have HCS := Lib.hid hcs
        clear hcs
        go_wp2_with fail
        go_loop [10] (fun i => ∃ k : Nat, k ≤ cs.length ∧ i = .int .i64 k ∧ ∀ c ∈ cs.take k, fit f c = false) (fun i => cs.length - (intOf i).toNat)
        case atStart => exact ⟨0, Nat.zero_le _, rfl, by simp⟩
        case round =>
          obtain ⟨k, hk, rfl, hno⟩ := hrel
          by_cases hlk : k < cs.length
          · have g0 := HCS.out k hlk 0 _ rfl
            have g2 := HCS.out k hlk 2 _ rfl
            have g4 := HCS.out k hlk 4 _ rfl
            have HF : Hid (fit f cs[k] = true → (cs[cs.findIdx (fit f)]?.map Ch.lo).getD ⟨#[]⟩ = cs[k].lo) := Lib.hid (fun hf => by rw [findIdx_take _ _ _ hlk hno hf]; simp [hlk])
            have HN : Hid (fit f cs[k] = false → ∀ c ∈ cs.take (k + 1), fit f c = false) := Lib.hid (fun hf c hm => by
              rw [List.take_succ_eq_append_getElem hlk, List.mem_append, List.mem_singleton] at hm
              rcases hm with hm | rfl
              · exact hno c hm
              · exact hf)
            clear hno
            generalize cs[k] = c at g0 g2 g4 HF HN
            obtain ⟨lo, hi, sh, vr2, jb⟩ := c
            simp only [Nat.add_zero] at g0
            by_cases hsh : sh = (f : Int)
            · subst hsh
              cases jb
              · have HL := Lib.hid (HF.out (by simp [fit]))
                have HP2 : Hid (propV cs (wayOf cs xs n) = .tuple #[.agg #[.string lo, .int .i64 f, .int .i64 t], .bool true]) := Lib.hid (by rw [HP.out, HL.out])
                clear HF HN HL HP
                go_wp2_with fail
                refine bodyPost_ret (v := .tuple #[.agg #[.string lo, .int .i64 f, .int .i64 t], .bool true]) (by simp [results, Try.results12, go_sem, r0, r1, r2, hz1]) rfl ⟨by rw [HP2.out], ?_⟩
                exact ((HBW.out.setCell (by simp) _).setCell (by simp) _).setCell (by simp) _
              · have HN2 := Lib.hid (HN.out (by simp [fit]))
                clear HF HN
                go_wp2_with fail
                go_round
                case rel => exact ⟨k + 1, by omega, by go_num, HN2.out⟩
                case measure => simp [intOf]; omega
            · have HN2 := Lib.hid (HN.out (by simp [fit, hsh]))
              have hne : (sh == (f : Int)) = false := by simpa using hsh
              clear HF HN
              go_wp2_with fail
              go_round
              case rel => exact ⟨k + 1, by omega, by go_num, HN2.out⟩
              case measure => simp [intOf]; omega
          · exfalso
            obtain ⟨c, hm, hc⟩ := HX.out
            have HE : cs.take k = cs := List.take_of_length_le (by omega)
            have := hno c (by rw [HE]; exact hm)
            rw [hc] at this
            exact absurd this (by simp)
    | some m =>
      have hm := pick_lt hmk
      have hmI : decide ((m : Int) < 0) = false := by simp
      rw [hmk] at he2
      change _ = Ending.returned (Value.int .i64 (m : Int)) at he2
      subst he2
      clear HX1 HB c0 c1 c2 c3 c4 c5 r0 r1 r2 f0 f1 f2 hz hz1
      by_cases hm0 : loadOf cs (m : Int) = 0
      · have hek : emptyOf cs xs n = none := by rw [hee, hmk]; simp [ldf_load, hm0]
        obtain ⟨f, hfk⟩ := full_some htk
        have hf := pick_lt hfk
        have HX2 := Lib.hid hx2
        obtain ⟨c0, c1, c2, c3, c4, c5, r0, r1, r2, f0, f1, f2, hz, hz1, hB⟩ := hx2
        have HB2 := Lib.hid hB
        clear hB
        go_wp2_with fail
        refine (HX2.out.next (rLoad_any sp ks hs ep vr ch cs _ _ (HC.out.below HB2.out))).mono ?_
        rintro e w21 ⟨he21, hx21⟩
        rw [hm0] at he21
        subst he21
        clear HX2 HB2 c0 c1 c2 c3 c4 c5 r0 r1 r2 f0 f1 f2 hz hz1
        have HX2 := Lib.hid hx21
        obtain ⟨c0, c1, c2, c3, c4, c5, r0, r1, r2, f0, f1, f2, hz, hz1, hB⟩ := hx21
        have HB2 := Lib.hid hB
        clear hB
        go_wp2_with fail
        refine (HX2.out.next (most_any sp ks hs ep vr ch cs n dr xs false _ h1 h8 (HC.out.below HB2.out) (HD.out.below HB2.out))).mono ?_
        rintro e w3 ⟨he3, hx3⟩
        rw [most_false, hfk] at he3
        change _ = Ending.returned (Value.int .i64 (f : Int)) at he3
        subst he3
        clear c0 c1 c2 c3 c4 c5 r0 r1 r2 f0 f1 f2 hz hz1
        obtain ⟨c0, c1, c2, c3, c4, c5, r0, r1, r2, f0, f1, f2, hz, hz1, hB⟩ := hx3
        have hBd := hB.drew
        have lf : loadOf cs (f : Int) ≤ 1000000 := Nat.le_trans (loadOf_le _ _) hsm
        have lt : loadOf cs (t : Int) ≤ 1000000 := Nat.le_trans (loadOf_le _ _) hsm
        have hwr : IntKind.i64.wrap (((loadOf cs (f : Int) : Nat) : Int) - ((loadOf cs (t : Int) : Nat) : Int)) = ((loadOf cs (f : Int) : Nat) : Int) - ((loadOf cs (t : Int) : Nat) : Int) := wrap_id (by omega) (by omega)
        by_cases hcmp : ((loadOf cs (f : Int) : Nat) : Int) - ((loadOf cs (t : Int) : Nat) : Int) < 2
        · have HW : Hid (wayOf cs xs n = none) := Lib.hid (by
            have : ldf cs f < ldf cs t + 2 := by rw [ldf_load, ldf_load]; omega
            simp [wayOf, htk, hek, hfk, this])
          go_wp2_with fail
          go_region_held3 (fun W => W.cell? ⟨w.heap.size, 0, none⟩ = some (.string sp) ∧ W.cell? ⟨w.heap.size, 1, none⟩ = some (ks) ∧ W.cell? ⟨w.heap.size, 2, none⟩ = some (.bool hs) ∧ W.cell? ⟨w.heap.size, 3, none⟩ = some (.int .i64 ep) ∧ W.cell? ⟨w.heap.size, 4, none⟩ = some (.int .i64 vr) ∧ W.cell? ⟨w.heap.size, 5, none⟩ = some (ch) ∧ W.cell? ⟨w.heap.size + 1, 0, none⟩ = some (.string ⟨#[]⟩) ∧ W.cell? ⟨w.heap.size + 1, 1, none⟩ = some (.int .i64 0) ∧ W.cell? ⟨w.heap.size + 1, 2, none⟩ = some (.int .i64 0) ∧ W.frozen? ⟨w.heap.size + 1, 0, none⟩ = false ∧ W.frozen? ⟨w.heap.size + 1, 1, none⟩ = false ∧ W.frozen? ⟨w.heap.size + 1, 2, none⟩ = false ∧ w.heap.size < W.heap.size ∧ w.heap.size + 1 < W.heap.size ∧ Below w.heap.size w W) (refine ⟨?_, ?_, ?_, ?_, ?_, ?_, ?_, ?_, ?_, ?_, ?_, ?_, ?_, ?_, ?_⟩ <;> assumption) (first | (go_at_call 25; refine (RX.next (w := w) (sp := sp) (ks := ks) (hs := hs) (ep := ep) (vr := vr) (ch := ch) ⟨by assumption, by assumption, by assumption, by assumption, by assumption, by assumption, by assumption, by assumption, by assumption, by assumption, by assumption, by assumption, by assumption, by assumption, by assumption⟩ (rLoad_any sp ks hs ep vr ch cs _ _ (HC.out.below (by assumption)))).mono ?_; rintro e wn ⟨hee, c0, c1, c2, c3, c4, c5, r0, r1, r2, f0, f1, f2, hz, hz1, hB⟩; subst hee))
          all_goals (try go_wp2_with fail)
          rw [HW.out]
          refine bodyPost_ret (v := propV cs none) (by simp [results, Try.results12, go_sem, propV, r0, r1, r2, hz1]) rfl ⟨rfl, ?_⟩
          exact ((hB.setCell (by simp) _).setCell (by simp) _).setCell (by simp) _
        · have HW : Hid (wayOf cs xs n = some (f, t)) := Lib.hid (by
            have : ¬ ldf cs f < ldf cs t + 2 := by rw [ldf_load, ldf_load]; omega
            simp [wayOf, htk, hek, hfk, this])
          go_wp2_with fail
          go_region_held3 (fun W => W.cell? ⟨w.heap.size, 0, none⟩ = some (.string sp) ∧ W.cell? ⟨w.heap.size, 1, none⟩ = some (ks) ∧ W.cell? ⟨w.heap.size, 2, none⟩ = some (.bool hs) ∧ W.cell? ⟨w.heap.size, 3, none⟩ = some (.int .i64 ep) ∧ W.cell? ⟨w.heap.size, 4, none⟩ = some (.int .i64 vr) ∧ W.cell? ⟨w.heap.size, 5, none⟩ = some (ch) ∧ W.cell? ⟨w.heap.size + 1, 0, none⟩ = some (.string ⟨#[]⟩) ∧ W.cell? ⟨w.heap.size + 1, 1, none⟩ = some (.int .i64 0) ∧ W.cell? ⟨w.heap.size + 1, 2, none⟩ = some (.int .i64 0) ∧ W.frozen? ⟨w.heap.size + 1, 0, none⟩ = false ∧ W.frozen? ⟨w.heap.size + 1, 1, none⟩ = false ∧ W.frozen? ⟨w.heap.size + 1, 2, none⟩ = false ∧ w.heap.size < W.heap.size ∧ w.heap.size + 1 < W.heap.size ∧ Below w.heap.size w W) (refine ⟨?_, ?_, ?_, ?_, ?_, ?_, ?_, ?_, ?_, ?_, ?_, ?_, ?_, ?_, ?_⟩ <;> assumption) (first | (go_at_call 25; refine (RX.next (w := w) (sp := sp) (ks := ks) (hs := hs) (ep := ep) (vr := vr) (ch := ch) ⟨by assumption, by assumption, by assumption, by assumption, by assumption, by assumption, by assumption, by assumption, by assumption, by assumption, by assumption, by assumption, by assumption, by assumption, by assumption⟩ (rLoad_any sp ks hs ep vr ch cs _ _ (HC.out.below (by assumption)))).mono ?_; rintro e wn ⟨hee, c0, c1, c2, c3, c4, c5, r0, r1, r2, f0, f1, f2, hz, hz1, hB⟩; subst hee))
          have hpos := way_pos HW.out
          have HX : Hid (∃ c ∈ cs, fit f c = true) := Lib.hid (fit_ex hpos.1)
          have HP : Hid (propV cs (wayOf cs xs n) = .tuple #[.agg #[.string ((cs[cs.findIdx (fit f)]?.map Ch.lo).getD ⟨#[]⟩), .int .i64 f, .int .i64 t], .bool true]) := Lib.hid (by rw [HW.out]; rfl)
          have HCW := Lib.hid (HC.out.below hB)
          have HBW := Lib.hid hB
          clear hB
          rcases HCW.out with ⟨rfl, _⟩ | ⟨B, o, cap, rfl, hBw, _, hl, hcs⟩
          · exfalso
            obtain ⟨c, hc, _⟩ := HX.out
            simp at hc
          have HCS := Lib.hid hcs
          clear hcs
          go_wp2_with fail
          go_loop [10] (fun i => ∃ k : Nat, k ≤ cs.length ∧ i = .int .i64 k ∧ ∀ c ∈ cs.take k, fit f c = false) (fun i => cs.length - (intOf i).toNat)
          case atStart => exact ⟨0, Nat.zero_le _, rfl, by simp⟩
          case round =>
            obtain ⟨k, hk, rfl, hno⟩ := hrel
            by_cases hlk : k < cs.length
            · have g0 := HCS.out k hlk 0 _ rfl
              have g2 := HCS.out k hlk 2 _ rfl
              have g4 := HCS.out k hlk 4 _ rfl
              have HF : Hid (fit f cs[k] = true → (cs[cs.findIdx (fit f)]?.map Ch.lo).getD ⟨#[]⟩ = cs[k].lo) := Lib.hid (fun hf => by rw [findIdx_take _ _ _ hlk hno hf]; simp [hlk])
              have HN : Hid (fit f cs[k] = false → ∀ c ∈ cs.take (k + 1), fit f c = false) := Lib.hid (fun hf c hm => by
                rw [List.take_succ_eq_append_getElem hlk, List.mem_append, List.mem_singleton] at hm
                rcases hm with hm | rfl
                · exact hno c hm
                · exact hf)
              clear hno
              generalize cs[k] = c at g0 g2 g4 HF HN
              obtain ⟨lo, hi, sh, vr2, jb⟩ := c
              simp only [Nat.add_zero] at g0
              by_cases hsh : sh = (f : Int)
              · subst hsh
                cases jb
                · have HL := Lib.hid (HF.out (by simp [fit]))
                  have HP2 : Hid (propV cs (wayOf cs xs n) = .tuple #[.agg #[.string lo, .int .i64 f, .int .i64 t], .bool true]) := Lib.hid (by rw [HP.out, HL.out])
                  clear HF HN HL HP
                  go_wp2_with fail
                  refine bodyPost_ret (v := .tuple #[.agg #[.string lo, .int .i64 f, .int .i64 t], .bool true]) (by simp [results, Try.results12, go_sem, r0, r1, r2, hz1]) rfl ⟨by rw [HP2.out], ?_⟩
                  exact ((HBW.out.setCell (by simp) _).setCell (by simp) _).setCell (by simp) _
                · have HN2 := Lib.hid (HN.out (by simp [fit]))
                  clear HF HN
                  go_wp2_with fail
                  go_round
                  case rel => exact ⟨k + 1, by omega, by go_num, HN2.out⟩
                  case measure => simp [intOf]; omega
              · have HN2 := Lib.hid (HN.out (by simp [fit, hsh]))
                have hne : (sh == (f : Int)) = false := by simpa using hsh
                clear HF HN
                go_wp2_with fail
                go_round
                case rel => exact ⟨k + 1, by omega, by go_num, HN2.out⟩
                case measure => simp [intOf]; omega
            · exfalso
              obtain ⟨c, hm, hc⟩ := HX.out
              have HE : cs.take k = cs := List.take_of_length_le (by omega)
              have := hno c (by rw [HE]; exact hm)
              rw [hc] at this
              exact absurd this (by simp)
      · have hek : emptyOf cs xs n = some m := by rw [hee, hmk]; simp [ldf_load, hm0]
        obtain ⟨f, rfl⟩ : ∃ f, f = m := ⟨m, rfl⟩
        have HW : Hid (wayOf cs xs n = some (f, t)) := Lib.hid (by simp [wayOf, htk, hek])
        have HX2 := Lib.hid hx2
        obtain ⟨c0, c1, c2, c3, c4, c5, r0, r1, r2, f0, f1, f2, hz, hz1, hB⟩ := hx2
        have HB2 := Lib.hid hB
        have hm0I : (((loadOf cs (f : Int) : Nat) : Int) == 0) = false := by simpa using hm0
        go_wp2_with fail
        refine (HX2.out.next (rLoad_any sp ks hs ep vr ch cs _ _ (HC.out.below HB2.out))).mono ?_
        rintro e w21 ⟨he21, hx21⟩
        subst he21
        clear HX2 HB2 hB c0 c1 c2 c3 c4 c5 r0 r1 r2 f0 f1 f2 hz hz1
        obtain ⟨c0, c1, c2, c3, c4, c5, r0, r1, r2, f0, f1, f2, hz, hz1, hB⟩ := hx21
        have hpos := way_pos HW.out
        have HX : Hid (∃ c ∈ cs, fit f c = true) := Lib.hid (fit_ex hpos.1)
        have HP : Hid (propV cs (wayOf cs xs n) = .tuple #[.agg #[.string ((cs[cs.findIdx (fit f)]?.map Ch.lo).getD ⟨#[]⟩), .int .i64 f, .int .i64 t], .bool true]) := Lib.hid (by rw [HW.out]; rfl)
        have HCW := Lib.hid (HC.out.below hB)
        have HBW := Lib.hid hB
        clear hB
        rcases HCW.out with ⟨rfl, _⟩ | ⟨B, o, cap, rfl, hBw, _, hl, hcs⟩
        · exfalso
          obtain ⟨c, hc, _⟩ := HX.out
          simp at hc
        have HCS := Lib.hid hcs
        clear hcs
        go_wp2_with fail
        go_loop [10] (fun i => ∃ k : Nat, k ≤ cs.length ∧ i = .int .i64 k ∧ ∀ c ∈ cs.take k, fit f c = false) (fun i => cs.length - (intOf i).toNat)
        case atStart => exact ⟨0, Nat.zero_le _, rfl, by simp⟩
        case round =>
          obtain ⟨k, hk, rfl, hno⟩ := hrel
          by_cases hlk : k < cs.length
          · have g0 := HCS.out k hlk 0 _ rfl
            have g2 := HCS.out k hlk 2 _ rfl
            have g4 := HCS.out k hlk 4 _ rfl
            have HF : Hid (fit f cs[k] = true → (cs[cs.findIdx (fit f)]?.map Ch.lo).getD ⟨#[]⟩ = cs[k].lo) := Lib.hid (fun hf => by rw [findIdx_take _ _ _ hlk hno hf]; simp [hlk])
            have HN : Hid (fit f cs[k] = false → ∀ c ∈ cs.take (k + 1), fit f c = false) := Lib.hid (fun hf c hm => by
              rw [List.take_succ_eq_append_getElem hlk, List.mem_append, List.mem_singleton] at hm
              rcases hm with hm | rfl
              · exact hno c hm
              · exact hf)
            clear hno
            generalize cs[k] = c at g0 g2 g4 HF HN
            obtain ⟨lo, hi, sh, vr2, jb⟩ := c
            simp only [Nat.add_zero] at g0
            by_cases hsh : sh = (f : Int)
            · subst hsh
              cases jb
              · have HL := Lib.hid (HF.out (by simp [fit]))
                have HP2 : Hid (propV cs (wayOf cs xs n) = .tuple #[.agg #[.string lo, .int .i64 f, .int .i64 t], .bool true]) := Lib.hid (by rw [HP.out, HL.out])
                clear HF HN HL HP
                go_wp2_with fail
                refine bodyPost_ret (v := .tuple #[.agg #[.string lo, .int .i64 f, .int .i64 t], .bool true]) (by simp [results, Try.results12, go_sem, r0, r1, r2, hz1]) rfl ⟨by rw [HP2.out], ?_⟩
                exact ((HBW.out.setCell (by simp) _).setCell (by simp) _).setCell (by simp) _
              · have HN2 := Lib.hid (HN.out (by simp [fit]))
                clear HF HN
                go_wp2_with fail
                go_round
                case rel => exact ⟨k + 1, by omega, by go_num, HN2.out⟩
                case measure => simp [intOf]; omega
            · have HN2 := Lib.hid (HN.out (by simp [fit, hsh]))
              have hne : (sh == (f : Int)) = false := by simpa using hsh
              clear HF HN
              go_wp2_with fail
              go_round
              case rel => exact ⟨k + 1, by omega, by go_num, HN2.out⟩
              case measure => simp [intOf]; omega
          · exfalso
            obtain ⟨c, hm, hc⟩ := HX.out
            have HE : cs.take k = cs := List.take_of_length_le (by omega)
            have := hno c (by rw [HE]; exact hm)
            rw [hc] at this
            exact absurd this (by simp)
end Go.Proofs.Ytimhokilicogdaa
