/- Balance: the reference's most. -/
import Derived.Test.YtimhokilicogdaaBal22
import Derived.Deep.RegionHeld3
import Derived.Deep.QuietTactic
import Derived.BigQuiet
import Derived.Outline
namespace Go.Proofs.Ytimhokilicogdaa
open Go.ChangeShapes Go.WideShapes Go.ChangeAt Go.RowKit Go.Deep
set_option linter.unusedVariables false
set_option linter.unusedSimpArgs false
set_option maxRecDepth 100000 in
set_option maxHeartbeats 2000000 in
theorem most_any (sp : ByteArray) (ks : Value) (hs : Bool) (ep vr : Int) (ch : Value) (cs : List Ch) (n : Nat) (dr : Value) (xs : List Int) (dg : Bool) (w : World) (h1 : 1 ≤ n) (h8 : n ≤ 8) (hc : ChsIn w ch cs) (hd : IntsIn w dr xs) :
    Calls Try.prog 24 #[rts sp ks hs ep vr ch, .int .i64 n, dr, .bool dg] w fun e w' => e = .returned (.int .i64 (oi (mostOf cs xs dg n))) ∧ Below w.heap.size w w' := by
  have HC := Lib.hid hc
  have HD := Lib.hid hd
  clear hc hd
  have HS := Lib.hid (RB.start w sp ks hs ep vr ch)
  go_enter Try.func24, Try.ntmps24
  go_wp2_with fail
  go_loopw [9, 10] (fun b s W => ∃ k : Nat, k ≤ n ∧ s = .int .i64 k ∧ b = .int .i64 (oi (mostOf cs xs dg k)) ∧ RB w sp ks hs ep vr ch W) (fun _ s _ => n - (intOf s).toNat)
  case atStart => exact ⟨0, Nat.zero_le _, rfl, rfl, HS.out⟩
  case round =>
    obtain ⟨k, hk, rfl, hbest, hRB⟩ := hrel
    have HR := Lib.hid hRB
    obtain ⟨a0, a1, a2, a3, a4, a5, hz, hb⟩ := hRB
    have HDW := Lib.hid (HD.out.below hb)
    have hBd := hb.drew
    by_cases hlt : k < n
    · by_cases hdm : decide ((k : Int) ∈ xs) = dg
      · have hdk : drn xs k = dg := hdm
        have hdt := hdm
        cases hpk : mostOf cs xs dg k with
        | none =>
          have EB : Hid (mostOf cs xs dg (k + 1) = some k) := Lib.hid (pick_first (by simp [hdk]) hpk)
          rw [hpk] at hbest
          change _ = Value.int .i64 (-1) at hbest
          subst hbest
          go_wp2_with fail
          go_quiet (first | (go_at_call 31; refine Calls.quiet_of_same (in_q dr xs _ _ _ hdt (HDW.out : IntsIn _ dr xs))))
          go_wp2_with fail
          all_goals go_roundw
          all_goals first
            | exact ⟨k + 1, by omega, by go_num, by rw [EB.out]; try rfl, by first | exact HR.out.drewN _ | exact HR.out | exact ⟨by assumption, by assumption, by assumption, by assumption, by assumption, by assumption, by assumption, by assumption⟩⟩
            | (simp [intOf]; omega)
        | some m =>
          have hm := pick_lt hpk
          rw [hpk] at hbest
          change _ = Value.int .i64 (m : Int) at hbest
          subst hbest
          have hng : decide ((m : Int) < 0) = false := by simp
          by_cases hcmp : loadOf cs (m : Int) < loadOf cs (k : Int)
          · have EB : Hid (mostOf cs xs dg (k + 1) = some k) := Lib.hid (pick_better (by simp [hdk]) hpk (by rw [ldf_load, ldf_load]; simp [more, hcmp]))
            have hcI : ((loadOf cs (m : Int) : Nat) : Int) < ((loadOf cs (k : Int) : Nat) : Int) := by omega
            go_wp2_with fail
            go_region_held3 (fun W => W.cell? ⟨w.heap.size, 0, none⟩ = some (.string sp) ∧ W.cell? ⟨w.heap.size, 1, none⟩ = some (ks) ∧ W.cell? ⟨w.heap.size, 2, none⟩ = some (.bool hs) ∧ W.cell? ⟨w.heap.size, 3, none⟩ = some (.int .i64 ep) ∧ W.cell? ⟨w.heap.size, 4, none⟩ = some (.int .i64 vr) ∧ W.cell? ⟨w.heap.size, 5, none⟩ = some (ch) ∧ w.heap.size < W.heap.size ∧ Below w.heap.size w W) (refine ⟨?_, ?_, ?_, ?_, ?_, ?_, ?_, ?_⟩ <;> assumption) (first | (go_at_call 31; refine (RB.next (w := w) (sp := sp) (ks := ks) (hs := hs) (ep := ep) (vr := vr) (ch := ch) ⟨by assumption, by assumption, by assumption, by assumption, by assumption, by assumption, by assumption, by assumption⟩ (in_b dr xs _ _ (HD.out.below (by assumption)))).mono ?_; rintro e wn ⟨hee, d0, d1, d2, d3, d4, d5, dz, dB⟩; rw [hdt] at hee; subst hee) | (go_at_call 25; refine (RB.next (w := w) (sp := sp) (ks := ks) (hs := hs) (ep := ep) (vr := vr) (ch := ch) ⟨by assumption, by assumption, by assumption, by assumption, by assumption, by assumption, by assumption, by assumption⟩ (rLoad_any sp ks hs ep vr ch cs _ _ (HC.out.below (by assumption)))).mono ?_; rintro e wn ⟨hee, d0, d1, d2, d3, d4, d5, dz, dB⟩; subst hee))
            all_goals (try go_wp2_with fail)
            all_goals go_roundw
            all_goals first
              | exact ⟨k + 1, by omega, by go_num, by rw [EB.out]; try rfl, by first | exact HR.out.drewN _ | exact HR.out | exact ⟨by assumption, by assumption, by assumption, by assumption, by assumption, by assumption, by assumption, by assumption⟩⟩
              | (simp [intOf]; omega)
          · have EB : Hid (mostOf cs xs dg (k + 1) = some m) := Lib.hid (pick_worse hpk (by rw [ldf_load, ldf_load]; simp [more]; omega))
            have hcI : ¬ ((loadOf cs (m : Int) : Nat) : Int) < ((loadOf cs (k : Int) : Nat) : Int) := by omega
            go_wp2_with fail
            go_region_held3 (fun W => W.cell? ⟨w.heap.size, 0, none⟩ = some (.string sp) ∧ W.cell? ⟨w.heap.size, 1, none⟩ = some (ks) ∧ W.cell? ⟨w.heap.size, 2, none⟩ = some (.bool hs) ∧ W.cell? ⟨w.heap.size, 3, none⟩ = some (.int .i64 ep) ∧ W.cell? ⟨w.heap.size, 4, none⟩ = some (.int .i64 vr) ∧ W.cell? ⟨w.heap.size, 5, none⟩ = some (ch) ∧ w.heap.size < W.heap.size ∧ Below w.heap.size w W) (refine ⟨?_, ?_, ?_, ?_, ?_, ?_, ?_, ?_⟩ <;> assumption) (first | (go_at_call 31; refine (RB.next (w := w) (sp := sp) (ks := ks) (hs := hs) (ep := ep) (vr := vr) (ch := ch) ⟨by assumption, by assumption, by assumption, by assumption, by assumption, by assumption, by assumption, by assumption⟩ (in_b dr xs _ _ (HD.out.below (by assumption)))).mono ?_; rintro e wn ⟨hee, d0, d1, d2, d3, d4, d5, dz, dB⟩; rw [hdt] at hee; subst hee) | (go_at_call 25; refine (RB.next (w := w) (sp := sp) (ks := ks) (hs := hs) (ep := ep) (vr := vr) (ch := ch) ⟨by assumption, by assumption, by assumption, by assumption, by assumption, by assumption, by assumption, by assumption⟩ (rLoad_any sp ks hs ep vr ch cs _ _ (HC.out.below (by assumption)))).mono ?_; rintro e wn ⟨hee, d0, d1, d2, d3, d4, d5, dz, dB⟩; subst hee))
            all_goals (try go_wp2_with fail)
            all_goals go_roundw
            all_goals first
              | exact ⟨k + 1, by omega, by go_num, by rw [EB.out]; try rfl, by first | exact HR.out.drewN _ | exact HR.out | exact ⟨by assumption, by assumption, by assumption, by assumption, by assumption, by assumption, by assumption, by assumption⟩⟩
              | (simp [intOf]; omega)
      · have hdk : (drn xs k == dg) = false := by simpa [drn] using hdm
        have EB : Hid (mostOf cs xs dg (k + 1) = mostOf cs xs dg k) := Lib.hid (pick_no (by simp [hdk]))
        obtain ⟨bb, hbb⟩ : ∃ bb, decide ((k : Int) ∈ xs) = bb := ⟨_, rfl⟩
        have hne : (bb == dg) = false := by rw [← hbb]; simpa using hdm
        subst hbest
        cases bb <;> cases dg <;> first | (exfalso; simp at hne; done) | skip
        all_goals go_wp2_with fail
        all_goals go_quiet (first | (go_at_call 31; refine Calls.quiet_of_same (in_q dr xs _ _ _ hbb (HDW.out : IntsIn _ dr xs))))
        all_goals go_wp2_with fail
        all_goals go_roundw
        all_goals first
          | exact ⟨k + 1, by omega, by go_num, by rw [EB.out]; try rfl, by first | exact HR.out.drewN _ | exact HR.out | exact ⟨by assumption, by assumption, by assumption, by assumption, by assumption, by assumption, by assumption, by assumption⟩⟩
          | (simp [intOf]; omega)
    · have hkn : k = n := by omega
      subst hkn
      subst hbest
      go_wp2_with fail
      go_ret
      exact ⟨rfl, HR.out.2.2.2.2.2.2.2⟩
end Go.Proofs.Ytimhokilicogdaa
