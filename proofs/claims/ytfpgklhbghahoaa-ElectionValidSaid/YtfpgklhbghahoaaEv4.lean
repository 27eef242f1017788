/- Election: validLog decides what a log must be. -/
import Derived.Test.YtfpgklhbghahoaaEv3
namespace Go.Proofs.Ytfpgklhbghahoaa
open Go.ChangeShapes Go.WideShapes Go.ChangeAt Go.RowKit
set_option linter.unusedVariables false
set_option linter.unusedSimpArgs false
theorem below_drewN' {w W : World} (h : Below w.heap.size w W) (n : Nat) : Below w.heap.size w (W.drewN n) := ⟨h.os, h.tape, h.output, h.size, h.block⟩
set_option maxRecDepth 100000 in
set_option maxHeartbeats 1600000 in
theorem vlog_in (id sz tm vt rl ld ti vs : Int) (B o cap : Nat) (es : List (List Value)) (cm : Int) (nx mt : Value) (w : World) (hl : es.length ≤ 100) (hB : B < w.heap.size) (he : ∀ j (h : j < es.length), w.rangeAt B (o + j * 82) es[j] ∧ Ent es[j]) (hcm : 0 ≤ cm ∧ cm ≤ es.length) :
    Calls Try.prog 31 #[mem id sz tm vt rl ld ti vs (.slice (some ⟨B, o, none⟩) es.length cap) cm nx mt] w fun e w' => e = .returned (.bool (lgB tm cm es)) ∧ Below w.heap.size w w' := by
  have HE := Lib.hid he
  clear he
  obtain ⟨hc0, hc1⟩ := hcm
  have q0 : decide (cm < 0) = false := decide_eq_false (by omega)
  have q1 : decide ((es.length : Int) < cm) = false := decide_eq_false (by omega)
  have q2 : decide ((16384 : Int) < (es.length : Int)) = false := decide_eq_false (by omega)
  go_enter Try.func31, Try.ntmps31
  go_wp2_with fail
  go_loopw [3, 4, 27] (fun t s i W => ∃ (k : Nat) (tz sz : Int), k ≤ es.length ∧ t = .int .i64 tz ∧ s = .int .i64 sz ∧ i = .int .i64 k ∧ W.cell? ⟨w.heap.size, 2, none⟩ = some (.int .i64 tm) ∧ W.cell? ⟨w.heap.size, 8, none⟩ = some (.slice (some ⟨B, o, none⟩) es.length cap) ∧ w.heap.size < W.heap.size ∧ Below w.heap.size w W ∧ Hid (logB tm tz sz (es.drop k) = logB tm 0 0 es)) (fun _ _ i _ => es.length - (intOf i).toNat)
  case atStart => exact ⟨0, 0, 0, Nat.zero_le _, rfl, rfl, rfl, by simp [go_sem], by simp [go_sem], by simp, (Below.refl _ _).alloc (Nat.le_refl _) _, Lib.hid rfl⟩
  case round =>
    obtain ⟨k, tz, sz', hk, rfl, rfl, rfl, c2, c8, hz, hB0, HI⟩ := hrel
    by_cases hlt : k < es.length
    · have HR : Hid (wr.rangeAt B (o + k * 82) es[k]) := Lib.hid (fun j v hv => (hB0.cell (p := ⟨B, o + k * 82 + j, none⟩) hB).trans ((HE.out k hlt).1 j v hv))
      obtain ⟨t0, s0, r0, hes⟩ := (HE.out k hlt).2.2.2
      have HST := Lib.hid (log_step hlt HI.out hes)
      have g0 : wr.cell? ⟨B, o + k * 82, none⟩ = some (.int .i64 t0) := HR.out 0 _ (by rw [hes]; rfl)
      have g1 : wr.cell? ⟨B, o + k * 82 + 1, none⟩ = some (.int .i64 s0) := HR.out 1 _ (by rw [hes]; rfl)
      have HB := Lib.hid hB0
      clear HI hes HR hB0 HE q0 q1 q2 hc0 hc1
      by_cases h1 : t0 < tz
      · have p1 : decide (t0 < tz) = true := decide_eq_true h1
        go_wp2_with fail
        go_quiet (fail)
        go_wp2_with fail
        go_ret
        exact ⟨ret_b (lg_no cm (HST.out.1 (by omega))), below_drewN' HB.out _⟩
      have p1 : decide (t0 < tz) = false := decide_eq_false h1
      by_cases h2 : tm < t0
      · have p2 : decide (tm < t0) = true := decide_eq_true h2
        go_wp2_with fail
        go_quiet (fail)
        go_wp2_with fail
        go_ret
        exact ⟨ret_b (lg_no cm (HST.out.1 (by omega))), below_drewN' HB.out _⟩
      have p2 : decide (tm < t0) = false := decide_eq_false h2
      by_cases h3 : s0 ≤ sz'
      · have p3 : decide (s0 ≤ sz') = true := decide_eq_true h3
        go_wp2_with fail
        go_quiet (fail)
        go_wp2_with fail
        go_ret
        exact ⟨ret_b (lg_no cm (HST.out.1 (by omega))), below_drewN' HB.out _⟩
      have p3 : decide (s0 ≤ sz') = false := decide_eq_false h3
      by_cases h4 : 1099511627776 < s0
      · have p4 : decide (1099511627776 < s0) = true := decide_eq_true h4
        go_wp2_with fail
        go_quiet (fail)
        go_wp2_with fail
        go_ret
        exact ⟨ret_b (lg_no cm (HST.out.1 (by omega))), below_drewN' HB.out _⟩
      · have p4 : decide (1099511627776 < s0) = false := decide_eq_false h4
        go_wp2_with fail
        go_quiet (fail)
        go_wp2_with fail
        go_quiet (fail)
        go_wp2_with fail
        go_roundw
        case rel => exact ⟨k + 1, t0, s0, by omega, rfl, rfl, by go_num, c2, c8, hz, below_drewN' HB.out _, Lib.hid (HST.out.2 (by omega))⟩
        case measure => simp [intOf]; omega
    · have HT : Hid (logB tm 0 0 es = true) := Lib.hid (by rw [← HI.out, List.drop_eq_nil_of_le (by omega)]; rfl)
      clear HI
      go_wp2_with fail
      go_ret
      exact ⟨ret_b ((lg_at cm HT.out).trans (decide_eq_true (by omega))), hB0⟩
set_option maxRecDepth 100000 in
set_option maxHeartbeats 400000 in
theorem vlog_0 (id sz tm vt rl ld ti vs : Int) (a : Option Addr) (cap : Nat) (cm : Int) (nx mt : Value) (w : World) (hcm : cm = 0) :
    Calls Try.prog 31 #[mem id sz tm vt rl ld ti vs (.slice a 0 cap) cm nx mt] w fun e w' => e = .returned (.bool (lgB tm cm [])) ∧ Below w.heap.size w w' := by
  subst hcm
  go_enter Try.func31, Try.ntmps31
  go_wp2_with fail
  go_loop [27] (fun i => i = .int .i64 0) (fun i => 0)
  case atStart => rfl
  case round =>
    obtain rfl := hrel
    go_wp2_with fail
    go_ret
    exact ⟨rfl, (Below.refl _ _).alloc (Nat.le_refl _) _⟩
set_option maxRecDepth 100000 in
set_option maxHeartbeats 400000 in
theorem vlog_no (id sz tm vt rl ld ti vs : Int) (a : Option Addr) (cap : Nat) (es : List (List Value)) (cm : Int) (nx mt : Value) (w : World) (hl : es.length ≤ 100) (hcm : ¬ (0 ≤ cm ∧ cm ≤ es.length)) :
    Calls Try.prog 31 #[mem id sz tm vt rl ld ti vs (.slice a es.length cap) cm nx mt] w fun e w' => e = .returned (.bool (lgB tm cm es)) ∧ Below w.heap.size w w' := by
  have HL := Lib.hid (lg_out (tm := tm) hcm)
  have q2 : decide ((16384 : Int) < (es.length : Int)) = false := decide_eq_false (by omega)
  by_cases h0 : cm < 0
  · have q0 : decide (cm < 0) = true := decide_eq_true h0
    go_enter Try.func31, Try.ntmps31
    go_wp2_with fail
    go_ret
    exact ⟨ret_b HL.out, (Below.refl _ _).alloc (Nat.le_refl _) _⟩
  · have q0 : decide (cm < 0) = false := decide_eq_false h0
    have q1 : decide ((es.length : Int) < cm) = true := decide_eq_true (by omega)
    go_enter Try.func31, Try.ntmps31
    go_wp2_with fail
    go_ret
    exact ⟨ret_b HL.out, (Below.refl _ _).alloc (Nat.le_refl _) _⟩
theorem vlog_at (id sz tm vt rl ld ti vs : Int) (lg : Value) (es : List (List Value)) (cm : Int) (nx mt : Value) (w : World) (hl : es.length ≤ 100) (he : EntArg w lg es) :
    Calls Try.prog 31 #[mem id sz tm vt rl ld ti vs lg cm nx mt] w fun e w' => e = .returned (.bool (lgB tm cm es)) ∧ Below w.heap.size w w' := by
  by_cases hcm : 0 ≤ cm ∧ cm ≤ es.length
  · rcases he with ⟨rfl, a, cap, rfl⟩ | ⟨B, o, cap, rfl, hB, h0, _, hc⟩
    · exact vlog_0 id sz tm vt rl ld ti vs a cap cm nx mt w (by simp at hcm; omega)
    · exact vlog_in id sz tm vt rl ld ti vs B o cap es cm nx mt w hl hB hc hcm
  · obtain ⟨a, cap, rfl⟩ := he.len
    exact vlog_no id sz tm vt rl ld ti vs a cap es cm nx mt w hl hcm
end Go.Proofs.Ytfpgklhbghahoaa
