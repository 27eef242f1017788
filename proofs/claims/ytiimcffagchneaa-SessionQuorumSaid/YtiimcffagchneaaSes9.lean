/- Sessions: SessionGrows. -/
import Derived.Test.YtiimcffagchneaaSes8
import Derived.StillTailTactics
namespace Go.Proofs.Ytiimcffagchneaa
open Go.ChangeShapes Go.WideShapes Go.ChangeAt Go.RowKit
set_option linter.unusedVariables false
set_option linter.unusedSimpArgs false
theorem new_s (w : World) : Calls Try.prog 10 #[.string ⟨#[115]⟩] w fun e w' => e = .returned (.tuple #[ses ⟨#[115]⟩ 0 0 0, .int .i64 0]) ∧ Below w.heap.size w w' := new_yes ⟨#[115]⟩ w (by decide) (by decide +kernel)

set_option maxRecDepth 100000 in
set_option maxHeartbeats 800000 in
theorem sesgrows_in (xs : List Int) (B o cap : Nat) (w : World) (hB : B < w.heap.size) (hl : xs.length ≤ 100) (hc : ∀ j (h : j < xs.length), w.cell? ⟨B, o + j, none⟩ = some (.int .i64 xs[j])) :
    Calls Try.prog 7 #[.slice (some ⟨B, o, none⟩) xs.length cap] w fun e w' => e = .returned (.bool true) ∧ Below w.heap.size w w' := by
  have HC := Lib.hid hc
  clear hc
  go_enter Try.func7, Try.ntmps7
  go_wp2_with fail
  refine (new_s _).mono ?_
  rintro e w1 ⟨he1, hb1⟩
  simp only [ses] at he1
  subst he1
  have hs1 : w.heap.size ≤ w1.heap.size := hb1.size
  have hB1 : B < w1.heap.size := by omega
  have HC1 : Hid (∀ j (h : j < xs.length), w1.cell? ⟨B, o + j, none⟩ = some (.int .i64 xs[j])) := Lib.hid (fun j h => (hb1.cell (p := ⟨B, o + j, none⟩) hB).trans (HC.out j h))
  clear HC
  go_wp2_with fail
  go_loopw [5, 6, 7, 8] (fun m wr nu i W => ∃ (k : Nat) (zm zw zn : Int), k ≤ xs.length ∧ m = .int .i64 zm ∧ wr = .int .i64 zw ∧ nu = .int .i64 zn ∧ i = .int .i64 k ∧ SesAt w1 ⟨#[115]⟩ zm zw zn W ∧ ∀ o, W.frozen? ⟨w1.heap.size, o, none⟩ = false) (fun _ _ _ i _ => xs.length - (intOf i).toNat)
  case atStart => exact ⟨0, 0, 0, 0, Nat.zero_le _, rfl, rfl, rfl, rfl, ⟨by simp [go_sem], by simp [go_sem], by simp [go_sem], by simp [go_sem], by simp, (Below.refl _ _).alloc (Nat.le_refl _) _⟩, fun o => by simp [go_sem]⟩
  case round =>
    obtain ⟨k, zm, zw, zn, hk, rfl, rfl, rfl, rfl, ⟨c0, c1, c2, c3, hz, hB0⟩, hfr⟩ := hrel
    by_cases hlt : k < xs.length
    · have hcell : wr.cell? ⟨B, o + k, none⟩ = some (.int .i64 xs[k]) := (hB0.cell (p := ⟨B, o + k, none⟩) hB1).trans (HC1.out k hlt)
      generalize xs[k] = x at hcell
      by_cases hodd : x.tmod 2 = 0
      · by_cases hgt : zm < x
        · go_wp2_with fail
          go_still_tail 5, (by kernel_rfl)
          change wpList _ _ _ _ _ wr.drew
          have d0 : wr.drew.cell? ⟨w1.heap.size, 0, none⟩ = some (.string ⟨#[115]⟩) := c0
          have d1 : wr.drew.cell? ⟨w1.heap.size, 1, none⟩ = some (.int .i64 zm) := c1
          have d2 : wr.drew.cell? ⟨w1.heap.size, 2, none⟩ = some (.int .i64 zw) := c2
          have d3 : wr.drew.cell? ⟨w1.heap.size, 3, none⟩ = some (.int .i64 zn) := c3
          have df : ∀ o, wr.drew.frozen? ⟨w1.heap.size, o, none⟩ = false := hfr
          have dc : wr.drew.cell? ⟨B, o + k, none⟩ = some (.int .i64 x) := hcell
          have dz : w1.heap.size < wr.drew.heap.size := hz
          have dB : Below w1.heap.size w1 wr.drew := hB0.drew
          generalize wr.drew = wd at d0 d1 d2 d3 df dc dz dB ⊢
          clear c0 c1 c2 c3 hcell hz hB0 hfr
          go_wp2_with fail
          refine (saw_hi _ _ _ _ _ _ (by first | exact hgt | omega)).mono ?_
          rintro e w2 ⟨he2, hb2⟩
          simp only [ses] at he2
          subst he2
          obtain ⟨g2, f2⟩ := bcell hb2
          have k0 : w2.cell? ⟨w1.heap.size, 0, none⟩ = some (.string ⟨#[115]⟩) := (g2 _ _ dz).trans d0
          have k1 : w2.cell? ⟨w1.heap.size, 1, none⟩ = some (.int .i64 zm) := (g2 _ _ dz).trans d1
          have k2 : w2.cell? ⟨w1.heap.size, 2, none⟩ = some (.int .i64 zw) := (g2 _ _ dz).trans d2
          have k3 : w2.cell? ⟨w1.heap.size, 3, none⟩ = some (.int .i64 zn) := (g2 _ _ dz).trans d3
          have kf : ∀ o, w2.frozen? ⟨w1.heap.size, o, none⟩ = false := fun o => (f2 _ _ dz).trans (df o)
          have kc : w2.cell? ⟨B, o + k, none⟩ = some (.int .i64 x) := (g2 _ _ (by omega)).trans dc
          have kz : w1.heap.size < w2.heap.size := Nat.lt_of_lt_of_le dz hb2.size
          have kB : Hid (Below w1.heap.size w1 w2) := Lib.hid (dB.trans (hb2.mono (Nat.le_of_lt dz)))
          have hne : B ≠ w1.heap.size := by omega
          clear g2 f2 df d0 d1 d2 d3 dc dz dB hb2
          go_wp2_with fail
          go_roundw
          case rel => exact ⟨k + 1, x, zw, zn, by omega, rfl, rfl, rfl, by go_num, ⟨by simp [go_sem, k0, k1, k2, k3], by simp [go_sem, k0, k1, k2, k3], by simp [go_sem, k0, k1, k2, k3], by simp [go_sem, k0, k1, k2, k3], by simpa using kz, by repeat' (first | with_reducible exact kB.out | with_reducible refine Below.setCell ?_ (by simp) _)⟩, fun o => by simp [go_sem, kf]⟩
          case measure => simp [intOf]; omega
        · go_wp2_with fail
          go_still_tail 5, (by kernel_rfl)
          change wpList _ _ _ _ _ wr.drew
          have d0 : wr.drew.cell? ⟨w1.heap.size, 0, none⟩ = some (.string ⟨#[115]⟩) := c0
          have d1 : wr.drew.cell? ⟨w1.heap.size, 1, none⟩ = some (.int .i64 zm) := c1
          have d2 : wr.drew.cell? ⟨w1.heap.size, 2, none⟩ = some (.int .i64 zw) := c2
          have d3 : wr.drew.cell? ⟨w1.heap.size, 3, none⟩ = some (.int .i64 zn) := c3
          have df : ∀ o, wr.drew.frozen? ⟨w1.heap.size, o, none⟩ = false := hfr
          have dc : wr.drew.cell? ⟨B, o + k, none⟩ = some (.int .i64 x) := hcell
          have dz : w1.heap.size < wr.drew.heap.size := hz
          have dB : Below w1.heap.size w1 wr.drew := hB0.drew
          generalize wr.drew = wd at d0 d1 d2 d3 df dc dz dB ⊢
          clear c0 c1 c2 c3 hcell hz hB0 hfr
          go_wp2_with fail
          refine (saw_lo _ _ _ _ _ _ (by first | exact hgt | omega)).mono ?_
          rintro e w2 ⟨he2, hb2⟩
          simp only [ses] at he2
          subst he2
          obtain ⟨g2, f2⟩ := bcell hb2
          have k0 : w2.cell? ⟨w1.heap.size, 0, none⟩ = some (.string ⟨#[115]⟩) := (g2 _ _ dz).trans d0
          have k1 : w2.cell? ⟨w1.heap.size, 1, none⟩ = some (.int .i64 zm) := (g2 _ _ dz).trans d1
          have k2 : w2.cell? ⟨w1.heap.size, 2, none⟩ = some (.int .i64 zw) := (g2 _ _ dz).trans d2
          have k3 : w2.cell? ⟨w1.heap.size, 3, none⟩ = some (.int .i64 zn) := (g2 _ _ dz).trans d3
          have kf : ∀ o, w2.frozen? ⟨w1.heap.size, o, none⟩ = false := fun o => (f2 _ _ dz).trans (df o)
          have kc : w2.cell? ⟨B, o + k, none⟩ = some (.int .i64 x) := (g2 _ _ (by omega)).trans dc
          have kz : w1.heap.size < w2.heap.size := Nat.lt_of_lt_of_le dz hb2.size
          have kB : Hid (Below w1.heap.size w1 w2) := Lib.hid (dB.trans (hb2.mono (Nat.le_of_lt dz)))
          have hne : B ≠ w1.heap.size := by omega
          clear g2 f2 df d0 d1 d2 d3 dc dz dB hb2
          go_wp2_with fail
          go_roundw
          case rel => exact ⟨k + 1, zm, zw, zn, by omega, rfl, rfl, rfl, by go_num, ⟨by simp [go_sem, k0, k1, k2, k3], by simp [go_sem, k0, k1, k2, k3], by simp [go_sem, k0, k1, k2, k3], by simp [go_sem, k0, k1, k2, k3], by simpa using kz, by repeat' (first | with_reducible exact kB.out | with_reducible refine Below.setCell ?_ (by simp) _)⟩, fun o => by simp [go_sem, kf]⟩
          case measure => simp [intOf]; omega
      · by_cases hgt : zm < x
        · go_wp2_with fail
          go_still_tail 6, (by kernel_rfl)
          change wpList _ _ _ _ _ wr.drew
          have d0 : wr.drew.cell? ⟨w1.heap.size, 0, none⟩ = some (.string ⟨#[115]⟩) := c0
          have d1 : wr.drew.cell? ⟨w1.heap.size, 1, none⟩ = some (.int .i64 zm) := c1
          have d2 : wr.drew.cell? ⟨w1.heap.size, 2, none⟩ = some (.int .i64 zw) := c2
          have d3 : wr.drew.cell? ⟨w1.heap.size, 3, none⟩ = some (.int .i64 zn) := c3
          have df : ∀ o, wr.drew.frozen? ⟨w1.heap.size, o, none⟩ = false := hfr
          have dc : wr.drew.cell? ⟨B, o + k, none⟩ = some (.int .i64 x) := hcell
          have dz : w1.heap.size < wr.drew.heap.size := hz
          have dB : Below w1.heap.size w1 wr.drew := hB0.drew
          generalize wr.drew = wd at d0 d1 d2 d3 df dc dz dB ⊢
          clear c0 c1 c2 c3 hcell hz hB0 hfr
          go_wp2_with fail
          refine (wrote_hi _ _ _ _ _ _ _ (by first | exact hgt | omega)).mono ?_
          rintro e w2 ⟨he2, hb2⟩
          simp only [ses] at he2
          subst he2
          obtain ⟨g2, f2⟩ := bcell hb2
          have k0 : w2.cell? ⟨w1.heap.size, 0, none⟩ = some (.string ⟨#[115]⟩) := (g2 _ _ dz).trans d0
          have k1 : w2.cell? ⟨w1.heap.size, 1, none⟩ = some (.int .i64 zm) := (g2 _ _ dz).trans d1
          have k2 : w2.cell? ⟨w1.heap.size, 2, none⟩ = some (.int .i64 zw) := (g2 _ _ dz).trans d2
          have k3 : w2.cell? ⟨w1.heap.size, 3, none⟩ = some (.int .i64 zn) := (g2 _ _ dz).trans d3
          have kf : ∀ o, w2.frozen? ⟨w1.heap.size, o, none⟩ = false := fun o => (f2 _ _ dz).trans (df o)
          have kc : w2.cell? ⟨B, o + k, none⟩ = some (.int .i64 x) := (g2 _ _ (by omega)).trans dc
          have kz : w1.heap.size < w2.heap.size := Nat.lt_of_lt_of_le dz hb2.size
          have kB : Hid (Below w1.heap.size w1 w2) := Lib.hid (dB.trans (hb2.mono (Nat.le_of_lt dz)))
          have hne : B ≠ w1.heap.size := by omega
          clear g2 f2 df d0 d1 d2 d3 dc dz dB hb2
          go_wp2_with fail
          go_roundw
          case rel => exact ⟨k + 1, x, x, k, by omega, rfl, rfl, rfl, by go_num, ⟨by simp [go_sem, k0, k1, k2, k3], by simp [go_sem, k0, k1, k2, k3], by simp [go_sem, k0, k1, k2, k3], by simp [go_sem, k0, k1, k2, k3], by simpa using kz, by repeat' (first | with_reducible exact kB.out | with_reducible refine Below.setCell ?_ (by simp) _)⟩, fun o => by simp [go_sem, kf]⟩
          case measure => simp [intOf]; omega
        · go_wp2_with fail
          go_still_tail 6, (by kernel_rfl)
          change wpList _ _ _ _ _ wr.drew
          have d0 : wr.drew.cell? ⟨w1.heap.size, 0, none⟩ = some (.string ⟨#[115]⟩) := c0
          have d1 : wr.drew.cell? ⟨w1.heap.size, 1, none⟩ = some (.int .i64 zm) := c1
          have d2 : wr.drew.cell? ⟨w1.heap.size, 2, none⟩ = some (.int .i64 zw) := c2
          have d3 : wr.drew.cell? ⟨w1.heap.size, 3, none⟩ = some (.int .i64 zn) := c3
          have df : ∀ o, wr.drew.frozen? ⟨w1.heap.size, o, none⟩ = false := hfr
          have dc : wr.drew.cell? ⟨B, o + k, none⟩ = some (.int .i64 x) := hcell
          have dz : w1.heap.size < wr.drew.heap.size := hz
          have dB : Below w1.heap.size w1 wr.drew := hB0.drew
          generalize wr.drew = wd at d0 d1 d2 d3 df dc dz dB ⊢
          clear c0 c1 c2 c3 hcell hz hB0 hfr
          go_wp2_with fail
          refine (wrote_lo _ _ _ _ _ _ _ (by first | exact hgt | omega)).mono ?_
          rintro e w2 ⟨he2, hb2⟩
          simp only [ses] at he2
          subst he2
          obtain ⟨g2, f2⟩ := bcell hb2
          have k0 : w2.cell? ⟨w1.heap.size, 0, none⟩ = some (.string ⟨#[115]⟩) := (g2 _ _ dz).trans d0
          have k1 : w2.cell? ⟨w1.heap.size, 1, none⟩ = some (.int .i64 zm) := (g2 _ _ dz).trans d1
          have k2 : w2.cell? ⟨w1.heap.size, 2, none⟩ = some (.int .i64 zw) := (g2 _ _ dz).trans d2
          have k3 : w2.cell? ⟨w1.heap.size, 3, none⟩ = some (.int .i64 zn) := (g2 _ _ dz).trans d3
          have kf : ∀ o, w2.frozen? ⟨w1.heap.size, o, none⟩ = false := fun o => (f2 _ _ dz).trans (df o)
          have kc : w2.cell? ⟨B, o + k, none⟩ = some (.int .i64 x) := (g2 _ _ (by omega)).trans dc
          have kz : w1.heap.size < w2.heap.size := Nat.lt_of_lt_of_le dz hb2.size
          have kB : Hid (Below w1.heap.size w1 w2) := Lib.hid (dB.trans (hb2.mono (Nat.le_of_lt dz)))
          have hne : B ≠ w1.heap.size := by omega
          clear g2 f2 df d0 d1 d2 d3 dc dz dB hb2
          go_wp2_with fail
          go_roundw
          case rel => exact ⟨k + 1, zm, x, k, by omega, rfl, rfl, rfl, by go_num, ⟨by simp [go_sem, k0, k1, k2, k3], by simp [go_sem, k0, k1, k2, k3], by simp [go_sem, k0, k1, k2, k3], by simp [go_sem, k0, k1, k2, k3], by simpa using kz, by repeat' (first | with_reducible exact kB.out | with_reducible refine Below.setCell ?_ (by simp) _)⟩, fun o => by simp [go_sem, kf]⟩
          case measure => simp [intOf]; omega
    · go_wp2_with fail
      refine (awake_any _).mono ?_
      rintro e w3 ⟨rfl, hb3⟩
      go_wp2_with fail
      go_ret
      exact ⟨rfl, hb1.trans ((hB0.trans (hb3.mono (Nat.le_of_lt hz))).mono hs1)⟩
end Go.Proofs.Ytiimcffagchneaa
