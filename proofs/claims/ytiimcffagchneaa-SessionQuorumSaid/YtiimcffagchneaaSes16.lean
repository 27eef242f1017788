/- Sessions: Acked in all cases, and the reference's: they return the same. -/
import Derived.Test.YtiimcffagchneaaSes15
namespace Go.Proofs.Ytiimcffagchneaa
open Go.ChangeShapes Go.WideShapes Go.ChangeAt Go.RowKit
set_option linter.unusedVariables false
set_option linter.unusedSimpArgs false
/-- the numbers of a slice that came in -/
def IntsIn (w : World) (v : Value) (xs : List Int) : Prop :=
  (xs = [] ∧ ∃ a cap, v = .slice a 0 cap) ∨ ∃ (B o cap : Nat), v = .slice (some ⟨B, o, none⟩) xs.length cap ∧ B < w.heap.size ∧ 0 < xs.length ∧ xs.length ≤ 9223372036854775807 ∧ ∀ j (h : j < xs.length), w.cell? ⟨B, o + j, none⟩ = some (.int .i64 xs[j])
theorem IntArg.ints {w : World} {v : Value} (h : IntArg w v) : ∃ xs, IntsIn w v xs := by
  rcases h with rfl | ⟨a, cap, rfl⟩ | ⟨B, o, cap, xs, h1, h2, h3, h4, h5, h6, h7⟩
  · exact ⟨[], .inl ⟨rfl, _, _, rfl⟩⟩
  · exact ⟨[], .inl ⟨rfl, _, _, rfl⟩⟩
  · exact ⟨xs, .inr ⟨B, o, cap, h1, h2, h4, h5, h7⟩⟩
theorem IntsIn.below {w w' : World} {v : Value} {xs : List Int} (h : IntsIn w v xs) (hb : Below w.heap.size w w') : IntsIn w' v xs := by
  rcases h with h | ⟨B, o, cap, h1, h2, h4, h5, h7⟩
  · exact .inl h
  · exact .inr ⟨B, o, cap, h1, Nat.lt_of_lt_of_le h2 hb.size, h4, h5, fun j hj => by rw [hb.cell (p := ⟨B, o + j, none⟩) h2]; exact h7 j hj⟩
set_option maxRecDepth 100000 in
set_option maxHeartbeats 400000 in
theorem ackl_want (id sz tm vt ld ti vs : Int) (lg : Value) (cm : Int) (nx : Value) (B o cap : Nat) (xs : List Int) (want index : Int) (w : World)
    (hB : B < w.heap.size) (hl : xs.length ≤ 9223372036854775807) (hw : 1 ≤ want) (hsz : want ≤ sz)
    (hc : ∀ j (h : j < xs.length), w.cell? ⟨B, o + j, none⟩ = some (.int .i64 xs[j])) :
    Calls Try.prog 20 #[mem id sz tm vt 2 ld ti vs lg cm nx (.slice (some ⟨B, o, none⟩) xs.length cap), .int .i64 want, .int .i64 index] w fun e w' => e = .returned (.bool (decide (want ≤ cnt xs index))) ∧ Below w.heap.size w w' := by
  have HC := Lib.hid hc
  clear hc
  have hw0 : (want == 0) = false := by rw [beq_eq_false_iff_ne]; omega
  go_enter Try.func20, Try.ntmps20
  go_wp2
  have hbw : Below w.heap.size w (w.alloc (.cells #[.int .i64 id, .int .i64 sz, .int .i64 tm, .int .i64 vt, .int .i64 2, .int .i64 ld, .int .i64 ti, .int .i64 vs, lg, .int .i64 cm, nx, .slice (some ⟨B, o, none⟩) xs.length cap] 37)) := (Below.refl _ _).alloc (Nat.le_refl _) _
  have hbox : (w.alloc (.cells #[.int .i64 id, .int .i64 sz, .int .i64 tm, .int .i64 vt, .int .i64 2, .int .i64 ld, .int .i64 ti, .int .i64 vs, lg, .int .i64 cm, nx, .slice (some ⟨B, o, none⟩) xs.length cap] 37)).cell? ⟨w.heap.size, 11, none⟩ = some (.slice (some ⟨B, o, none⟩) xs.length cap) := by simp [go_sem]
  generalize w.alloc _ = W0 at hbw hbox ⊢
  go_loop [7, 31] (fun t i => ∃ k : Nat, k ≤ xs.length ∧ i = .int .i64 k ∧ t = .int .i64 (cnt (xs.take k) index : Nat)) (fun _ i => xs.length - (intOf i).toNat)
  case atStart => exact ⟨0, Nat.zero_le _, rfl, rfl⟩
  case round =>
    obtain ⟨k, hk, rfl, rfl⟩ := hrel
    have hcl := cnt_le (xs.take k) index
    have hcl2 : (xs.take k).length ≤ k := List.length_take_le _ _
    by_cases hlt : k < xs.length
    · have hcell : W0.cell? ⟨B, o + k, none⟩ = some (.int .i64 xs[k]) := by rw [hbw.cell (p := ⟨B, o + k, none⟩) hB]; exact HC.out k hlt
      have HN : Hid (cnt (xs.take (k + 1)) index = cnt (xs.take k) index + if index ≤ xs[k] then 1 else 0) := by
        show cnt (xs.take (k + 1)) index = _
        rw [List.take_succ_eq_append_getElem hlt, cnt_snoc]
      generalize xs[k] = x at *
      generalize cnt (xs.take k) index = c at *
      by_cases hge : index ≤ x
      · go_wp2
        go_round
        case rel => exact ⟨k + 1, by omega, by go_num, by rw [HN.out, if_pos hge]; go_num⟩
        case measure => simp [intOf]; omega
      · go_wp2
        go_round
        case rel => exact ⟨k + 1, by omega, by go_num, by rw [HN.out, if_neg hge]; go_num⟩
        case measure => simp [intOf]; omega
    · have HE : Hid (xs.take k = xs) := List.take_of_length_le (by omega)
      go_wp2
      go_ret
      exact ⟨by rw [HE.out]; rfl, hbw⟩

set_option maxRecDepth 100000 in
set_option maxHeartbeats 400000 in
theorem ackl_zero (id sz tm vt ld ti vs : Int) (lg : Value) (cm : Int) (nx : Value) (B o cap : Nat) (xs : List Int) (index : Int) (w : World)
    (hB : B < w.heap.size) (hl : xs.length ≤ 9223372036854775807) (h1 : 1 ≤ sz) (h7 : sz ≤ 7)
    (hc : ∀ j (h : j < xs.length), w.cell? ⟨B, o + j, none⟩ = some (.int .i64 xs[j])) :
    Calls Try.prog 20 #[mem id sz tm vt 2 ld ti vs lg cm nx (.slice (some ⟨B, o, none⟩) xs.length cap), .int .i64 0, .int .i64 index] w fun e w' => e = .returned (.bool (decide (sz / 2 + 1 ≤ cnt xs index))) ∧ Below w.heap.size w w' := by
  have HC := Lib.hid hc
  clear hc
  go_enter Try.func20, Try.ntmps20
  go_wp2
  have hbw : Below w.heap.size w (w.alloc (.cells #[.int .i64 id, .int .i64 sz, .int .i64 tm, .int .i64 vt, .int .i64 2, .int .i64 ld, .int .i64 ti, .int .i64 vs, lg, .int .i64 cm, nx, .slice (some ⟨B, o, none⟩) xs.length cap] 37)) := (Below.refl _ _).alloc (Nat.le_refl _) _
  have hbox : (w.alloc (.cells #[.int .i64 id, .int .i64 sz, .int .i64 tm, .int .i64 vt, .int .i64 2, .int .i64 ld, .int .i64 ti, .int .i64 vs, lg, .int .i64 cm, nx, .slice (some ⟨B, o, none⟩) xs.length cap] 37)).cell? ⟨w.heap.size, 11, none⟩ = some (.slice (some ⟨B, o, none⟩) xs.length cap) := by simp [go_sem]
  generalize w.alloc _ = W0 at hbw hbox ⊢
  go_loop [7, 31] (fun t i => ∃ k : Nat, k ≤ xs.length ∧ i = .int .i64 k ∧ t = .int .i64 (cnt (xs.take k) index : Nat)) (fun _ i => xs.length - (intOf i).toNat)
  case atStart => exact ⟨0, Nat.zero_le _, rfl, rfl⟩
  case round =>
    obtain ⟨k, hk, rfl, rfl⟩ := hrel
    have hcl := cnt_le (xs.take k) index
    have hcl2 : (xs.take k).length ≤ k := List.length_take_le _ _
    by_cases hlt : k < xs.length
    · have hcell : W0.cell? ⟨B, o + k, none⟩ = some (.int .i64 xs[k]) := by rw [hbw.cell (p := ⟨B, o + k, none⟩) hB]; exact HC.out k hlt
      have HN : Hid (cnt (xs.take (k + 1)) index = cnt (xs.take k) index + if index ≤ xs[k] then 1 else 0) := by
        show cnt (xs.take (k + 1)) index = _
        rw [List.take_succ_eq_append_getElem hlt, cnt_snoc]
      generalize xs[k] = x at *
      generalize cnt (xs.take k) index = c at *
      by_cases hge : index ≤ x
      · go_wp2
        go_round
        case rel => exact ⟨k + 1, by omega, by go_num, by rw [HN.out, if_pos hge]; go_num⟩
        case measure => simp [intOf]; omega
      · go_wp2
        go_round
        case rel => exact ⟨k + 1, by omega, by go_num, by rw [HN.out, if_neg hge]; go_num⟩
        case measure => simp [intOf]; omega
    · have HE : Hid (xs.take k = xs) := List.take_of_length_le (by omega)
      go_wp2
      go_ret
      exact ⟨by rw [HE.out]; rfl, hbw⟩

set_option maxRecDepth 100000 in
set_option maxHeartbeats 400000 in
theorem rackl_want (id sz tm vt ld ti vs : Int) (lg : Value) (cm : Int) (nx : Value) (B o cap : Nat) (xs : List Int) (want index : Int) (w : World)
    (hB : B < w.heap.size) (hl : xs.length ≤ 9223372036854775807) (hw : 1 ≤ want) (hsz : want ≤ sz)
    (hc : ∀ j (h : j < xs.length), w.cell? ⟨B, o + j, none⟩ = some (.int .i64 xs[j])) :
    Calls Try.prog 21 #[mem id sz tm vt 2 ld ti vs lg cm nx (.slice (some ⟨B, o, none⟩) xs.length cap), .int .i64 want, .int .i64 index] w fun e w' => e = .returned (.bool (decide (want ≤ cnt xs index))) ∧ Below w.heap.size w w' := by
  have HC := Lib.hid hc
  clear hc
  have hw0 : (want == 0) = false := by rw [beq_eq_false_iff_ne]; omega
  go_enter Try.func21, Try.ntmps21
  go_wp2
  have hbw : Below w.heap.size w (w.alloc (.cells #[.int .i64 id, .int .i64 sz, .int .i64 tm, .int .i64 vt, .int .i64 2, .int .i64 ld, .int .i64 ti, .int .i64 vs, lg, .int .i64 cm, nx, .slice (some ⟨B, o, none⟩) xs.length cap] 37)) := (Below.refl _ _).alloc (Nat.le_refl _) _
  have hbox : (w.alloc (.cells #[.int .i64 id, .int .i64 sz, .int .i64 tm, .int .i64 vt, .int .i64 2, .int .i64 ld, .int .i64 ti, .int .i64 vs, lg, .int .i64 cm, nx, .slice (some ⟨B, o, none⟩) xs.length cap] 37)).cell? ⟨w.heap.size, 11, none⟩ = some (.slice (some ⟨B, o, none⟩) xs.length cap) := by simp [go_sem]
  generalize w.alloc _ = W0 at hbw hbox ⊢
  go_loop [7, 8] (fun t i => ∃ k : Nat, k ≤ xs.length ∧ i = .int .i64 k ∧ t = .int .i64 (cnt (xs.take k) index : Nat)) (fun _ i => xs.length - (intOf i).toNat)
  case atStart => exact ⟨0, Nat.zero_le _, rfl, rfl⟩
  case round =>
    obtain ⟨k, hk, rfl, rfl⟩ := hrel
    have hcl := cnt_le (xs.take k) index
    have hcl2 : (xs.take k).length ≤ k := List.length_take_le _ _
    by_cases hlt : k < xs.length
    · have hcell : W0.cell? ⟨B, o + k, none⟩ = some (.int .i64 xs[k]) := by rw [hbw.cell (p := ⟨B, o + k, none⟩) hB]; exact HC.out k hlt
      have HN : Hid (cnt (xs.take (k + 1)) index = cnt (xs.take k) index + if index ≤ xs[k] then 1 else 0) := by
        show cnt (xs.take (k + 1)) index = _
        rw [List.take_succ_eq_append_getElem hlt, cnt_snoc]
      generalize xs[k] = x at *
      generalize cnt (xs.take k) index = c at *
      by_cases hge : index ≤ x
      · go_wp2
        go_round
        case rel => exact ⟨k + 1, by omega, by go_num, by rw [HN.out, if_pos hge]; go_num⟩
        case measure => simp [intOf]; omega
      · go_wp2
        go_round
        case rel => exact ⟨k + 1, by omega, by go_num, by rw [HN.out, if_neg hge]; go_num⟩
        case measure => simp [intOf]; omega
    · have HE : Hid (xs.take k = xs) := List.take_of_length_le (by omega)
      go_wp2
      go_ret
      exact ⟨by rw [HE.out]; rfl, hbw⟩

set_option maxRecDepth 100000 in
set_option maxHeartbeats 400000 in
theorem rackl_zero (id sz tm vt ld ti vs : Int) (lg : Value) (cm : Int) (nx : Value) (B o cap : Nat) (xs : List Int) (index : Int) (w : World)
    (hB : B < w.heap.size) (hl : xs.length ≤ 9223372036854775807) (h1 : 1 ≤ sz) (h7 : sz ≤ 7)
    (hc : ∀ j (h : j < xs.length), w.cell? ⟨B, o + j, none⟩ = some (.int .i64 xs[j])) :
    Calls Try.prog 21 #[mem id sz tm vt 2 ld ti vs lg cm nx (.slice (some ⟨B, o, none⟩) xs.length cap), .int .i64 0, .int .i64 index] w fun e w' => e = .returned (.bool (decide (sz / 2 + 1 ≤ cnt xs index))) ∧ Below w.heap.size w w' := by
  have HC := Lib.hid hc
  clear hc
  go_enter Try.func21, Try.ntmps21
  go_wp2
  have hbw : Below w.heap.size w (w.alloc (.cells #[.int .i64 id, .int .i64 sz, .int .i64 tm, .int .i64 vt, .int .i64 2, .int .i64 ld, .int .i64 ti, .int .i64 vs, lg, .int .i64 cm, nx, .slice (some ⟨B, o, none⟩) xs.length cap] 37)) := (Below.refl _ _).alloc (Nat.le_refl _) _
  have hbox : (w.alloc (.cells #[.int .i64 id, .int .i64 sz, .int .i64 tm, .int .i64 vt, .int .i64 2, .int .i64 ld, .int .i64 ti, .int .i64 vs, lg, .int .i64 cm, nx, .slice (some ⟨B, o, none⟩) xs.length cap] 37)).cell? ⟨w.heap.size, 11, none⟩ = some (.slice (some ⟨B, o, none⟩) xs.length cap) := by simp [go_sem]
  generalize w.alloc _ = W0 at hbw hbox ⊢
  go_loop [7, 8] (fun t i => ∃ k : Nat, k ≤ xs.length ∧ i = .int .i64 k ∧ t = .int .i64 (cnt (xs.take k) index : Nat)) (fun _ i => xs.length - (intOf i).toNat)
  case atStart => exact ⟨0, Nat.zero_le _, rfl, rfl⟩
  case round =>
    obtain ⟨k, hk, rfl, rfl⟩ := hrel
    have hcl := cnt_le (xs.take k) index
    have hcl2 : (xs.take k).length ≤ k := List.length_take_le _ _
    by_cases hlt : k < xs.length
    · have hcell : W0.cell? ⟨B, o + k, none⟩ = some (.int .i64 xs[k]) := by rw [hbw.cell (p := ⟨B, o + k, none⟩) hB]; exact HC.out k hlt
      have HN : Hid (cnt (xs.take (k + 1)) index = cnt (xs.take k) index + if index ≤ xs[k] then 1 else 0) := by
        show cnt (xs.take (k + 1)) index = _
        rw [List.take_succ_eq_append_getElem hlt, cnt_snoc]
      generalize xs[k] = x at *
      generalize cnt (xs.take k) index = c at *
      by_cases hge : index ≤ x
      · go_wp2
        go_round
        case rel => exact ⟨k + 1, by omega, by go_num, by rw [HN.out, if_pos hge]; go_num⟩
        case measure => simp [intOf]; omega
      · go_wp2
        go_round
        case rel => exact ⟨k + 1, by omega, by go_num, by rw [HN.out, if_neg hge]; go_num⟩
        case measure => simp [intOf]; omega
    · have HE : Hid (xs.take k = xs) := List.take_of_length_le (by omega)
      go_wp2
      go_ret
      exact ⟨by rw [HE.out]; rfl, hbw⟩

set_option maxRecDepth 100000 in
set_option maxHeartbeats 400000 in
theorem acke_want (id sz tm vt ld ti vs : Int) (lg : Value) (cm : Int) (nx : Value) (a : Option Addr) (cap : Nat) (want index : Int) (w : World) (hw : 1 ≤ want) (hsz : want ≤ sz) :
    Calls Try.prog 20 #[mem id sz tm vt 2 ld ti vs lg cm nx (.slice a 0 cap), .int .i64 want, .int .i64 index] w fun e w' => e = .returned (.bool (decide (want ≤ (0 : Int)))) ∧ Below w.heap.size w w' := by
  have hw0 : (want == 0) = false := by rw [beq_eq_false_iff_ne]; omega
  go_enter Try.func20, Try.ntmps20
  go_wp2
  have hbw : Below w.heap.size w (w.alloc (.cells #[.int .i64 id, .int .i64 sz, .int .i64 tm, .int .i64 vt, .int .i64 2, .int .i64 ld, .int .i64 ti, .int .i64 vs, lg, .int .i64 cm, nx, .slice a 0 cap] 37)) := (Below.refl _ _).alloc (Nat.le_refl _) _
  have hbox : (w.alloc (.cells #[.int .i64 id, .int .i64 sz, .int .i64 tm, .int .i64 vt, .int .i64 2, .int .i64 ld, .int .i64 ti, .int .i64 vs, lg, .int .i64 cm, nx, .slice a 0 cap] 37)).cell? ⟨w.heap.size, 11, none⟩ = some (.slice a 0 cap) := by simp [go_sem]
  generalize w.alloc _ = W0 at hbw hbox ⊢
  go_loop [7, 31] (fun t i => t = .int .i64 0 ∧ i = .int .i64 0) (fun _ _ => 0)
  case atStart => exact ⟨rfl, rfl⟩
  case round =>
    obtain ⟨rfl, rfl⟩ := hrel
    go_wp2
    go_ret
    exact ⟨rfl, hbw⟩

set_option maxRecDepth 100000 in
set_option maxHeartbeats 400000 in
theorem acke_zero (id sz tm vt ld ti vs : Int) (lg : Value) (cm : Int) (nx : Value) (a : Option Addr) (cap : Nat) (want index : Int) (w : World) (h1 : 1 ≤ sz) (h7 : sz ≤ 7) :
    Calls Try.prog 20 #[mem id sz tm vt 2 ld ti vs lg cm nx (.slice a 0 cap), .int .i64 0, .int .i64 index] w fun e w' => e = .returned (.bool (decide (sz / 2 + 1 ≤ (0 : Int)))) ∧ Below w.heap.size w w' := by
  go_enter Try.func20, Try.ntmps20
  go_wp2
  have hbw : Below w.heap.size w (w.alloc (.cells #[.int .i64 id, .int .i64 sz, .int .i64 tm, .int .i64 vt, .int .i64 2, .int .i64 ld, .int .i64 ti, .int .i64 vs, lg, .int .i64 cm, nx, .slice a 0 cap] 37)) := (Below.refl _ _).alloc (Nat.le_refl _) _
  have hbox : (w.alloc (.cells #[.int .i64 id, .int .i64 sz, .int .i64 tm, .int .i64 vt, .int .i64 2, .int .i64 ld, .int .i64 ti, .int .i64 vs, lg, .int .i64 cm, nx, .slice a 0 cap] 37)).cell? ⟨w.heap.size, 11, none⟩ = some (.slice a 0 cap) := by simp [go_sem]
  generalize w.alloc _ = W0 at hbw hbox ⊢
  go_loop [7, 31] (fun t i => t = .int .i64 0 ∧ i = .int .i64 0) (fun _ _ => 0)
  case atStart => exact ⟨rfl, rfl⟩
  case round =>
    obtain ⟨rfl, rfl⟩ := hrel
    go_wp2
    go_ret
    exact ⟨rfl, hbw⟩

set_option maxRecDepth 100000 in
set_option maxHeartbeats 400000 in
theorem racke_want (id sz tm vt ld ti vs : Int) (lg : Value) (cm : Int) (nx : Value) (a : Option Addr) (cap : Nat) (want index : Int) (w : World) (hw : 1 ≤ want) (hsz : want ≤ sz) :
    Calls Try.prog 21 #[mem id sz tm vt 2 ld ti vs lg cm nx (.slice a 0 cap), .int .i64 want, .int .i64 index] w fun e w' => e = .returned (.bool (decide (want ≤ (0 : Int)))) ∧ Below w.heap.size w w' := by
  have hw0 : (want == 0) = false := by rw [beq_eq_false_iff_ne]; omega
  go_enter Try.func21, Try.ntmps21
  go_wp2
  have hbw : Below w.heap.size w (w.alloc (.cells #[.int .i64 id, .int .i64 sz, .int .i64 tm, .int .i64 vt, .int .i64 2, .int .i64 ld, .int .i64 ti, .int .i64 vs, lg, .int .i64 cm, nx, .slice a 0 cap] 37)) := (Below.refl _ _).alloc (Nat.le_refl _) _
  have hbox : (w.alloc (.cells #[.int .i64 id, .int .i64 sz, .int .i64 tm, .int .i64 vt, .int .i64 2, .int .i64 ld, .int .i64 ti, .int .i64 vs, lg, .int .i64 cm, nx, .slice a 0 cap] 37)).cell? ⟨w.heap.size, 11, none⟩ = some (.slice a 0 cap) := by simp [go_sem]
  generalize w.alloc _ = W0 at hbw hbox ⊢
  go_loop [7, 8] (fun t i => t = .int .i64 0 ∧ i = .int .i64 0) (fun _ _ => 0)
  case atStart => exact ⟨rfl, rfl⟩
  case round =>
    obtain ⟨rfl, rfl⟩ := hrel
    go_wp2
    go_ret
    exact ⟨rfl, hbw⟩

set_option maxRecDepth 100000 in
set_option maxHeartbeats 400000 in
theorem racke_zero (id sz tm vt ld ti vs : Int) (lg : Value) (cm : Int) (nx : Value) (a : Option Addr) (cap : Nat) (want index : Int) (w : World) (h1 : 1 ≤ sz) (h7 : sz ≤ 7) :
    Calls Try.prog 21 #[mem id sz tm vt 2 ld ti vs lg cm nx (.slice a 0 cap), .int .i64 0, .int .i64 index] w fun e w' => e = .returned (.bool (decide (sz / 2 + 1 ≤ (0 : Int)))) ∧ Below w.heap.size w w' := by
  go_enter Try.func21, Try.ntmps21
  go_wp2
  have hbw : Below w.heap.size w (w.alloc (.cells #[.int .i64 id, .int .i64 sz, .int .i64 tm, .int .i64 vt, .int .i64 2, .int .i64 ld, .int .i64 ti, .int .i64 vs, lg, .int .i64 cm, nx, .slice a 0 cap] 37)) := (Below.refl _ _).alloc (Nat.le_refl _) _
  have hbox : (w.alloc (.cells #[.int .i64 id, .int .i64 sz, .int .i64 tm, .int .i64 vt, .int .i64 2, .int .i64 ld, .int .i64 ti, .int .i64 vs, lg, .int .i64 cm, nx, .slice a 0 cap] 37)).cell? ⟨w.heap.size, 11, none⟩ = some (.slice a 0 cap) := by simp [go_sem]
  generalize w.alloc _ = W0 at hbw hbox ⊢
  go_loop [7, 8] (fun t i => t = .int .i64 0 ∧ i = .int .i64 0) (fun _ _ => 0)
  case atStart => exact ⟨rfl, rfl⟩
  case round =>
    obtain ⟨rfl, rfl⟩ := hrel
    go_wp2
    go_ret
    exact ⟨rfl, hbw⟩

set_option maxRecDepth 100000 in
theorem ackn (id sz tm vt rl ld ti vs : Int) (lg : Value) (cm : Int) (nx mt : Value) (want index : Int) (w : World) (h : rl ≠ 2 ∨ want < 0 ∨ sz < want) :
    Calls Try.prog 20 #[mem id sz tm vt rl ld ti vs lg cm nx mt, .int .i64 want, .int .i64 index] w fun e w' => e = .returned (.bool false) ∧ Below w.heap.size w w' := by
  have hbw : Below w.heap.size w (w.alloc (.cells #[.int .i64 id, .int .i64 sz, .int .i64 tm, .int .i64 vt, .int .i64 rl, .int .i64 ld, .int .i64 ti, .int .i64 vs, lg, .int .i64 cm, nx, mt] 37)) := (Below.refl _ _).alloc (Nat.le_refl _) _
  by_cases h1 : rl = 2
  · subst h1
    by_cases h2 : want < 0
    · clear h
      go_enter Try.func20, Try.ntmps20
      go_wp2
      go_ret
      exact ⟨rfl, hbw⟩
    · have h3 : sz < want := by omega
      clear h
      go_enter Try.func20, Try.ntmps20
      go_wp2
      go_ret
      exact ⟨rfl, hbw⟩
  · have q : (rl != 2) = true := by simpa using h1
    clear h
    go_enter Try.func20, Try.ntmps20
    go_wp2
    go_ret
    exact ⟨rfl, hbw⟩

set_option maxRecDepth 100000 in
theorem rackn (id sz tm vt rl ld ti vs : Int) (lg : Value) (cm : Int) (nx mt : Value) (want index : Int) (w : World) (h : rl ≠ 2 ∨ want < 0 ∨ sz < want) :
    Calls Try.prog 21 #[mem id sz tm vt rl ld ti vs lg cm nx mt, .int .i64 want, .int .i64 index] w fun e w' => e = .returned (.bool false) ∧ Below w.heap.size w w' := by
  have hbw : Below w.heap.size w (w.alloc (.cells #[.int .i64 id, .int .i64 sz, .int .i64 tm, .int .i64 vt, .int .i64 rl, .int .i64 ld, .int .i64 ti, .int .i64 vs, lg, .int .i64 cm, nx, mt] 37)) := (Below.refl _ _).alloc (Nat.le_refl _) _
  by_cases h1 : rl = 2
  · subst h1
    by_cases h2 : want < 0
    · clear h
      go_enter Try.func21, Try.ntmps21
      go_wp2
      go_ret
      exact ⟨rfl, hbw⟩
    · have h3 : sz < want := by omega
      clear h
      go_enter Try.func21, Try.ntmps21
      go_wp2
      go_ret
      exact ⟨rfl, hbw⟩
  · have q : (rl != 2) = true := by simpa using h1
    clear h
    go_enter Try.func21, Try.ntmps21
    go_wp2
    go_ret
    exact ⟨rfl, hbw⟩

/-- what Acked answers -/
def ackB (rl sz : Int) (xs : List Int) (want index : Int) : Bool :=
  decide (rl = 2) && decide (0 ≤ want) && decide (want ≤ sz) && decide ((if want = 0 then sz / 2 + 1 else want) ≤ (cnt xs index : Nat))
theorem acked_all (id sz tm vt rl ld ti vs : Int) (lg : Value) (cm : Int) (nx mt : Value) (xs : List Int) (want index : Int) (w : World) (h1 : 1 ≤ sz) (h7 : sz ≤ 7) (hv : IntsIn w mt xs) :
    Calls Try.prog 20 #[mem id sz tm vt rl ld ti vs lg cm nx mt, .int .i64 want, .int .i64 index] w fun e w' => e = .returned (.bool (ackB rl sz xs want index)) ∧ Below w.heap.size w w' := by
  by_cases hn : rl ≠ 2 ∨ want < 0 ∨ sz < want
  · have e : ackB rl sz xs want index = false := by
      unfold ackB
      rcases hn with h | h | h
      · simp [h]
      · simp [show ¬ 0 ≤ want by omega]
      · simp [show ¬ want ≤ sz by omega]
    rw [e]
    exact ackn id sz tm vt rl ld ti vs lg cm nx mt want index w hn
  · have hr : rl = 2 := by omega
    subst hr
    by_cases hz : want = 0
    · subst hz
      have e : ackB 2 sz xs 0 index = decide (sz / 2 + 1 ≤ (cnt xs index : Nat)) := by
        simp [ackB, show (0 : Int) ≤ sz by omega]
      rw [e]
      rcases hv with ⟨rfl, a, cap, rfl⟩ | ⟨B, o, cap, rfl, hB, _, hl, hc⟩
      · exact acke_zero id sz tm vt ld ti vs lg cm nx a cap 0 index w h1 h7
      · exact ackl_zero id sz tm vt ld ti vs lg cm nx B o cap xs index w hB hl h1 h7 hc
    · have e : ackB 2 sz xs want index = decide (want ≤ (cnt xs index : Nat)) := by
        simp [ackB, hz, show (0 : Int) ≤ want by omega, show want ≤ sz by omega]
      rw [e]
      rcases hv with ⟨rfl, a, cap, rfl⟩ | ⟨B, o, cap, rfl, hB, _, hl, hc⟩
      · exact acke_want id sz tm vt ld ti vs lg cm nx a cap want index w (by omega) (by omega)
      · exact ackl_want id sz tm vt ld ti vs lg cm nx B o cap xs want index w hB hl (by omega) (by omega) hc
theorem racked_all (id sz tm vt rl ld ti vs : Int) (lg : Value) (cm : Int) (nx mt : Value) (xs : List Int) (want index : Int) (w : World) (h1 : 1 ≤ sz) (h7 : sz ≤ 7) (hv : IntsIn w mt xs) :
    Calls Try.prog 21 #[mem id sz tm vt rl ld ti vs lg cm nx mt, .int .i64 want, .int .i64 index] w fun e w' => e = .returned (.bool (ackB rl sz xs want index)) ∧ Below w.heap.size w w' := by
  by_cases hn : rl ≠ 2 ∨ want < 0 ∨ sz < want
  · have e : ackB rl sz xs want index = false := by
      unfold ackB
      rcases hn with h | h | h
      · simp [h]
      · simp [show ¬ 0 ≤ want by omega]
      · simp [show ¬ want ≤ sz by omega]
    rw [e]
    exact rackn id sz tm vt rl ld ti vs lg cm nx mt want index w hn
  · have hr : rl = 2 := by omega
    subst hr
    by_cases hz : want = 0
    · subst hz
      have e : ackB 2 sz xs 0 index = decide (sz / 2 + 1 ≤ (cnt xs index : Nat)) := by
        simp [ackB, show (0 : Int) ≤ sz by omega]
      rw [e]
      rcases hv with ⟨rfl, a, cap, rfl⟩ | ⟨B, o, cap, rfl, hB, _, hl, hc⟩
      · exact racke_zero id sz tm vt ld ti vs lg cm nx a cap 0 index w h1 h7
      · exact rackl_zero id sz tm vt ld ti vs lg cm nx B o cap xs index w hB hl h1 h7 hc
    · have e : ackB 2 sz xs want index = decide (want ≤ (cnt xs index : Nat)) := by
        simp [ackB, hz, show (0 : Int) ≤ want by omega, show want ≤ sz by omega]
      rw [e]
      rcases hv with ⟨rfl, a, cap, rfl⟩ | ⟨B, o, cap, rfl, hB, _, hl, hc⟩
      · exact racke_want id sz tm vt ld ti vs lg cm nx a cap want index w (by omega) (by omega)
      · exact rackl_want id sz tm vt ld ti vs lg cm nx B o cap xs want index w hB hl (by omega) (by omega) hc
end Go.Proofs.Ytiimcffagchneaa
