/- Sessions: acknowledgements. -/
import Derived.Test.YtiimcffagchneaaSes3
namespace Go.Proofs.Ytiimcffagchneaa
open Go.ChangeShapes Go.WideShapes Go.ChangeAt Go.RowKit
set_option linter.unusedVariables false

/-- a member as a value -/
abbrev mem (id sz tm vt rl ld ti vs : Int) (lg : Value) (cm : Int) (nx mt : Value) : Value :=
  .agg #[.int .i64 id, .int .i64 sz, .int .i64 tm, .int .i64 vt, .int .i64 rl, .int .i64 ld, .int .i64 ti, .int .i64 vs, lg, .int .i64 cm, nx, mt]
/-- a slice of ints reads as xs -/
def IntsAt (w : World) (v : Value) (xs : List Int) : Prop :=
  (v = .slice none 0 0 ∧ xs = []) ∨ ∃ B o cap, v = .slice (some ⟨B, o, none⟩) xs.length cap ∧ B < w.heap.size ∧ ∀ j (h : j < xs.length), w.cell? ⟨B, o + j, none⟩ = some (.int .i64 xs[j])
def cnt (xs : List Int) (i : Int) : Nat := (xs.filter fun x => decide (i ≤ x)).length
theorem cnt_snoc (xs : List Int) (x i : Int) : cnt (xs ++ [x]) i = cnt xs i + if i ≤ x then 1 else 0 := by
  unfold cnt
  rw [List.filter_append, List.length_append]
  by_cases h : i ≤ x <;> simp [h]
theorem cnt_le (xs : List Int) (i : Int) : cnt xs i ≤ xs.length := List.length_filter_le _ _

set_option maxRecDepth 100000 in
set_option maxHeartbeats 400000 in
theorem acked_want (id sz tm vt ld ti vs : Int) (lg : Value) (cm : Int) (nx : Value) (B o cap : Nat) (xs : List Int) (want index : Int) (w : World)
    (hB : B < w.heap.size) (hl : xs.length ≤ 1000000) (hw : 1 ≤ want) (hsz : want ≤ sz)
    (hc : ∀ j (h : j < xs.length), w.cell? ⟨B, o + j, none⟩ = some (.int .i64 xs[j])) :
    Calls Try.prog 20 #[mem id sz tm vt 2 ld ti vs lg cm nx (.slice (some ⟨B, o, none⟩) xs.length cap), .int .i64 want, .int .i64 index] w fun e w' => e = .returned (.bool (decide (want ≤ cnt xs index))) ∧ Below w.heap.size w w' := by
  have HC := Lib.hid hc
  clear hc
  have hw0 : (want == 0) = false := by rw [beq_eq_false_iff_ne]; omega
  go_enter Try.func20, Try.ntmps20
  go_wp2
  have hbw : Below w.heap.size w (w.alloc (.cells #[.int .i64 id, .int .i64 sz, .int .i64 tm, .int .i64 vt, .int .i64 2, .int .i64 ld, .int .i64 ti, .int .i64 vs, lg, .int .i64 cm, nx, .slice (some ⟨B, o, none⟩) xs.length cap] 37)) := (Below.refl _ _).alloc (Nat.le_refl _) _
  have hbox : (w.alloc (.cells #[.int .i64 id, .int .i64 sz, .int .i64 tm, .int .i64 vt, .int .i64 2, .int .i64 ld, .int .i64 ti, .int .i64 vs, lg, .int .i64 cm, nx, .slice (some ⟨B, o, none⟩) xs.length cap] 37)).cell? ⟨w.heap.size, 11, none⟩ = some (.slice (some ⟨B, o, none⟩) xs.length cap) := by simp [go_sem]
  generalize w.alloc _ = W0 at hbw hbox ⊢
  go_loop [7, 31] (fun t i => ∃ k : Nat, k ≤ xs.length ∧ i = .int .i64 k ∧ t = .int .i64 (cnt (xs.take k) index : Nat)) (fun _ i => xs.length - (intOf i).toNat)
  case atStart => exact ⟨0, Nat.zero_le _, rfl, rfl⟩
  case round =>
    obtain ⟨k, hk, rfl, rfl⟩ := hrel
    have hcl := cnt_le (xs.take k) index
    have hcl2 : (xs.take k).length ≤ xs.length := List.length_take_le' _ _
    by_cases hlt : k < xs.length
    · have hcell : W0.cell? ⟨B, o + k, none⟩ = some (.int .i64 xs[k]) := by rw [hbw.cell (p := ⟨B, o + k, none⟩) hB]; exact HC.out k hlt
      have HN : Hid (cnt (xs.take (k + 1)) index = cnt (xs.take k) index + if index ≤ xs[k] then 1 else 0) := by
        show cnt (xs.take (k + 1)) index = _
        rw [List.take_succ_eq_append_getElem hlt, cnt_snoc]
      generalize xs[k] = x at *
      generalize cnt (xs.take k) index = c at *
      by_cases hge : index ≤ x
      · go_wp2
        go_round
        case rel => exact ⟨k + 1, by omega, by go_num, by rw [HN.out, if_pos hge]; go_num⟩
        case measure => simp [intOf]; omega
      · go_wp2
        go_round
        case rel => exact ⟨k + 1, by omega, by go_num, by rw [HN.out, if_neg hge]; go_num⟩
        case measure => simp [intOf]; omega
    · have HE : Hid (xs.take k = xs) := List.take_of_length_le (by omega)
      go_wp2
      go_ret
      exact ⟨by rw [HE.out]; rfl, hbw⟩

set_option maxRecDepth 100000 in
set_option maxHeartbeats 400000 in
theorem acked_zero (id sz tm vt ld ti vs : Int) (lg : Value) (cm : Int) (nx : Value) (B o cap : Nat) (xs : List Int) (index : Int) (w : World)
    (hB : B < w.heap.size) (hl : xs.length ≤ 1000000) (h1 : 1 ≤ sz) (h7 : sz ≤ 7)
    (hc : ∀ j (h : j < xs.length), w.cell? ⟨B, o + j, none⟩ = some (.int .i64 xs[j])) :
    Calls Try.prog 20 #[mem id sz tm vt 2 ld ti vs lg cm nx (.slice (some ⟨B, o, none⟩) xs.length cap), .int .i64 0, .int .i64 index] w fun e w' => e = .returned (.bool (decide (sz / 2 + 1 ≤ cnt xs index))) ∧ Below w.heap.size w w' := by
  have HC := Lib.hid hc
  clear hc
  go_enter Try.func20, Try.ntmps20
  go_wp2
  have hbw : Below w.heap.size w (w.alloc (.cells #[.int .i64 id, .int .i64 sz, .int .i64 tm, .int .i64 vt, .int .i64 2, .int .i64 ld, .int .i64 ti, .int .i64 vs, lg, .int .i64 cm, nx, .slice (some ⟨B, o, none⟩) xs.length cap] 37)) := (Below.refl _ _).alloc (Nat.le_refl _) _
  have hbox : (w.alloc (.cells #[.int .i64 id, .int .i64 sz, .int .i64 tm, .int .i64 vt, .int .i64 2, .int .i64 ld, .int .i64 ti, .int .i64 vs, lg, .int .i64 cm, nx, .slice (some ⟨B, o, none⟩) xs.length cap] 37)).cell? ⟨w.heap.size, 11, none⟩ = some (.slice (some ⟨B, o, none⟩) xs.length cap) := by simp [go_sem]
  generalize w.alloc _ = W0 at hbw hbox ⊢
  go_loop [7, 31] (fun t i => ∃ k : Nat, k ≤ xs.length ∧ i = .int .i64 k ∧ t = .int .i64 (cnt (xs.take k) index : Nat)) (fun _ i => xs.length - (intOf i).toNat)
  case atStart => exact ⟨0, Nat.zero_le _, rfl, rfl⟩
  case round =>
    obtain ⟨k, hk, rfl, rfl⟩ := hrel
    have hcl := cnt_le (xs.take k) index
    have hcl2 : (xs.take k).length ≤ xs.length := List.length_take_le' _ _
    by_cases hlt : k < xs.length
    · have hcell : W0.cell? ⟨B, o + k, none⟩ = some (.int .i64 xs[k]) := by rw [hbw.cell (p := ⟨B, o + k, none⟩) hB]; exact HC.out k hlt
      have HN : Hid (cnt (xs.take (k + 1)) index = cnt (xs.take k) index + if index ≤ xs[k] then 1 else 0) := by
        show cnt (xs.take (k + 1)) index = _
        rw [List.take_succ_eq_append_getElem hlt, cnt_snoc]
      generalize xs[k] = x at *
      generalize cnt (xs.take k) index = c at *
      by_cases hge : index ≤ x
      · go_wp2
        go_round
        case rel => exact ⟨k + 1, by omega, by go_num, by rw [HN.out, if_pos hge]; go_num⟩
        case measure => simp [intOf]; omega
      · go_wp2
        go_round
        case rel => exact ⟨k + 1, by omega, by go_num, by rw [HN.out, if_neg hge]; go_num⟩
        case measure => simp [intOf]; omega
    · have HE : Hid (xs.take k = xs) := List.take_of_length_le (by omega)
      go_wp2
      go_ret
      exact ⟨by rw [HE.out]; rfl, hbw⟩

set_option maxRecDepth 100000 in
set_option maxHeartbeats 400000 in
theorem racked_want (id sz tm vt ld ti vs : Int) (lg : Value) (cm : Int) (nx : Value) (B o cap : Nat) (xs : List Int) (want index : Int) (w : World)
    (hB : B < w.heap.size) (hl : xs.length ≤ 1000000) (hw : 1 ≤ want) (hsz : want ≤ sz)
    (hc : ∀ j (h : j < xs.length), w.cell? ⟨B, o + j, none⟩ = some (.int .i64 xs[j])) :
    Calls Try.prog 21 #[mem id sz tm vt 2 ld ti vs lg cm nx (.slice (some ⟨B, o, none⟩) xs.length cap), .int .i64 want, .int .i64 index] w fun e w' => e = .returned (.bool (decide (want ≤ cnt xs index))) ∧ Below w.heap.size w w' := by
  have HC := Lib.hid hc
  clear hc
  have hw0 : (want == 0) = false := by rw [beq_eq_false_iff_ne]; omega
  go_enter Try.func21, Try.ntmps21
  go_wp2
  have hbw : Below w.heap.size w (w.alloc (.cells #[.int .i64 id, .int .i64 sz, .int .i64 tm, .int .i64 vt, .int .i64 2, .int .i64 ld, .int .i64 ti, .int .i64 vs, lg, .int .i64 cm, nx, .slice (some ⟨B, o, none⟩) xs.length cap] 37)) := (Below.refl _ _).alloc (Nat.le_refl _) _
  have hbox : (w.alloc (.cells #[.int .i64 id, .int .i64 sz, .int .i64 tm, .int .i64 vt, .int .i64 2, .int .i64 ld, .int .i64 ti, .int .i64 vs, lg, .int .i64 cm, nx, .slice (some ⟨B, o, none⟩) xs.length cap] 37)).cell? ⟨w.heap.size, 11, none⟩ = some (.slice (some ⟨B, o, none⟩) xs.length cap) := by simp [go_sem]
  generalize w.alloc _ = W0 at hbw hbox ⊢
  go_loop [7, 8] (fun t i => ∃ k : Nat, k ≤ xs.length ∧ i = .int .i64 k ∧ t = .int .i64 (cnt (xs.take k) index : Nat)) (fun _ i => xs.length - (intOf i).toNat)
  case atStart => exact ⟨0, Nat.zero_le _, rfl, rfl⟩
  case round =>
    obtain ⟨k, hk, rfl, rfl⟩ := hrel
    have hcl := cnt_le (xs.take k) index
    have hcl2 : (xs.take k).length ≤ xs.length := List.length_take_le' _ _
    by_cases hlt : k < xs.length
    · have hcell : W0.cell? ⟨B, o + k, none⟩ = some (.int .i64 xs[k]) := by rw [hbw.cell (p := ⟨B, o + k, none⟩) hB]; exact HC.out k hlt
      have HN : Hid (cnt (xs.take (k + 1)) index = cnt (xs.take k) index + if index ≤ xs[k] then 1 else 0) := by
        show cnt (xs.take (k + 1)) index = _
        rw [List.take_succ_eq_append_getElem hlt, cnt_snoc]
      generalize xs[k] = x at *
      generalize cnt (xs.take k) index = c at *
      by_cases hge : index ≤ x
      · go_wp2
        go_round
        case rel => exact ⟨k + 1, by omega, by go_num, by rw [HN.out, if_pos hge]; go_num⟩
        case measure => simp [intOf]; omega
      · go_wp2
        go_round
        case rel => exact ⟨k + 1, by omega, by go_num, by rw [HN.out, if_neg hge]; go_num⟩
        case measure => simp [intOf]; omega
    · have HE : Hid (xs.take k = xs) := List.take_of_length_le (by omega)
      go_wp2
      go_ret
      exact ⟨by rw [HE.out]; rfl, hbw⟩

set_option maxRecDepth 100000 in
set_option maxHeartbeats 400000 in
theorem racked_zero (id sz tm vt ld ti vs : Int) (lg : Value) (cm : Int) (nx : Value) (B o cap : Nat) (xs : List Int) (index : Int) (w : World)
    (hB : B < w.heap.size) (hl : xs.length ≤ 1000000) (h1 : 1 ≤ sz) (h7 : sz ≤ 7)
    (hc : ∀ j (h : j < xs.length), w.cell? ⟨B, o + j, none⟩ = some (.int .i64 xs[j])) :
    Calls Try.prog 21 #[mem id sz tm vt 2 ld ti vs lg cm nx (.slice (some ⟨B, o, none⟩) xs.length cap), .int .i64 0, .int .i64 index] w fun e w' => e = .returned (.bool (decide (sz / 2 + 1 ≤ cnt xs index))) ∧ Below w.heap.size w w' := by
  have HC := Lib.hid hc
  clear hc
  go_enter Try.func21, Try.ntmps21
  go_wp2
  have hbw : Below w.heap.size w (w.alloc (.cells #[.int .i64 id, .int .i64 sz, .int .i64 tm, .int .i64 vt, .int .i64 2, .int .i64 ld, .int .i64 ti, .int .i64 vs, lg, .int .i64 cm, nx, .slice (some ⟨B, o, none⟩) xs.length cap] 37)) := (Below.refl _ _).alloc (Nat.le_refl _) _
  have hbox : (w.alloc (.cells #[.int .i64 id, .int .i64 sz, .int .i64 tm, .int .i64 vt, .int .i64 2, .int .i64 ld, .int .i64 ti, .int .i64 vs, lg, .int .i64 cm, nx, .slice (some ⟨B, o, none⟩) xs.length cap] 37)).cell? ⟨w.heap.size, 11, none⟩ = some (.slice (some ⟨B, o, none⟩) xs.length cap) := by simp [go_sem]
  generalize w.alloc _ = W0 at hbw hbox ⊢
  go_loop [7, 8] (fun t i => ∃ k : Nat, k ≤ xs.length ∧ i = .int .i64 k ∧ t = .int .i64 (cnt (xs.take k) index : Nat)) (fun _ i => xs.length - (intOf i).toNat)
  case atStart => exact ⟨0, Nat.zero_le _, rfl, rfl⟩
  case round =>
    obtain ⟨k, hk, rfl, rfl⟩ := hrel
    have hcl := cnt_le (xs.take k) index
    have hcl2 : (xs.take k).length ≤ xs.length := List.length_take_le' _ _
    by_cases hlt : k < xs.length
    · have hcell : W0.cell? ⟨B, o + k, none⟩ = some (.int .i64 xs[k]) := by rw [hbw.cell (p := ⟨B, o + k, none⟩) hB]; exact HC.out k hlt
      have HN : Hid (cnt (xs.take (k + 1)) index = cnt (xs.take k) index + if index ≤ xs[k] then 1 else 0) := by
        show cnt (xs.take (k + 1)) index = _
        rw [List.take_succ_eq_append_getElem hlt, cnt_snoc]
      generalize xs[k] = x at *
      generalize cnt (xs.take k) index = c at *
      by_cases hge : index ≤ x
      · go_wp2
        go_round
        case rel => exact ⟨k + 1, by omega, by go_num, by rw [HN.out, if_pos hge]; go_num⟩
        case measure => simp [intOf]; omega
      · go_wp2
        go_round
        case rel => exact ⟨k + 1, by omega, by go_num, by rw [HN.out, if_neg hge]; go_num⟩
        case measure => simp [intOf]; omega
    · have HE : Hid (xs.take k = xs) := List.take_of_length_le (by omega)
      go_wp2
      go_ret
      exact ⟨by rw [HE.out]; rfl, hbw⟩
end Go.Proofs.Ytiimcffagchneaa
