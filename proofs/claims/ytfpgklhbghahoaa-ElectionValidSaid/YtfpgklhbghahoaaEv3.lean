/- Election: the numbers of votes and the places, exactly. -/
import Derived.Test.YtfpgklhbghahoaaEv2
import Derived.Outline
namespace Go.Proofs.Ytfpgklhbghahoaa
open Go.ChangeShapes Go.WideShapes Go.ChangeAt Go.RowKit
set_option linter.unusedVariables false
set_option linter.unusedSimpArgs false
/-- how many of the first k bits stand -/
def cntB (vs : Int) : Nat → Int
  | 0 => 0
  | k + 1 => cntB vs k + (vs / 2 ^ k).tmod 2
theorem bit_le (vs : Int) (h0 : 0 ≤ vs) (k : Nat) : 0 ≤ (vs / 2 ^ k).tmod 2 ∧ (vs / 2 ^ k).tmod 2 ≤ 1 := by
  have h : 0 ≤ vs / 2 ^ k := Int.ediv_nonneg h0 (Int.le_of_lt (Int.pow_pos (by decide)))
  have h1 := Int.tmod_nonneg 2 h
  have h2 := Int.tmod_lt_of_pos (vs / 2 ^ k) (show (0 : Int) < 2 by decide)
  omega
theorem cntB_le (vs : Int) (h0 : 0 ≤ vs) : ∀ k, 0 ≤ cntB vs k ∧ cntB vs k ≤ k
  | 0 => ⟨Int.le_refl _, Int.le_refl _⟩
  | k + 1 => by
    have h := cntB_le vs h0 k
    have h2 := bit_le vs h0 k
    show 0 ≤ cntB vs k + (vs / 2 ^ k).tmod 2 ∧ cntB vs k + (vs / 2 ^ k).tmod 2 ≤ ((k + 1 : Nat) : Int)
    omega
set_option maxRecDepth 100000 in
theorem votes_at (vs sz : Int) (w : World) (h0 : 0 ≤ vs) (h1 : 1 ≤ sz) (h7 : sz ≤ 7) :
    Calls Try.prog 34 #[.int .i64 vs, .int .i64 sz] w fun e w' => e = .returned (.int .i64 (cntB vs sz.toNat)) ∧ w = w' := by
  go_enter Try.func34, Try.ntmps34
  go_wp2_with fail
  go_loop [5, 6] (fun n i => ∃ (k : Nat), (k : Int) ≤ sz ∧ n = .int .i64 (cntB vs k) ∧ i = .int .i64 k) (fun _ i => sz.toNat - (intOf i).toNat)
  case atStart => exact ⟨0, by omega, rfl, rfl⟩
  case round =>
    obtain ⟨k, hk, rfl, rfl⟩ := hrel
    by_cases hlt : (k : Int) < sz
    · have hb := bit_le vs h0 k
      have hc := cntB_le vs h0 k
      have HN : Hid (cntB vs (k + 1) = cntB vs k + (vs / 2 ^ k).tmod 2) := Lib.hid rfl
      have hk7 : k ≤ 7 := by omega
      generalize cntB vs k = c at *
      go_wp2_with fail
      go_round
      case rel => exact ⟨k + 1, by omega, by (try rw [HN.out]) <;> (try go_num), by go_num⟩
      case measure => simp [intOf]; omega
    · obtain rfl : sz = k := by omega
      go_wp2_with fail
      go_ret
      exact ⟨rfl, rfl⟩
set_option maxRecDepth 100000 in
theorem ones64 (vs : Int) (w : World) (h0 : 0 ≤ vs) (h1 : vs < 128) : Calls Try.prog 51 #[.int .u64 vs] w fun e w' => e = .returned (.int .i64 (cntB vs 7)) ∧ w = w' := by
  obtain ⟨n, rfl⟩ : ∃ n : Nat, vs = n := ⟨vs.toNat, by omega⟩
  have hn : n < 128 := by omega
  clear h0 h1
  go_enter Try.func51, Try.ntmps51
  go_wp2_with fail
  go_ret
  refine ⟨congrArg (fun x => Ending.returned (.int .i64 x)) ?_, rfl⟩
  clear w
  revert hn
  revert n
  decide +kernel
set_option maxRecDepth 100000 in
theorem ones_at (vs : Int) (w : World) (h0 : 0 ≤ vs) (h1 : vs < 128) : Calls Try.prog 42 #[.int .u64 vs] w fun e w' => e = .returned (.int .i64 (cntB vs 7)) ∧ w = w' := by
  have H := Lib.hid (ones64 vs w h0 h1)
  go_enter Try.func42, Try.ntmps42
  go_wp2_with fail
  refine H.out.mono ?_
  rintro e w1 ⟨rfl, rfl⟩
  have := cntB_le vs h0 7
  go_wp2_with fail
  go_ret
  exact ⟨rfl, rfl⟩
theorem cntB_small : ∀ sz < 8, ∀ vs < 128, vs < 2 ^ sz → cntB (vs : Nat) 7 = cntB (vs : Nat) sz := by decide +kernel
theorem cntB_all (vs sz : Int) (h0 : 0 ≤ vs) (h1 : 1 ≤ sz) (h7 : sz ≤ 7) (h : vs < 2 ^ sz.toNat) : cntB vs 7 = cntB vs sz.toNat := by
  obtain ⟨n, rfl⟩ : ∃ n : Nat, vs = n := ⟨vs.toNat, by omega⟩
  have h2 : n < 2 ^ sz.toNat := by exact_mod_cast h
  have h3 : 2 ^ sz.toNat ≤ 2 ^ 7 := Nat.pow_le_pow_right (by decide) (by omega)
  exact cntB_small sz.toNat (by omega) n (by omega) h2
/-- all numbers are from 0 to most -/
def inB (most : Int) (xs : List Int) : Bool := xs.all (fun x => decide (0 ≤ x ∧ x ≤ most))
theorem inB_no {most : Int} {xs : List Int} {k : Nat} (hk : k < xs.length) (h : ¬ (0 ≤ xs[k] ∧ xs[k] ≤ most)) : inB most xs = false := by
  unfold inB
  rw [List.all_eq_false]
  exact ⟨xs[k], List.getElem_mem hk, by simp; omega⟩
theorem inB_take {most : Int} {xs : List Int} {k : Nat} (hk : k < xs.length) (h0 : inB most (xs.take k) = true) (h : 0 ≤ xs[k] ∧ xs[k] ≤ most) : inB most (xs.take (k + 1)) = true := by
  unfold inB at *
  rw [List.take_succ_eq_append_getElem hk, List.all_append, h0]
  simp [h]
set_option maxRecDepth 100000 in
theorem rplaces_in (B o cap : Nat) (xs : List Int) (m : Int) (w : World) (hl : xs.length ≤ 9223372036854775807)
    (hc : ∀ j (h : j < xs.length), w.cell? ⟨B, o + j, none⟩ = some (.int .i64 xs[j])) :
    Calls Try.prog 35 #[.slice (some ⟨B, o, none⟩) xs.length cap, .int .i64 m] w fun e w' => e = .returned (.bool (inB m xs)) ∧ w = w' := by
  have HC := Lib.hid hc
  clear hc
  go_enter Try.func35, Try.ntmps35
  go_wp2_with fail
  go_loop [5] (fun i => ∃ (k : Nat), k ≤ xs.length ∧ i = .int .i64 k ∧ Hid (inB m (xs.take k) = true)) (fun i => xs.length - (intOf i).toNat)
  case atStart => exact ⟨0, Nat.zero_le _, rfl, Lib.hid rfl⟩
  case round =>
    obtain ⟨k, hk, rfl, HI⟩ := hrel
    by_cases hlt : k < xs.length
    · have hcell := HC.out k hlt
      have HNO := Lib.hid (fun h => inB_no (most := m) hlt h)
      have HYES := Lib.hid (fun h => inB_take hlt HI.out h)
      generalize xs[k] = x at *
      by_cases h0 : x < 0
      · go_wp2_with fail
        go_ret
        exact ⟨ret_b (HNO.out (by omega)), rfl⟩
      · by_cases h1 : m < x
        · go_wp2_with fail
          go_ret
          exact ⟨ret_b (HNO.out (by omega)), rfl⟩
        · go_wp2_with fail
          go_round
          case rel => exact ⟨k + 1, by omega, by go_num, Lib.hid (HYES.out (by omega))⟩
          case measure => simp [intOf]; omega
    · have HT : Hid (inB m xs = true) := Lib.hid (by rw [← HI.out, List.take_of_length_le (by omega)])
      go_wp2_with fail
      go_ret
      exact ⟨ret_b HT.out, rfl⟩
set_option maxRecDepth 100000 in
theorem rplaces_0 (a : Option Addr) (cap : Nat) (m : Int) (w : World) :
    Calls Try.prog 35 #[.slice a 0 cap, .int .i64 m] w fun e w' => e = .returned (.bool (inB m [])) ∧ w = w' := by
  go_enter Try.func35, Try.ntmps35
  go_wp2_with fail
  go_loop [5] (fun i => i = .int .i64 0) (fun i => 0)
  case atStart => rfl
  case round =>
    subst hrel
    go_wp2_with fail
    go_ret
    exact ⟨rfl, rfl⟩
theorem rplaces_at (v : Value) (xs : List Int) (m : Int) (w : World) (hv : IntsIn w v xs) :
    Calls Try.prog 35 #[v, .int .i64 m] w fun e w' => e = .returned (.bool (inB m xs)) ∧ w = w' := by
  rcases hv with ⟨rfl, a, cap, rfl⟩ | ⟨B, o, cap, rfl, hB, h0, hl, hc⟩
  · exact rplaces_0 a cap m w
  · exact rplaces_in B o cap xs m w hl hc
set_option maxRecDepth 100000 in
set_option maxHeartbeats 400000 in
theorem vplaces_in (id sz tm vt rl ld ti vs : Int) (ga : Option Addr) (gl gc : Nat) (cm : Int) (nx mt : Value) (B o cap : Nat) (xs : List Int) (w : World) (hg : gl ≤ 100) (hB : B < w.heap.size) (hl : xs.length ≤ 9223372036854775807)
    (hc : ∀ j (h : j < xs.length), w.cell? ⟨B, o + j, none⟩ = some (.int .i64 xs[j])) :
    Calls Try.prog 46 #[mem id sz tm vt rl ld ti vs (.slice ga gl gc) cm nx mt, .slice (some ⟨B, o, none⟩) xs.length cap] w fun e w' => e = .returned (.bool (inB gl xs && decide ((xs.length : Int) = sz))) ∧ Below w.heap.size w w' := by
  have HC := Lib.hid hc
  clear hc
  have hB0 : BoxN 12 (w.alloc (.cells (memL id sz tm vt rl ld ti vs (.slice ga gl gc) cm nx mt).toArray 25)) w.heap.size (memL id sz tm vt rl ld ti vs (.slice ga gl gc) cm nx mt) := BoxN.new w _ 12 _ rfl
  have hb0 : Below w.heap.size w (w.alloc (.cells (memL id sz tm vt rl ld ti vs (.slice ga gl gc) cm nx mt).toArray 25)) := (Below.refl _ _).alloc (Nat.le_refl _) _
  go_enter Try.func46, Try.ntmps46
  go_wp2_with fail
  refine wp_named (fun W => BoxN 12 W w.heap.size (memL id sz tm vt rl ld ti vs (.slice ga gl gc) cm nx mt) ∧ Below w.heap.size w W) ⟨hB0, hb0⟩ ?_
  clear hB0 hb0
  rintro w1 ⟨hBx, hb⟩
  have a8 : w1.cell? ⟨w.heap.size, 8, none⟩ = some (.slice ga gl gc) := hBx.cell 8 _ rfl
  have a1 : w1.cell? ⟨w.heap.size, 1, none⟩ = some (.int .i64 sz) := hBx.cell 1 _ rfl
  clear hBx
  have HC1 : Hid (∀ j (h : j < xs.length), w1.cell? ⟨B, o + j, none⟩ = some (.int .i64 xs[j])) := Lib.hid (fun j h => (hb.cell (p := ⟨B, o + j, none⟩) hB).trans (HC.out j h))
  have HB := Lib.hid hb
  clear HC hb
  go_loop [9] (fun i => ∃ k : Nat, k ≤ xs.length ∧ i = .int .i64 k ∧ Hid (inB gl (xs.take k) = true)) (fun i => xs.length - (intOf i).toNat)
  case atStart => exact ⟨0, Nat.zero_le _, rfl, Lib.hid rfl⟩
  case round =>
    obtain ⟨k, hk, rfl, HI⟩ := hrel
    by_cases hlt : k < xs.length
    · have hcell := HC1.out k hlt
      have HNO := Lib.hid (fun h => inB_no (most := gl) hlt h)
      have HYES := Lib.hid (fun h => inB_take hlt HI.out h)
      generalize xs[k] = x at *
      by_cases h0 : x < 0
      · go_wp2_with fail
        go_ret
        exact ⟨ret_b (by rw [HNO.out (by omega)]; rfl), HB.out⟩
      · by_cases h1 : (gl : Int) < x
        · go_wp2_with fail
          go_ret
          exact ⟨ret_b (by rw [HNO.out (by omega)]; rfl), HB.out⟩
        · go_wp2_with fail
          go_round
          case rel => exact ⟨k + 1, by omega, by go_num, Lib.hid (HYES.out (by omega))⟩
          case measure => simp [intOf]; omega
    · have HT : Hid (inB gl xs = true) := Lib.hid (by rw [← HI.out, List.take_of_length_le (by omega)])
      by_cases hsz : (xs.length : Int) = sz
      · have q : ((xs.length : Int) == sz) = true := by simpa using hsz
        go_wp2_with fail
        go_ret
        exact ⟨ret_b (by first | rfl | exact HT.out | (rw [HT.out, decide_eq_true (by omega)]; rfl)), HB.out⟩
      · have q : ((xs.length : Int) == sz) = false := by simpa using hsz
        go_wp2_with fail
        go_ret
        exact ⟨ret_b (by first | rfl | (rw [HT.out, decide_eq_false (by omega)]; rfl)), HB.out⟩
set_option maxRecDepth 100000 in
set_option maxHeartbeats 400000 in
theorem vplaces_0 (id sz tm vt rl ld ti vs : Int) (lg : Value) (gl : Nat) (cm : Int) (nx mt : Value) (a : Option Addr) (cap : Nat) (w : World) (h1 : 1 ≤ sz) :
    Calls Try.prog 46 #[mem id sz tm vt rl ld ti vs lg cm nx mt, .slice a 0 cap] w fun e w' => e = .returned (.bool (inB gl [] && decide ((([] : List Int).length : Int) = sz))) ∧ Below w.heap.size w w' := by
  have q : ((0 : Int) == sz) = false := by rw [beq_eq_false_iff_ne]; omega
  have q2 : (sz == (0 : Int)) = false := by rw [beq_eq_false_iff_ne]; omega
  have HD : Hid (decide ((([] : List Int).length : Int) = sz) = false) := Lib.hid (decide_eq_false (by simp; omega))
  go_enter Try.func46, Try.ntmps46
  go_wp2_with fail
  go_loop [9] (fun i => i = .int .i64 0) (fun i => 0)
  case atStart => rfl
  case round =>
    subst hrel
    go_wp2_with fail
    go_ret
    exact ⟨ret_b (by first | (rw [HD.out]; rfl) | (rw [decide_eq_false (by omega), Bool.and_false]) | (simp; omega)), (Below.refl _ _).alloc (Nat.le_refl _) _⟩
theorem vplaces_at (id sz tm vt rl ld ti vs : Int) (ga : Option Addr) (gl gc : Nat) (cm : Int) (nx mt : Value) (v : Value) (xs : List Int) (w : World) (hg : gl ≤ 100) (h1 : 1 ≤ sz) (hv : IntsIn w v xs) :
    Calls Try.prog 46 #[mem id sz tm vt rl ld ti vs (.slice ga gl gc) cm nx mt, v] w fun e w' => e = .returned (.bool (inB gl xs && decide ((xs.length : Int) = sz))) ∧ Below w.heap.size w w' := by
  rcases hv with ⟨rfl, a, cap, rfl⟩ | ⟨B, o, cap, rfl, hB, h0, hl, hc⟩
  · exact vplaces_0 id sz tm vt rl ld ti vs (.slice ga gl gc) gl cm nx mt a cap w h1
  · exact vplaces_in id sz tm vt rl ld ti vs ga gl gc cm nx mt B o cap xs w hg hB hl hc
end Go.Proofs.Ytfpgklhbghahoaa
