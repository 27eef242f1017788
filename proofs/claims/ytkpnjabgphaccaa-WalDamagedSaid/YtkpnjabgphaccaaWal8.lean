/- The walks of few and build. -/
import Derived.Test.YtkpnjabgphaccaaWal6
import Derived.Test.YtkpnjabgphaccaaWalPlain4
import Derived.Laws.OwnMore
namespace Go.Proofs.Ytkpnjabgphaccaa
open Go.ChangeShapes Go.WideShapes Go.ChangeAt Go.RowKit
set_option linter.unusedVariables false

theorem few_big (ds : List (List UInt8)) (k : Nat) (h : k < ds.length) (hb : 5000 < ds[k].length) : Crc.fewB ds = false := by
  have := Crc.get_le_total ds k h
  simp [Crc.fewB]; omega
theorem few_sum (ds : List (List UInt8)) (k : Nat) (hb : 5000 < Crc.total (ds.take k)) : Crc.fewB ds = false := by
  have := Crc.total_take_le ds k
  simp [Crc.fewB]; omega
theorem few_nil (w : World) : Calls Try.prog 18 #[.slice none 0 0] w fun e w' => e = .returned (.bool (Crc.fewB [])) ∧ w = w' := by
  go_enter Try.func18, Try.ntmps18
  go_wp2
  go_loop [11] (fun i => i = .int .i64 0) (fun _ => 0)
  case atStart => rfl
  case round =>
    obtain rfl := hrel
    go_wp2
    go_ret
    exact ⟨rfl, rfl⟩
set_option maxHeartbeats 400000 in
theorem few_some (B o cap : Nat) (ds : List (List UInt8)) (w : World) (hl : ds.length ≤ 9223372036854775807) (hs : ∀ k (h : k < ds.length), ds[k].length ≤ 9223372036854775807)
    (hc : ∀ j (h : j < ds.length), w.cell? ⟨B, o + j, none⟩ = some (.string ⟨ds[j].toArray⟩)) :
    Calls Try.prog 18 #[.slice (some ⟨B, o, none⟩) ds.length cap] w fun e w' => e = .returned (.bool (Crc.fewB ds)) ∧ w = w' := by
  have HC := Lib.hid hc
  have HS := Lib.hid hs
  clear hc hs
  by_cases h50 : 50 < ds.length
  · have hf : Crc.fewB ds = false := by simp [Crc.fewB]; omega
    have HF := Lib.hid hf
    clear hf
    go_enter Try.func18, Try.ntmps18
    go_wp2
    go_ret
    exact ⟨by rw [HF.out]; rfl, rfl⟩
  · go_enter Try.func18, Try.ntmps18
    go_wp2
    go_loop [3, 11] (fun t i => ∃ k : Nat, k ≤ ds.length ∧ i = .int .i64 k ∧ t = .int .i64 (Crc.total (ds.take k)) ∧ Crc.total (ds.take k) ≤ 5000) (fun _ i => ds.length - (intOf i).toNat)
    case atStart => exact ⟨0, Nat.zero_le _, rfl, by simp [Crc.total], by simp [Crc.total]⟩
    case round =>
      obtain ⟨k, hk, rfl, rfl, htot⟩ := hrel
      by_cases hlt : k < ds.length
      · have hcell := HC.out k hlt
        have hsz := HS.out k hlt
        have hbig := few_big ds k hlt
        have hsum := few_sum ds (k + 1)
        have hnext : Crc.total (ds.take (k + 1)) = Crc.total (ds.take k) + ds[k].length := by rw [Crc.take_snoc' ds k hlt, Crc.total_snoc]
        rw [hnext] at hsum
        have HN := Lib.hid hnext
        have HB := Lib.hid hbig
        have HM := Lib.hid hsum
        clear hnext hbig hsum
        generalize ds[k] = d at *
        generalize htt : Crc.total (ds.take k) = t at *
        by_cases h5 : 5000 < d.length
        · go_wp2
          go_ret
          exact ⟨by rw [HB.out h5]; rfl, rfl⟩
        · by_cases h6 : 5000 < t + d.length
          · go_wp2
            go_ret
            exact ⟨by rw [HM.out h6]; rfl, rfl⟩
          · go_wp2
            go_round
            case rel => exact ⟨k + 1, by omega, by go_num, by rw [HN.out]; go_num, by rw [HN.out]; omega⟩
            case measure => simp [intOf]; omega
      · have hf : Crc.fewB ds = true := by
          have : ds.take k = ds := List.take_of_length_le (by omega)
          rw [this] at htot
          simp [Crc.fewB, htot]; omega
        have HF := Lib.hid hf
        clear hf
        go_wp2
        go_ret
        exact ⟨by rw [HF.out]; rfl, rfl⟩
end Go.Proofs.Ytkpnjabgphaccaa
