/- The walk of the law WalKeeps. -/
import Derived.Test.YtkpnjabgphaccaaWal9
namespace Go.Proofs.Ytkpnjabgphaccaa
open Go.ChangeShapes Go.WideShapes Go.ChangeAt Go.RowKit
set_option linter.unusedVariables false

/-- the slice of ends, as cells -/
theorem ends_cells {w : World} {b0 : Nat} {v : Value} {ds : List (List UInt8)} (h : w.ownsRow b0 3 1 v (ds.length + 1) (ends ds ds.length)) :
    ∃ g cap, v = .slice (some ⟨g, 0, none⟩) (ds.length + 1) cap ∧ g < w.heap.size ∧ ∀ i, i ≤ ds.length → w.cell? ⟨g, i, none⟩ = some (.int .i64 (Crc.endAt ds i : Nat)) := by
  obtain ⟨_, h2⟩ := h
  rcases h2 with ⟨_, h0⟩ | ⟨g, cap, cur, e1, e2, e3, e4, e5, e6, e7⟩
  · omega
  · refine ⟨g, cap, e1, ?_, fun i hi => ?_⟩
    · rcases Nat.lt_or_ge g w.heap.size with h | h
      · exact h
      · rw [Array.getElem?_eq_none h] at e3; cases e3
    · have hc : cur[i]? = some (.int .i64 (Crc.endAt ds i : Nat)) := by
        have : (cur.toList.take ((ds.length + 1) * 1))[i]? = (ends ds ds.length)[i]? := by rw [e7]
        rw [List.getElem?_take_of_lt (by omega)] at this
        rw [← Array.getElem?_toList, this]
        have hi' : i < ds.length + 1 := by omega
        simp [ends, hi']
      simp [World.cell?, e3, hc]
def BuildC (ds : List (List UInt8)) (w : World) (e : Ending) (w' : World) : Prop :=
  ∃ g cap, e = .returned (.tuple #[.string (logS ds ds.length), .slice (some ⟨g, 0, none⟩) (ds.length + 1) cap, .bool true]) ∧ g < w'.heap.size ∧ (∀ i, i ≤ ds.length → w'.cell? ⟨g, i, none⟩ = some (.int .i64 (Crc.endAt ds i : Nat))) ∧ Below w.heap.size w w'
theorem build_call (B o cap : Nat) (ds : List (List UInt8)) (w : World) (hB : B < w.heap.size) (hf : Crc.fewB ds = true)
    (hc : ∀ j (h : j < ds.length), w.cell? ⟨B, o + j, none⟩ = some (.string ⟨ds[j].toArray⟩)) :
    Calls Try.prog 19 #[.slice (some ⟨B, o, none⟩) ds.length cap] w (BuildC ds w) := by
  simp [Crc.fewB] at hf
  refine (build_some B o cap ds w hB hf.1 hf.2 hc).mono fun e w' ⟨v, h1, h2, h3⟩ => ?_
  obtain ⟨g, cap', rfl, hg, hcell⟩ := ends_cells h2
  exact ⟨g, cap', h1, hg, hcell, h3⟩
theorem few_true (B o cap : Nat) (ds : List (List UInt8)) (w : World) (hf : Crc.fewB ds = true)
    (hc : ∀ j (h : j < ds.length), w.cell? ⟨B, o + j, none⟩ = some (.string ⟨ds[j].toArray⟩)) :
    Calls Try.prog 18 #[.slice (some ⟨B, o, none⟩) ds.length cap] w fun e w' => e = .returned (.bool true) ∧ w = w' := by
  have hf' := hf
  simp [Crc.fewB] at hf'
  have := few_some B o cap ds w (by omega) (fun k h => by have := Crc.get_le_total ds k h; omega) hc
  rw [hf] at this; exact this
theorem few_false (B o cap : Nat) (ds : List (List UInt8)) (w : World) (hf : Crc.fewB ds = false) (hl : ds.length ≤ 9223372036854775807) (hs : ∀ k (h : k < ds.length), ds[k].length ≤ 9223372036854775807)
    (hc : ∀ j (h : j < ds.length), w.cell? ⟨B, o + j, none⟩ = some (.string ⟨ds[j].toArray⟩)) :
    Calls Try.prog 18 #[.slice (some ⟨B, o, none⟩) ds.length cap] w fun e w' => e = .returned (.bool false) ∧ w = w' := by
  have := few_some B o cap ds w hl hs hc
  rw [hf] at this; exact this

theorem keeps_out (B o cap : Nat) (ds : List (List UInt8)) (n : Int) (w : World) (hf : Crc.fewB ds = false) (hl : ds.length ≤ 9223372036854775807) (hs : ∀ k (h : k < ds.length), ds[k].length ≤ 9223372036854775807)
    (hc : ∀ j (h : j < ds.length), w.cell? ⟨B, o + j, none⟩ = some (.string ⟨ds[j].toArray⟩)) :
    Calls Try.prog 5 #[.slice (some ⟨B, o, none⟩) ds.length cap, .int .i64 n] w fun e w' => e = .returned (.bool true) ∧ Below w.heap.size w w' := by
  have HF := Lib.hid (few_false B o cap ds w hf hl hs hc)
  clear hf hs hc
  go_enter Try.func5, Try.ntmps5
  go_wp2_with fail
  refine HF.out.mono ?_
  rintro e w1 ⟨rfl, rfl⟩
  go_wp2_with fail
  refine (awake_any _).mono ?_
  rintro e w1 ⟨rfl, hb⟩
  go_wp2_with fail
  go_ret
  exact ⟨rfl, hb⟩

theorem read_part2 (ds : List (List UInt8)) (m k : Nat) (hl : ds.length ≤ 50) (ht : Crc.total ds ≤ 5000) (hk : k ≤ ds.length) (hn : m ≤ Crc.endAt ds ds.length) (h1 : Crc.endAt ds k ≤ m) (h2 : k < ds.length → m < Crc.endAt ds (k + 1)) :
    Crc.endAt ds k = m ∧ Crc.read ((logS ds ds.length).extract 0 m).data.toList = (ds.take k, m, 0) ∨ Crc.endAt ds k < m ∧ Crc.read ((logS ds ds.length).extract 0 m).data.toList = (ds.take k, Crc.endAt ds k, 38) := by
  have e : ((logS ds ds.length).extract 0 m).data.toList = (Crc.logOf ds).take m := by
    rw [take_str]
    show ((Crc.logOf (ds.take ds.length)).take m) = _
    rw [List.take_length]
  have hfull : Crc.endAt ds ds.length = (Crc.logOf ds).length := by unfold Crc.endAt; rw [List.take_length]
  have hr := Crc.read_part ds m k (fun i h => by have := Crc.get_le_total ds i h; omega) hk (by omega) h1 h2
  rw [e]
  by_cases he : Crc.endAt ds k = m
  · rw [if_pos he] at hr
    exact .inl ⟨he, by rw [hr, he]⟩
  · rw [if_neg he] at hr
    exact .inr ⟨by omega, hr⟩
theorem strs_take {w : World} {B o cap k : Nat} {ds : List (List UInt8)} (hB : B < w.heap.size) (hk : k ≤ ds.length) (hc : ∀ j (h : j < ds.length), w.cell? ⟨B, o + j, none⟩ = some (.string ⟨ds[j].toArray⟩)) :
    ∀ W : World, Below w.heap.size w W → StrsAt W (.slice (some ⟨B, o, none⟩) k cap) (ds.take k) := by
  intro W hb
  have hl : (ds.take k).length = k := by rw [List.length_take]; omega
  refine .inr ⟨B, o, cap, by rw [hl], Nat.lt_of_lt_of_le hB hb.size, fun j hj => ?_⟩
  rw [hb.cell (p := ⟨B, o + j, none⟩) hB, hc j (by omega)]
  simp

set_option maxRecDepth 100000 in
set_option maxHeartbeats 1000000 in
theorem keeps_core (B o cap : Nat) (ds : List (List UInt8)) (n : Int) (m : Nat) (w : World) (hB : B < w.heap.size) (hcap : ds.length ≤ cap) (hf : Crc.fewB ds = true)
    (hn : n = (m : Int) ∧ m ≤ Crc.endAt ds ds.length ∨ n < 0 ∧ m = Crc.endAt ds ds.length ∨ 0 ≤ n ∧ (Crc.endAt ds ds.length : Int) < n ∧ m = Crc.endAt ds ds.length)
    (hc : ∀ j (h : j < ds.length), w.cell? ⟨B, o + j, none⟩ = some (.string ⟨ds[j].toArray⟩)) :
    Calls Try.prog 5 #[.slice (some ⟨B, o, none⟩) ds.length cap, .int .i64 n] w fun e w' => e = .returned (.bool true) ∧ Below w.heap.size w w' := by
  have hf' := hf
  simp [Crc.fewB] at hf'
  obtain ⟨hl50, ht5⟩ := hf'
  have HT := Lib.hid (few_true B o cap ds w hf hc)
  have HBd := Lib.hid (build_call B o cap ds w hB hf hc)
  have HC := Lib.hid hc
  clear hf hc
  have hsz := logS_size ds ds.length
  have hel : Crc.endAt ds ds.length ≤ 100000 := by
    have h1 := Crc.logOf_length (ds.take ds.length)
    have h2 := Crc.total_take_le ds ds.length
    have h3 : (ds.take ds.length).length ≤ ds.length := List.length_take_le' _ _
    unfold Crc.endAt; omega
  generalize hL : Crc.endAt ds ds.length = L at *
  have HL := Lib.hid hL
  clear hL
  have hmL : m ≤ L := by omega
  rcases hn with ⟨rfl, _⟩ | ⟨hn, rfl⟩ | ⟨hn, hn2, rfl⟩
  all_goals
    go_enter Try.func5, Try.ntmps5
    go_wp2_with fail
    refine HT.out.mono ?_
    rintro e w1 ⟨rfl, rfl⟩
    go_wp2_with fail
    refine HBd.out.mono ?_
    rintro e w1 ⟨g, cap2, rfl, hg, hge, hb1⟩
    have HG := Lib.hid hge
    clear hge
    go_wp2_with fail
    go_loop [8] (fun i => ∃ k : Nat, k ≤ ds.length ∧ i = .int .i64 k ∧ Crc.endAt ds k ≤ m) (fun i => ds.length - (intOf i).toNat)
    case atStart => exact ⟨0, Nat.zero_le _, rfl, by rw [Crc.endAt_zero]; exact Nat.zero_le _⟩
    case round =>
      obtain ⟨k, hk, rfl, hkm⟩ := hrel
      by_cases hlt : k < ds.length
      · have hcell : w1.cell? ⟨g, k + 1, none⟩ = some (.int .i64 (Crc.endAt ds (k + 1) : Nat)) := HG.out (k + 1) (by omega)
        generalize hE : Crc.endAt ds (k + 1) = E at *
        have HE := Lib.hid hE
        clear hE
        by_cases hle : E ≤ m
        · go_wp2
          go_round
          case rel => exact ⟨k + 1, by omega, by go_num, by rw [HE.out]; exact hle⟩
          case measure => simp [intOf]; omega
        · have hread := read_part2 ds m k hl50 ht5 hk (by rw [HL.out]; exact hmL) hkm (fun _ => by rw [HE.out]; omega)
          have HRR := Lib.hid hread
          clear hread
          go_wp2_with fail
          have hread := HRR.out
          clear hcell hle HRR
          have hkc : (k : Int) ≤ (cap : Int) := by omega
          have HV : Hid (∀ W : World, Below w.heap.size w W → StrsAt W (.slice (some ⟨B, o, none⟩) k cap) (ds.take k)) := strs_take hB hk HC.out
          have hll : (ds.take k).length ≤ 1000000 := by have := List.length_take_le' k ds; omega
          have hpc := HG.out k hk
          have hps : ((logS ds ds.length).extract 0 m).size ≤ 1000000 := by simp only [ByteArray.size_extract]; omega
          have HPS := Lib.hid hps
          clear hps
          rcases hread with ⟨hpm, hr⟩ | ⟨hpm, hr⟩
          · rw [hpm] at hpc
            have HR := Lib.hid hr
            clear hr hpm hkm
            refine (read_is _ _ _ _ HR.out _ HPS.out).mono ?_
            rintro e w2 ⟨v2, rfl, hv2, hb2⟩
            have HV2 := Lib.hid hv2
            clear hv2
            have hbw2 : Below w.heap.size w w2 := hb1.trans (hb2.mono hb1.size)
            go_wp2_with fail
            refine (equal_any _ _ _ _ hll HV2.out (HV.out w2 hbw2)).mono ?_
            rintro e w3 ⟨rfl, hb3⟩
            have hc3 : w3.cell? ⟨g, k, none⟩ = some (.int .i64 (m : Nat)) := by
              rw [hb3.cell (p := ⟨g, k, none⟩) (Nat.lt_of_lt_of_le hg hb2.size), hb2.cell (p := ⟨g, k, none⟩) hg]; exact hpc
            go_wp2_with fail
            refine (awake_any _).mono ?_
            rintro e w4 ⟨rfl, hb4⟩
            go_wp2_with fail
            go_ret
            exact ⟨rfl, hbw2.trans ((hb3.mono hbw2.size).trans (hb4.mono (Nat.le_trans hbw2.size hb3.size)))⟩
          · have HR := Lib.hid hr
            clear hr
            generalize Crc.endAt ds k = q at *
            have hq1 : ((q : Int) == (m : Int)) = false := by rw [beq_eq_false_iff_ne]; omega
            refine (read_is _ _ _ _ HR.out _ HPS.out).mono ?_
            rintro e w2 ⟨v2, rfl, hv2, hb2⟩
            have HV2 := Lib.hid hv2
            clear hv2
            have hbw2 : Below w.heap.size w w2 := hb1.trans (hb2.mono hb1.size)
            go_wp2_with fail
            refine (equal_any _ _ _ _ hll HV2.out (HV.out w2 hbw2)).mono ?_
            rintro e w3 ⟨rfl, hb3⟩
            have hc3 : w3.cell? ⟨g, k, none⟩ = some (.int .i64 (q : Nat)) := by
              rw [hb3.cell (p := ⟨g, k, none⟩) (Nat.lt_of_lt_of_le hg hb2.size), hb2.cell (p := ⟨g, k, none⟩) hg]; exact hpc
            go_wp2_with fail
            refine (awake_any _).mono ?_
            rintro e w4 ⟨rfl, hb4⟩
            go_wp2_with fail
            go_ret
            exact ⟨rfl, hbw2.trans ((hb3.mono hbw2.size).trans (hb4.mono (Nat.le_trans hbw2.size hb3.size)))⟩
      · have hread := read_part2 ds m k hl50 ht5 hk (by rw [HL.out]; exact hmL) hkm (fun h => absurd h hlt)
        have HRR := Lib.hid hread
        clear hread
        have hkd : ds.length ≤ k := by omega
        have hge1 : ¬ ((k : Int) + 1 < (ds.length : Int) + 1) := by omega
        go_wp2_with fail
        have hread := HRR.out
        clear HRR
        have hkc : (k : Int) ≤ (cap : Int) := by omega
        have HV : Hid (∀ W : World, Below w.heap.size w W → StrsAt W (.slice (some ⟨B, o, none⟩) k cap) (ds.take k)) := strs_take hB hk HC.out
        have hll : (ds.take k).length ≤ 1000000 := by have := List.length_take_le' k ds; omega
        have hpc := HG.out k hk
        have hps : ((logS ds ds.length).extract 0 m).size ≤ 1000000 := by simp only [ByteArray.size_extract]; omega
        have HPS := Lib.hid hps
        clear hps
        rcases hread with ⟨hpm, hr⟩ | ⟨hpm, hr⟩
        · rw [hpm] at hpc
          have HR := Lib.hid hr
          clear hr hpm hkm
          refine (read_is _ _ _ _ HR.out _ HPS.out).mono ?_
          rintro e w2 ⟨v2, rfl, hv2, hb2⟩
          have HV2 := Lib.hid hv2
          clear hv2
          have hbw2 : Below w.heap.size w w2 := hb1.trans (hb2.mono hb1.size)
          go_wp2_with fail
          refine (equal_any _ _ _ _ hll HV2.out (HV.out w2 hbw2)).mono ?_
          rintro e w3 ⟨rfl, hb3⟩
          have hc3 : w3.cell? ⟨g, k, none⟩ = some (.int .i64 (m : Nat)) := by
            rw [hb3.cell (p := ⟨g, k, none⟩) (Nat.lt_of_lt_of_le hg hb2.size), hb2.cell (p := ⟨g, k, none⟩) hg]; exact hpc
          go_wp2_with fail
          refine (awake_any _).mono ?_
          rintro e w4 ⟨rfl, hb4⟩
          go_wp2_with fail
          go_ret
          exact ⟨rfl, hbw2.trans ((hb3.mono hbw2.size).trans (hb4.mono (Nat.le_trans hbw2.size hb3.size)))⟩
        · have HR := Lib.hid hr
          clear hr
          generalize Crc.endAt ds k = q at *
          have hq1 : ((q : Int) == (m : Int)) = false := by rw [beq_eq_false_iff_ne]; omega
          refine (read_is _ _ _ _ HR.out _ HPS.out).mono ?_
          rintro e w2 ⟨v2, rfl, hv2, hb2⟩
          have HV2 := Lib.hid hv2
          clear hv2
          have hbw2 : Below w.heap.size w w2 := hb1.trans (hb2.mono hb1.size)
          go_wp2_with fail
          refine (equal_any _ _ _ _ hll HV2.out (HV.out w2 hbw2)).mono ?_
          rintro e w3 ⟨rfl, hb3⟩
          have hc3 : w3.cell? ⟨g, k, none⟩ = some (.int .i64 (q : Nat)) := by
            rw [hb3.cell (p := ⟨g, k, none⟩) (Nat.lt_of_lt_of_le hg hb2.size), hb2.cell (p := ⟨g, k, none⟩) hg]; exact hpc
          go_wp2_with fail
          refine (awake_any _).mono ?_
          rintro e w4 ⟨rfl, hb4⟩
          go_wp2_with fail
          go_ret
          exact ⟨rfl, hbw2.trans ((hb3.mono hbw2.size).trans (hb4.mono (Nat.le_trans hbw2.size hb3.size)))⟩
end Go.Proofs.Ytkpnjabgphaccaa
