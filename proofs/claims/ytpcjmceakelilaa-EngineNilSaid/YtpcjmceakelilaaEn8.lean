/- Engine: isName, inRange. -/
import Derived.Test.YtpcjmceakelilaaEn7
namespace Go.Proofs.Ytpcjmceakelilaa
open Go.ChangeShapes Go.WideShapes Go.ChangeAt Go.RowKit Go.Deep Go.ChangeMaps Go.Shelf
set_option linter.unusedVariables false
set_option linter.unusedSimpArgs false
def okB (b : UInt8) : Bool := !(decide (b.toNat < 33) || decide (126 < b.toNat) || decide (b.toNat = 46))
/-- whether a string is a name -/
def isNm (s : Bs) : Bool := decide (0 < s.size) && decide (s.size ≤ 32) && !(decide (s.data.toList.head? = some 36)) && s.data.toList.all okB
theorem bs_get (s : Bs) (j : Nat) (h : j < s.size) : s.data.toList[j]? = some s[j] := by
  rw [List.getElem?_eq_getElem (by rw [Array.length_toList]; exact h)]; rfl
set_option maxRecDepth 100000 in
set_option maxHeartbeats 1000000 in
theorem isName_any (s : Bs) (w : World) :
    Calls Try.prog 35 #[.string s] w fun e w' => e = .returned (.bool (isNm s)) ∧ w' = w := by
  rcases Nat.eq_zero_or_pos s.size with h0 | h0
  · have e1 : isNm s = false := by unfold isNm; rw [h0]; rfl
    have e2 : s = ⟨#[]⟩ := by
      obtain ⟨d⟩ := s
      have : d.size = 0 := h0
      rw [Array.eq_empty_of_size_eq_zero this]
    rw [e1, e2]
    go_enter Try.func35, Try.ntmps35
    go_wp2
    go_ret
    exact ⟨rfl, rfl⟩
  · have d1 : (ByteArray.toList s).isEmpty = false := by
      rw [ByteArray.toList_eq]
      cases hq : s.data.toList with
      | nil =>
        have : s.data.toList.length = s.size := Array.length_toList
        rw [hq] at this
        simp at this
        omega
      | cons a b => rfl
    by_cases h32 : 32 < s.size
    · have e1 : isNm s = false := by unfold isNm; rw [decide_eq_false (show ¬ s.size ≤ 32 by omega)]; simp
      have d2 : decide ((32 : Int) < (s.size : Int)) = true := decide_eq_true (by omega)
      rw [e1]
      go_enter Try.func35, Try.ntmps35
      go_wp2
      go_ret
      exact ⟨rfl, rfl⟩
    · have d2 : decide ((32 : Int) < (s.size : Int)) = false := decide_eq_false (by omega)
      have hb := bs_get s 0 h0
      by_cases h36 : s[0] = 36
      · have e1 : isNm s = false := by
          unfold isNm
          rw [List.head?_eq_getElem?, hb, h36]
          simp
        rw [e1]
        have d3 : ((s[0].toNat : Int) == 36) = true := by rw [h36]; rfl
        go_enter Try.func35, Try.ntmps35
        go_wp2
        go_ret
        exact ⟨rfl, rfl⟩
      · have d3 : ((s[0].toNat : Int) == 36) = false := beq_eq_false_iff_ne.2 (fun e => h36 (UInt8.toNat_inj.1 (show s[0].toNat = 36 by omega)))
        have e1 : isNm s = s.data.toList.all okB := by
          unfold isNm
          rw [List.head?_eq_getElem?, hb, decide_eq_true h0, decide_eq_true (show s.size ≤ 32 by omega)]
          simp [h36]
        rw [e1]
        obtain ⟨R, hR⟩ : ∃ R, R = s.data.toList.all okB := ⟨_, rfl⟩
        rw [← hR]
        have HRR := Lib.hid hR
        clear e1 hb hR
        have hsl : s.data.toList.length = s.size := Array.length_toList
        go_enter Try.func35, Try.ntmps35
        go_wp2
        have HH := Lib.hid (And.intro h36 hsl)
        clear d1 d2 d3 h36 hsl
        go_loop [18] (fun i => ∃ k : Nat, k ≤ s.size ∧ i = .int .i64 k ∧ Hid ((s.data.toList.take k).all okB = true)) (fun i => s.size - (intOf i).toNat)
        case atStart => exact ⟨0, Nat.zero_le _, rfl, Lib.hid rfl⟩
        case round =>
          obtain ⟨k, hk, rfl, HA⟩ := hrel
          by_cases hlt : k < s.size
          · have hg := bs_get s k hlt
            have HG := Lib.hid hg
            have HT := Lib.hid (show s.data.toList.take (k + 1) = s.data.toList.take k ++ [s[k]] from take_snoc s k hlt)
            have HB := Lib.hid (fun hb : okB s[k] = false => (show s.data.toList.all okB = false by
              rw [List.all_eq_false]
              exact ⟨s[k], List.mem_of_getElem? hg, by rw [hb]; decide⟩))
            clear hg HG
            generalize hc : s[k] = c at *
            have hcl := c.toNat_lt
            by_cases q1 : c.toNat < 33
            · have hb := HB.out (by unfold okB; simp [q1])
              have HR := Lib.hid hb
              clear hb HB HT
              have e1 : decide ((c.toNat : Int) < 33) = true := decide_eq_true (by omega)
              go_wp2
              go_ret
              exact ⟨by rw [HRR.out, HR.out]; rfl, rfl⟩
            · have e1 : decide ((c.toNat : Int) < 33) = false := decide_eq_false (by omega)
              by_cases q2 : 126 < c.toNat
              · have hb := HB.out (by unfold okB; simp [q2])
                have HR := Lib.hid hb
                clear hb HB HT
                have e2 : decide (126 < (c.toNat : Int)) = true := decide_eq_true (by omega)
                go_wp2
                go_ret
                exact ⟨by rw [HRR.out, HR.out]; rfl, rfl⟩
              · have e2 : decide (126 < (c.toNat : Int)) = false := decide_eq_false (by omega)
                by_cases q3 : c.toNat = 46
                · have hb := HB.out (by unfold okB; simp [q3])
                  have HR := Lib.hid hb
                  clear hb HB HT
                  have e3 : ((c.toNat : Int) == 46) = true := by rw [q3]; rfl
                  go_wp2
                  go_ret
                  exact ⟨by rw [HRR.out, HR.out]; rfl, rfl⟩
                · have e3 : ((c.toNat : Int) == 46) = false := beq_eq_false_iff_ne.2 (by omega)
                  have hb : okB c = true := by unfold okB; simp [q3]; omega
                  have HR := Lib.hid (show (s.data.toList.take (k + 1)).all okB = true by rw [HT.out, List.all_append, HA.out]; simp [hb])
                  clear hb HB HT
                  go_wp2
                  go_round
                  case rel => exact ⟨k + 1, by omega, by go_num, HR⟩
                  case measure => simp [intOf]; omega
          · have HR := Lib.hid (show s.data.toList.all okB = true by have := HA.out; rwa [List.take_of_length_le (by rw [HH.out.2]; omega)] at this)
            go_wp2
            go_ret
            exact ⟨by rw [HRR.out, HR.out]; rfl, rfl⟩
theorem inRange_any (s : Int) (w : World) :
    Calls Try.prog 25 #[.int .i64 s] w fun e w' => e = .returned (.bool (decide (0 ≤ s) && decide (s ≤ 1099511627776))) ∧ w' = w := by
  by_cases h0 : 0 ≤ s
  · by_cases h1 : s ≤ 1099511627776
    · rw [decide_eq_true h0, decide_eq_true h1]
      have d2 : decide (s ≤ 1099511627776) = true := decide_eq_true h1
      go_enter Try.func25, Try.ntmps25
      go_wp2
      go_ret
      exact ⟨rfl, rfl⟩
    · rw [decide_eq_true h0, decide_eq_false h1]
      have d2 : decide (s ≤ 1099511627776) = false := decide_eq_false h1
      go_enter Try.func25, Try.ntmps25
      go_wp2
      go_ret
      exact ⟨rfl, rfl⟩
  · rw [decide_eq_false h0]
    have d1 : decide (0 ≤ s) = false := decide_eq_false h0
    go_enter Try.func25, Try.ntmps25
    go_wp2
    go_ret
    exact ⟨rfl, rfl⟩
end Go.Proofs.Ytpcjmceakelilaa
