/- Names: the reference's Name. -/
import Derived.Test.YtimhokilicogdaaRows
import Derived.WalkKit
import Derived.ProofKit
import Derived.OpenShut
import Derived.Outline
import Derived.Lib.Hide
namespace Nm
def okByte (c : UInt8) : Bool := decide (33 ≤ c.toNat) && decide (c.toNat ≤ 126) && (c.toNat != 46)
def nameB (l : List UInt8) : Bool := decide (1 ≤ l.length) && decide (l.length ≤ 32) && ((l.headD 0).toNat != 36) && l.all okByte
theorem name_short {l : List UInt8} (h : l.length < 1) : nameB l = false := by
  have : decide (1 ≤ l.length) = false := by rw [decide_eq_false_iff_not]; omega
  simp [nameB, this]
theorem name_long {l : List UInt8} (h : 32 < l.length) : nameB l = false := by
  have : decide (l.length ≤ 32) = false := by rw [decide_eq_false_iff_not]; omega
  simp [nameB, this]
theorem head_of (s : ByteArray) (h : 0 < s.size) : s.data.toList.headD 0 = s[0] := by
  have hl : s.data.toList.length = s.size := Array.length_toList
  match hm : s.data.toList with
  | [] => rw [hm] at hl; simp at hl; omega
  | a :: l =>
    have e : s[0] = s.data.toList[0]'(by omega) := rfl
    rw [e]
    simp [hm]
theorem name_dollar (s : ByteArray) (h : 0 < s.size) (h3 : s[0].toNat = 36) : nameB s.data.toList = false := by
  have d3 : ((s.data.toList.headD 0).toNat != 36) = false := by rw [head_of s h, h3]; rfl
  unfold nameB
  rw [d3]; simp
theorem name_bad (s : ByteArray) (k : Nat) (h : k < s.size) (hb : okByte s[k] = false) : nameB s.data.toList = false := by
  have : s.data.toList.all okByte = false := by
    rw [List.all_eq_false]
    exact ⟨s[k], List.getElem_mem (l := s.data.toList) (n := k) (by have : s.data.toList.length = s.size := Array.length_toList; omega), by simp [hb]⟩
  simp [nameB, this]
theorem all_next (s : ByteArray) (k : Nat) (h : k < s.size) (ha : (s.data.toList.take k).all okByte = true) (hb : okByte s[k] = true) : (s.data.toList.take (k + 1)).all okByte = true := by
  have hl : s.data.toList.length = s.size := Array.length_toList
  rw [List.take_succ_eq_append_getElem (by omega), List.all_append, ha]
  have e : s.data.toList[k]'(by omega) = s[k] := rfl
  simp [e, hb]
theorem name_good (s : ByteArray) (h : 0 < s.size) (h2 : s.size ≤ 32) (h3 : ¬ s[0].toNat = 36) (ha : s.data.toList.all okByte = true) : nameB s.data.toList = true := by
  have hl : s.data.toList.length = s.size := Array.length_toList
  have d1 : decide (1 ≤ s.data.toList.length) = true := by rw [hl]; simp; omega
  have d2 : decide (s.data.toList.length ≤ 32) = true := by rw [hl]; simp; omega
  have d3 : ((s.data.toList.headD 0).toNat != 36) = true := by rw [head_of s h]; simp [h3]
  unfold nameB
  rw [d1, d2, d3, ha]; rfl
end Nm
namespace Go.Proofs.Ytimhokilicogdaa
open Go.ChangeShapes Go.WideShapes Go.ChangeAt Go.RowKit
set_option linter.unusedVariables false

set_option maxHeartbeats 400000 in
theorem rName_any (s : ByteArray) (w : World) (hs : s.size ≤ maxLen) :
    Calls Try.prog 26 #[.string s] w fun e w' => e = .returned (.bool (Nm.nameB s.data.toList)) ∧ w = w' := by
  unfold maxLen at hs
  have HL : Hid (s.data.toList.length = s.size) := Array.length_toList
  by_cases h1 : s.size < 1
  · have HF := Lib.hid (Nm.name_short (l := s.data.toList) (by have := HL.out; show s.data.toList.length < 1; omega))
    go_enter Try.func26, Try.ntmps26
    go_wp2
    go_ret
    exact ⟨by rw [HF.out]; rfl, rfl⟩
  · by_cases h2 : 32 < s.size
    · have HF := Lib.hid (Nm.name_long (l := s.data.toList) (by have := HL.out; show 32 < s.data.toList.length; omega))
      go_enter Try.func26, Try.ntmps26
      go_wp2
      go_ret
      exact ⟨by rw [HF.out]; rfl, rfl⟩
    · have h0 : 0 < s.size := by omega
      by_cases h3 : s[0].toNat = 36
      · have HF := Lib.hid (Nm.name_dollar s h0 h3)
        have h3b : ((s[0].toNat : Int) == 36) = true := by rw [h3]; rfl
        have h3c : (s[0].toNat : Int) = 36 := by omega
        clear h3
        go_enter Try.func26, Try.ntmps26
        go_wp2
        go_ret
        exact ⟨by rw [HF.out]; rfl, rfl⟩
      · have h3b : ((s[0].toNat : Int) == 36) = false := by rw [beq_eq_false_iff_ne]; omega
        have h3c : ¬ (s[0].toNat : Int) = 36 := by omega
        have H3 := Lib.hid h3
        clear h3
        go_enter Try.func26, Try.ntmps26
        go_wp2
        go_loop [3] (fun i => ∃ k : Nat, k ≤ s.size ∧ i = .int .i64 k ∧ (s.data.toList.take k).all Nm.okByte = true) (fun i => s.size - (intOf i).toNat)
        case atStart => exact ⟨0, Nat.zero_le _, rfl, rfl⟩
        case round =>
          obtain ⟨k, hk, rfl, hall⟩ := hrel
          have HA := Lib.hid hall
          clear hall
          by_cases hlt : k < s.size
          · have HB := Lib.hid (Nm.name_bad s k hlt)
            have HN := Lib.hid (Nm.all_next s k hlt HA.out)
            have hx8 := s[k].toNat_lt
            by_cases hc1 : s[k].toNat < 33
            · go_wp2
              go_ret
              exact ⟨by rw [HB.out (by simp [Nm.okByte]; omega)]; rfl, rfl⟩
            · by_cases hc2 : 126 < s[k].toNat
              · go_wp2
                go_ret
                exact ⟨by rw [HB.out (by simp [Nm.okByte]; omega)]; rfl, rfl⟩
              · by_cases hc3 : s[k].toNat = 46
                · have hb3 : ((s[k].toNat : Int) == 46) = true := by rw [hc3]; rfl
                  have hd3 : (s[k].toNat : Int) = 46 := by omega
                  have HC3 := Lib.hid hc3
                  clear hc3
                  go_wp2
                  go_ret
                  exact ⟨by rw [HB.out (by simp [Nm.okByte, HC3.out])]; rfl, rfl⟩
                · have hb3 : ((s[k].toNat : Int) == 46) = false := by rw [beq_eq_false_iff_ne]; omega
                  have hd3 : ¬ (s[k].toNat : Int) = 46 := by omega
                  go_wp2
                  go_round
                  case rel => exact ⟨k + 1, by omega, by go_num, HN.out (by simp [Nm.okByte]; omega)⟩
                  case measure => simp [intOf]; omega
          · have HF := Lib.hid (Nm.name_good s h0 (by omega) H3.out (by rw [List.take_of_length_le (by have := HL.out; show s.data.toList.length ≤ k; omega)] at HA; exact HA.out))
            go_wp2
            go_ret
            exact ⟨by rw [HF.out]; rfl, rfl⟩
end Go.Proofs.Ytimhokilicogdaa
