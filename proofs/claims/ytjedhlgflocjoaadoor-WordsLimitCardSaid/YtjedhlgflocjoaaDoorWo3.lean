/- Words: bytes that belong to words; strings in lower case. -/
import Derived.Test.YtjedhlgflocjoaaDoorRows
import Derived.Test.YtjedhlgflocjoaaDoorWo1
import Derived.Test.YtjedhlgflocjoaaDoorWo2
import Derived.Test.YtjedhlgflocjoaaDoorBytes2
import Derived.WalkKit
import Derived.ProofKit
import Derived.OpenShut
import Derived.Outline
import Derived.OwnWalk
import Derived.Lib.Hide
import Derived.Below
import Derived.Laws.AppendOwn
import Derived.Laws.OwnMore
import Derived.WalkSpells
namespace Wd
/-- a list of bytes as a string -/
def bs (l : Str) : ByteArray := ⟨l.toArray⟩
theorem bs_size (l : Str) : (bs l).size = l.length := rfl
theorem bs_list (l : Str) : (bs l).data.toList = l := rfl
theorem bs_of (s : ByteArray) : bs s.data.toList = s := rfl
theorem bs_inj {a b : Str} (h : bs a = bs b) : a = b := by have := congrArg (fun x : ByteArray => x.data.toList) h; exact this
end Wd
namespace Go.Proofs.YtjedhlgflocjoaaDoor
open Go.ChangeShapes Go.WideShapes Go.ChangeAt Go.RowKit
set_option linter.unusedVariables false
set_option linter.unusedSimpArgs false
theorem byte_cases (n : Nat) (h : n < 256) : (n < 48 ∨ (48 ≤ n ∧ n ≤ 57) ∨ (58 ≤ n ∧ n ≤ 64) ∨ (65 ≤ n ∧ n ≤ 90) ∨ (91 ≤ n ∧ n ≤ 96) ∨ (97 ≤ n ∧ n ≤ 122) ∨ (123 ≤ n ∧ n ≤ 127) ∨ 128 ≤ n) := by omega
theorem ret_bool {a b : Bool} (h : a = b) : Ending.returned (.bool a) = .returned (.bool b) := by rw [h]
theorem ret_str {a b : ByteArray} (h : a = b) : Ending.returned (.string a) = .returned (.string b) := by rw [h]
theorem ret_int {k : IntKind} {a b : Int} (h : a = b) : Ending.returned (.int k a) = .returned (.int k b) := by rw [h]
set_option maxHeartbeats 400000 in
theorem isLetter_any (c : UInt8) (w : World) : Calls Tryd.prog 50 #[.int .u8 (c.toNat : Int)] w fun e w' => e = .returned (.bool (Wd.isL c)) ∧ w = w' := by
  have hc := c.toNat_lt
  have hL : Wd.isL c = decide ((97 ≤ c.toNat ∧ c.toNat ≤ 122) ∨ (65 ≤ c.toNat ∧ c.toNat ≤ 90) ∨ (48 ≤ c.toNat ∧ c.toNat ≤ 57) ∨ 128 ≤ c.toNat) := rfl
  generalize Wd.isL c = b at hL
  generalize c.toNat = n at hc hL
  have HL := Lib.hid hL
  clear hL
  rcases byte_cases n (by omega) with h | ⟨h, h'⟩ | ⟨h, h'⟩ | ⟨h, h'⟩ | ⟨h, h'⟩ | ⟨h, h'⟩ | ⟨h, h'⟩ | h
  all_goals
    go_enter Tryd.func50, Tryd.ntmps50
    go_wp2
    go_ret
    refine ⟨?_, rfl⟩
    rw [HL.out]
    refine ret_bool ?_
    rw [Bool.eq_iff_iff]
    simp only [Bool.or_eq_true, Bool.and_eq_true, decide_eq_true_eq]
    first | omega | (simp; omega) | simp
theorem isLetter_yes (c : UInt8) (w : World) (h : Wd.isL c = true) : Calls Tryd.prog 50 #[.int .u8 (c.toNat : Int)] w fun e w' => e = .returned (.bool true) ∧ w = w' := by
  rw [← h]; exact isLetter_any c w
theorem isLetter_no (c : UInt8) (w : World) (h : Wd.isL c = false) : Calls Tryd.prog 50 #[.int .u8 (c.toNat : Int)] w fun e w' => e = .returned (.bool false) ∧ w = w' := by
  rw [← h]; exact isLetter_any c w
set_option maxHeartbeats 400000 in
theorem letter_any (c : UInt8) (w : World) : Calls Tryd.prog 29 #[.int .u8 (c.toNat : Int)] w fun e w' => e = .returned (.bool (Wd.isL c)) ∧ w = w' := by
  have hc := c.toNat_lt
  have hL : Wd.isL c = decide ((97 ≤ c.toNat ∧ c.toNat ≤ 122) ∨ (65 ≤ c.toNat ∧ c.toNat ≤ 90) ∨ (48 ≤ c.toNat ∧ c.toNat ≤ 57) ∨ 128 ≤ c.toNat) := rfl
  generalize Wd.isL c = b at hL
  generalize c.toNat = n at hc hL
  have HL := Lib.hid hL
  clear hL
  rcases byte_cases n (by omega) with h | ⟨h, h'⟩ | ⟨h, h'⟩ | ⟨h, h'⟩ | ⟨h, h'⟩ | ⟨h, h'⟩ | ⟨h, h'⟩ | h
  all_goals
    go_enter Tryd.func29, Tryd.ntmps29
    go_wp2
    go_ret
    refine ⟨?_, rfl⟩
    rw [HL.out]
    refine ret_bool ?_
    rw [Bool.eq_iff_iff]
    simp only [Bool.or_eq_true, Bool.and_eq_true, decide_eq_true_eq]
    first | omega | (simp; omega) | simp
theorem letter_yes (c : UInt8) (w : World) (h : Wd.isL c = true) : Calls Tryd.prog 29 #[.int .u8 (c.toNat : Int)] w fun e w' => e = .returned (.bool true) ∧ w = w' := by
  rw [← h]; exact letter_any c w
theorem letter_no (c : UInt8) (w : World) (h : Wd.isL c = false) : Calls Tryd.prog 29 #[.int .u8 (c.toNat : Int)] w fun e w' => e = .returned (.bool false) ∧ w = w' := by
  rw [← h]; exact letter_any c w
theorem size_list (s : ByteArray) : s.data.toList.length = s.size := Array.length_toList
theorem low_up (c : UInt8) (h : 65 ≤ c.toNat) (h' : c.toNat ≤ 90) : ((Wd.low c).toNat : Int) = (c.toNat : Int) + 32 := by
  unfold Wd.low Wd.isU
  rw [if_pos (by simp [h, h'])]
  simp
  omega
theorem low_not (c : UInt8) (h : ¬ (65 ≤ c.toNat ∧ c.toNat ≤ 90)) : Wd.low c = c := by
  unfold Wd.low Wd.isU
  rw [if_neg (by simp; omega)]
theorem lower_take (l : List UInt8) (k : Nat) (h : k < l.length) : (Wd.lower l).take (k + 1) = (Wd.lower l).take k ++ [Wd.low l[k]] := by
  rw [List.take_succ_eq_append_getElem (by simpa [Wd.lower] using h)]
  simp [Wd.lower]
/-- lower up to place k, the rest as it was -/
def lowTo (l : List UInt8) (k : Nat) : List UInt8 := (Wd.lower l).take k ++ l.drop k
theorem lowTo_length (l : List UInt8) (k : Nat) (h : k ≤ l.length) : (lowTo l k).length = l.length := by simp [lowTo, Wd.lower]; omega
theorem lowTo_get (l : List UInt8) (k : Nat) (h : k < l.length) (h2 : k < (lowTo l k).length) : (lowTo l k)[k] = l[k] := by
  have e : (lowTo l k)[k]? = some l[k] := by
    unfold lowTo
    rw [List.getElem?_append_right (by simp [Wd.lower]; omega)]
    simp [Wd.lower, Nat.min_eq_left (Nat.le_of_lt h), h]
  rw [List.getElem?_eq_getElem h2] at e
  exact Option.some.inj e
theorem lowTo_set (l : List UInt8) (k : Nat) (h : k < l.length) : (lowTo l k).set k (Wd.low l[k]) = lowTo l (k + 1) := by
  unfold lowTo
  have e : ((Wd.lower l).take k).length = k := by simp [Wd.lower]; omega
  rw [List.set_append_right _ _ (by omega), e, Nat.sub_self, List.drop_eq_getElem_cons h, List.set_cons_zero, lower_take l k h]
  simp
theorem lowTo_same (l : List UInt8) (k : Nat) (h : k < l.length) (he : Wd.low l[k] = l[k]) : lowTo l k = lowTo l (k + 1) := by
  rw [← lowTo_set l k h, he]
  have h2 : k < (lowTo l k).length := by rw [lowTo_length l k (by omega)]; exact h
  rw [← lowTo_get l k h h2, List.set_getElem_self]
theorem lowTo_all (l : List UInt8) : lowTo l l.length = Wd.lower l := by unfold lowTo; rw [List.drop_length, List.append_nil, List.take_of_length_le (by simp [Wd.lower])]
set_option maxHeartbeats 400000 in
theorem lower_any (s : ByteArray) (w : World) (hs : s.size ≤ 1000000) : Calls Tryd.prog 38 #[.string s] w fun e w' => e = .returned (.string (Wd.bs (Wd.lower s.data.toList))) ∧ Below w.heap.size w w' := by
  obtain ⟨W1, cap, hcv, hB, hb1, hz1⟩ := bytes_of_string s w
  have HB := Lib.hid hB
  have HZ := Lib.hid hz1
  have hsl : s.data.toList.length = s.size := size_list s
  have HSL := Lib.hid hsl
  clear hB hz1 hsl
  go_enter Tryd.func38, Tryd.ntmps38
  go_wp2
  clear hcv
  go_loopw [10] (fun i wr => ∃ k : Nat, k ≤ s.size ∧ i = .int .i64 k ∧ BytesAt wr w.heap.size (lowTo s.data.toList k) ∧ Below w.heap.size w wr ∧ w.heap.size < wr.heap.size) (fun i _ => s.size - (intOf i).toNat)
  case atStart => exact ⟨0, Nat.zero_le _, rfl, by simpa [lowTo] using HB.out, hb1, by rw [HZ.out]; omega⟩
  case round =>
    obtain ⟨k, hk, rfl, hBk, hbk, hzk⟩ := hrel
    by_cases hlt : k < s.size
    · have hkl : k < s.data.toList.length := by rw [HSL.out]; exact hlt
      have hlen : (lowTo s.data.toList k).length = s.size := by rw [lowTo_length _ _ (by omega), HSL.out]
      have hc := hBk.cell k (by omega)
      have hf := hBk.free k (by omega)
      rw [lowTo_get _ _ hkl] at hc
      have HLEN := Lib.hid hlen
      have HBK := Lib.hid hBk
      clear hlen hBk
      have hn := s.data.toList[k].toNat_lt
      by_cases hu : 65 ≤ s.data.toList[k].toNat ∧ s.data.toList[k].toNat ≤ 90
      · have HUP := Lib.hid (low_up s.data.toList[k] hu.1 hu.2)
        obtain ⟨hu1, hu2⟩ := hu
        have HSET := Lib.hid (HBK.out.set k (Wd.low s.data.toList[k]) (by rw [HLEN.out]; exact hlt))
        have HLS := Lib.hid (lowTo_set s.data.toList k hkl)
        generalize s.data.toList[k] = c at *
        go_wp2
        go_roundw
        case rel =>
          have e : (c.toNat : Int) - 65 + 97 = ((Wd.low c).toNat : Int) := by rw [HUP.out]; omega
          exact ⟨k + 1, by omega, by go_num, by rw [e, ← HLS.out]; exact HSET.out, hbk.setCell (Nat.le_refl _) _, by simpa using hzk⟩
        case measure => simp [intOf]; omega
      · have HN := Lib.hid (lowTo_same s.data.toList k hkl (low_not _ hu))
        generalize s.data.toList[k] = c at *
        have hu' : c.toNat < 65 ∨ 90 < c.toNat := by omega
        clear hu
        rcases hu' with hu | hu
        all_goals
          go_wp2
          go_roundw
          case rel => exact ⟨k + 1, by omega, by go_num, by rw [← HN.out]; exact HBK.out, hbk, hzk⟩
          case measure => simp [intOf]; omega
    · obtain rfl : k = s.size := by omega
      have hcv : (convert 33 9 (.slice (some ⟨w.heap.size, 0, none⟩) s.size cap)).run Tryd.prog wr = .ok (.string (Wd.bs (Wd.lower s.data.toList))) wr := by
        have e : lowTo s.data.toList s.size = Wd.lower s.data.toList := by rw [← HSL.out, lowTo_all]
        have e2 : (Wd.lower s.data.toList).length = s.size := by rw [Wd.lower_length, HSL.out]
        rw [e] at hBk
        have := conv_bytes cap hBk
        rw [e2] at this
        exact this
      clear hBk
      go_wp2
      go_ret
      exact ⟨rfl, hbk⟩
end Go.Proofs.YtjedhlgflocjoaaDoor
