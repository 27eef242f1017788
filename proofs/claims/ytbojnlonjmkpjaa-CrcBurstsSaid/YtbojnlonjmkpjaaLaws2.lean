/- The walks of the laws CrcSeals, CrcOpens and CrcResidue. -/
import Derived.Test.YtbojnlonjmkpjaaWalks2
import Derived.Test.YtbojnlonjmkpjaaPlain2
namespace Go.Proofs.Ytbojnlonjmkpjaa
open Go.ChangeShapes Go.WideShapes Go.ChangeAt Go.RowKit
set_option linter.unusedVariables false

/-- Seal and Open of strings of bounded length, spelled with a string of its own name. -/
def sealed (s : ByteArray) : ByteArray := ⟨(Crc.seal4 s.data.toList).toArray⟩
theorem sealed_list (s : ByteArray) : (sealed s).data.toList = Crc.seal4 s.data.toList := rfl
theorem sealed_size (s : ByteArray) : (sealed s).size = s.size + 4 := by
  rw [← size_list, sealed_list, Crc.seal4_length, size_list]
theorem seal_call (s : ByteArray) (w : World) (hs : s.size ≤ 1000000000) :
    Calls Try.prog 12 #[.string s] w fun e w' => e = .returned (.string (sealed s)) ∧ Below w.heap.size w w' := seal_any s w hs
theorem rseal_call (s : ByteArray) (w : World) (hs : s.size ≤ 1000000000) :
    Calls Try.prog 14 #[.string s] w fun e w' => e = .returned (.string (sealed s)) ∧ Below w.heap.size w w' := rseal_any s w hs
theorem open_sealed (s : ByteArray) (w : World) (hs : s.size ≤ 100000000) :
    Calls Try.prog 13 #[.string (sealed s)] w fun e w' => e = .returned (.tuple #[.string s, .int .i64 0]) ∧ Below w.heap.size w w' :=
  (open_any (sealed s) w (by rw [sealed_size]; omega)).mono fun e w' ⟨h, hb⟩ => ⟨h.trans (two_res _ _ _ _ (by rw [sealed_list, Crc.openS_seal]) (by rw [sealed_list, Crc.openE_seal])), hb⟩

set_option maxHeartbeats 400000 in
theorem seals_law (s : ByteArray) (hs : s.size ≤ maxLen) (w : World) :
    Calls Try.prog 4 #[.string s] w fun e w' => e = .returned (.bool true) ∧ Below w.heap.size w w' := by
  have hm := hs
  unfold maxLen at hm
  by_cases h : s.size ≤ 3000
  · go_enter Try.func4, Try.ntmps4
    go_wp2_with fail
    refine (seal_call _ _ (by omega)).mono ?_
    rintro e w1 ⟨rfl, hb1⟩
    go_wp2_with fail
    refine (open_sealed _ _ (by omega)).mono ?_
    rintro e w2 ⟨rfl, hb2⟩
    go_wp2_with fail
    refine (rseal_call _ _ (by omega)).mono ?_
    rintro e w3 ⟨rfl, hb3⟩
    go_wp2_with fail
    refine (awake_any _).mono ?_
    rintro e w4 ⟨rfl, hb4⟩
    go_wp2_with fail
    go_ret
    exact ⟨rfl, hb1.trans ((hb2.mono hb1.size).trans ((hb3.mono (Nat.le_trans hb1.size hb2.size)).trans (hb4.mono (Nat.le_trans hb1.size (Nat.le_trans hb2.size hb3.size)))))⟩
  · go_enter Try.func4, Try.ntmps4
    go_wp2_with fail
    refine (awake_any _).mono ?_
    rintro e w1 ⟨rfl, hb⟩
    go_wp2_with fail
    go_ret
    exact ⟨rfl, hb⟩

/-- what Open gives, under names of its own -/
def opened (s : ByteArray) : ByteArray := ⟨(Crc.openS s.data.toList).toArray⟩
def errno (s : ByteArray) : Int := Crc.openE s.data.toList
theorem opened_size (s : ByteArray) : (opened s).size ≤ s.size := by
  rw [← size_list, ← size_list]
  show (Crc.openS s.data.toList).length ≤ _
  unfold Crc.openS
  split
  · simp
  · split
    · simp
    · simp
theorem open_call (s : ByteArray) (w : World) (hs : s.size ≤ 1000000000) :
    Calls Try.prog 13 #[.string s] w fun e w' => e = .returned (.tuple #[.string (opened s), .int .i64 (errno s)]) ∧ Below w.heap.size w w' := open_any s w hs
theorem ropen_call (s : ByteArray) (w : World) (hs : s.size ≤ 1000000000) :
    Calls Try.prog 15 #[.string s] w fun e w' => e = .returned (.tuple #[.string (opened s), .int .i64 (errno s)]) ∧ Below w.heap.size w w' := ropen_any s w hs
theorem seal_opened (s : ByteArray) (w : World) (hs : s.size ≤ 1000000000) (he : errno s = 0) :
    Calls Try.prog 12 #[.string (opened s)] w fun e w' => e = .returned (.string s) ∧ Below w.heap.size w w' :=
  (seal_any (opened s) w (Nat.le_trans (opened_size s) hs)).mono fun e w' ⟨h, hb⟩ => ⟨h.trans (congrArg (fun l : List UInt8 => Ending.returned (.string ⟨l.toArray⟩)) (Crc.seal_openS _ he)), hb⟩

set_option maxHeartbeats 400000 in
theorem opens_law (s : ByteArray) (hs : s.size ≤ maxLen) (w : World) :
    Calls Try.prog 5 #[.string s] w fun e w' => e = .returned (.bool true) ∧ Below w.heap.size w w' := by
  have hm := hs
  unfold maxLen at hm
  by_cases h : s.size ≤ 3000
  · by_cases he : errno s = 0
    · have he1 : (errno s != 0) = false := by simp [he]
      have HE := Lib.hid he
      clear he
      go_enter Try.func5, Try.ntmps5
      go_wp2_with fail
      refine (open_call _ _ (by omega)).mono ?_
      rintro e w1 ⟨rfl, hb1⟩
      go_wp2_with fail
      refine (ropen_call _ _ (by omega)).mono ?_
      rintro e w2 ⟨rfl, hb2⟩
      go_wp2_with fail
      refine (seal_opened _ _ (by omega) HE.out).mono ?_
      rintro e w3 ⟨rfl, hb3⟩
      go_wp2_with fail
      refine (awake_any _).mono ?_
      rintro e w4 ⟨rfl, hb4⟩
      go_wp2_with fail
      go_ret
      exact ⟨rfl, hb1.trans ((hb2.mono hb1.size).trans ((hb3.mono (Nat.le_trans hb1.size hb2.size)).trans (hb4.mono (Nat.le_trans hb1.size (Nat.le_trans hb2.size hb3.size)))))⟩
    · have he1 : (errno s != 0) = true := by simp [he]
      go_enter Try.func5, Try.ntmps5
      go_wp2_with fail
      refine (open_call _ _ (by omega)).mono ?_
      rintro e w1 ⟨rfl, hb1⟩
      go_wp2_with fail
      refine (ropen_call _ _ (by omega)).mono ?_
      rintro e w2 ⟨rfl, hb2⟩
      go_wp2_with fail
      refine (awake_any _).mono ?_
      rintro e w4 ⟨rfl, hb4⟩
      go_wp2_with fail
      go_ret
      exact ⟨rfl, hb1.trans ((hb2.mono hb1.size).trans (hb4.mono (Nat.le_trans hb1.size hb2.size)))⟩
  · go_enter Try.func5, Try.ntmps5
    go_wp2_with fail
    refine (awake_any _).mono ?_
    rintro e w1 ⟨rfl, hb⟩
    go_wp2_with fail
    go_ret
    exact ⟨rfl, hb⟩

def resid : Nat := Crc.sum (Crc.seal4 [])
theorem sum_sealed (s : ByteArray) (w : World) (hs : s.size ≤ 1000000000) :
    Calls Try.prog 10 #[.string (sealed s)] w fun e w' => e = .returned (.int .u32 resid) ∧ w = w' :=
  (sum_any (sealed s) w (by rw [sealed_size]; unfold maxLen; omega)).mono fun e w' ⟨h, hb⟩ => ⟨h.trans (congrArg (fun n : Nat => Ending.returned (.int .u32 (n : Int))) (Crc.sum_seal _ _)), hb⟩

set_option maxHeartbeats 400000 in
theorem residue_law (a : ByteArray) (ha : a.size ≤ maxLen) (b : ByteArray) (hb : b.size ≤ maxLen) (w : World) :
    Calls Try.prog 8 #[.string a, .string b] w fun e w' => e = .returned (.bool true) ∧ Below w.heap.size w w' := by
  have hma := ha
  have hmb := hb
  unfold maxLen at hma hmb
  by_cases h : a.size ≤ 1000
  · by_cases h' : b.size ≤ 1000
    · have hsz := sealed_size a
      have HS := Lib.hid hsz
      clear hsz
      go_enter Try.func8, Try.ntmps8
      go_wp2_with fail
      refine (seal_call _ _ (by omega)).mono ?_
      rintro e w1 ⟨rfl, hb1⟩
      go_wp2_with fail
      refine (seal_call _ _ (by rw [HS.out]; omega)).mono ?_
      rintro e w2 ⟨rfl, hb2⟩
      go_wp2_with fail
      refine (open_sealed _ _ (by rw [HS.out]; omega)).mono ?_
      rintro e w3 ⟨rfl, hb3⟩
      go_wp2_with fail
      refine (open_sealed _ _ (by omega)).mono ?_
      rintro e w4 ⟨rfl, hb4⟩
      go_wp2_with fail
      refine (sum_sealed _ _ (by omega)).mono ?_
      rintro e w5 ⟨rfl, rfl⟩
      go_wp2_with fail
      refine (seal_call _ _ (by omega)).mono ?_
      rintro e w5 ⟨rfl, hb5⟩
      go_wp2_with fail
      refine (sum_sealed _ _ (by omega)).mono ?_
      rintro e w6 ⟨rfl, rfl⟩
      go_wp2_with fail
      refine (awake_any _).mono ?_
      rintro e w6 ⟨rfl, hb6⟩
      go_wp2_with fail
      go_ret
      have s1 := hb1.size
      have s2 := hb2.size
      have s3 := hb3.size
      have s4 := hb4.size
      have s5 := hb5.size
      exact ⟨rfl, hb1.trans ((hb2.mono (by omega)).trans ((hb3.mono (by omega)).trans ((hb4.mono (by omega)).trans ((hb5.mono (by omega)).trans (hb6.mono (by omega))))))⟩
    · go_enter Try.func8, Try.ntmps8
      go_wp2_with fail
      refine (awake_any _).mono ?_
      rintro e w1 ⟨rfl, hb⟩
      go_wp2_with fail
      go_ret
      exact ⟨rfl, hb⟩
  · go_enter Try.func8, Try.ntmps8
    go_wp2_with fail
    refine (awake_any _).mono ?_
    rintro e w1 ⟨rfl, hb⟩
    go_wp2_with fail
    go_ret
    exact ⟨rfl, hb⟩
end Go.Proofs.Ytbojnlonjmkpjaa
