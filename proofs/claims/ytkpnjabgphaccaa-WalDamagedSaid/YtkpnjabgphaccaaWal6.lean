/- The walks of the laws WalFrames, WalReads and WalRecovers. -/
import Derived.Test.YtkpnjabgphaccaaWal5
import Derived.Test.YtkpnjabgphaccaaWalPlain2
namespace Go.Proofs.Ytkpnjabgphaccaa
open Go.ChangeShapes Go.WideShapes Go.ChangeAt Go.RowKit
set_option linter.unusedVariables false

theorem frames_out (a b : ByteArray) (ha : a.size ≤ maxLen) (hb : b.size ≤ maxLen) (w : World) (h : 20000 < a.size ∨ 5000 < b.size) :
    Calls Try.prog 3 #[.string a, .string b] w fun e w' => e = .returned (.bool true) ∧ Below w.heap.size w w' := by
  unfold maxLen at ha hb
  by_cases h1 : 20000 < a.size
  · clear h
    go_enter Try.func3, Try.ntmps3
    go_wp2_with fail
    refine (awake_any _).mono ?_
    rintro e w1 ⟨rfl, hb⟩
    go_wp2_with fail
    go_ret
    exact ⟨rfl, hb⟩
  · have h2 : 5000 < b.size := by omega
    clear h
    go_enter Try.func3, Try.ntmps3
    go_wp2_with fail
    refine (awake_any _).mono ?_
    rintro e w1 ⟨rfl, hb⟩
    go_wp2_with fail
    go_ret
    exact ⟨rfl, hb⟩

def Read3 (ls : List (List UInt8)) (k : Nat) (x : Int) (w : World) (e : Ending) (w' : World) : Prop :=
  ∃ v, e = .returned (.tuple #[v, .int .i64 k, .int .i64 x]) ∧ StrsAt w' v ls ∧ Below w.heap.size w w'
def Rec2 (b : ByteArray) (ls : List (List UInt8)) (w : World) (e : Ending) (w' : World) : Prop :=
  ∃ v, e = .returned (.tuple #[v, .string b]) ∧ StrsAt w' v ls ∧ Below w.heap.size w w'
theorem read_is (a : ByteArray) (ls : List (List UInt8)) (k : Nat) (x : Int) (hr : Crc.read a.data.toList = (ls, k, x)) (w : World) (hs : a.size ≤ 1000000) : Calls Try.prog 14 #[.string a] w (Read3 ls k x w) :=
  (read_call a w hs).mono fun e w' ⟨v, h1, h2, h3⟩ => by rw [hr] at h1 h2; exact ⟨v, h1, h2, h3⟩
theorem rread_is (a : ByteArray) (ls : List (List UInt8)) (k : Nat) (x : Int) (hr : Crc.read a.data.toList = (ls, k, x)) (w : World) (hs : a.size ≤ 1000000) : Calls Try.prog 15 #[.string a] w (Read3 ls k x w) :=
  (rread_call a w hs).mono fun e w' ⟨v, h1, h2, h3⟩ => by rw [hr] at h1 h2; exact ⟨v, h1, h2, h3⟩
theorem recover_is (a : ByteArray) (ls : List (List UInt8)) (k : Nat) (x : Int) (hr : Crc.read a.data.toList = (ls, k, x)) (w : World) (hs : a.size ≤ 1000000) (hk : k ≤ a.size) : Calls Try.prog 17 #[.string a] w (Rec2 (a.extract 0 k) ls w) :=
  (recover_any a w hs (by rw [hr]; exact hk)).mono fun e w' ⟨v, h1, h2, h3⟩ => by rw [hr] at h1 h2; exact ⟨v, by rw [h1, take_str], h2, h3⟩

def added (a s : ByteArray) : ByteArray := ⟨(a.data.toList ++ Crc.frame s.data.toList).toArray⟩
theorem append_call (a s : ByteArray) (w : World) (ha : a.size ≤ 1000000) (hs : s.size ≤ 5000) :
    Calls Try.prog 12 #[.string a, .string s] w fun e w' => e = .returned (.tuple #[.string (added a s), .int .i64 0]) ∧ Below w.heap.size w w' := append_any a s w ha hs
theorem rappend_call (a s : ByteArray) (w : World) (ha : a.size ≤ 1000000) (hs : s.size ≤ 5000) :
    Calls Try.prog 13 #[.string a, .string s] w fun e w' => e = .returned (.tuple #[.string (added a s), .int .i64 0]) ∧ Below w.heap.size w w' := rappend_any a s w ha hs

set_option maxRecDepth 100000 in
set_option maxHeartbeats 400000 in
theorem frames_law (a : ByteArray) (ha : a.size ≤ maxLen) (b : ByteArray) (hb : b.size ≤ maxLen) (w : World) :
    Calls Try.prog 3 #[.string a, .string b] w fun e w' => e = .returned (.bool true) ∧ Below w.heap.size w w' := by
  by_cases h : 20000 < a.size ∨ 5000 < b.size
  · exact frames_out a b ha hb w h
  · have h1 : a.size ≤ 20000 := by omega
    have h2 : b.size ≤ 5000 := by omega
    clear h ha hb
    go_enter Try.func3, Try.ntmps3
    go_wp2_with fail
    refine (frame_call _ _ (by omega)).mono ?_
    rintro e w1 ⟨rfl, hb1⟩
    go_wp2_with fail
    refine (rframe_any _ _ (by omega)).mono ?_
    rintro e w2 ⟨rfl, hb2⟩
    go_wp2_with fail
    refine (append_call _ _ _ (by omega) (by omega)).mono ?_
    rintro e w3 ⟨rfl, hb3⟩
    go_wp2_with fail
    refine (rappend_call _ _ _ (by omega) (by omega)).mono ?_
    rintro e w4 ⟨rfl, hb4⟩
    go_wp2_with fail
    refine (awake_any _).mono ?_
    rintro e w5 ⟨rfl, hb5⟩
    go_wp2_with fail
    go_ret
    have s1 := hb1.size
    have s2 := hb2.size
    have s3 := hb3.size
    have s4 := hb4.size
    exact ⟨rfl, hb1.trans ((hb2.mono (by omega)).trans ((hb3.mono (by omega)).trans ((hb4.mono (by omega)).trans (hb5.mono (by omega)))))⟩

theorem reads_out (a : ByteArray) (ha : a.size ≤ maxLen) (w : World) (h : 5000 < a.size) :
    Calls Try.prog 4 #[.string a] w fun e w' => e = .returned (.bool true) ∧ Below w.heap.size w w' := by
  unfold maxLen at ha
  go_enter Try.func4, Try.ntmps4
  go_wp2_with fail
  refine (awake_any _).mono ?_
  rintro e w1 ⟨rfl, hb⟩
  go_wp2_with fail
  go_ret
  exact ⟨rfl, hb⟩

set_option maxRecDepth 100000 in
set_option maxHeartbeats 400000 in
theorem reads_law (a : ByteArray) (ha : a.size ≤ maxLen) (w : World) :
    Calls Try.prog 4 #[.string a] w fun e w' => e = .returned (.bool true) ∧ Below w.heap.size w w' := by
  by_cases h : 5000 < a.size
  · exact reads_out a ha w h
  · have h1 : a.size ≤ 5000 := by omega
    clear h ha
    have HR := Lib.hid (Crc.read_le a.data.toList)
    have HC := Lib.hid (Crc.read_count a.data.toList)
    have HSL := Lib.hid (size_list a)
    obtain ⟨ls, k, x, hr⟩ : ∃ (ls : List (List UInt8)) (k : Nat) (x : Int), Crc.read a.data.toList = (ls, k, x) := ⟨_, _, _, rfl⟩
    have hka : k ≤ a.size := by have := HR.out; rw [hr, HSL.out] at this; exact this
    have hll : ls.length ≤ 1000000 := by have := HC.out; rw [hr, HSL.out] at this; simp only at this; omega
    have HRD := Lib.hid hr
    clear hr
    go_enter Try.func4, Try.ntmps4
    go_wp2_with fail
    refine (read_is a ls k x HRD.out _ (by omega)).mono ?_
    rintro e w1 ⟨v1, rfl, hv1, hb1⟩
    have HV1 := Lib.hid hv1
    clear hv1
    go_wp2_with fail
    refine (rread_is a ls k x HRD.out _ (by omega)).mono ?_
    rintro e w2 ⟨v2, rfl, hv2, hb2⟩
    have HV2 := Lib.hid hv2
    have HV12 := Lib.hid (HV1.out.below hb2)
    clear hv2
    go_wp2_with fail
    refine (equal_any _ _ ls _ hll HV12.out HV2.out).mono ?_
    rintro e w3 ⟨rfl, hb3⟩
    have HV23 := Lib.hid (HV2.out.below hb3)
    go_wp2_with fail
    refine (recover_is a ls k x HRD.out _ (by omega) hka).mono ?_
    rintro e w4 ⟨v4, rfl, hv4, hb4⟩
    have HV4 := Lib.hid hv4
    have HV24 := Lib.hid (HV23.out.below hb4)
    clear hv4
    go_wp2_with fail
    refine (equal_any _ _ ls _ hll HV4.out HV24.out).mono ?_
    rintro e w5 ⟨rfl, hb5⟩
    go_wp2_with fail
    refine (awake_any _).mono ?_
    rintro e w6 ⟨rfl, hb6⟩
    go_wp2_with fail
    go_ret
    have s1 := hb1.size
    have s2 := hb2.size
    have s3 := hb3.size
    have s4 := hb4.size
    have s5 := hb5.size
    exact ⟨rfl, hb1.trans ((hb2.mono (by omega)).trans ((hb3.mono (by omega)).trans ((hb4.mono (by omega)).trans ((hb5.mono (by omega)).trans (hb6.mono (by omega))))))⟩

theorem recovers_out (a : ByteArray) (ha : a.size ≤ maxLen) (w : World) (h : 5000 < a.size) :
    Calls Try.prog 7 #[.string a] w fun e w' => e = .returned (.bool true) ∧ Below w.heap.size w w' := by
  unfold maxLen at ha
  go_enter Try.func7, Try.ntmps7
  go_wp2_with fail
  refine (awake_any _).mono ?_
  rintro e w1 ⟨rfl, hb⟩
  go_wp2_with fail
  go_ret
  exact ⟨rfl, hb⟩
theorem recover_to (a b : ByteArray) (ls : List (List UInt8)) (k : Nat) (x : Int) (hr : Crc.read a.data.toList = (ls, k, x)) (hab : a.extract 0 k = b) (w : World) (hs : a.size ≤ 1000000) (hk : k ≤ a.size) : Calls Try.prog 17 #[.string a] w (Rec2 b ls w) := by
  subst hab; exact recover_is a ls k x hr w hs hk

set_option maxRecDepth 100000 in
set_option maxHeartbeats 400000 in
theorem recovers_law (a : ByteArray) (ha : a.size ≤ maxLen) (w : World) :
    Calls Try.prog 7 #[.string a] w fun e w' => e = .returned (.bool true) ∧ Below w.heap.size w w' := by
  by_cases h : 5000 < a.size
  · exact recovers_out a ha w h
  · have h1 : a.size ≤ 5000 := by omega
    clear h ha
    have HR := Lib.hid (Crc.read_le a.data.toList)
    have HC := Lib.hid (Crc.read_count a.data.toList)
    have HT := Lib.hid (Crc.read_take a.data.toList)
    have HSL := Lib.hid (size_list a)
    obtain ⟨ls, k, x, hr⟩ : ∃ (ls : List (List UInt8)) (k : Nat) (x : Int), Crc.read a.data.toList = (ls, k, x) := ⟨_, _, _, rfl⟩
    have hka : k ≤ a.size := by have := HR.out; rw [hr, HSL.out] at this; exact this
    have hll : ls.length ≤ 1000000 := by have := HC.out; rw [hr, HSL.out] at this; simp only at this; omega
    have HRD := Lib.hid hr
    obtain ⟨b, hab⟩ : ∃ b, a.extract 0 k = b := ⟨_, rfl⟩
    have hbl : b.data.toList = a.data.toList.take k := by rw [← hab, take_str]
    have hbs : b.size = k := by rw [← size_list, hbl, List.length_take, HSL.out]; omega
    have HRB : Hid (Crc.read b.data.toList = (ls, k, 0)) := by
      have := HT.out
      rw [hr] at this
      rw [hbl]; exact this
    have HBB : Hid (b.extract 0 k = b) := by
      show b.extract 0 k = b
      rw [take_str, hbl, List.take_take, Nat.min_self, ← hbl]
    have HBS := Lib.hid hbs
    clear hr hbl
    go_enter Try.func7, Try.ntmps7
    go_wp2_with fail
    refine (recover_to a b ls k x HRD.out hab _ (by omega) hka).mono ?_
    rintro e w1 ⟨v1, rfl, hv1, hb1⟩
    have HV1 := Lib.hid hv1
    clear hv1
    go_wp2_with fail
    refine (read_is b ls k 0 HRB.out _ (by omega)).mono ?_
    rintro e w2 ⟨v2, rfl, hv2, hb2⟩
    have HV2 := Lib.hid hv2
    have HV12 := Lib.hid (HV1.out.below hb2)
    clear hv2
    go_wp2_with fail
    refine (recover_to b b ls k 0 HRB.out HBB.out _ (by omega) (by omega)).mono ?_
    rintro e w3 ⟨v3, rfl, hv3, hb3⟩
    have HV3 := Lib.hid hv3
    have HV13 := Lib.hid (HV12.out.below hb3)
    have HV23 := Lib.hid (HV2.out.below hb3)
    clear hv3
    go_wp2_with fail
    refine (equal_any _ _ ls _ hll HV23.out HV13.out).mono ?_
    rintro e w4 ⟨rfl, hb4⟩
    have HV14 := Lib.hid (HV13.out.below hb4)
    have HV34 := Lib.hid (HV3.out.below hb4)
    go_wp2_with fail
    refine (equal_any _ _ ls _ hll HV34.out HV14.out).mono ?_
    rintro e w5 ⟨rfl, hb5⟩
    go_wp2_with fail
    refine (awake_any _).mono ?_
    rintro e w6 ⟨rfl, hb6⟩
    go_wp2_with fail
    go_ret
    have s1 := hb1.size
    have s2 := hb2.size
    have s3 := hb3.size
    have s4 := hb4.size
    have s5 := hb5.size
    exact ⟨rfl, hb1.trans ((hb2.mono (by omega)).trans ((hb3.mono (by omega)).trans ((hb4.mono (by omega)).trans ((hb5.mono (by omega)).trans (hb6.mono (by omega))))))⟩
end Go.Proofs.Ytkpnjabgphaccaa
