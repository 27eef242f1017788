/- The walk of the law CrcBursts. -/
import Derived.Test.YtbojnlonjmkpjaaLaws2
import Derived.Test.YtbojnlonjmkpjaaBytes2
import Derived.Test.YtbojnlonjmkpjaaPlain3
import Derived.WalkLawsBesides
import Derived.RegionTactic
namespace Go.Proofs.Ytbojnlonjmkpjaa
open Go.ChangeShapes Go.WideShapes Go.ChangeAt Go.RowKit
set_option linter.unusedVariables false

/-- after k rounds the block holds the sealed string with the pattern's first k bits inverted -/
def BurstAt (s : ByteArray) (p bs k B : Nat) (w : World) : Prop :=
  ∃ l : List UInt8, l.length = s.size + 4 ∧ Crc.num l = Crc.num (Crc.seal4 s.data.toList) ^^^ 2 ^ p * Crc.pat bs (8 * (s.size + 4) - p) k ∧ BytesAt w B l
def turned (bs d k : Nat) : Bool := Crc.pat bs d k != 0
theorem turned_zero (bs d : Nat) : turned bs d 0 = false := by simp [turned, Crc.pat_zero]
theorem BurstAt.start {s : ByteArray} {p bs B : Nat} {w : World} (h : BytesAt w B (sealed s).data.toList) : BurstAt s p bs 0 B w :=
  ⟨_, by rw [size_list, sealed_size], by rw [Crc.pat_zero, Nat.mul_zero, Nat.xor_zero]; rfl, h⟩

theorem xor8 (x y : UInt8) : bits .xor .u8 (x.toNat : Int) (y.toNat : Int) = ((x ^^^ y).toNat : Int) := by
  rw [u8_xor_nat _ _ x.toNat_lt y.toNat_lt, UInt8.toNat_xor]
theorem and_bit (bs k : Nat) (h : bs < 4294967296) (hb : bs / 2 ^ k % 2 = 1) : bits .and .u32 ((bs : Int) / 2 ^ k) 1 = 1 := by
  have e : (bs : Int) / 2 ^ k = ((bs / 2 ^ k : Nat) : Int) := by simp
  have hlt : bs / 2 ^ k < 4294967296 := Nat.lt_of_le_of_lt (Nat.div_le_self _ _) h
  rw [e, and_one _ hlt, hb]; rfl
theorem and_bit0 (bs k : Nat) (h : bs < 4294967296) (hb : ¬ bs / 2 ^ k % 2 = 1) : bits .and .u32 ((bs : Int) / 2 ^ k) 1 = 0 := by
  have e : (bs : Int) / 2 ^ k = ((bs / 2 ^ k : Nat) : Int) := by simp
  have hlt : bs / 2 ^ k < 4294967296 := Nat.lt_of_le_of_lt (Nat.div_le_self _ _) h
  rw [e, and_one _ hlt, show bs / 2 ^ k % 2 = 0 from by omega]; rfl

theorem turned_yes (bs d k : Nat) (hi : k < d) (hb : bs / 2 ^ k % 2 = 1) : turned bs d (k + 1) = true := by
  simpa [turned] using Crc.pat_pos bs d k hi hb
theorem turned_no (bs d k : Nat) (h : ¬ (bs / 2 ^ k % 2 = 1 ∧ k < d)) : turned bs d (k + 1) = turned bs d k := by
  simp [turned, Crc.pat_no bs d k h]
theorem xor_bit (x : UInt8) (m : Nat) (hm : m < 8) : bits .xor .u8 (x.toNat : Int) (2 ^ m % 256) = ((x ^^^ UInt8.ofNat (2 ^ m)).toNat : Int) := by
  have e : ((UInt8.ofNat (2 ^ m)).toNat : Int) = 2 ^ m % 256 := by rw [Crc.ofNat_toNat]; simp
  rw [← xor8, e]
theorem BurstAt.yes {s : ByteArray} {p bs k B : Nat} {w : World} (hbit : bs / 2 ^ k % 2 = 1) (hin : p + k < 8 * (s.size + 4)) {l : List UInt8}
    (h : l.length = s.size + 4 ∧ Crc.num l = Crc.num (Crc.seal4 s.data.toList) ^^^ 2 ^ p * Crc.pat bs (8 * (s.size + 4) - p) k ∧ BytesAt w B l) (hj : (p + k) / 8 < l.length) :
    BurstAt s p bs (k + 1) B (w.setCell ⟨B, (p + k) / 8, none⟩ (.int .u8 (bits .xor .u8 (l[(p + k) / 8].toNat : Int) (2 ^ ((p + k) % 8) % 256)))) := by
  obtain ⟨h1, h2, h3⟩ := h
  rw [xor_bit _ _ (by omega)]
  refine ⟨_, ?_, ?_, h3.set _ _ hj⟩
  · simpa using h1
  · rw [Crc.num_set l _ _ hj (by omega), h2, Crc.pat_yes bs _ k (by omega) hbit, Crc.pow_mul_xor, ← Nat.pow_add, Nat.xor_assoc, show 8 * ((p + k) / 8) + (p + k) % 8 = p + k from by omega]
theorem BurstAt.no {s : ByteArray} {p bs k B : Nat} {w : World} (h : ¬ (bs / 2 ^ k % 2 = 1 ∧ k < 8 * (s.size + 4) - p)) (hB : BurstAt s p bs k B w) : BurstAt s p bs (k + 1) B w := by
  obtain ⟨l, h1, h2, h3⟩ := hB
  exact ⟨l, h1, by rw [Crc.pat_no bs _ k h]; exact h2, h3⟩
theorem burst_open (l : List UInt8) (s : ByteArray) (p bs : Nat) (hbs : bs < 4294967296) (hl : l.length = s.size + 4)
    (hn : Crc.num l = Crc.num (Crc.seal4 s.data.toList) ^^^ 2 ^ p * Crc.pat bs (8 * (s.size + 4) - p) 32) (ht : turned bs (8 * (s.size + 4) - p) 32 = true) : Crc.openS l = [] ∧ Crc.openE l = 7 := by
  have h0 : Crc.pat bs (8 * (s.size + 4) - p) 32 ≠ 0 := by simpa [turned] using ht
  have hp : p < 8 * l.length := by
    rw [hl]
    rcases Nat.lt_or_ge p (8 * (s.size + 4)) with h | h
    · exact h
    · rw [show 8 * (s.size + 4) - p = 0 from by omega, Crc.pat_none] at h0
      exact absurd rfl h0
  exact Crc.burst s.data.toList l p _ (by rw [hl, Crc.seal4_length, size_list]) (Crc.pat_lt _ _ _ hbs) h0 hp hn
theorem burst_same (l : List UInt8) (s : ByteArray) (p bs : Nat) (hl : l.length = s.size + 4)
    (hn : Crc.num l = Crc.num (Crc.seal4 s.data.toList) ^^^ 2 ^ p * Crc.pat bs (8 * (s.size + 4) - p) 32) (ht : turned bs (8 * (s.size + 4) - p) 32 = false) : l = (sealed s).data.toList := by
  have h0 : Crc.pat bs (8 * (s.size + 4) - p) 32 = 0 := by simpa [turned] using ht
  rw [h0, Nat.mul_zero, Nat.xor_zero] at hn
  exact Crc.num_inj _ _ (by rw [hl, size_list, sealed_size]) hn
theorem open_bad (l : List UInt8) (w : World) (hs : l.length ≤ 1000000000) (h : Crc.openS l = [] ∧ Crc.openE l = 7) :
    Calls Try.prog 13 #[.string ⟨l.toArray⟩] w fun e w' => e = .returned (.tuple #[.string ⟨#[]⟩, .int .i64 7]) ∧ Below w.heap.size w w' :=
  (open_any ⟨l.toArray⟩ w hs).mono fun e w' ⟨he, hb⟩ => ⟨he.trans (two_res _ _ _ _ (by rw [h.1]) h.2), hb⟩

set_option maxHeartbeats 400000 in
theorem bursts_in (s : ByteArray) (p bs : Nat) (w : World) (hs : s.size ≤ 300) (hp : p ≤ 2432) (hbs : bs < 4294967296) :
    Calls Try.prog 6 #[.string s, .int .i64 p, .int .u32 bs] w fun e w' => e = .returned (.bool true) ∧ Below w.heap.size w w' := by
  have hsz := Lib.hid (sealed_size s)
  go_enter Try.func6, Try.ntmps6
  go_wp2_with fail
  refine (seal_call _ _ (by omega)).mono ?_
  rintro e w1 ⟨rfl, hb1⟩
  obtain ⟨W1, cap, hcv, hB, hbW, hsW⟩ := bytes_of_string (sealed s) w1
  have hsz2 := sealed_size s
  have HSW := Lib.hid hsW
  clear hsW
  go_wp2_with fail
  clear hcv hsz2
  have hst := BurstAt.start (s := s) (p := p) (bs := bs) hB
  clear hB
  go_loopw [8, 34] (fun t i wr => ∃ k : Nat, k ≤ 32 ∧ i = .int .i64 k ∧ t = .bool (turned bs (8 * (s.size + 4) - p) k) ∧ BurstAt s p bs k w1.heap.size wr ∧ Below w1.heap.size W1 wr) (fun _ i _ => 32 - (intOf i).toNat)
  case atStart => exact ⟨0, Nat.zero_le _, rfl, by rw [turned_zero], hst, Below.refl _ _⟩
  case round =>
    obtain ⟨k, hk, rfl, rfl, hBk, hbk⟩ := hrel
    by_cases hlt : k < 32
    · by_cases hbit : bs / 2 ^ k % 2 = 1
      · by_cases hin : p + k < 8 * (s.size + 4)
        · obtain ⟨l, hll, hnum, hBl⟩ := hBk
          have hj : (p + k) / 8 < l.length := by omega
          have hcell := hBl.cell _ hj
          have hfree := hBl.free _ hj
          have HL := Lib.hid hll
          have HN := Lib.hid hnum
          clear hll hnum
          have hand := and_bit bs k hbs hbit
          go_wp2
          go_roundw
          case rel => exact ⟨k + 1, by omega, by go_num, by rw [turned_yes bs _ k (by omega) hbit], BurstAt.yes hbit hin ⟨HL.out, HN.out, hBl⟩ hj, hbk.setCell (Nat.le_refl _) _⟩
          case measure => simp [intOf]; omega
        · have hand := and_bit bs k hbs hbit
          go_wp2
          go_roundw
          case rel => exact ⟨k + 1, by omega, by go_num, by rw [turned_no bs _ k (by omega)], BurstAt.no (by omega) hBk, hbk⟩
          case measure => simp [intOf]; omega
      · have hand := and_bit0 bs k hbs hbit
        go_wp2
        go_roundw
        case rel => exact ⟨k + 1, by omega, by go_num, by rw [turned_no bs _ k (by omega)], BurstAt.no (by omega) hBk, hbk⟩
        case measure => simp [intOf]; omega
    · obtain rfl : k = 32 := by omega
      obtain ⟨l, hll, hnum, hBl⟩ := hBk
      have hcv := conv_bytes cap hBl
      rw [hll] at hcv
      have HL := Lib.hid hll
      have HN := Lib.hid hnum
      clear hll hnum
      have s1 := hb1.size
      have s2 := hbk.size
      have s3 := hbW.size
      have hbr : Below w.heap.size w wr := hb1.trans ((hbW.mono s1).trans (hbk.mono s1))
      cases ht : turned bs (8 * (s.size + 4) - p) 32 with
      | true =>
        have hop := burst_open l s p bs hbs HL.out HN.out ht
        have HT := Lib.hid ht
        clear ht
        go_wp2_with fail
        refine (open_bad l _ (by rw [HL.out]; omega) hop).mono ?_
        rintro e w3 ⟨rfl, hb3⟩
        go_wp2_with fail
        refine (awake_any _).mono ?_
        rintro e w4 ⟨rfl, hb4⟩
        go_wp2_with fail
        go_ret
        have s4 := hb3.size
        exact ⟨rfl, hbr.trans ((hb3.mono (by omega)).trans (hb4.mono (by omega)))⟩
      | false =>
        have hls := burst_same l s p bs HL.out HN.out ht
        have HT := Lib.hid ht
        clear ht
        subst hls
        go_wp2_with fail
        refine (open_sealed _ _ (by omega)).mono ?_
        rintro e w3 ⟨rfl, hb3⟩
        go_wp2_with fail
        refine (awake_any _).mono ?_
        rintro e w4 ⟨rfl, hb4⟩
        go_wp2_with fail
        go_ret
        have s4 := hb3.size
        exact ⟨rfl, hbr.trans ((hb3.mono (by omega)).trans (hb4.mono (by omega)))⟩

set_option maxHeartbeats 400000 in
theorem bursts_law (s : ByteArray) (hs : s.size ≤ maxLen) (p : Int) (hp : (Lit.int .i64 p).wf = true) (b : Int) (hb : (Lit.int .u32 b).wf = true) (w : World) :
    Calls Try.prog 6 #[.string s, .int .i64 p, .int .u32 b] w fun e w' => e = .returned (.bool true) ∧ Below w.heap.size w w' := by
  have hbb : 0 ≤ b ∧ b ≤ 4294967295 := by simpa [Lit.wf, IntKind.min, IntKind.max, IntKind.signed, IntKind.bits] using hb
  have hm := hs
  unfold maxLen at hm
  by_cases h : s.size ≤ 300 ∧ 0 ≤ p ∧ p ≤ 2432
  · obtain ⟨h1, h2, h3⟩ := h
    obtain ⟨n, rfl⟩ := Int.eq_ofNat_of_zero_le h2
    obtain ⟨m, rfl⟩ := Int.eq_ofNat_of_zero_le hbb.1
    exact bursts_in s n m w h1 (by omega) (by omega)
  · clear hp hb hbb hs
    by_cases h1 : s.size ≤ 300
    · by_cases h2 : 0 ≤ p
      · have h3 : 2432 < p := by omega
        clear h
        go_enter Try.func6, Try.ntmps6
        go_wp2_with fail
        refine (awake_any _).mono ?_
        rintro e w1 ⟨rfl, hb⟩
        go_wp2_with fail
        go_ret
        exact ⟨rfl, hb⟩
      · clear h
        go_enter Try.func6, Try.ntmps6
        go_wp2_with fail
        refine (awake_any _).mono ?_
        rintro e w1 ⟨rfl, hb⟩
        go_wp2_with fail
        go_ret
        exact ⟨rfl, hb⟩
    · clear h
      go_enter Try.func6, Try.ntmps6
      go_wp2_with fail
      refine (awake_any _).mono ?_
      rintro e w1 ⟨rfl, hb⟩
      go_wp2_with fail
      go_ret
      exact ⟨rfl, hb⟩
end Go.Proofs.Ytbojnlonjmkpjaa
