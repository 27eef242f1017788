/- Engine: codec.Num: a number as bytes. -/
import Derived.Test.YtpcjmceakelilaaEn2
import Derived.Maps.AppendAt
namespace Go.Proofs.Ytpcjmceakelilaa
open Go.ChangeShapes Go.WideShapes Go.ChangeAt Go.RowKit Go.Deep Go.Shelf
set_option linter.unusedVariables false
set_option linter.unusedSimpArgs false
/-- groups of seven bits, least significant first; bit 7 is set where another one follows -/
def vlq (u : Nat) : List UInt8 := if h : u < 128 then [UInt8.ofNat u] else UInt8.ofNat (u % 128 + 128) :: vlq (u / 128)
termination_by u
decreasing_by omega
theorem vlq_small {u : Nat} (h : u < 128) : vlq u = [UInt8.ofNat u] := by unfold vlq; rw [dif_pos h]
theorem vlq_big {u : Nat} (h : ¬ u < 128) : vlq u = UInt8.ofNat (u % 128 + 128) :: vlq (u / 128) := by rw [vlq, dif_neg h]
theorem vlq_pos (u : Nat) : 0 < (vlq u).length := by
  by_cases h : u < 128
  · rw [vlq_small h]; simp
  · rw [vlq_big h]; simp
theorem vlq_len (n : Nat) : ∀ u, u < 128 ^ (n + 1) → (vlq u).length ≤ n + 1 := by
  induction n with
  | zero => intro u h; rw [vlq_small (by simpa using h)]; simp
  | succ n ih =>
    intro u h
    by_cases h1 : u < 128
    · rw [vlq_small h1]; simp
    · rw [vlq_big h1, List.length_cons]
      have := ih (u / 128) (by rw [Nat.div_lt_iff_lt_mul (by omega)]; rw [Nat.pow_succ] at h; exact h)
      omega
/-- the encoding of a number that is not negative -/
def numB (n : Nat) : List UInt8 := vlq (2 * n)
theorem numB_pos (n : Nat) : 0 < (numB n).length := vlq_pos _
theorem numB_len (n : Nat) (h : n < 4611686018427387904) : (numB n).length ≤ 9 := by
  unfold numB
  exact vlq_len 8 _ (by have : (128 : Nat) ^ (8 + 1) = 9223372036854775808 := by decide
                        omega)
set_option maxRecDepth 100000 in
theorem zigzag_any (n : Nat) (w : World) (h : n < 4611686018427387904) :
    Calls Try.prog 80 #[.int .i64 n] w fun e w' => e = .returned (.int .u64 ((2 * n : Nat) : Int)) ∧ w = w' := by
  have e1 : IntKind.u64.wrap (n : Int) = (n : Int) := by rw [IntKind.wrap_u64]; omega
  go_enter Try.func80, Try.ntmps80
  go_wp2
  go_ret
  refine ⟨?_, rfl⟩
  have e2 : ((n : Int) / 9223372036854775808) = ((0 : Nat) : Int) := by omega
  have e3 : ((n : Int) * 2) = ((2 * n : Nat) : Int) := by omega
  rw [e2, e3, u64_xor_nat _ _ (by omega) (by omega), Nat.xor_zero]
  rfl
set_option maxRecDepth 100000 in
theorem or128 : ∀ x : Nat, x < 256 → x ||| 128 = x % 128 + 128 := by decide
theorem byte_or (u : Nat) : bits .or .u8 ((u : Int) % 256) 128 = (((UInt8.ofNat (u % 128 + 128)).toNat : Nat) : Int) := by
  have e : ((u : Int) % 256) = ((u % 256 : Nat) : Int) := by omega
  rw [e, show (128 : Int) = ((128 : Nat) : Int) from rfl, u8_or_nat _ _ (by omega) (by omega), or128 _ (by omega)]
  have : u % 256 % 128 + 128 = u % 128 + 128 := by omega
  rw [this, UInt8.toNat_ofNat']
  omega
theorem byte_low (u : Nat) (h : u < 128) : (u : Int) = (((UInt8.ofNat u).toNat : Nat) : Int) := by
  rw [UInt8.toNat_ofNat']; omega
theorem bytes_snoc (l : List UInt8) (b : UInt8) : Lib.byteCells (l ++ [b]) = Lib.byteCells l ++ [.int .u8 b.toNat] := by simp [Lib.byteCells]
theorem infoU8 : (Try.prog.info? 5).map (fun i => (i.zero, i.size, i.bytes)) = some (some (.int .u8 0), 1, 1) := by kernel_rfl
set_option maxRecDepth 100000 in
set_option maxHeartbeats 1000000 in
theorem appendNum_any (n : Nat) (w : World) (h : n < 4611686018427387904) :
    Calls Try.prog 66 #[.slice none 0 0, .int .i64 n] w fun e w' => ∃ v, e = .returned v ∧ w'.ownsRow w.heap.size 5 1 v (numB n).length (Lib.byteCells (numB n)) ∧ Below w.heap.size w w' := by
  obtain ⟨i0, hi, hz0, hz1, hz2⟩ := info_parts infoU8
  have HN9 := Lib.hid (numB_len n h)
  go_enter Try.func66, Try.ntmps66
  go_wp2_with (go_at_call 80; refine (zigzag_any n _ h).mono ?_; rintro e w' ⟨rfl, rfl⟩)
  go_loopw [0, 5] (fun v uu wr => ∃ (pre : List UInt8) (u : Nat), uu = .int .u64 u ∧ u < 9223372036854775808 ∧ wr.ownsRow w.heap.size 5 1 v pre.length (Lib.byteCells pre) ∧ Below w.heap.size w wr ∧ pre ++ vlq u = numB n) (fun _ u _ => (intOf u).toNat)
  case atStart => exact ⟨[], 2 * n, rfl, by omega, World.ownsRow_nil _ _ _ _, Below.refl _ _, rfl⟩
  case round =>
    obtain ⟨pre, u, rfl, hu, hown, hb, hpre⟩ := hrel
    have HP := Lib.hid hpre
    have hlen : pre.length ≤ 9 := by have := congrArg List.length hpre; rw [List.length_append] at this; have := HN9.out; omega
    have hbs := hb.size
    clear hpre
    by_cases hlt : u < 128
    · go_wp2_with (at_builtin; refine wpList_append_own _ rfl _ _ 97 rfl w.heap.size 5 i0 (.int .u8 0) 1 1 Try.underlying97 hi hz0 hz1 hz2 rfl (by decide) _ _ _ rfl (hown.alloc _) ⟨wr.heap.size, 0, none⟩ 1 1 [.int .u8 u] rfl rfl ?c1 ?c2 ?c3 ?c4 ?c5 ?_)
      case c1 =>
        intro j u hj
        match j, hj with
        | 0, hj => simp at hj; subst hj; simp [Addr.add]
      case c2 => intro u hu; simp at hu; subst hu; rfl
      case c3 => unfold maxLen; omega
      case c4 => omega
      case c5 => simp; omega
      intro v' w2 hown' hgrow _
      go_wp2_with fail
      go_ret
      refine ⟨_, rfl, ?_, (hb.alloc hbs _).grown hgrow (by simp; omega) (fun k hk => (hown.lt k hk).1)⟩
      have e : numB n = pre ++ [UInt8.ofNat u] := by rw [← HP.out, vlq_small hlt]
      rw [e, List.length_append, bytes_snoc, ← byte_low u hlt]
      exact hown'
    · have hb0 := byte_or u
      go_wp2_with (at_builtin; refine wpList_append_own _ rfl _ _ 97 rfl w.heap.size 5 i0 (.int .u8 0) 1 1 Try.underlying97 hi hz0 hz1 hz2 rfl (by decide) _ _ _ rfl (hown.alloc _) ⟨wr.heap.size, 0, none⟩ 1 1 [.int .u8 (((UInt8.ofNat (u % 128 + 128)).toNat : Nat) : Int)] rfl rfl ?d1 ?d2 ?d3 ?d4 ?d5 ?_)
      case d1 =>
        intro j u hj
        match j, hj with
        | 0, hj => simp at hj; subst hj; simp [Addr.add]
      case d2 => intro u hu; simp at hu; subst hu; rfl
      case d3 => unfold maxLen; omega
      case d4 => omega
      case d5 => simp; omega
      intro v' w2 hown' hgrow _
      have hb2 := (hb.alloc hbs _).grown hgrow (by simp; omega) (fun k hk => (hown.lt k hk).1)
      go_wp2_with fail
      go_roundw
      case rel =>
        refine ⟨pre ++ [UInt8.ofNat (u % 128 + 128)], u / 128, by go_num, by omega, ?_, hb2, by rw [List.append_assoc, List.singleton_append, ← vlq_big hlt]; exact HP.out⟩
        rw [List.length_append, bytes_snoc]
        exact hown'
      case measure => simp [intOf]; omega
end Go.Proofs.Ytpcjmceakelilaa
