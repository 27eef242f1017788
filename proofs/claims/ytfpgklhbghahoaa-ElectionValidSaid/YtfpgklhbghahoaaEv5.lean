/- Election: validRole decides what depends on the role. -/
import Derived.Test.YtfpgklhbghahoaaEv4
namespace Go.Proofs.Ytfpgklhbghahoaa
open Go.ChangeShapes Go.WideShapes Go.ChangeAt Go.RowKit Go.Deep
set_option linter.unusedVariables false
set_option linter.unusedSimpArgs false
/-- the bit of a member -/
def bitB (vs id : Int) : Bool := !((vs / 2 ^ id.toNat).tmod 2 == 0)
theorem bit_small : ∀ i < 7, ∀ n < 128, (bits .and .i64 ((n : Nat) : Int) (IntKind.i64.wrap (2 ^ i)) == 0) = (((n : Int) / 2 ^ i).tmod 2 == 0) := by decide +kernel
theorem bit_at (vs id : Int) (h0 : 0 ≤ vs) (h1 : vs < 128) (i0 : 0 ≤ id) (i1 : id < 7) : (bits .and .i64 vs (IntKind.i64.wrap (2 ^ id.toNat)) == 0) = !(bitB vs id) := by
  obtain ⟨n, rfl⟩ : ∃ n : Nat, vs = n := ⟨vs.toNat, by omega⟩
  rw [bit_small id.toNat (by omega) n (by omega)]
  unfold bitB
  rw [Bool.not_not]
def firstB (id tm vt vs : Int) : Bool := decide (1 ≤ tm) && decide (vt = id) && bitB vs id
/-- what depends on the role; ln and lm: how many places; bn, bm: they are places of the log -/
def roleB (id sz tm vt rl ld vs : Int) (ln lm : Int) (bn bm : Bool) : Bool :=
  if rl = 0 then decide (ln = 0) && decide (lm = 0)
  else if rl = 1 then firstB id tm vt vs && decide (ld = -1) && decide (cntB vs sz.toNat < maj sz) && (decide (ln = 0) && decide (lm = 0))
  else firstB id tm vt vs && decide (ld = id) && decide (maj sz ≤ cntB vs sz.toNat) && (decide (ln = sz) && decide (lm = sz)) && (bn && bm)
theorem maj_le (sz : Int) (h1 : 1 ≤ sz) (h7 : sz ≤ 7) : 1 ≤ maj sz ∧ maj sz ≤ 4 := by
  unfold maj
  rw [if_pos ⟨h1, h7⟩]
  omega
set_option maxRecDepth 100000 in
set_option maxHeartbeats 1600000 in
theorem role_0 (id sz tm vt ld ti vs : Int) (ga : Option Addr) (gl gc : Nat) (cm : Int) (an : Option Addr) (cn : Nat) (am : Option Addr) (cc : Nat) (xs ys : List Int) (bn bm : Bool) (w : World)
    (h1 : 1 ≤ sz) (h7 : sz ≤ 7) (i0 : 0 ≤ id) (i1 : id < sz) (v0 : 0 ≤ vs) (v1 : vs < 2 ^ sz.toNat) (v2 : vs < 128) (hx : xs.length ≤ 9223372036854775807) (hy : ys.length ≤ 9223372036854775807) :
    Calls Try.prog 32 #[mem id sz tm vt 0 ld ti vs (.slice ga gl gc) cm (.slice an xs.length cn) (.slice am ys.length cc)] w fun e w' => e = .returned (.bool (roleB id sz tm vt 0 ld vs xs.length ys.length bn bm)) ∧ Below w.heap.size w w' := by
  have HR : Hid (roleB id sz tm vt 0 ld vs xs.length ys.length bn bm = (decide ((xs.length : Int) = 0) && decide ((ys.length : Int) = 0))) := Lib.hid rfl
  have hB0 : BoxN 12 (w.alloc (.cells (memL id sz tm vt 0 ld ti vs (.slice ga gl gc) cm (.slice an xs.length cn) (.slice am ys.length cc)).toArray 25)) w.heap.size (memL id sz tm vt 0 ld ti vs (.slice ga gl gc) cm (.slice an xs.length cn) (.slice am ys.length cc)) := BoxN.new w _ 12 _ rfl
  have hb0 : Below w.heap.size w (w.alloc (.cells (memL id sz tm vt 0 ld ti vs (.slice ga gl gc) cm (.slice an xs.length cn) (.slice am ys.length cc)).toArray 25)) := (Below.refl _ _).alloc (Nat.le_refl _) _
  go_enter Try.func32, Try.ntmps32
  go_wp2_with fail
  refine calls_named (fun W => BoxN 12 W w.heap.size (memL id sz tm vt 0 ld ti vs (.slice ga gl gc) cm (.slice an xs.length cn) (.slice am ys.length cc)) ∧ Below w.heap.size w W) ⟨hB0, hb0⟩ ?_
  clear hB0 hb0
  rintro w1 ⟨hB, hb⟩
  have a4 : w1.cell? ⟨w.heap.size, 4, none⟩ = some (.int .i64 0) := hB.cell 4 _ rfl
  have a10 : w1.cell? ⟨w.heap.size, 10, none⟩ = some (.slice an xs.length cn) := hB.cell 10 _ rfl
  have a11 : w1.cell? ⟨w.heap.size, 11, none⟩ = some (.slice am ys.length cc) := hB.cell 11 _ rfl
  refine (ones_at vs _ v0 v2).mono ?_
  rintro e w2 ⟨rfl, rfl⟩
  have HB := Lib.hid hb
  clear hB hb
  generalize cntB vs 7 = c
  by_cases hn : (xs.length : Int) = 0
  · have pn : ((xs.length : Int) == 0) = true := by rw [hn]; rfl
    by_cases hm : (ys.length : Int) = 0
    · have pm : ((ys.length : Int) == 0) = true := by rw [hm]; rfl
      have HV : Hid (roleB id sz tm vt 0 ld vs xs.length ys.length bn bm = true) := Lib.hid (by rw [HR.out, decide_eq_true hn, decide_eq_true hm]; rfl)
      clear HR hn hm
      go_wp2_with fail
      go_quiet (fail)
      go_wp2_with fail
      go_ret
      exact ⟨ret_b HV.out, below_drewN' HB.out _⟩
    · have pm : ((ys.length : Int) == 0) = false := beq_eq_false_iff_ne.2 hm
      have HV : Hid (roleB id sz tm vt 0 ld vs xs.length ys.length bn bm = false) := Lib.hid (by rw [HR.out, decide_eq_false hm, Bool.and_false])
      clear HR hn hm
      go_wp2_with fail
      go_quiet (fail)
      go_wp2_with fail
      go_ret
      exact ⟨ret_b HV.out, below_drewN' HB.out _⟩
  · have pn : ((xs.length : Int) == 0) = false := beq_eq_false_iff_ne.2 hn
    have HV : Hid (roleB id sz tm vt 0 ld vs xs.length ys.length bn bm = false) := Lib.hid (by rw [HR.out, decide_eq_false hn, Bool.false_and])
    clear HR hn
    go_wp2_with fail
    go_quiet (fail)
    go_wp2_with fail
    go_ret
    exact ⟨ret_b HV.out, below_drewN' HB.out _⟩
end Go.Proofs.Ytfpgklhbghahoaa
