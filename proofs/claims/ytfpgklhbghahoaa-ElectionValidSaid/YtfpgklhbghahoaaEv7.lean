/- Election: validRole for primaries. -/
import Derived.Test.YtfpgklhbghahoaaEv6
namespace Go.Proofs.Ytfpgklhbghahoaa
open Go.ChangeShapes Go.WideShapes Go.ChangeAt Go.RowKit Go.Deep
set_option linter.unusedVariables false
set_option linter.unusedSimpArgs false
set_option maxRecDepth 100000 in
set_option maxHeartbeats 3200000 in
theorem role_2 (id sz tm vt ld ti vs : Int) (ga : Option Addr) (gl gc : Nat) (cm : Int) (an : Option Addr) (cn : Nat) (am : Option Addr) (cc : Nat) (xs ys : List Int) (w : World)
    (h1 : 1 ≤ sz) (h7 : sz ≤ 7) (i0 : 0 ≤ id) (i1 : id < sz) (v0 : 0 ≤ vs) (v1 : vs < 2 ^ sz.toNat) (v2 : vs < 128) (hx : xs.length ≤ 9223372036854775807) (hy : ys.length ≤ 9223372036854775807) (hg : gl ≤ 100) (hX : IntsIn w (.slice an xs.length cn) xs) (hY : IntsIn w (.slice am ys.length cc) ys) :
    Calls Try.prog 32 #[mem id sz tm vt 2 ld ti vs (.slice ga gl gc) cm (.slice an xs.length cn) (.slice am ys.length cc)] w fun e w' => e = .returned (.bool (roleB id sz tm vt 2 ld vs xs.length ys.length (inB gl xs) (inB gl ys))) ∧ Below w.heap.size w w' := by
  have HX := Lib.hid hX
  have HY := Lib.hid hY
  clear hX hY
  have hc := cntB_le vs v0 sz.toNat
  have hm := maj_le sz h1 h7
  have hbit := bit_at vs id v0 v2 i0 (by omega)
  have HA := cntB_all vs sz v0 h1 h7 v1
  have HR : Hid (roleB id sz tm vt 2 ld vs xs.length ys.length (inB gl xs) (inB gl ys) = (firstB id tm vt vs && decide (ld = id) && decide (maj sz ≤ cntB vs sz.toNat) && (decide ((xs.length : Int) = sz) && decide ((ys.length : Int) = sz)) && (inB gl xs && inB gl ys))) := Lib.hid rfl
  have HF : Hid (firstB id tm vt vs = (decide (1 ≤ tm) && decide (vt = id) && bitB vs id)) := Lib.hid rfl
  have hB0 : BoxN 12 (w.alloc (.cells (memL id sz tm vt 2 ld ti vs (.slice ga gl gc) cm (.slice an xs.length cn) (.slice am ys.length cc)).toArray 25)) w.heap.size (memL id sz tm vt 2 ld ti vs (.slice ga gl gc) cm (.slice an xs.length cn) (.slice am ys.length cc)) := BoxN.new w _ 12 _ rfl
  have hb0 : Below w.heap.size w (w.alloc (.cells (memL id sz tm vt 2 ld ti vs (.slice ga gl gc) cm (.slice an xs.length cn) (.slice am ys.length cc)).toArray 25)) := (Below.refl _ _).alloc (Nat.le_refl _) _
  have HM := Lib.hid (fun W => maj_any sz W)
  have HO := Lib.hid (fun W => ones_at vs W v0 v2)
  rw [HA] at HO
  generalize roleB id sz tm vt 2 ld vs xs.length ys.length (inB gl xs) (inB gl ys) = R at *
  generalize firstB id tm vt vs = F at *
  generalize bitB vs id = bt at *
  generalize cntB vs sz.toNat = c at *
  generalize maj sz = mj at *
  clear HA v1
  have hc7 : c ≤ 7 := by omega
  clear hc
  go_enter Try.func32, Try.ntmps32
  go_wp2_with fail
  refine calls_named (fun W => BoxN 12 W w.heap.size (memL id sz tm vt 2 ld ti vs (.slice ga gl gc) cm (.slice an xs.length cn) (.slice am ys.length cc)) ∧ Below w.heap.size w W) ⟨hB0, hb0⟩ ?_
  clear hB0 hb0
  rintro w1 ⟨hB, hb⟩
  have a0 : w1.cell? ⟨w.heap.size, 0, none⟩ = some (.int .i64 id) := hB.cell 0 _ rfl
  have a1 : w1.cell? ⟨w.heap.size, 1, none⟩ = some (.int .i64 sz) := hB.cell 1 _ rfl
  have a2 : w1.cell? ⟨w.heap.size, 2, none⟩ = some (.int .i64 tm) := hB.cell 2 _ rfl
  have a3 : w1.cell? ⟨w.heap.size, 3, none⟩ = some (.int .i64 vt) := hB.cell 3 _ rfl
  have a4 : w1.cell? ⟨w.heap.size, 4, none⟩ = some (.int .i64 2) := hB.cell 4 _ rfl
  have a5 : w1.cell? ⟨w.heap.size, 5, none⟩ = some (.int .i64 ld) := hB.cell 5 _ rfl
  have a7 : w1.cell? ⟨w.heap.size, 7, none⟩ = some (.int .i64 vs) := hB.cell 7 _ rfl
  have a10 : w1.cell? ⟨w.heap.size, 10, none⟩ = some (.slice an xs.length cn) := hB.cell 10 _ rfl
  have a11 : w1.cell? ⟨w.heap.size, 11, none⟩ = some (.slice am ys.length cc) := hB.cell 11 _ rfl
  refine (HO.out _).mono ?_
  rintro e w2 ⟨rfl, rfl⟩
  have HV0 := Lib.hid (⟨hB, hb⟩ : VM w (memL id sz tm vt 2 ld ti vs (.slice ga gl gc) cm (.slice an xs.length cn) (.slice am ys.length cc)) w1)
  clear hB hb HO
  by_cases t1 : tm < 1
  · have p1 : decide (tm < 1) = true := decide_eq_true t1
    have HV : Hid (R = false) := Lib.hid (by rw [HR.out, HF.out, decide_eq_false (by omega)]; simp)
    clear HR HF
    go_wp2_with fail
    go_quiet (fail)
    go_wp2_with fail
    go_ret
    exact ⟨ret_b HV.out, below_drewN' HV0.out.2 _⟩
  have p1 : decide (tm < 1) = false := decide_eq_false t1
  have k1 : decide (1 ≤ tm) = true := decide_eq_true (by omega)
  by_cases t2 : vt = id
  rotate_left
  · have p2 : (vt == id) = false := beq_eq_false_iff_ne.2 t2
    have p2' : (vt != id) = true := by rw [bne, p2]; rfl
    have HV : Hid (R = false) := Lib.hid (by rw [HR.out, HF.out, decide_eq_false t2]; simp)
    clear HR HF
    go_wp2_with fail
    go_quiet (fail)
    go_wp2_with fail
    go_ret
    exact ⟨ret_b HV.out, below_drewN' HV0.out.2 _⟩
  have k2 : decide (vt = id) = true := decide_eq_true t2
  have p2 : (vt == id) = true := beq_iff_eq.2 t2
  have p2' : (vt != id) = false := by rw [bne, p2]; rfl
  cases bt
  · have hbit' : (bits .and .i64 vs (wrap64 (2 ^ id.toNat)) == 0) = true := by rw [← IntWalk.i64_left]; exact hbit
    have HV : Hid (R = false) := Lib.hid (by rw [HR.out, HF.out]; simp)
    clear HR HF
    go_wp2_with fail
    go_quiet (fail)
    go_wp2_with fail
    go_ret
    exact ⟨ret_b HV.out, below_drewN' HV0.out.2 _⟩
  have hbit' : (bits .and .i64 vs (wrap64 (2 ^ id.toNat)) == 0) = false := by rw [← IntWalk.i64_left]; exact hbit
  have HF2 : Hid (F = true) := Lib.hid (by rw [HF.out, k1, k2]; rfl)
  clear HF k1 k2 t1 t2 hbit
  by_cases t3 : ld = id
  rotate_left
  · have p3 : (ld == id) = false := beq_eq_false_iff_ne.2 t3
    have HF := HF2
    have HV : Hid (R = false) := Lib.hid (by rw [HR.out, decide_eq_false t3]; simp)
    clear HR HF
    go_wp2_with fail
    go_quiet (fail)
    go_wp2_with fail
    go_ret
    exact ⟨ret_b HV.out, below_drewN' HV0.out.2 _⟩
  have p3 : (ld == id) = true := beq_iff_eq.2 t3
  by_cases t4 : mj ≤ c
  rotate_left
  · have p4 : decide (mj ≤ c) = false := decide_eq_false t4
    have HV : Hid (R = false) := Lib.hid (by rw [HR.out, decide_eq_false t4]; simp)
    clear HR HF2 t3
    go_wp2_with fail
    go_quiet (fail)
    go_wp2_with fail
    refine (HM.out _).mono ?_
    rintro e w3 ⟨rfl, rfl⟩
    go_wp2_with fail
    go_ret
    exact ⟨ret_b HV.out, below_drewN' HV0.out.2 _⟩
  have p4 : decide (mj ≤ c) = true := decide_eq_true t4
  have HR2 : Hid (R = ((decide ((xs.length : Int) = sz) && decide ((ys.length : Int) = sz)) && (inB gl xs && inB gl ys))) := Lib.hid (by rw [HR.out, HF2.out, decide_eq_true t3, decide_eq_true t4]; rfl)
  clear HR HF2 t3
  go_wp2_with fail
  go_quiet (fail)
  go_wp2_with fail
  refine (HM.out _).mono ?_
  rintro e w3 ⟨rfl, rfl⟩
  have HM1 := Lib.hid (VM.drewN HV0.out nq)
  clear a0 a1 a2 a3 a4 a5 a7 a10 a11 hbit' HV0 HM
  have hA := HM1.out.1
  have a10 : (w1.drewN nq).cell? ⟨w.heap.size, 10, none⟩ = some (.slice an xs.length cn) := hA.cell 10 _ rfl
  go_wp2_with (with_reducible refine wpList_box_load_g 25 1 w.heap.size (memL id sz tm vt 2 ld ti vs (.slice ga gl gc) cm (.slice an xs.length cn) (.slice am ys.length cc)) _ _ _ _ _ _ _ ?_ hA wideMem ?_ ?_)
  · rfl
  go_wp2_with fail
  refine (vplaces_at id sz tm vt 2 ld ti vs ga gl gc cm _ _ _ xs _ hg h1 (HX.out.below HM1.out.2)).mono ?_
  rintro e w5 ⟨rfl, hb5⟩
  have HM5 := Lib.hid (HM1.out.keep hb5)
  clear hb5 hA a10 HM1
  generalize hv1 : (inB gl xs && decide ((xs.length : Int) = sz)) = b1
  have HV1 := Lib.hid hv1
  clear hv1
  cases b1
  · have HV : Hid (R = false) := Lib.hid (by rw [HR2.out]; have h := HV1.out; revert h; cases decide ((xs.length : Int) = sz) <;> cases inB gl xs <;> simp)
    go_wp2_with fail
    go_ret
    exact ⟨ret_b HV.out, HM5.out.2⟩
  have hA := HM5.out.1
  have a11 : w5.cell? ⟨w.heap.size, 11, none⟩ = some (.slice am ys.length cc) := hA.cell 11 _ rfl
  go_wp2_with (with_reducible refine wpList_box_load_g 25 1 w.heap.size (memL id sz tm vt 2 ld ti vs (.slice ga gl gc) cm (.slice an xs.length cn) (.slice am ys.length cc)) _ _ _ _ _ _ _ ?_ hA wideMem ?_ ?_)
  · rfl
  go_wp2_with fail
  refine (vplaces_at id sz tm vt 2 ld ti vs ga gl gc cm _ _ _ ys _ hg h1 (HY.out.below HM5.out.2)).mono ?_
  rintro e w6 ⟨rfl, hb6⟩
  have HM6 := Lib.hid (HM5.out.keep hb6)
  clear hb6 hA a11 HM5
  have HV : Hid (R = (inB gl ys && decide ((ys.length : Int) = sz))) := Lib.hid (by rw [HR2.out]; have h := HV1.out; revert h; cases decide ((xs.length : Int) = sz) <;> cases inB gl xs <;> cases decide ((ys.length : Int) = sz) <;> cases inB gl ys <;> simp)
  generalize (inB gl ys && decide ((ys.length : Int) = sz)) = b2 at *
  clear HR2 HV1
  cases b2
  all_goals
    go_wp2_with fail
    go_ret
    exact ⟨ret_b HV.out, HM6.out.2⟩
end Go.Proofs.Ytfpgklhbghahoaa
