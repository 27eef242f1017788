import Derived.Test.YtilopjlcgmedgaaGreatDoorOd1
import Derived.Deep.RegionHeld3
import Derived.RangeFuncNested
import Derived.StillTailTactics
import Derived.ChangeArms
import Derived.ChangeSlices
import Derived.Deep.MidRow
import Derived.Deep.Slices
import Derived.Deep.Fields
import Derived.Lib.SmallJoins
import Derived.SizedLaws
import Derived.Laws.AppendOwn
import Derived.Outline
import Derived.Lib.Hide
import Derived.OwnWalk
import Derived.Great.BuildSlice
import Derived.Maps.AppendAt
import Derived.Laws.Slices
namespace Go.Proofs.YtilopjlcgmedgaaGreatDoor
open Go.ChangeShapes Go.WideShapes Go.ChangeAt Go.RowKit Go.Deep Go.ChangeMaps Go.Shelf
set_option linter.unusedVariables false
set_option linter.unusedSimpArgs false
def ref1 (A : Bs → Bs → List Ver) (s : Int) (x : Chg) (P : List Plc) : Int :=
 if isNm x.1 = false then 9 else if 4096 < x.2.1.size then 2 else if 16384 < x.2.2.1.size then 2 else if x.2.2.2 = true ∧ x.2.2.1.size ≠ 0 then 4 else if inP (x.1, x.2.1) P = true then 12 else if s ≤ lastT (A x.1 x.2.1) then 1 else 0
def refL (A : Bs → Bs → List Ver) (s : Int) : List Chg → List Plc → Int
 | [], _ => 0
 | x :: L, P => if ref1 A s x P ≠ 0 then ref1 A s x P else refL A s L (P ++ [(x.1, x.2.1)])
def refC (A : Bs → Bs → List Ver) (s : Int) (L : List Chg) : Int := if s < 1 then 1 else if 1099511627776 < s then 1 else if 256 < L.length then 2 else refL A s L []
theorem last_nil (k : Bs) (W : World) : Calls Tryz.prog 37 #[.pointer none, .string k] W fun e W' => e = .returned (.int .i64 (-1)) ∧ W' = W := by
 go_enter Tryz.func37, Tryz.ntmps37
 go_wp2_with fail
 go_ret
 exact ⟨rfl, rfl⟩
theorem last_of {B b mt tc : Nat} {W : World} {T : List Tb} {st sy : Int} {dk : Bs} (h : Egs B W b mt T tc st dk sy) (tb k : Bs) :
  Calls Tryz.prog 37 #[tbP (tbOf T tb), .string k] W fun e W' => e = .returned (.int .i64 (lastT (cont T tb k))) ∧ W' = W := by
 unfold cont
 cases hu : tbOf T tb with
 | none => exact last_nil k W
 | some t =>
  have := h.sto t (tbOf_mem hu).1
  exact last_any B t.S t.m t.clock t.E k W this
theorem ch_get {W : World} {va : Option Addr} {vc : Nat} {L : List Chg} (h : ChAt W (.slice va L.length vc) L) {k : Nat} (hk : k < L.length) : ∃ g, va = some ⟨g, 0, none⟩ ∧ L.length ≤ vc ∧ vc ≤ 9223372036854775807 ∧ g < W.heap.size ∧ W.cell? ⟨g, k * 4, none⟩ = some (.string L[k].1) ∧ W.cell? ⟨g, k * 4 + 1, none⟩ = some (.string L[k].2.1) ∧ W.cell? ⟨g, k * 4 + 2, none⟩ = some (.string L[k].2.2.1) ∧ W.cell? ⟨g, k * 4 + 3, none⟩ = some (.bool L[k].2.2.2) := by
 rcases h with ⟨_, h⟩ | ⟨g, c, hv, h1, h2, h3, h4⟩
 ·rw [h] at hk; simp at hk
 ·cases hv
  exact ⟨g, rfl, h1, h2, h3, h4 k hk⟩
theorem plat_set {W : World} {m n : Nat} {P P' : List Plc} (h : PlAt W m P) (hn : n = P'.length) : PlAt (setBlock W m (.map (plE P' 0).toArray n)) m P' := by
 rw [hn]
 exact setBlock_at h
theorem below_set {B m : Nat} {w W : World} {o : Obj} (h : Below B w W) (hm : B ≤ m) : Below B w (setBlock W m o) := by
 refine ⟨h.os, h.tape, h.output, by show w.heap.size ≤ (W.heap.setIfInBounds m o).size; rw [Array.size_setIfInBounds]; exact h.size, fun k hk => ?_⟩
 rw [← h.block k hk]
 show (W.heap.setIfInBounds m o)[k]? = _
 rw [Array.getElem?_setIfInBounds_ne (by omega)]
set_option maxRecDepth 100000 in
theorem refusal_early (b : Nat) (A : Bs → Bs → List Ver) (s : Int) (v : Value) (L : List Chg) (w : World) (hv : ChAt w v L) (hc : s < 1 ∨ 1099511627776 < s ∨ 256 < L.length) :
  Calls Tryz.prog 19 #[.pointer (some ⟨b, 0, none⟩), v, .int .i64 s] w fun e w' => e = .returned (.int .i64 (refC A s L)) ∧ Below w.heap.size w w' := by
 obtain ⟨va, vc, rfl⟩ := hv.len
 clear hv
 unfold refC
 by_cases h1 : s < 1
 ·rw [if_pos h1]
  have d1 : decide (s < 1) = true := decide_eq_true h1
  go_enter Tryz.func19, Tryz.ntmps19
  go_wp2_with fail
  go_ret
  exact ⟨rfl, Below.refl _ _⟩
 ·rw [if_neg h1]
  have d1 : decide (s < 1) = false := decide_eq_false h1
  by_cases h2 : 1099511627776 < s
  ·rw [if_pos h2]
   have d2 : decide (1099511627776 < s) = true := decide_eq_true h2
   go_enter Tryz.func19, Tryz.ntmps19
   go_wp2_with fail
   go_ret
   exact ⟨rfl, Below.refl _ _⟩
  ·rw [if_neg h2]
   have d2 : decide (1099511627776 < s) = false := decide_eq_false h2
   have h3 : 256 < L.length := by omega
   rw [if_pos h3]
   have d3 : decide ((256 : Int) < (L.length : Int)) = true := decide_eq_true (by omega)
   go_enter Tryz.func19, Tryz.ntmps19
   go_wp2_with fail
   go_ret
   exact ⟨rfl, Below.refl _ _⟩
set_option maxRecDepth 100000 in
set_option maxHeartbeats 4000000 in
theorem refusal_late {B b mt tc : Nat} {T : List Tb} {st sy : Int} {dk : Bs} (s : Int) (v : Value) (L : List Chg) (w : World) (h : Egs B w b mt T tc st dk sy) (hv : ChAt w v L) (h1 : ¬ s < 1) (h2 : ¬ 1099511627776 < s) (h3 : ¬ 256 < L.length) :
  Calls Tryz.prog 19 #[.pointer (some ⟨b, 0, none⟩), v, .int .i64 s] w fun e w' => e = .returned (.int .i64 (refC (cont T) s L)) ∧ Below w.heap.size w w' := by
 obtain ⟨va, vc, rfl⟩ := hv.len
 have e0 : refC (cont T) s L = refL (cont T) s L [] := by unfold refC; rw [if_neg h1, if_neg h2, if_neg h3]
 obtain ⟨R, hR⟩ : ∃ R, R = refL (cont T) s L [] := ⟨_, rfl⟩
 rw [e0, ← hR]
 have HR := Lib.hid hR
 have HV := Lib.hid hv
 have HE := Lib.hid h
 have HL := Lib.hid h3
 have d1 : decide (s < 1) = false := decide_eq_false h1
 have d2 : decide (1099511627776 < s) = false := decide_eq_false h2
 have d3 : decide ((256 : Int) < (L.length : Int)) = false := decide_eq_false (by omega)
 have hmm := @run_makeMap Tryz.prog
 clear hR hv h h1 h2 h3 e0
 go_enter Tryz.func19, Tryz.ntmps19
 go_wp2_with fail
 clear d1 d2 d3 hmm
 have HB0 := Lib.hid ((Below.refl w.heap.size w).alloc (Nat.le_refl _) (Obj.map #[] 0))
 have HP0 := Lib.hid (show PlAt (w.alloc (Obj.map #[] 0)) w.heap.size [] from heap_alloc_new w _)
 go_loopw [22] (fun i wr => ∃ (k : Nat) (P : List Plc), k ≤ L.length ∧ i = .int .i64 k ∧ Hid (PlAt wr w.heap.size P ∧ Below w.heap.size w wr ∧ refL (cont T) s (L.drop k) P = R)) (fun i _ => L.length - (intOf i).toNat)
 case atStart => exact ⟨0, [], Nat.zero_le _, rfl, Lib.hid ⟨HP0.out, HB0.out, HR.out.symm⟩⟩
 case round =>
  obtain ⟨k, P, hk, rfl, HX⟩ := hrel
  by_cases hlt : k < L.length
  ·have HD := Lib.hid (show L.drop k = L[k] :: L.drop (k + 1) from List.drop_eq_getElem_cons hlt)
   obtain ⟨g, rfl, v1, v2, hgl, a0, a1, a2, a3⟩ := ch_get HV.out hlt
   have hbw := HX.out.2.1
   have b0 := (hbw.cell (p := ⟨g, k * 4, none⟩) hgl).trans a0
   have b1 := (hbw.cell (p := ⟨g, k * 4 + 1, none⟩) hgl).trans a1
   have b2 := (hbw.cell (p := ⟨g, k * 4 + 2, none⟩) hgl).trans a2
   have b3 := (hbw.cell (p := ⟨g, k * 4 + 3, none⟩) hgl).trans a3
   clear a0 a1 a2 a3 hbw
   have HKL := Lib.hid (show L.length ≤ 256 by have := HL.out; omega)
   have hRx := HX.out.2.2
   rw [HD.out] at hRx
   generalize L[k] = x at *
   obtain ⟨tb, ky, vl, dl⟩ := x
   simp only at b0 b1 b2 b3
   have HS : Hid ((ref1 (cont T) s (tb, ky, vl, dl) P ≠ 0 → R = ref1 (cont T) s (tb, ky, vl, dl) P) ∧ (ref1 (cont T) s (tb, ky, vl, dl) P = 0 → refL (cont T) s (L.drop (k + 1)) (P ++ [(tb, ky)]) = R)) := by
    refine Lib.hid ⟨fun hne => ?_, fun he => ?_⟩
    ·rw [← hRx, refL, if_pos hne]
    ·rw [← hRx, refL, if_neg (by simp [he])]
   have HBW := Lib.hid (show Below w.heap.size w (wr.alloc (.cells #[.string tb, .string ky, .string vl, .bool dl] 39)) from HX.out.2.1.alloc HX.out.2.1.size _)
   have HPW := Lib.hid (show PlAt (wr.alloc (.cells #[.string tb, .string ky, .string vl, .bool dl] 39)) w.heap.size P from (heap_alloc_old wr _ (Array.getElem?_eq_some_iff.1 HX.out.1).1).trans HX.out.1)
   clear hRx HD HX
   cases n1 : isNm tb with
   | false =>
    have HR1 := Lib.hid (show R = 9 by
     have e : ref1 (cont T) s (tb, ky, vl, dl) P = 9 := by unfold ref1; rw [if_pos n1]
     rw [HS.out.1 (by rw [e]; decide), e])
    go_wp2_with fail
    refine (isName_any tb _).mono ?_
    rintro e w2 ⟨rfl, rfl⟩
    go_wp2_with fail
    go_ret
    exact ⟨by rw [HR1.out]; rfl, HBW.out⟩
   | true =>
    by_cases n2 : 4096 < ky.size
    ·have HR1 := Lib.hid (show R = 2 by
      have e : ref1 (cont T) s (tb, ky, vl, dl) P = 2 := by unfold ref1; rw [if_neg (by simp [n1]), if_pos n2]
      rw [HS.out.1 (by rw [e]; decide), e])
     have d1 : decide ((4096 : Int) < (ky.size : Int)) = true := decide_eq_true (by omega)
     go_wp2_with fail
     refine (isName_any tb _).mono ?_
     rintro e w2 ⟨rfl, rfl⟩
     go_wp2_with fail
     go_ret
     exact ⟨by rw [HR1.out]; rfl, HBW.out⟩
    ·have d1 : decide ((4096 : Int) < (ky.size : Int)) = false := decide_eq_false (by omega)
     by_cases n3 : 16384 < vl.size
     ·have HR1 := Lib.hid (show R = 2 by
       have e : ref1 (cont T) s (tb, ky, vl, dl) P = 2 := by unfold ref1; rw [if_neg (by simp [n1]), if_neg n2, if_pos n3]
       rw [HS.out.1 (by rw [e]; decide), e])
      have d2 : decide ((16384 : Int) < (vl.size : Int)) = true := decide_eq_true (by omega)
      go_wp2_with fail
      refine (isName_any tb _).mono ?_
      rintro e w2 ⟨rfl, rfl⟩
      go_wp2_with fail
      go_ret
      exact ⟨by rw [HR1.out]; rfl, HBW.out⟩
     ·have d2 : decide ((16384 : Int) < (vl.size : Int)) = false := decide_eq_false (by omega)
      by_cases n4 : dl = true ∧ vl.size ≠ 0
      ·have HR1 := Lib.hid (show R = 4 by
        have e : ref1 (cont T) s (tb, ky, vl, dl) P = 4 := by unfold ref1; rw [if_neg (by simp [n1]), if_neg n2, if_neg n3, if_pos n4]
        rw [HS.out.1 (by rw [e]; decide), e])
       obtain ⟨rfl, n5⟩ := n4
       have d3 : (ByteArray.toList vl).isEmpty = false := by
        rw [ByteArray.toList_eq]
        cases hq : vl.data.toList with
        | nil =>
         have : vl.data.toList.length = vl.size := Array.length_toList
         rw [hq] at this
         exact absurd this.symm n5
        | cons a b => rfl
       go_wp2_with fail
       refine (isName_any tb _).mono ?_
       rintro e w2 ⟨rfl, rfl⟩
       go_wp2_with fail
       go_ret
       exact ⟨by rw [HR1.out]; rfl, HBW.out⟩
      ·have hl := run_lookP HPW.out (tb, ky)
       simp only [plV] at hl
       have HN := Lib.hid (And.intro n2 (And.intro n3 n4))
       have hd : dl = false ∨ (dl = true ∧ (ByteArray.toList vl).isEmpty = true) := by
        cases dl with
        | false => exact .inl rfl
        | true =>
         refine .inr ⟨rfl, ?_⟩
         have h0 : vl.size = 0 := by
          by_cases q : vl.size = 0
          ·exact q
          ·exact absurd ⟨rfl, q⟩ n4
         rw [ByteArray.toList_eq]
         have : vl.data.toList.length = 0 := by rw [Array.length_toList]; exact h0
         rw [List.eq_nil_of_length_eq_zero this]; rfl
       clear n2 n3 n4
       cases n6 : inP (tb, ky) P with
       | true =>
        have HR1 := Lib.hid (show R = 12 by
         have e : ref1 (cont T) s (tb, ky, vl, dl) P = 12 := by unfold ref1; rw [if_neg (by simp [n1]), if_neg HN.out.1, if_neg HN.out.2.1, if_neg HN.out.2.2, if_pos n6]
         rw [HS.out.1 (by rw [e]; decide), e])
        rcases hd with rfl | ⟨rfl, d3⟩
        all_goals
         go_wp2_with fail
         refine (isName_any tb _).mono ?_
         rintro e w2 ⟨rfl, rfl⟩
         go_wp2_with fail
         go_ret
         exact ⟨by rw [HR1.out]; rfl, HBW.out⟩
       | false =>
        have HE2 := Lib.hid (HE.out.below HBW.out)
        have HLA := Lib.hid (fun q => last_of (HE2.out.drewN q) tb ky)
        have hlt2 := fun q => run_lookT (HE2.out.drewN q).map tb
        have q0 := HE2.out.c0
        obtain ⟨la, hla⟩ : ∃ la, la = lastT (cont T tb ky) := ⟨_, rfl⟩
        rw [← hla] at HLA
        by_cases n7 : s ≤ la
        ·have HR1 := Lib.hid (show R = 1 by
          have e : ref1 (cont T) s (tb, ky, vl, dl) P = 1 := by unfold ref1; rw [if_neg (by simp [n1]), if_neg HN.out.1, if_neg HN.out.2.1, if_neg HN.out.2.2, if_neg (by simp [n6]), if_pos (by rw [← hla]; exact n7)]
          rw [HS.out.1 (by rw [e]; decide), e])
         have d5 : decide (s ≤ la) = true := decide_eq_true n7
         clear HS hla n7
         rcases hd with rfl | ⟨rfl, d3⟩
         all_goals
          go_wp2_with fail
          refine (isName_any tb _).mono ?_
          rintro e w2 ⟨rfl, rfl⟩
          go_wp2_with fail
          clear hl d1 d2
          go_quiet ((go_at_call 37; refine Calls.quiet_of_same (HLA.out _)))
          go_wp2_with fail
          go_ret
          exact ⟨by rw [HR1.out]; rfl, HBW.out.trans ⟨rfl, rfl, rfl, Nat.le_refl _, fun _ _ => rfl⟩⟩
        ·have HR1 := Lib.hid (show refL (cont T) s (L.drop (k + 1)) (P ++ [(tb, ky)]) = R by
          have e : ref1 (cont T) s (tb, ky, vl, dl) P = 0 := by unfold ref1; rw [if_neg (by simp [n1]), if_neg HN.out.1, if_neg HN.out.2.1, if_neg HN.out.2.2, if_neg (by simp [n6]), if_neg (by rw [← hla]; exact n7)]
          exact HS.out.2 e)
         have d5 : decide (s ≤ la) = false := decide_eq_false n7
         have hnot : (tb, ky) ∉ P := fun h => by rw [(inP_iff _ _).2 h] at n6; cases n6
         have hup := fun q => run_updP (show PlAt ((wr.alloc (.cells #[.string tb, .string ky, .string vl, .bool dl] 39)).drewN q) w.heap.size P from HPW.out) (tb, ky) hnot
         simp only [plV] at hup
         clear HS hla n7 hnot
         rcases hd with rfl | ⟨rfl, d3⟩
         all_goals
          go_wp2_with fail
          refine (isName_any tb _).mono ?_
          rintro e w2 ⟨rfl, rfl⟩
          go_wp2_with fail
          clear hl d1 d2
          go_quiet ((go_at_call 37; refine Calls.quiet_of_same (HLA.out _)))
          go_wp2_with fail
          go_roundw
          case rel => exact ⟨k + 1, P ++ [(tb, ky)], by omega, by go_num, Lib.hid ⟨plat_set (P := P) HPW.out (by simp), below_set (HBW.out.trans ⟨rfl, rfl, rfl, Nat.le_refl _, fun _ _ => rfl⟩) (Nat.le_refl _), HR1.out⟩⟩
          case measure => simp [intOf]; omega
  ·have e : R = 0 := by
    have := HX.out.2.2
    rw [List.drop_of_length_le (by omega)] at this
    exact this.symm
   go_wp2_with fail
   go_ret
   exact ⟨by rw [e]; rfl, HX.out.2.1⟩
theorem refusal_any {B b mt tc : Nat} {T : List Tb} {st sy : Int} {dk : Bs} (s : Int) (v : Value) (L : List Chg) (w : World) (h : Egs B w b mt T tc st dk sy) (hv : ChAt w v L) :
  Calls Tryz.prog 19 #[.pointer (some ⟨b, 0, none⟩), v, .int .i64 s] w fun e w' => e = .returned (.int .i64 (refC (cont T) s L)) ∧ Below w.heap.size w w' := by
 by_cases hc : s < 1 ∨ 1099511627776 < s ∨ 256 < L.length
 ·exact refusal_early b _ s v L w hv hc
 ·exact refusal_late s v L w h hv (fun h => hc (.inl h)) (fun h => hc (.inr (.inl h))) (fun h => hc (.inr (.inr h)))
theorem ETurn.rebox {B b mt tc : Nat} {F : Nat → Prop} {W W1 W2 : World} {T : List Tb} {st sy st' sy' : Int} {dk dk' : Bs} (h : ETurn B b F W W1 mt T tc st dk sy) (hF : F b) (ho : Only W1 W2 b) (hb : Box W2 b [.map (some mt), .int .i64 st', .string dk', .int .i64 sy']) : ETurn B b F W W2 mt T tc st' dk' sy' :=
 ⟨h.egs.rebox ho hb, h.foot, h.kept.trans (T := fun k => k = b) ⟨(ho.below b (Nat.le_refl _)).os, (ho.below b (Nat.le_refl _)).tape, (ho.below b (Nat.le_refl _)).output, (ho.below b (Nat.le_refl _)).size, fun k _ hk => ho.heap k hk⟩ (fun k hk => .inl (by rw [hk]; exact hF))⟩
theorem ETurn.setDisk {B b mt tc : Nat} {F : Nat → Prop} {W W1 : World} {T : List Tb} {st sy : Int} {dk : Bs} (h : ETurn B b F W W1 mt T tc st dk sy) (dk' : Bs) (hF : F b) : ETurn B b F W (W1.setCell ⟨b, 2, none⟩ (.string dk')) mt T tc st dk' sy :=
 h.rebox hF (Only.setCell W1 b 2 _) (h.egs.box.setCell 2 (.string dk') (by simp))
theorem ETurn.setStamp {B b mt tc : Nat} {F : Nat → Prop} {W W1 : World} {T : List Tb} {st sy : Int} {dk : Bs} (h : ETurn B b F W W1 mt T tc st dk sy) (st' : Int) (hF : F b) : ETurn B b F W (W1.setCell ⟨b, 1, none⟩ (.int .i64 st')) mt T tc st' dk sy :=
 h.rebox hF (Only.setCell W1 b 1 _) (h.egs.box.setCell 1 (.int .i64 st') (by simp))
theorem ETurn.setSync {B b mt tc : Nat} {F : Nat → Prop} {W W1 : World} {T : List Tb} {st sy : Int} {dk : Bs} (h : ETurn B b F W W1 mt T tc st dk sy) (sy' : Int) (hF : F b) : ETurn B b F W (W1.setCell ⟨b, 3, none⟩ (.int .i64 sy')) mt T tc st dk sy' :=
 h.rebox hF (Only.setCell W1 b 3 _) (h.egs.box.setCell 3 (.int .i64 sy') (by simp))
theorem ETurn.below {B b mt tc : Nat} {F : Nat → Prop} {W W1 W2 : World} {T : List Tb} {st sy : Int} {dk : Bs} (h : ETurn B b F W W1 mt T tc st dk sy) (hb : Below W1.heap.size W1 W2) : ETurn B b F W W2 mt T tc st dk sy :=
 h.trans (ETurn.same h.egs hb)
structure RecIn (W : World) (k s : Nat) (v : Value) (L : List Chg) : Prop where
 s_lt : s < 4611686018427387904
 kind : ((k = 2 ∨ k = 4) ∧ L = []) ∨ ((k = 1 ∨ k = 3) ∧ ChAt W v L ∧ Small L)
theorem RecIn.below {W W' : World} {k s : Nat} {v : Value} {L : List Chg} (h : RecIn W k s v L) (hb : Below W.heap.size W W') : RecIn W' k s v L :=
 ⟨h.s_lt, h.kind.imp id (fun g => ⟨g.1, g.2.1.below hb (fun k hk => g.2.1.lt k hk), g.2.2⟩)⟩
theorem text_any {W : World} {k s : Nat} {v : Value} {L : List Chg} (h : RecIn W k s v L) :
  Calls Tryz.prog 39 #[.agg #[.int .i64 k, .int .i64 s, v]] W fun e w' => e = .returned (.string (mkS (recB k s L))) ∧ Below W.heap.size W w' := by
 rcases h.kind with ⟨hk, rfl⟩ | ⟨rfl | rfl, hv, hL⟩
 ·exact text_short k s v W hk h.s_lt
 ·exact text_1 s v L W h.s_lt hv hL
 ·exact text_3 s v L W h.s_lt hv hL
theorem RecIn.len {W : World} {k s : Nat} {v : Value} {L : List Chg} (h : RecIn W k s v L) : (mkS (recB k s L)).size ≤ 100000000 := by
 rw [mkS_size]
 unfold recB
 have h1 := numB_len s h.s_lt
 rcases h.kind with ⟨hk, rfl⟩ | ⟨_, hv, hL⟩
 ·rw [if_neg (by omega), List.append_nil, List.length_cons]; omega
 ·have h2 := numB_len L.length (by have := hL.1; omega)
  have h3 := chsB_len L hL.2
  have h4 := hL.1
  split
  ·simp only [List.length_append, List.length_cons]; omega
  ·simp only [List.length_append, List.length_cons]; omega
theorem wapp_two (a s : ByteArray) (w : World) (ha2 : a.size ≤ 1000000000) (hs2 : s.size ≤ 1000000000) :
  Calls Tryz.prog 38 #[.string a, .string s] w fun e w' => ∃ (r : Bs) (n : Int), e = .returned (.tuple #[.string r, .int .i64 n]) ∧ (n = 0 ∧ r = a ++ framed s ∧ s.size ≤ 65536 ∧ a.size + s.size + 8 ≤ 16777216 ∨ n = 2 ∧ ¬ (s.size ≤ 65536 ∧ a.size + s.size + 8 ≤ 16777216)) ∧ Below w.heap.size w w' := by
 refine (wapp_any a s w ha2 hs2).mono ?_
 rintro e w' ⟨⟨rfl, h1, h2⟩ | ⟨rfl, h⟩, hb⟩
 ·exact ⟨_, _, rfl, .inl ⟨rfl, rfl, h1, h2⟩, hb⟩
 ·exact ⟨_, _, rfl, .inr ⟨rfl, h⟩, hb⟩
def Fits (dk : Bs) (k s : Nat) (L : List Chg) : Prop := (recB k s L).length ≤ 65536 ∧ dk.size + (recB k s L).length + 8 ≤ 16777216
instance (dk : Bs) (k s : Nat) (L : List Chg) : Decidable (Fits dk k s L) := by unfold Fits; exact inferInstance
def addD (dk : Bs) (k s : Nat) (L : List Chg) : Bs := dk ++ framed (mkS (recB k s L))
set_option maxRecDepth 100000 in
set_option maxHeartbeats 2000000 in
theorem append_any {B b mt tc : Nat} {T : List Tb} {st sy : Int} {dk : Bs} {k s : Nat} {v : Value} {L : List Chg} {W : World} (h : Egs B W b mt T tc st dk sy) (hr : RecIn W k s v L) (hd : dk.size ≤ 1000000000) :
  Calls Tryz.prog 20 #[.pointer (some ⟨b, 0, none⟩), .agg #[.int .i64 k, .int .i64 s, v]] W fun e W' =>
   (Fits dk k s L ∧ e = .returned (.int .i64 0) ∧ ETurn B b (FootE b mt T) W W' mt T tc st (addD dk k s L) sy ∧ Kept (fun j => j = b) W W') ∨ (¬ Fits dk k s L ∧ e = .returned (.int .i64 2) ∧ Below W.heap.size W W') := by
 have HLN := Lib.hid hr.len
 have hbA : Below W.heap.size W (W.alloc (.cells #[.int .i64 k, .int .i64 s, v] 58)) := (Below.refl _ W).alloc (Nat.le_refl _) _
 have HR1 := Lib.hid (hr.below hbA)
 have HE1 := Lib.hid (h.below hbA)
 have HBA := Lib.hid hbA
 have rc := rec_cells W (.int .i64 k) (.int .i64 s) v 58
 have q0 : (W.alloc (.cells #[.int .i64 k, .int .i64 s, v] 58)).cell? ⟨W.heap.size, 0, none⟩ = some (.int .i64 k) := Lib.cell_of_heap rc 0
 have q1 : (W.alloc (.cells #[.int .i64 k, .int .i64 s, v] 58)).cell? ⟨W.heap.size, 1, none⟩ = some (.int .i64 s) := Lib.cell_of_heap rc 1
 have q2 : (W.alloc (.cells #[.int .i64 k, .int .i64 s, v] 58)).cell? ⟨W.heap.size, 2, none⟩ = some v := Lib.cell_of_heap rc 2
 have p2 := HE1.out.c2
 have HD := Lib.hid hd
 have HB0 := Lib.hid (show b < W.heap.size from h.box.lt)
 have HE0 := Lib.hid h
 clear h hr hbA rc hd
 go_enter Tryz.func20, Tryz.ntmps20
 go_wp2_with fail
 generalize hW1 : W.alloc (.cells #[.int .i64 k, .int .i64 s, v] 58) = W1 at *
 have HSZ := Lib.hid (show W.heap.size < W1.heap.size by rw [← hW1]; simp)
 clear hW1
 obtain ⟨FF, hFF⟩ : ∃ FF : World → Prop, FF = fun X => Below W1.heap.size W1 X := ⟨_, rfl⟩
 have fI : FF W1.drew := by rw [hFF]; exact (Below.refl _ _).drew
 have fO : ∀ X, FF X → Below W1.heap.size W1 X := fun X hX => by rw [hFF] at hX; exact hX
 have fB : ∀ X Y, FF X → Below X.heap.size X Y → FF Y := fun X Y hX hY => by rw [hFF] at hX ⊢; exact hX.trans (hY.mono hX.size)
 have fC : ∀ X, FF X → X.cell? ⟨b, 2, none⟩ = some (.string dk) ∧ X.cell? ⟨W.heap.size, 0, none⟩ = some (.int .i64 k) ∧ X.cell? ⟨W.heap.size, 1, none⟩ = some (.int .i64 s) ∧ X.cell? ⟨W.heap.size, 2, none⟩ = some v := fun X hX => by
  have hx := fO X hX
  exact ⟨(hx.cell (p := ⟨b, 2, none⟩) (Nat.lt_trans HB0.out HSZ.out)).trans p2, (hx.cell (p := ⟨W.heap.size, 0, none⟩) HSZ.out).trans q0, (hx.cell (p := ⟨W.heap.size, 1, none⟩) HSZ.out).trans q1, (hx.cell (p := ⟨W.heap.size, 2, none⟩) HSZ.out).trans q2⟩
 clear hFF
 have HT := Lib.hid (fun X (hX : FF X) => text_any (HR1.out.below (fO X hX)))
 go_region_held3 (fun X => X.cell? ⟨b, 2, none⟩ = some (.string dk) ∧ X.cell? ⟨W.heap.size, 0, none⟩ = some (.int .i64 k) ∧ X.cell? ⟨W.heap.size, 1, none⟩ = some (.int .i64 s) ∧ X.cell? ⟨W.heap.size, 2, none⟩ = some v ∧ FF X) (first | (refine ⟨?_, ?_, ?_, ?_, ?_⟩ <;> assumption) | (refine ⟨(fC _ ?_).1, (fC _ ?_).2.1, (fC _ ?_).2.2.1, (fC _ ?_).2.2.2, ?_⟩ <;> assumption)) (first
  | (go_at_call 39; refine (HT.out _ (by assumption)).mono ?_; rintro e w2 ⟨rfl, hb2⟩; have hf2 := fB _ _ (by assumption) hb2)
  | (go_at_call 38; refine (wapp_two dk _ _ HD.out (by have := HLN.out; omega)).mono ?_; rintro e w3 ⟨rr, nn, rfl, hor, hb3⟩; have hf3 := fB _ _ (by assumption) hb3; have HOR := Lib.hid hor; clear hor))
 have hw3 := fO _ hf3
 have hE3 := HE1.out.below hw3
 have c2 := hE3.c2
 have z2 := hE3.fr 2
 have HE3 := Lib.hid hE3
 have HW3 := Lib.hid (show Below W.heap.size W w3 from HBA.out.trans (hw3.mono HBA.out.size))
 clear hE3 hw3 fC fO fB fI hf2 hf3 hb2 hb3 HT HE1 HR1 q0 q1 q2 p2
 rcases HOR.out with ⟨rfl, hrr, h1, h2⟩ | ⟨rfl, h3⟩
 ·have HF := Lib.hid (show Fits dk k s L by rw [mkS_size] at h1 h2; exact ⟨h1, h2⟩)
  have HRR := Lib.hid hrr
  clear HOR h1 h2 hrr
  go_wp2_with fail
  go_ret
  refine .inl ⟨HF.out, rfl, ?_, ?_⟩
  ·have := (ETurn.same HE0.out HW3.out).setDisk rr (.inl rfl)
   rw [HRR.out] at this ⊢
   exact this
  ·have h1 : Kept (fun j => j = b) W w3 := ⟨HW3.out.os, HW3.out.tape, HW3.out.output, HW3.out.size, fun k hk _ => HW3.out.block k hk⟩
   have ho := Only.setCell w3 b 2 (.string rr)
   exact h1.trans (T := fun j => j = b) ⟨(ho.below b (Nat.le_refl _)).os, (ho.below b (Nat.le_refl _)).tape, (ho.below b (Nat.le_refl _)).output, (ho.below b (Nat.le_refl _)).size, fun k _ hk => ho.heap k hk⟩ (fun k hk => .inl hk)
 ·have HF := Lib.hid (show ¬ Fits dk k s L by rw [mkS_size] at h3; exact h3)
  clear HOR h3
  go_wp2_with fail
  go_ret
  exact .inr ⟨HF.out, rfl, HW3.out⟩
def verOf (s : Int) (x : Chg) : Ver := (s, if x.2.2.2 = true then ⟨#[]⟩ else x.2.2.1, x.2.2.2)
def add1 (A : Bs → Bs → List Ver) (s : Int) (x : Chg) : Bs → Bs → List Ver := fun tb => if tb = x.1 then addA (A x.1) x.2.1 (verOf s x) else A tb
def addsA (A : Bs → Bs → List Ver) (s : Int) (L : List Chg) : Bs → Bs → List Ver := L.foldl (fun A x => add1 A s x) A
theorem addsA_snoc (A : Bs → Bs → List Ver) (s : Int) (L : List Chg) (x : Chg) : addsA A s (L ++ [x]) = add1 (addsA A s L) s x := by simp [addsA]
def Bud (T : List Tb) (N : Nat) : Prop := T.length ≤ N ∧ ∀ t ∈ T, total t.E ≤ N
def stOf (st s : Int) (k : Nat) : Int := if k = 0 then st else max st s
theorem stOf_succ (st s : Int) (k : Nat) : max (stOf st s k) s = stOf st s (k + 1) := by
 unfold stOf
 rw [if_neg (Nat.succ_ne_zero k)]
 split
 ·rfl
 ·omega
theorem updT_len (T : List Tb) (k : Bs) (E : List En) (c : Nat) : (updT T k E c).length = T.length := by simp [updT]
theorem adds_step {B b mt tc : Nat} {F : Nat → Prop} {W W5 W6 : World} {T2 : List Tb} {st sy s : Int} {dk : Bs} {t2 : Tb} {x : Chg} {M : Nat} (h : ETurn B b F W W5 mt T2 tc st dk sy) (ht : tbOf T2 x.1 = some t2) (hd : Done B t2.S t2.m t2.E (addA (lkL t2.E) x.2.1 (verOf s x)) W5 W6) (h1 : T2.length ≤ M + 1) (h2 : ∀ t ∈ T2, total t.E ≤ M) :
  ∃ T3 tc3, ETurn B b F W W6 mt T3 tc3 st dk sy ∧ cont T3 = add1 (cont T2) s x ∧ Bud T3 (M + 1) := by
 obtain ⟨E', c', hT, hl⟩ := hd
 obtain ⟨hm, hk⟩ := tbOf_mem ht
 refine ⟨_, _, h.trans (h.egs.turn hm hT), ?_, by rw [updT_len]; exact h1, fun t ht2 => ?_⟩
 ·rw [hk, cont_upd ht, hl]
  funext q
  unfold add1
  by_cases hq : q = x.1
  ·rw [if_pos hq, if_pos hq]
   congr 2
   unfold cont
   rw [ht]
  ·rw [if_neg hq, if_neg hq]
 ·rcases updT_mem ht2 with ⟨h3, _⟩ | ⟨u, hu, hk2, rfl⟩
  ·have := h2 t h3; omega
  ·have e : u = t2 := nodup_inj h.egs.keys hu hm hk2
   subst e
   have := total_le (h.egs.sto u hu).gd hT.1.gd x.2.1 (fun k => by rw [hl]; exact addA_len _ _ _ k)
   have := h2 u hu
   show total E' ≤ _
   omega
def AddsOut (B b mt : Nat) (T : List Tb) (st : Int) (dk : Bs) (sy : Int) (s : Int) (L : List Chg) (N : Nat) (W W' : World) : Prop :=
 ∃ T' tc', ETurn B b (FootE b mt T) W W' mt T' tc' (stOf st s L.length) dk sy ∧ cont T' = addsA (cont T) s L ∧ Bud T' (N + L.length)
set_option maxRecDepth 100000 in
set_option maxHeartbeats 4000000 in
theorem add_walk {B b mt tc : Nat} {T : List Tb} {st sy : Int} {dk : Bs} (s : Int) (v : Value) (L : List Chg) (N : Nat) (W : World) (h : Egs B W b mt T tc st dk sy) (hv : ChAt W v L) (hvF : ∀ k, v.ownBlock = some k → ¬ FootE b mt T k) (hN : Bud T N) (hNL : N + L.length < 5000) (hB : B ≤ W.heap.size) :
  Calls Tryz.prog 21 #[.pointer (some ⟨b, 0, none⟩), v, .int .i64 s] W fun e W' => e = .returned (.tuple #[]) ∧ AddsOut B b mt T st dk sy s L N W W' := by
 obtain ⟨va, vc, rfl⟩ := hv.len
 have HV := Lib.hid (And.intro hv hvF)
 have HE := Lib.hid h
 have HN := Lib.hid (And.intro hN (And.intro hNL hB))
 clear hv h hvF hN
 have hL5 : L.length < 5000 := by omega
 clear hNL hB
 go_enter Tryz.func21, Tryz.ntmps21
 go_wp2_with fail
 go_loopw [11] (fun i wr => ∃ k : Nat, k ≤ L.length ∧ i = .int .i64 k ∧ Hid (∃ T' tc', ETurn B b (FootE b mt T) W wr mt T' tc' (stOf st s k) dk sy ∧ cont T' = addsA (cont T) s (L.take k) ∧ Bud T' (N + k))) (fun i _ => L.length - (intOf i).toNat)
 case atStart => exact ⟨0, Nat.zero_le _, rfl, Lib.hid ⟨T, tc, ETurn.same HE.out (Below.refl _ _), rfl, HN.out.1⟩⟩
 case round =>
  obtain ⟨k, hk, rfl, HX⟩ := hrel
  by_cases hlt : k < L.length
  ·have HTK := Lib.hid (show L.take (k + 1) = L.take k ++ [L[k]] by rw [List.take_succ_eq_append_getElem hlt])
   obtain ⟨g, rfl, v1, v2, hgl, a0, a1, a2, a3⟩ := ch_get HV.out.1 hlt
   obtain ⟨T1, tc1, hT1, hc1, hb1⟩ := HX.out
   have hgF : ¬ FootE b mt T g := HV.out.2 g rfl
   have b0 := cell_kept2 hT1.kept hgl hgF a0
   have b1 := cell_kept2 hT1.kept hgl hgF a1
   have b2 := cell_kept2 hT1.kept hgl hgF a2
   have b3 := cell_kept2 hT1.kept hgl hgF a3
   generalize L[k] = x at *
   obtain ⟨tb, ky, vl, dl⟩ := x
   simp only at b0 b1 b2 b3
   have hT2 := hT1.below ((Below.refl _ wr).alloc (Nat.le_refl _) (.cells #[.string tb, .string ky, .string vl, .bool dl] 39))
   have HT2 := Lib.hid hT2
   have HCB := Lib.hid (And.intro hc1 hb1)
   have HSZ := Lib.hid hT1.kept.size
   have HCF := Lib.hid (fun hf : FootE b mt T1 wr.heap.size => Nat.lt_irrefl _ (hT1.egs.foot hf).2)
   have q0 := hT2.egs.c0
   have hlk := fun q => run_lookT (hT2.egs.drewN q).map tb
   clear a0 a1 a2 a3 hT1 hT2 hc1 hb1 hgF HX
   go_wp2_with fail
   clear b0 b1 b2 b3
   go_quiet (fail)
   have hTd := HT2.out.below (show Below _ _ ((wr.alloc (.cells #[.string tb, .string ky, .string vl, .bool dl] 39)).drewN nq) from ⟨rfl, rfl, rfl, Nat.le_refl _, fun _ _ => rfl⟩)
   have hcl : wr.heap.size < ((wr.alloc (.cells #[.string tb, .string ky, .string vl, .bool dl] 39)).drewN nq).heap.size := by simp
   have hcb : ((wr.alloc (.cells #[.string tb, .string ky, .string vl, .bool dl] 39)).drewN nq).heap[wr.heap.size]? = some (.cells #[.string tb, .string ky, .string vl, .bool dl] 39 (0, 0)) := heap_alloc_new wr _
   have hcF : ¬ FootE b mt T1 wr.heap.size := HCF.out
   clear hlk q0 HT2
   generalize ((wr.alloc (.cells #[.string tb, .string ky, .string vl, .bool dl] 39)).drewN nq) = Wd at *
   generalize hcc : wr.heap.size = cb at *
   obtain ⟨d0, d1, d2, d3⟩ : Wd.cell? ⟨cb, 0, none⟩ = some (.string tb) ∧ Wd.cell? ⟨cb, 1, none⟩ = some (.string ky) ∧ Wd.cell? ⟨cb, 2, none⟩ = some (.string vl) ∧ Wd.cell? ⟨cb, 3, none⟩ = some (.bool dl) := ⟨Lib.cell_of_heap hcb 0, Lib.cell_of_heap hcb 1, Lib.cell_of_heap hcb 2, Lib.cell_of_heap hcb 3⟩
   have HTD := Lib.hid hTd
   have HCX := Lib.hid (And.intro hcl (And.intro hcb hcF))
   clear hTd hcl hcb hcF hcc
   cases hto : tbOf T1 tb with
   | none =>
    have HTO := Lib.hid hto
    clear hto
    dsimp only [tbP]
    go_wp2_with fail
    refine (new_any Wd).mono ?_
    rintro e w2 ⟨rfl, hs2, hb2⟩
    have e0 := (hb2.cell (p := ⟨cb, 0, none⟩) HCX.out.1).trans d0
    have hT3 := HTD.out.below hb2
    have q0 := hT3.egs.c0
    obtain ⟨t2, ht2⟩ : ∃ t2 : Tb, t2 = ⟨tb, Wd.heap.size + 1, Wd.heap.size, [], 0, tc1⟩ := ⟨_, rfl⟩
    have hup := run_newT (hT3.egs.drew).map t2 (by rw [ht2]; exact HTO.out) (by rw [ht2])
    rw [ht2] at hup
    simp only at hup
    have HS2 := Lib.hid (And.intro hs2 (And.intro hb2 hT3))
    clear hs2 hb2 hT3
    go_wp2_with fail
    go_region
    have PK : Hid (∃ T2 tc2 t2, ETurn B b (FootE b mt T) W (setBlock w2.drew mt (.map (esOf (ens (T1 ++ [⟨tb, Wd.heap.size + 1, Wd.heap.size, [], 0, tc1⟩]))) (tc1 + 1))) mt T2 tc2 (stOf st s k) dk sy ∧ tbOf T2 tb = some t2 ∧ t2.S = Wd.heap.size + 1 ∧ cont T2 = cont T1 ∧ T2.length ≤ N + k + 1 ∧ ∀ t ∈ T2, total t.E ≤ N + k) := by
     refine Lib.hid ⟨T1 ++ [⟨tb, Wd.heap.size + 1, Wd.heap.size, [], 0, tc1⟩], tc1 + 1, ⟨tb, Wd.heap.size + 1, Wd.heap.size, [], 0, tc1⟩, HTD.out.trans (HTD.out.egs.add (t := ⟨tb, Wd.heap.size + 1, Wd.heap.size, [], 0, tc1⟩) HTO.out rfl (show Below Wd.heap.size Wd w2.drew from HS2.out.2.1.trans ⟨rfl, rfl, rfl, Nat.le_refl _, fun _ _ => rfl⟩) HS2.out.1.drew (Nat.le_trans HN.out.2.2 HTD.out.kept.size)), ?_, rfl, ?_, ?_, fun t ht => ?_⟩
     ·unfold tbOf
      rw [List.find?_append, show T1.find? (fun t => decide (tb = t.key)) = none from HTO.out]
      simp
     ·rw [cont_add (t := ⟨tb, Wd.heap.size + 1, Wd.heap.size, [], 0, tc1⟩) HTO.out]
      funext q
      by_cases hq : q = tb
      ·rw [if_pos hq, hq]
       unfold cont
       rw [HTO.out]
       rfl
      ·rw [if_neg hq]
     ·rw [List.length_append]; have := HCB.out.2.1; simp; omega
     ·rcases List.mem_append.1 ht with ht | ht
      ·exact HCB.out.2.2 t ht
      ·rw [List.mem_singleton.1 ht]; exact Nat.zero_le _
    have f1 := (HS2.out.2.1.cell (p := ⟨cb, 1, none⟩) HCX.out.1).trans d1
    have f2 := (HS2.out.2.1.cell (p := ⟨cb, 2, none⟩) HCX.out.1).trans d2
    have f3 := (HS2.out.2.1.cell (p := ⟨cb, 3, none⟩) HCX.out.1).trans d3
    have hcm : cb ≠ mt := fun e => HCX.out.2.2 (by rw [e]; exact .inr (.inl rfl))
    have hkk : Kept (fun j => j = mt) w2.drew (setBlock w2.drew mt (.map (esOf (ens (T1 ++ [⟨tb, Wd.heap.size + 1, Wd.heap.size, [], 0, tc1⟩]))) (tc1 + 1))) := setBlock_kept (Kept.refl _ _) mt _ (.inl rfl)
    have hcs : cb < w2.drew.heap.size := Nat.lt_of_lt_of_le HCX.out.1 HS2.out.2.1.size
    have g1 := cell_kept2 hkk hcs hcm f1
    have g2 := cell_kept2 hkk hcs hcm f2
    have g3 := cell_kept2 hkk hcs hcm f3
    clear f1 f2 f3 hcm hkk hcs hup q0 e0 d0 d1 d2 d3 HS2 ht2 t2
    generalize setBlock w2.drew mt (.map (esOf (ens (T1 ++ [⟨tb, Wd.heap.size + 1, Wd.heap.size, [], 0, tc1⟩]))) (tc1 + 1)) = W5 at *
    generalize Wd.heap.size + 1 = S2 at *
    cases dl with
    | true =>
     have HQ : Hid (Calls Tryz.prog 41 #[.pointer (some ⟨S2, 0, none⟩), .string ky, .int .i64 s] W5 fun e W6 => ∃ n : Int, e = .returned (.int .i64 n) ∧ Hid (∃ T3 tc3, ETurn B b (FootE b mt T) W W6 mt T3 tc3 (stOf st s k) dk sy ∧ cont T3 = addsA (cont T) s (L.take (k + 1)) ∧ Bud T3 (N + (k + 1)))) := by
      obtain ⟨T2, tc2, t2, p1, p2, p3, p4, p5, p6⟩ := PK.out
      obtain ⟨p7, p8⟩ := tbOf_mem p2
      rw [← p3]
      refine Lib.hid ((del_any B t2.S t2.m t2.clock t2.E ky s W5 (p1.egs.sto t2 p7) (Nat.le_trans HN.out.2.2 p1.kept.size) (by have := p6 t2 p7; have := HN.out.2.1; omega)).mono ?_)
      rintro e W6 ⟨h1, h2⟩
      rw [HTK.out, addsA_snoc, ← HCB.out.1, ← p4]
      exact ⟨_, h1, Lib.hid (adds_step (x := (tb, ky, vl, true)) p1 p2 h2 p5 p6)⟩
     go_wp2_with fail
     refine HQ.out.mono ?_
     rintro e W6 ⟨n6, rfl, HT6⟩
     obtain ⟨T3, tc3, hT3, hc3, hb3⟩ := HT6.out
     have r1 := hT3.egs.c1
     have r2 := hT3.egs.fr 1
     have HT7 := Lib.hid (And.intro hT3 (And.intro hc3 hb3))
     clear hT3 hc3 hb3 HQ PK HT6 HTD HTO HCX g1 g2 g3
     go_wp2_with fail
     go_roundw
     case rel => exact ⟨k + 1, by omega, by go_num, Lib.hid ⟨T3, tc3, by rw [← stOf_succ]; exact HT7.out.1.setStamp _ (.inl rfl), HT7.out.2.1, HT7.out.2.2⟩⟩
     case measure => simp [intOf]; omega
    | false =>
     have HQ : Hid (Calls Tryz.prog 42 #[.pointer (some ⟨S2, 0, none⟩), .string ky, .string vl, .int .i64 s] W5 fun e W6 => ∃ n : Int, e = .returned (.int .i64 n) ∧ Hid (∃ T3 tc3, ETurn B b (FootE b mt T) W W6 mt T3 tc3 (stOf st s k) dk sy ∧ cont T3 = addsA (cont T) s (L.take (k + 1)) ∧ Bud T3 (N + (k + 1)))) := by
      obtain ⟨T2, tc2, t2, p1, p2, p3, p4, p5, p6⟩ := PK.out
      obtain ⟨p7, p8⟩ := tbOf_mem p2
      rw [← p3]
      refine Lib.hid ((put_any B t2.S t2.m t2.clock t2.E ky vl s W5 (p1.egs.sto t2 p7) (Nat.le_trans HN.out.2.2 p1.kept.size) (by have := p6 t2 p7; have := HN.out.2.1; omega)).mono ?_)
      rintro e W6 ⟨h1, h2⟩
      rw [HTK.out, addsA_snoc, ← HCB.out.1, ← p4]
      exact ⟨_, h1, Lib.hid (adds_step (x := (tb, ky, vl, false)) p1 p2 h2 p5 p6)⟩
     go_wp2_with fail
     refine HQ.out.mono ?_
     rintro e W6 ⟨n6, rfl, HT6⟩
     obtain ⟨T3, tc3, hT3, hc3, hb3⟩ := HT6.out
     have r1 := hT3.egs.c1
     have r2 := hT3.egs.fr 1
     have HT7 := Lib.hid (And.intro hT3 (And.intro hc3 hb3))
     clear hT3 hc3 hb3 HQ PK HT6 HTD HTO HCX g1 g2 g3
     go_wp2_with fail
     go_roundw
     case rel => exact ⟨k + 1, by omega, by go_num, Lib.hid ⟨T3, tc3, by rw [← stOf_succ]; exact HT7.out.1.setStamp _ (.inl rfl), HT7.out.2.1, HT7.out.2.2⟩⟩
     case measure => simp [intOf]; omega
   | some t2 =>
    have HTO := Lib.hid hto
    clear hto
    obtain ⟨S2, hS2⟩ : ∃ S2, S2 = t2.S := ⟨_, rfl⟩
    have PK : Hid (∃ T2 tc2 t2, ETurn B b (FootE b mt T) W Wd mt T2 tc2 (stOf st s k) dk sy ∧ tbOf T2 tb = some t2 ∧ t2.S = S2 ∧ cont T2 = cont T1 ∧ T2.length ≤ N + k + 1 ∧ ∀ t ∈ T2, total t.E ≤ N + k) :=
     Lib.hid ⟨T1, tc1, t2, HTD.out, HTO.out, hS2.symm, rfl, by have := HCB.out.2.1; omega, HCB.out.2.2⟩
    dsimp only [tbP]
    rw [← hS2]
    have g1 := d1
    have g2 := d2
    have g3 := d3
    clear hS2 d0 d1 d2 d3
    generalize Wd = W5 at *
    cases dl with
    | true =>
     have HQ : Hid (Calls Tryz.prog 41 #[.pointer (some ⟨S2, 0, none⟩), .string ky, .int .i64 s] W5 fun e W6 => ∃ n : Int, e = .returned (.int .i64 n) ∧ Hid (∃ T3 tc3, ETurn B b (FootE b mt T) W W6 mt T3 tc3 (stOf st s k) dk sy ∧ cont T3 = addsA (cont T) s (L.take (k + 1)) ∧ Bud T3 (N + (k + 1)))) := by
      obtain ⟨T2, tc2, t2, p1, p2, p3, p4, p5, p6⟩ := PK.out
      obtain ⟨p7, p8⟩ := tbOf_mem p2
      rw [← p3]
      refine Lib.hid ((del_any B t2.S t2.m t2.clock t2.E ky s W5 (p1.egs.sto t2 p7) (Nat.le_trans HN.out.2.2 p1.kept.size) (by have := p6 t2 p7; have := HN.out.2.1; omega)).mono ?_)
      rintro e W6 ⟨h1, h2⟩
      rw [HTK.out, addsA_snoc, ← HCB.out.1, ← p4]
      exact ⟨_, h1, Lib.hid (adds_step (x := (tb, ky, vl, true)) p1 p2 h2 p5 p6)⟩
     go_wp2_with fail
     refine HQ.out.mono ?_
     rintro e W6 ⟨n6, rfl, HT6⟩
     obtain ⟨T3, tc3, hT3, hc3, hb3⟩ := HT6.out
     have r1 := hT3.egs.c1
     have r2 := hT3.egs.fr 1
     have HT7 := Lib.hid (And.intro hT3 (And.intro hc3 hb3))
     clear hT3 hc3 hb3 HQ PK HT6 HTD HTO HCX g1 g2 g3
     go_wp2_with fail
     go_roundw
     case rel => exact ⟨k + 1, by omega, by go_num, Lib.hid ⟨T3, tc3, by rw [← stOf_succ]; exact HT7.out.1.setStamp _ (.inl rfl), HT7.out.2.1, HT7.out.2.2⟩⟩
     case measure => simp [intOf]; omega
    | false =>
     have HQ : Hid (Calls Tryz.prog 42 #[.pointer (some ⟨S2, 0, none⟩), .string ky, .string vl, .int .i64 s] W5 fun e W6 => ∃ n : Int, e = .returned (.int .i64 n) ∧ Hid (∃ T3 tc3, ETurn B b (FootE b mt T) W W6 mt T3 tc3 (stOf st s k) dk sy ∧ cont T3 = addsA (cont T) s (L.take (k + 1)) ∧ Bud T3 (N + (k + 1)))) := by
      obtain ⟨T2, tc2, t2, p1, p2, p3, p4, p5, p6⟩ := PK.out
      obtain ⟨p7, p8⟩ := tbOf_mem p2
      rw [← p3]
      refine Lib.hid ((put_any B t2.S t2.m t2.clock t2.E ky vl s W5 (p1.egs.sto t2 p7) (Nat.le_trans HN.out.2.2 p1.kept.size) (by have := p6 t2 p7; have := HN.out.2.1; omega)).mono ?_)
      rintro e W6 ⟨h1, h2⟩
      rw [HTK.out, addsA_snoc, ← HCB.out.1, ← p4]
      exact ⟨_, h1, Lib.hid (adds_step (x := (tb, ky, vl, false)) p1 p2 h2 p5 p6)⟩
     go_wp2_with fail
     refine HQ.out.mono ?_
     rintro e W6 ⟨n6, rfl, HT6⟩
     obtain ⟨T3, tc3, hT3, hc3, hb3⟩ := HT6.out
     have r1 := hT3.egs.c1
     have r2 := hT3.egs.fr 1
     have HT7 := Lib.hid (And.intro hT3 (And.intro hc3 hb3))
     clear hT3 hc3 hb3 HQ PK HT6 HTD HTO HCX g1 g2 g3
     go_wp2_with fail
     go_roundw
     case rel => exact ⟨k + 1, by omega, by go_num, Lib.hid ⟨T3, tc3, by rw [← stOf_succ]; exact HT7.out.1.setStamp _ (.inl rfl), HT7.out.2.1, HT7.out.2.2⟩⟩
     case measure => simp [intOf]; omega
  ·have e : k = L.length := by omega
   have HL := Lib.hid (show L.take k = L from List.take_of_length_le (by omega))
   go_wp2_with fail
   go_end0
   obtain ⟨T', tc', h1, h2, h3⟩ := HX.out
   rw [HL.out] at h2
   rw [e] at h1 h3
   exact ⟨rfl, T', tc', h1, h2, h3⟩
theorem refL_small (A : Bs → Bs → List Ver) (s : Int) : ∀ (L : List Chg) (P : List Plc), refL A s L P = 0 → ∀ x ∈ L, x.1.size ≤ 32 ∧ x.2.1.size ≤ 4096 ∧ x.2.2.1.size ≤ 16384
 | [], _, _ => fun x hx => by cases hx
 | y :: L, P, h => fun x hx => by
  unfold refL at h
  by_cases h1 : ref1 A s y P ≠ 0
  ·rw [if_pos h1] at h; exact absurd h h1
  ·rw [if_neg h1] at h
   rcases List.mem_cons.1 hx with rfl | hx
   ·have h2 : ref1 A s x P = 0 := by simpa using h1
    unfold ref1 at h2
    by_cases c1 : isNm x.1 = false
    ·rw [if_pos c1] at h2; cases h2
    ·rw [if_neg c1] at h2
     by_cases c2 : 4096 < x.2.1.size
     ·rw [if_pos c2] at h2; cases h2
     ·rw [if_neg c2] at h2
      by_cases c3 : 16384 < x.2.2.1.size
      ·rw [if_pos c3] at h2; cases h2
      ·refine ⟨?_, by omega, by omega⟩
       unfold isNm at c1
       simp at c1
       omega
   ·exact refL_small A s L _ h x hx
theorem refC_zero {A : Bs → Bs → List Ver} {s : Int} {L : List Chg} (h : refC A s L = 0) : 1 ≤ s ∧ s ≤ 1099511627776 ∧ L.length ≤ 256 ∧ Small L ∧ refL A s L [] = 0 := by
 unfold refC at h
 by_cases c1 : s < 1
 ·rw [if_pos c1] at h; cases h
 ·rw [if_neg c1] at h
  by_cases c2 : 1099511627776 < s
  ·rw [if_pos c2] at h; cases h
  ·rw [if_neg c2] at h
   by_cases c3 : 256 < L.length
   ·rw [if_pos c3] at h; cases h
   ·rw [if_neg c3] at h
    refine ⟨by omega, by omega, by omega, ⟨by omega, fun x hx => ?_⟩, h⟩
    have := refL_small A s L [] h x hx
    omega
def comC (A : Bs → Bs → List Ver) (dk : Bs) (s : Int) (L : List Chg) : Int := if refC A s L ≠ 0 then refC A s L else if Fits dk 1 s.toNat L then 0 else 2
def ComOut (B b mt : Nat) (T : List Tb) (st : Int) (dk : Bs) (sy : Int) (s : Int) (L : List Chg) (N : Nat) (W W' : World) : Prop :=
 (comC (cont T) dk s L ≠ 0 ∧ Below W.heap.size W W') ∨ (comC (cont T) dk s L = 0 ∧ refC (cont T) s L = 0 ∧ Fits dk 1 s.toNat L ∧ ∃ T' tc', ETurn B b (FootE b mt T) W W' mt T' tc' (stOf st s L.length) (addD dk 1 s.toNat L) sy ∧ cont T' = addsA (cont T) s L ∧ Bud T' (N + L.length))
set_option maxRecDepth 100000 in
set_option maxHeartbeats 2000000 in
theorem commit_any {B b mt tc : Nat} {T : List Tb} {st sy : Int} {dk : Bs} (s : Int) (v : Value) (L : List Chg) (N : Nat) (W : World) (h : Egs B W b mt T tc st dk sy) (hv : ChAt W v L) (hvF : ∀ k, v.ownBlock = some k → ¬ FootE b mt T k) (hN : Bud T N) (hNL : L.length ≤ 256 → N + L.length < 5000) (hB : B ≤ W.heap.size) (hd : dk.size ≤ 1000000000) :
  Calls Tryz.prog 7 #[.pointer (some ⟨b, 0, none⟩), v, .int .i64 s] W fun e W' => e = .returned (.int .i64 (comC (cont T) dk s L)) ∧ ComOut B b mt T st dk sy s L N W W' := by
 have HC := Lib.hid (refusal_any s v L W h hv)
 have HE := Lib.hid h
 obtain ⟨va, vc, hve⟩ := hv.len
 by_cases h0 : refC (cont T) s L = 0
 ·obtain ⟨s1, s2, s3, s4, s5⟩ := refC_zero h0
  obtain ⟨n, rfl⟩ : ∃ n : Nat, s = (n : Int) := ⟨s.toNat, by omega⟩
  rw [h0] at HC
  have HV := Lib.hid (And.intro hv (And.intro hvF (And.intro hN (And.intro (hNL s3) (And.intro hB hd)))))
  have HS := Lib.hid (And.intro s1 (And.intro s2 (And.intro s3 s4)))
  have H0 := Lib.hid h0
  subst hve
  clear h hv hvF hN hNL hB hd s1 s2 s3 s4 s5 h0
  by_cases hf : Fits dk 1 n L
  ·have HF := Lib.hid hf
   have hcc : comC (cont T) dk n L = 0 := by unfold comC; rw [if_neg (by simp [H0.out]), Int.toNat_natCast, if_pos hf]
   rw [hcc]
   have HCC := Lib.hid hcc
   clear hf hcc
   go_enter Tryz.func7, Tryz.ntmps7
   go_wp2_with fail
   refine HC.out.mono ?_
   rintro e w1 ⟨rfl, hb1⟩
   have HE1 := Lib.hid (HE.out.below hb1)
   have HV1 := Lib.hid (HV.out.1.below hb1 (fun k hk => HV.out.1.lt k hk))
   have HB1 := Lib.hid hb1
   clear hb1
   go_wp2_with fail
   refine (append_any (k := 1) (s := n) (L := L) HE1.out ⟨by have := HS.out.2.1; omega, .inr ⟨.inl rfl, HV1.out, HS.out.2.2.2⟩⟩ HV.out.2.2.2.2.2).mono ?_
   rintro e w2 h2
   obtain ⟨_, rfl, ht2, _⟩ := h2.resolve_right (fun h => h.1 HF.out)
   have HT2 := Lib.hid ((ETurn.same HE.out HB1.out).trans ht2)
   have HV2 := Lib.hid (show ChAt w2 (.slice va L.length vc) L from by
    have hk := ht2.kept
    rcases HV1.out with ⟨h1, h2⟩ | ⟨g, c, h1, h2, h3, h4, h5⟩
    ·exact .inl ⟨h1, h2⟩
    ·have hg : ¬ FootE b mt T g := HV.out.2.1 g (by rw [h1]; rfl)
     refine .inr ⟨g, c, h1, h2, h3, Nat.lt_of_lt_of_le h4 hk.size, fun j hj => ?_⟩
     obtain ⟨a0, a1, a2, a3⟩ := h5 j hj
     exact ⟨cell_kept2 hk h4 hg a0, cell_kept2 hk h4 hg a1, cell_kept2 hk h4 hg a2, cell_kept2 hk h4 hg a3⟩)
   clear ht2 h2
   go_wp2_with fail
   refine (add_walk n _ L N w2 HT2.out.egs HV2.out (fun k hk hf => (HT2.out.foot k hf).elim (HV.out.2.1 k hk) (fun h3 => by have := HV.out.1.lt k hk; omega)) HV.out.2.2.1 HV.out.2.2.2.1 (Nat.le_trans HV.out.2.2.2.2.1 HT2.out.kept.size)).mono ?_
   rintro e w3 ⟨rfl, h3⟩
   have H3 := Lib.hid h3
   clear h3
   go_wp2_with fail
   go_ret
   obtain ⟨T', tc', q1, q2, q3⟩ := H3.out
   exact ⟨rfl, .inr ⟨HCC.out, H0.out, by rw [Int.toNat_natCast]; exact HF.out, T', tc', by rw [Int.toNat_natCast]; exact HT2.out.trans q1, q2, q3⟩⟩
  ·have HF := Lib.hid hf
   have hcc : comC (cont T) dk n L = 2 := by unfold comC; rw [if_neg (by simp [H0.out]), Int.toNat_natCast, if_neg hf]
   rw [hcc]
   have HCC := Lib.hid hcc
   clear hf hcc
   go_enter Tryz.func7, Tryz.ntmps7
   go_wp2_with fail
   refine HC.out.mono ?_
   rintro e w1 ⟨rfl, hb1⟩
   have HE1 := Lib.hid (HE.out.below hb1)
   have HV1 := Lib.hid (HV.out.1.below hb1 (fun k hk => HV.out.1.lt k hk))
   have HB1 := Lib.hid hb1
   clear hb1
   go_wp2_with fail
   refine (append_any (k := 1) (s := n) (L := L) HE1.out ⟨by have := HS.out.2.1; omega, .inr ⟨.inl rfl, HV1.out, HS.out.2.2.2⟩⟩ HV.out.2.2.2.2.2).mono ?_
   rintro e w2 h2
   obtain ⟨_, rfl, hb2⟩ := h2.resolve_left (fun h => HF.out h.1)
   have HB2 := Lib.hid (HB1.out.trans (hb2.mono HB1.out.size))
   clear hb2 h2
   go_wp2_with fail
   go_ret
   exact ⟨rfl, .inl ⟨by rw [HCC.out]; decide, HB2.out⟩⟩
 ·have hcc : comC (cont T) dk s L = refC (cont T) s L := by unfold comC; rw [if_pos h0]
  have HCC := Lib.hid hcc
  rw [hcc]
  generalize hr : refC (cont T) s L = r at *
  have hne : (r != 0) = true := by simpa using h0
  have H0 := Lib.hid h0
  subst hve
  clear h hv hvF hN hNL hB hd h0 hr hcc
  go_enter Tryz.func7, Tryz.ntmps7
  go_wp2_with fail
  refine HC.out.mono ?_
  rintro e w1 ⟨rfl, hb1⟩
  have HB1 := Lib.hid hb1
  clear hb1
  go_wp2_with fail
  go_ret
  exact ⟨rfl, .inl ⟨by rw [HCC.out]; exact H0.out, HB1.out⟩⟩
set_option maxRecDepth 100000 in
theorem enew_any (W : World) : Calls Tryz.prog 4 #[] W fun e W' => e = .returned (.pointer (some ⟨W.heap.size + 1, 0, none⟩)) ∧ Egs W.heap.size W' (W.heap.size + 1) W.heap.size [] 0 0 ⟨#[]⟩ 0 ∧ Below W.heap.size W W' := by
 have hmm := @run_makeMap Tryz.prog
 have hb := Box.new (W.alloc (Obj.map #[] 0)) [.map (some W.heap.size), .int .i64 0, .string ⟨#[]⟩, .int .i64 0] 52
 rw [World.size_alloc] at hb
 have hm : MapAt ((W.alloc (Obj.map #[] 0)).alloc (Obj.cells #[.map (some W.heap.size), .int .i64 0, .string ⟨#[]⟩, .int .i64 0] 52)) W.heap.size (ens []) 0 := by
  show _ = some (Obj.map #[] 0)
  rw [heap_alloc_old _ _ (by simp)]
  exact heap_alloc_new W _
 have hbb : Below W.heap.size W ((W.alloc (Obj.map #[] 0)).alloc (Obj.cells #[.map (some W.heap.size), .int .i64 0, .string ⟨#[]⟩, .int .i64 0] 52)) := ((Below.refl _ W).alloc (Nat.le_refl _) _).alloc (by simp) _
 have HX := Lib.hid (And.intro hb (And.intro hm hbb))
 clear hb hm hbb
 go_enter Tryz.func4, Tryz.ntmps4
 go_wp2_with fail
 go_ret
 exact ⟨rfl, ⟨HX.out.1, HX.out.2.1, EnOK.nil 0, (fun t ht => by cases ht), List.Pairwise.nil, (fun t ht => by cases ht), by omega, by omega, Nat.le_refl _⟩, HX.out.2.2⟩
section
variable {B b mt tc : Nat} {W : World} {T : List Tb} {st sy : Int} {dk : Bs}
theorem disk_any (h : Egs B W b mt T tc st dk sy) : Calls Tryz.prog 10 #[.pointer (some ⟨b, 0, none⟩)] W fun e W' => e = .returned (.string dk) ∧ W' = W := by
 have c2 := h.c2
 clear h
 go_enter Tryz.func10, Tryz.ntmps10
 go_wp2_with fail
 go_ret
 exact ⟨rfl, rfl⟩
theorem synced_any (h : Egs B W b mt T tc st dk sy) : Calls Tryz.prog 11 #[.pointer (some ⟨b, 0, none⟩)] W fun e W' => e = .returned (.int .i64 sy) ∧ W' = W := by
 have c3 := h.c3
 clear h
 go_enter Tryz.func11, Tryz.ntmps11
 go_wp2_with fail
 go_ret
 exact ⟨rfl, rfl⟩
theorem sync_any (h : Egs B W b mt T tc st dk sy) : Calls Tryz.prog 9 #[.pointer (some ⟨b, 0, none⟩)] W fun e W' => e = .returned (.tuple #[]) ∧ ETurn B b (FootE b mt T) W W' mt T tc st dk dk.size := by
 have c2 := h.c2
 have c3 := h.c3
 have z3 := h.fr 3
 have H := Lib.hid h
 clear h
 go_enter Tryz.func9, Tryz.ntmps9
 go_wp2_with fail
 go_end0
 exact ⟨rfl, (ETurn.same H.out (Below.refl _ _)).setSync _ (.inl rfl)⟩
end
open Go.Sort
def SeqG {α : Type} (n : Nat) (P : Program) (g : Nat) (lb : Array Value) (encs : α → Array Value) (Kp : World → World → Prop) (G : List α → α → Prop) (S : List α → Prop) (w : World) : Prop :=
 ∀ (l : Nat) (J : List α → World → Prop) (W : World), Below w.heap.size w W → w.heap.size + 2 ≤ W.heap.size → OwnFrom W.heap.size J →
  (∀ pre x W1, J pre W1 → G pre x → YieldAt Fence.wide (n - 1) P l (encs x) W1 fun e W' => e = .returned (.bool true) ∧ J (pre ++ [x]) W' ∧ Kp W1 W') →
  J [] W →
  CallsIn Fence.wide n P g (#[.func (.yield l) #[] #[]] ++ lb) W fun e W' => (∃ v, e = .returned v) ∧ ∃ xs, S xs ∧ J xs W'
theorem ownFrom_mono {β : Type} {A B : Nat} {I : β → World → Prop} (h : OwnFrom A I) (hab : A ≤ B) : OwnFrom B I := fun s W W' row hs hg hr => h s W W' row hs hg (fun r e => ⟨Nat.le_trans hab (hr r e).1, (hr r e).2⟩)
theorem grown_low {B k : Nat} {W W' : World} {row : Option Nat} {o : Obj} (hg : W.grownBy W' row) (hr : ∀ r, row = some r → B ≤ r) (hk : k < B) (h : W.heap[k]? = some o) : W'.heap[k]? = some o :=
 (hg.block k (Array.getElem?_eq_some_iff.1 h).1 (fun e => by have := hr k e.symm; omega)).trans h
theorem putObj_set {W : World} {l : Nat} {o o' : Obj} (h : W.heap[l]? = some o) : (W.putObj l o').heap[l]? = some o' := World.putObj_heap_same (Array.getElem?_eq_some_iff.1 h).1
theorem rangeG {α : Type} {n : Nat} {P : Program} {g : Operand} {ps : Array Tmp} {assign body : Code} {Q : Exit → Act → World → Prop} {a : Act} {w : World}
  (h1 : 1 ≤ n) {gf : Nat} {lb : Array Value} (hg : a.eval g = .func (.func gf) #[] lb) (eg : ∀ args w, (callFunc gf args).run P w = .ok (.enter gf args) w)
  {encs : α → Array Value} {Kp : World → World → Prop} {G : List α → α → Prop} {S : List α → Prop} {w0 : World} (hseq : SeqG (n - 1) P gf lb encs Kp G S w0) (hb0 : Below w0.heap.size w0 w)
  (hKt : ∀ {A B C : World}, Kp A B → Kp B C → Kp A C) (hKb : ∀ (W : World) (o o' : Obj), W.heap[w.heap.size + 1]? = some o → o.isCells = false → o.isWalk = false → Kp W (W.putObj (w.heap.size + 1) o')) (hps : ∀ x, (encs x).size = ps.size)
  (I : List α → World → Prop) (hI : OwnFrom w.heap.size I) (h0 : I [] w) (Ax : α → Act → World → Prop) (hAx : ∀ x a', OwnFrom w.heap.size (fun (_ : Unit) W => Ax x a' W))
  (hassign : ∀ (l : Nat) (pre : List α) (x : α) (W : World) (K : Act → World → Prop), G pre x → I pre W → (∀ a' W', KeepsFrom w.heap.size W W' → Kp W W' → I pre W' → Ax x a' W' → K a' W') →
   assign.wpIn (Fence.wide.inRound l) (n - 1 - 1) P (Exit.then K (fun _ _ _ => False)) { tmps := (ps.zip (encs x)).foldl (fun t (p, v) => t.setIfInBounds p v) a.tmps, defers := [] } W)
  (hbody : ∀ (l : Nat) (pre : List α) (x : α) (a' : Act) (W : World), I pre W → Ax x a' W → G pre x → body.wpIn (Fence.wide.inRound l) (n - 1 - 1) P (ownPostG w.heap.size Kp I (fun _ _ _ => False) (pre ++ [x]) W) a' W)
  (hdone : ∀ (D : Nat) (xs : List α) (W : World), w.heap.size ≤ D → S xs → I xs W → W.heap[D]? = some (.deferred (some [])) → Q .normal { a with defers := { target := .collected D, args := #[] } :: a.defers } W) :
  (Code.rangeFunc g ps assign body).wpIn Fence.wide n P Q a w := by
 refine wpIn_rangeFunc fun fn hfn => ?_
 have key : ∃ l D : Nat, l = w.heap.size + 1 ∧ D = w.heap.size := ⟨_, _, rfl, rfl⟩
 obtain ⟨l, D, hl, hD⟩ := key
 have hDl : D < l := by omega
 -- the record in its states
 obtain ⟨R, hR⟩ : ∃ R : LoopState → Obj, R = fun s => .loop { state := s, pending := none, fn, tmps := a.tmps, params := ps, assign, body, defers := w.heap.size } := ⟨_, rfl⟩
 have hnc : ∀ s, (R s).isCells = false ∧ (R s).isWalk = false := fun s => by rw [hR]; exact ⟨rfl, rfl⟩
 obtain ⟨A, hA⟩ : ∃ A : World, A = (w.alloc (.deferred (some []))).alloc (R .ready) := ⟨_, rfl⟩
 have sA : A.heap.size = l + 1 := by rw [hA]; simp; omega
 have bA : Below w.heap.size w A := by rw [hA]; exact ((Below.refl _ w).alloc (Nat.le_refl _) _).alloc (by simp) _
 have lA : A.heap[l]? = some (R .ready) := by rw [hA, hl]; have := World.alloc_heap_new (w.alloc (.deferred (some []))) (R .ready); rwa [World.size_alloc] at this
 have dA : A.heap[D]? = some (.deferred (some [])) := by rw [hA, hD, heap_alloc_old _ _ (by simp)]; exact World.alloc_heap_new w _
 have iA : I [] A := by rw [hA]; exact hI.alloc _ (hI.alloc _ h0)
 -- what the loop knows between rounds
 obtain ⟨J, hJ⟩ : ∃ J : List α → World → Prop, J = fun pre W => I pre W ∧ W.heap[l]? = some (R .ready) ∧ W.heap[D]? = some (.deferred (some [])) := ⟨_, rfl⟩
 have oJ : OwnFrom A.heap.size J := by
  rw [hJ]
  intro pre X Y row hs hg' hr
  exact ⟨hI pre X Y row hs.1 hg' (fun r e => ⟨by have := (hr r e).1; omega, (hr r e).2⟩), grown_low hg' (fun r e => (hr r e).1) (by omega) hs.2.1, grown_low hg' (fun r e => (hr r e).1) (by omega) hs.2.2⟩
 have hcall := hseq l J A (hb0.trans (bA.mono hb0.size)) (by have := hb0.size; omega) oJ (fun pre x W hj hlen => ?round) (by rw [hJ]; exact ⟨iA, lA, dA⟩)
 case round =>
  rw [hJ] at hj
  obtain ⟨hi, hrl, hrd⟩ := hj
  have hy := run_yield (P := P) (args := encs x) (show W.heap[l]? = some (.loop _) from by rw [hrl, hR]) (hps x)
  refine ⟨_, _, _, _, hy, roundIn_of_wpIn hfn (hassign l pre x W _ hlen hi ?_)⟩
  intro a' Wa ka kpa ia axa
  have ral := ka.same l _ (by omega) hrl (hnc _).1
  have rad := ka.same D _ (by omega) hrd rfl
  have hbr := run_beginRound (P := P) (show Wa.heap[l]? = some (.loop _) from by rw [ral, hR]) rfl
  refine ⟨_, hbr, ?_⟩
  have hbz : (Obj.loop { state := .busy, pending := none, fn := fn, tmps := a.tmps, params := ps, assign := assign, body := body, defers := w.heap.size }) = R .busy := by rw [hR]
  rw [hbz]
  have i2 : I pre (Wa.putObj l (R .busy)) := hI.putObj _ ia (by omega) ral (hnc _).1
  have l2 : (Wa.putObj l (R .busy)).heap[l]? = some (R .busy) := putObj_set ral
  have d2 : (Wa.putObj l (R .busy)).heap[D]? = some (.deferred (some [])) := (World.putObj_heap_other (by omega)).trans rad
  have k2 : Kp Wa (Wa.putObj l (R .busy)) := by subst hl; exact hKb Wa _ _ ral (hnc _).1 (hnc _).2
  have x2 : Ax x a' (Wa.putObj l (R .busy)) := (hAx x a').putObj (s := ()) _ axa (by omega) ral (hnc _).1
  refine wpIn_mono (hbody l pre x a' _ i2 x2 hlen) ?_
  rintro e a3 W3 hp
  cases e with
  | normal =>
   obtain ⟨hkf, hkp, hi3⟩ := hp
   have l3 := hkf.same l _ (by omega) l2 (hnc _).1
   have d3 := hkf.same D _ (by omega) d2 rfl
   have her := run_endRound (P := P) none (show W3.heap[l]? = some (.loop _) from by rw [l3, hR])
   have hrz : (Obj.loop { state := if (none : Option Code).isNone then .ready else .done, pending := none, fn := fn, tmps := a.tmps, params := ps, assign := assign, body := body, defers := w.heap.size }) = R .ready := by rw [hR]; rfl
   rw [hrz] at her
   refine ⟨_, _, her, rfl, ?_, hKt (hKt kpa (hKt k2 hkp)) (by subst hl; exact hKb W3 _ _ l3 (hnc _).1 (hnc _).2)⟩
   rw [hJ]
   exact ⟨hI.putObj _ hi3 (by omega) l3 (hnc _).1, putObj_set l3, (World.putObj_heap_other (by omega)).trans d3⟩
  | ret => exact hp.2.elim
  | exit id => exact hp.2.elim
  | goto t => exact hp.2.elim
  | panic ch => exact hp.elim
  | outgrown => exact hp.elim
 have henter := run_enterLoop_outer (P := P) (w := w) fn a.tmps ps assign body
 refine ⟨w.heap.size + 1, [{ target := .collected w.heap.size, args := #[] }], A, { target := .fn (.func gf) lb, args := #[.func (.yield (w.heap.size + 1)) #[] #[]] }, A, gf, #[.func (.yield (w.heap.size + 1)) #[] #[]] ++ lb, A, ?_, ?_, fun _ _ => trivial, ?_, fun _ => h1, ?_⟩
 ·rw [hA, hR]; exact henter
 ·simp only [resolve, hg]; simp [go_sem]
 ·simp [invoke, go_sem, eg]
 ·rw [← hl]
  refine hcall.mono ?_
  rintro e W2 ⟨⟨v, rfl⟩, xs, hS, hj⟩
  rw [hJ] at hj
  obtain ⟨hi, hrl, hrd⟩ := hj
  have hel := run_endLoop (P := P) (show W2.heap[l]? = some (.loop _) from by rw [hrl, hR]) (by simp)
  refine ⟨none, _, hel, ?_⟩
  have := hdone D xs (W2.putObj l (.loop { state := .exhausted, pending := none, fn := fn, tmps := a.tmps, params := ps, assign := assign, body := body, defers := w.heap.size })) (by omega) hS (hI.putObj _ hi (by omega) hrl (hnc _).1) ((World.putObj_heap_other (by omega)).trans hrd)
  rw [hD] at this
  exact this
structure KpO (n₀ c : Nat) (Ex : TypeId → Prop) (W W' : World) : Prop where
 low : Below n₀ W W'
 cells : ∀ (k : Nat) (cs : Array Value) (T : TypeId) (fr : Nat × Nat), W.heap[k]? = some (Obj.cells cs T fr) → ¬ Ex T → W'.heap[k]? = some (Obj.cells cs T fr)
 keeps : KeepsFrom c W W'
theorem KpO.t {n₀ c : Nat} {Ex : TypeId → Prop} {A B C : World} (h : KpO n₀ c Ex A B) (g : KpO n₀ c Ex B C) : KpO n₀ c Ex A C :=
 ⟨h.low.trans g.low, fun k cs T fr hk hT => g.cells k cs T fr (h.cells k cs T fr hk hT) hT, h.keeps.trans g.keeps⟩
theorem KpO.put {n₀ c l : Nat} {Ex : TypeId → Prop} {W : World} {o o' : Obj} (hl : n₀ ≤ l) (hc : l < c) (h : W.heap[l]? = some o) (ho : o.isCells = false) : KpO n₀ c Ex W (W.putObj l o') := by
 have key : ∀ k, k ≠ l → (W.putObj l o').heap[k]? = W.heap[k]? := fun k hk => World.putObj_heap_other hk
 refine ⟨⟨rfl, rfl, rfl, by simp, fun k hk => key k (by omega)⟩, fun k cs T fr hk hT => ?_, ⟨by simp, fun k o2 hk1 hk _ => (key k (by omega)).trans hk⟩⟩
 rw [key k (fun e => by rw [e, h] at hk; cases hk; cases ho)]
 exact hk
end Go.Proofs.YtilopjlcgmedgaaGreatDoor
namespace Go.Proofs.YtilopjlcgmedgaaGreatDoor
open Go.ChangeShapes Go.WideShapes Go.ChangeAt Go.RowKit Go.Deep Go.ChangeMaps Go.Shelf Go.Sort
set_option linter.unusedVariables false
set_option linter.unusedSimpArgs false
attribute [local go_sem] Oper.semAt_some
attribute [local go_sem, local simp] wide_fn
structure SBoxP (W : World) (b : Nat) (p : Value) (lo hi : Bs) (t : Int) (back : Bool) : Prop where
 c0 : Boxed W b 86 p
 c1 : Boxed W (b + 1) 9 (.string lo)
 c2 : Boxed W (b + 2) 9 (.string hi)
 c3 : Boxed W (b + 4) 4 (.bool back)
 c4 : Boxed W (b + 3) 3 (.int .i64 t)
theorem seekP (p : Option Addr) (lo hi : Bs) (t : Int) (back : Bool) (w : World) :
  Calls Tryz.prog 53 #[.pointer p, .string lo, .string hi, .int .i64 t, .bool back] w fun e w' => e = .returned (.func (.func 74) #[] #[.pointer (some ⟨w.heap.size, 0, none⟩), .pointer (some ⟨w.heap.size + 1, 0, none⟩), .pointer (some ⟨w.heap.size + 2, 0, none⟩), .pointer (some ⟨w.heap.size + 4, 0, none⟩), .pointer (some ⟨w.heap.size + 3, 0, none⟩)]) ∧ SBoxP w' w.heap.size (.pointer p) lo hi t back ∧ w'.heap.size = w.heap.size + 5 ∧ Below w.heap.size w w' ∧ KeepsOthers w w' := by
 go_enter Tryz.func53, Tryz.ntmps53
 go_wp2_with fail
 go_ret
 have b0 := Boxed.new w 86 (.pointer p)
 have b1 := Boxed.new (w.alloc (.cells #[.pointer p] 86)) 9 (.string lo)
 have b2 := Boxed.new ((w.alloc (.cells #[.pointer p] 86)).alloc (.cells #[.string lo] 9)) 9 (.string hi)
 have b3 := Boxed.new (((w.alloc (.cells #[.pointer p] 86)).alloc (.cells #[.string lo] 9)).alloc (.cells #[.string hi] 9)) 3 (.int .i64 t)
 have b4 := Boxed.new ((((w.alloc (.cells #[.pointer p] 86)).alloc (.cells #[.string lo] 9)).alloc (.cells #[.string hi] 9)).alloc (.cells #[.int .i64 t] 3)) 4 (.bool back)
 simp only [World.size_alloc] at b1 b2 b3 b4
 refine ⟨rfl, ⟨(((b0.alloc _).alloc _).alloc _).alloc _, ((b1.alloc _).alloc _).alloc _, (b2.alloc _).alloc _, b4, b3.alloc _⟩, by simp, ?_, ?_⟩
 ·exact (((((Below.refl _ w).alloc (Nat.le_refl _) _).alloc (by simp) _).alloc (by simp; omega) _).alloc (by simp; omega) _).alloc (by simp; omega) _
 ·exact ((((KeepsOthers.alloc _ _).trans (KeepsOthers.alloc _ _)).trans (KeepsOthers.alloc _ _)).trans (KeepsOthers.alloc _ _)).trans (KeepsOthers.alloc _ _)
theorem scan1_nil (m l b : Nat) (p1 p2 p3 p4 : Value) (J : List (Bs × Bs) → World → Prop) (hJ : ∀ pre W W', J pre W → Below W.heap.size W W' → J pre W') (W0 : World) (hc : W0.cell? ⟨b, 0, none⟩ = some (.pointer none)) (hj : J [] W0) :
  CallsIn Fence.wide m Tryz.prog 74 #[.func (.yield l) #[] #[], .pointer (some ⟨b, 0, none⟩), p1, p2, p3, p4] W0 fun e W' => (∃ v, e = .returned v) ∧ J [] W' := by
 refine callsIn_of_wp Tryz.func74 rfl trivial ?_ rfl
 simp only [Tryz.ntmps74, List.size_toArray, List.length_cons, List.length_nil, Nat.reduceAdd, Nat.reduceSub, Array.replicate_succ, Array.replicate_zero, List.push_toArray, List.append_toArray, List.nil_append, List.cons_append]
 have H := Lib.hid (And.intro hJ hj)
 clear hJ hj
 gi_wp2
 refine bodyPost_ret (results_none rfl _ _ _) rfl ⟨⟨_, rfl⟩, ?_⟩
 first
 | exact H.out.2
 | exact H.out.1 _ _ _ H.out.2 ((Below.refl _ _).alloc (Nat.le_refl _) _)
structure EBox (W : World) (b : Nat) (e : Value) (tb lo hi : Bs) (t : Int) (back : Bool) : Prop where
 c0 : W.cell? ⟨b, 0, none⟩ = some e
 c1 : W.cell? ⟨b + 1, 0, none⟩ = some (.string tb)
 c2 : W.cell? ⟨b + 2, 0, none⟩ = some (.string lo)
 c3 : W.cell? ⟨b + 3, 0, none⟩ = some (.string hi)
 c4 : W.cell? ⟨b + 4, 0, none⟩ = some (.int .i64 t)
 c5 : W.cell? ⟨b + 5, 0, none⟩ = some (.bool back)
theorem EBox.below {W W' : World} {b : Nat} {e : Value} {tb lo hi : Bs} {t : Int} {back : Bool} (h : EBox W b e tb lo hi t back) (hb : Below W.heap.size W W') (hl : b + 6 ≤ W.heap.size) : EBox W' b e tb lo hi t back :=
 ⟨(hb.cell (p := ⟨b, 0, none⟩) (by show b < _; omega)).trans h.c0, (hb.cell (p := ⟨b + 1, 0, none⟩) (by show b + 1 < _; omega)).trans h.c1, (hb.cell (p := ⟨b + 2, 0, none⟩) (by show b + 2 < _; omega)).trans h.c2, (hb.cell (p := ⟨b + 3, 0, none⟩) (by show b + 3 < _; omega)).trans h.c3, (hb.cell (p := ⟨b + 4, 0, none⟩) (by show b + 4 < _; omega)).trans h.c4, (hb.cell (p := ⟨b + 5, 0, none⟩) (by show b + 5 < _; omega)).trans h.c5⟩
def scanO (o : Option Tb) (lo hi : Bs) (t : Int) (back : Bool) : List (Bs × Bs) := match o with
 | some u => scanK u.E t (scanT u.E lo hi back)
 | none => []
def ExOK (Ex : TypeId → Prop) : Prop := ¬ Ex 9 ∧ ¬ Ex 86 ∧ ¬ Ex 3 ∧ ¬ Ex 4 ∧ ¬ Ex 67
structure Six (W : World) (b y : Nat) (p f : Value) (lo hi : Bs) (t : Int) (back : Bool) : Prop where
 s : SBoxP W b p lo hi t back
 y : Boxed W y 67 f
theorem boxed_next {W W' : World} {b : Nat} {T : TypeId} {v : Value} {Ex : TypeId → Prop} {n c : Nat} (h : Boxed W b T v) (hk : KpO n c Ex W W') (hT : ¬ Ex T) : Boxed W' b T v := hk.cells b _ T (0, 0) h hT
theorem Six.next {W W' : World} {b y : Nat} {p f : Value} {lo hi : Bs} {t : Int} {back : Bool} {Ex : TypeId → Prop} {n c : Nat} (h : Six W b y p f lo hi t back) (hk : KpO n c Ex W W') (hE : ExOK Ex) : Six W' b y p f lo hi t back :=
 ⟨⟨boxed_next h.s.c0 hk hE.2.1, boxed_next h.s.c1 hk hE.1, boxed_next h.s.c2 hk hE.1, boxed_next h.s.c3 hk hE.2.2.2.1, boxed_next h.s.c4 hk hE.2.2.1⟩, boxed_next h.y hk hE.2.2.2.2⟩
theorem boxed_grown {W W' : World} {row : Option Nat} {b : Nat} {T : TypeId} {v : Value} (h : Boxed W b T v) (hg : W.grownBy W' row) (hr : ∀ r, row = some r → ∃ o : Obj, W.heap[r]? = some o ∧ o.isCells = false) : Boxed W' b T v :=
 (grownBy_keeps_cells hg hr h rfl).trans h
theorem Six.own (B b y : Nat) (p f : Value) (lo hi : Bs) (t : Int) (back : Bool) : OwnFrom B (fun (_ : List (Bs × Bs)) W => Six W b y p f lo hi t back) := fun _ W W' row h hg hr =>
 have hr' : ∀ r, row = some r → ∃ o : Obj, W.heap[r]? = some o ∧ o.isCells = false := fun r e => (hr r e).2
 ⟨⟨boxed_grown h.s.c0 hg hr', boxed_grown h.s.c1 hg hr', boxed_grown h.s.c2 hg hr', boxed_grown h.s.c3 hg hr', boxed_grown h.s.c4 hg hr'⟩, boxed_grown h.y hg hr'⟩
theorem Six.kps {W W' : World} {b y : Nat} {p f : Value} {lo hi : Bs} {t : Int} {back : Bool} {Ex : TypeId → Prop} {n c : Nat} (h : Six W b y p f lo hi t back) (hk : KpO n c Ex W W') (hE : ExOK Ex) : KpS n b (b + 5) W W' := by
 have h' := h.next hk hE
 refine ⟨hk.low, fun k cs fr hc => hk.cells k cs 9 fr hc hE.1, fun k h1 h2 h3 => ?_⟩
 rcases (show k = b ∨ k = b + 1 ∨ k = b + 2 ∨ k = b + 3 ∨ k = b + 4 by omega) with e | e | e | e | e
 all_goals rw [e]
 ·exact (show W'.heap[b]? = _ from h'.s.c0).trans (show W.heap[b]? = _ from h.s.c0).symm
 ·exact (show W'.heap[b + 1]? = _ from h'.s.c1).trans (show W.heap[b + 1]? = _ from h.s.c1).symm
 ·exact (show W'.heap[b + 2]? = _ from h'.s.c2).trans (show W.heap[b + 2]? = _ from h.s.c2).symm
 ·exact (show W'.heap[b + 3]? = _ from h'.s.c4).trans (show W.heap[b + 3]? = _ from h.s.c4).symm
 ·exact (show W'.heap[b + 4]? = _ from h'.s.c3).trans (show W.heap[b + 4]? = _ from h.s.c3).symm
theorem tbP_ptr (o : Option Tb) : ∃ p, tbP o = .pointer p := by
 cases o with
 | none => exact ⟨_, rfl⟩
 | some t => exact ⟨_, rfl⟩
end Go.Proofs.YtilopjlcgmedgaaGreatDoor
namespace Go.Proofs.YtilopjlcgmedgaaGreatDoor
open Go.ChangeShapes Go.WideShapes Go.ChangeAt Go.RowKit Go.ChangeMaps Go.Joins Go.Deep
set_option linter.unusedVariables false
set_option linter.unusedSimpArgs false
def GoodC (P : Program) (W : World) : Nat → TypeId → List Value → Prop
 | 0, _, _ => False
 | n + 1, t, cs => match P.underlying t with
  | some .bool => ∃ b, cs = [.bool b]
  | some (.int k) => ∃ m, cs = [.int k m] ∧ (Lit.int k m).wf = true
  | some .string => ∃ s : ByteArray, cs = [.string s] ∧ s.size ≤ maxLen
  | some (.slice e) => ∃ a len cap, cs = [.slice a len cap] ∧ len ≤ cap ∧ (cap ≤ maxLen ∧ len * P.bytesOf e ≤ 140737488355328 ∧ (a = none → cap = 0)) ∧ (0 < len → ∃ B o, a = some ⟨B, o, none⟩ ∧ B < W.heap.size ∧ ∀ j, j < len → ∃ ds, ds.length = P.cellsOf e ∧ W.rangeAt B (o + j * P.cellsOf e) ds ∧ GoodC P W n e ds)
  | some (.struct fs) => cs.length = P.cellsOf t ∧ ∀ (i : Nat) (f : Field), fs[i]? = some f → GoodC P W n f.type ((cs.drop f.offset).take (P.cellsOf f.type))
  | _ => False
def EqC (P : Program) (W W' : World) (F F' : Nat → Prop) : Nat → TypeId → List Value → List Value → Prop
 | 0, _, _, _ => False
 | n + 1, t, cs, ds => match P.underlying t with
  | some .bool => ∃ b, cs = [.bool b] ∧ ds = [.bool b]
  | some (.int k) => ∃ m, cs = [.int k m] ∧ ds = [.int k m] ∧ (Lit.int k m).wf = true
  | some .string => ∃ s : ByteArray, cs = [.string s] ∧ ds = [.string s] ∧ s.size ≤ maxLen
  | some (.slice e) => ∃ a len cap a' cap', cs = [.slice a len cap] ∧ ds = [.slice a' len cap'] ∧ len ≤ cap ∧ (cap ≤ maxLen ∧ len * P.bytesOf e ≤ 140737488355328 ∧ (a = none → cap = 0)) ∧ len ≤ cap' ∧ (cap' ≤ maxLen ∧ len * P.bytesOf e ≤ 140737488355328 ∧ (a' = none → cap' = 0)) ∧ (0 < len → ∃ B o B' o', a = some ⟨B, o, none⟩ ∧ a' = some ⟨B', o', none⟩ ∧ (F B ∧ B < W.heap.size) ∧ (F' B' ∧ B' < W'.heap.size) ∧ ∀ j, j < len → ∃ xs ys, xs.length = P.cellsOf e ∧ ys.length = P.cellsOf e ∧ W.rangeAt B (o + j * P.cellsOf e) xs ∧ W'.rangeAt B' (o' + j * P.cellsOf e) ys ∧ EqC P W W' F F' n e xs ys)
  | some (.struct fs) => cs.length = P.cellsOf t ∧ ds.length = P.cellsOf t ∧ ∀ (i : Nat) (f : Field), fs[i]? = some f → EqC P W W' F F' n f.type ((cs.drop f.offset).take (P.cellsOf f.type)) ((ds.drop f.offset).take (P.cellsOf f.type))
  | _ => False
theorem addr_plain' {w : World} {a : Addr} {v : Value} (h : w.cell? (a.add 0) = some v) : ∃ B o, a = ⟨B, o, none⟩ ∧ B < w.heap.size := by
 have e : a.add 0 = a := by simp [Addr.add]
 rw [e] at h
 obtain ⟨B, o, s⟩ := a
 cases s with
 | none =>
  refine ⟨B, o, rfl, ?_⟩
  rcases Nat.lt_or_ge B w.heap.size with h1 | h1
  ·exact h1
  ·simp [World.cell?, Array.getElem?_eq_none h1] at h
 | some s =>
  unfold World.cell? at h
  split at h
  ·simp at h
  ·simp at h
theorem weightsAll_mem {H : Type} {P : Program} {e : TypeId} : ∀ (l : List (DataW H)), (DataW.weightsAll P e l).all (· ≤ reachBytes) = true → ∀ d ∈ l, (d.weights P e).all (· ≤ reachBytes) = true
 | [], _, d, h => by cases h
 | a :: l, hw, d, h => by
  simp only [DataW.weightsAll, List.all_append, Bool.and_eq_true] at hw
  rcases List.mem_cons.1 h with rfl | h
  ·exact hw.1
  ·exact weightsAll_mem l hw.2 d h
theorem goodC_trod {H : Type} {enc : TypeId × Value → H} {P : Program} {w : World} {spare : Nat → Bool} {held : Bool} (ok : TypeId → Prop) (hok : ∀ t, ok t → match P.underlying t with
  | some .bool | some (.int _) | some .string => True
  | some (.slice e) => 0 < P.cellsOf e ∧ ok e
  | some (.struct fs) => ∀ (i : Nat) (f : Field), fs[i]? = some f → ok f.type
  | _ => False) : ∀ (fuel : Nat) (t : TypeId) (cs : List Value) (x : DataW H × List MemPlace), ok t → DataW.trod enc P w 0 spare held fuel t cs = some x → (x.1.weights P t).all (· ≤ reachBytes) = true → GoodC P w fuel t cs
 | 0, t, cs, x, _, h, _ => by simp [DataW.trod] at h
 | n + 1, t, cs, x, ht, h, hw => by
  have h1 := hok t ht
  unfold GoodC
  split at h1
  ·rename_i hu
   try simp only [hu]
   obtain ⟨b, e, _⟩ := DataW.trod_bool hu h
   exact ⟨b, e⟩
  ·rename_i k hu
   try simp only [hu]
   obtain ⟨m, e, _, hw⟩ := DataW.trod_int hu h
   exact ⟨m, e, hw⟩
  ·rename_i hu
   try simp only [hu]
   obtain ⟨s, e, _, hs⟩ := DataW.trod_string hu h
   exact ⟨s, e, hs⟩
  ·rename_i e hu
   try simp only [hu]
   rcases DataW.trod_slice hu h with ⟨hcs, _⟩ | ⟨a, len, cap, el, re, n', hn, hcs, hx, _, hl, hm, hel, hi, _⟩
   ·exact ⟨none, 0, 0, hcs, Nat.le_refl _, ⟨by unfold maxLen; omega, by omega, fun _ => rfl⟩, fun h0 => absurd h0 (Nat.lt_irrefl _)⟩
   ·have hn' : n' = n := by omega
    subst hn'
    rw [hx] at hw
    simp only [DataW.weights, hu, List.all_cons, List.all_append, Bool.and_eq_true, decide_eq_true_eq, List.length_map] at hw
    obtain ⟨hw1, hw2, _⟩ := hw
    refine ⟨some a, len, cap, hcs, hl, ⟨hm, ?_, fun h0 => by cases h0⟩, fun h0 => ?_⟩
    ·have h5 : len * P.bytesOf e ≤ (el.length + re.length) * P.bytesOf e := Nat.mul_le_mul_right _ (by omega)
     unfold reachBytes at hw1
     omega
    have key : ∀ i, i < len → ∃ ds y, w.cells? 0 (a.add (i * P.cellsOf e)) (P.cellsOf e) = some ds ∧ DataW.trod enc P w 0 spare held n' e ds = some y ∧ (y.1.weights P e).all (· ≤ reachBytes) = true := fun i hil => by
     have := hi i hil
     rw [List.getElem?_eq_getElem (by omega)] at this
     obtain ⟨ds, g1, g2⟩ := Option.bind_eq_some_iff.1 this
     exact ⟨ds, _, g1, g2, weightsAll_mem (el.map (·.1)) hw2 _ (List.mem_map_of_mem (List.getElem_mem _))⟩
    obtain ⟨ds0, y0, g1, g2, _⟩ := key 0 h0
    obtain ⟨_, hcl, hat⟩ := World.cells?_some g1
    have h3 := hat 0 h1.1
    have ea : (a.add (0 * P.cellsOf e)).add 0 = a.add 0 := by simp [Addr.add]
    rw [ea] at h3
    have hds0 : ds0[0]? ≠ none := fun e0 => by
     have := List.getElem?_eq_none_iff.1 e0
     omega
    obtain ⟨u, hu0⟩ := Option.ne_none_iff_exists'.1 hds0
    rw [hu0] at h3
    obtain ⟨B, o, rfl, hB⟩ := addr_plain' h3
    refine ⟨B, o, rfl, hB, fun j hjl => ?_⟩
    obtain ⟨ds, y, k1, k2, k3⟩ := key j hjl
    obtain ⟨_, hcl2, hat2⟩ := World.cells?_some k1
    refine ⟨ds, hcl2, fun i v hv => ?_, goodC_trod ok hok n' e ds y h1.2 k2 k3⟩
    have hil : i < P.cellsOf e := by have := (List.getElem?_eq_some_iff.1 hv).1; omega
    have h4 := hat2 i hil
    have e4 : ((⟨B, o, none⟩ : Addr).add (j * P.cellsOf e)).add i = ⟨B, o + j * P.cellsOf e + i, none⟩ := by
     generalize j * P.cellsOf e = q
     by_cases h1 : i = 0 <;> by_cases h2 : q = 0 <;> simp [Addr.add, h1, h2, Nat.add_assoc]
    rw [e4] at h4
    rw [h4, hv]
  ·rename_i fs hu
   try simp only [hu]
   obtain ⟨xs, n', hn, hx, hlen, hxs, hf⟩ := DataW.trod_struct hu h
   rw [hx] at hw
   simp only [DataW.weights, hu] at hw
   have hn' : n' = n := by omega
   subst hn'
   refine ⟨hlen, fun i f hfi => ?_⟩
   have g1 := hf i f hfi
   have hil : i < xs.length := by rw [hxs]; exact (Array.getElem?_eq_some_iff.1 hfi).1
   rw [List.getElem?_eq_getElem hil] at g1
   refine goodC_trod ok hok n' _ _ _ (h1 i f hfi) g1 (List.all_eq_true.2 fun q hq => List.all_eq_true.1 hw q ?_)
   exact DataW.weights_mem_each (j := i) (by rw [List.getElem?_map, Array.getElem?_toList, hfi]; rfl) (by rw [List.getElem?_map, List.getElem?_eq_getElem hil]; rfl) q hq
  ·exact h1.elim
def closedB (P : Program) (L : List TypeId) : Bool := L.all fun t => match P.underlying t with
 | some .bool | some (.int _) | some .string => true
 | some (.slice e) => decide (0 < P.cellsOf e) && L.contains e
 | some (.struct fs) => fs.toList.all fun f => L.contains f.type
 | _ => false
theorem goodC_of {H : Type} {enc : TypeId × Value → H} {P : Program} {w : World} {spare : Nat → Bool} {held : Bool} (L : List TypeId) (hL : closedB P L = true) (fuel : Nat) (t : TypeId) (ht : L.contains t = true) (cs : List Value) (x : DataW H × List MemPlace) (h : DataW.trod enc P w 0 spare held fuel t cs = some x) (hw : (x.1.weights P t).all (· ≤ reachBytes) = true) : GoodC P w fuel t cs := by
 refine goodC_trod (fun t => L.contains t = true) (fun t ht => ?_) fuel t cs x ht h hw
 have hm := (List.all_eq_true.1 hL) t (by simpa using ht)
 split at hm
 ·rename_i hu; try simp only [hu]
 ·rename_i k hu; try simp only [hu]
 ·rename_i hu; try simp only [hu]
 ·rename_i e hu
  try simp only [hu]
  simp only [Bool.and_eq_true, decide_eq_true_eq] at hm
  exact hm
 ·rename_i fs hu
  try simp only [hu]
  intro i f hf
  refine (List.all_eq_true.1 hm) f ?_
  exact Array.mem_toList_iff.2 (Array.mem_of_getElem? hf)
 ·cases hm
def part_ (cs : List Value) (p q : Nat) : List Value := (cs.drop p).take q
def spl (cs : List Value) (p : Nat) (ys : List Value) : List Value := cs.take p ++ ys ++ cs.drop (p + ys.length)
theorem spl_getElem {cs ys : List Value} {p : Nat} (h : p + ys.length ≤ cs.length) (j : Nat) : (spl cs p ys)[j]? = if p ≤ j ∧ j < p + ys.length then ys[j - p]? else cs[j]? := by
 unfold spl
 have hl : (cs.take p).length = p := by rw [List.length_take]; omega
 rw [List.append_assoc]
 by_cases h1 : j < p
 ·rw [List.getElem?_append_left (by omega), List.getElem?_take, if_pos h1, if_neg (by omega)]
 ·rw [List.getElem?_append_right (by omega), hl]
  by_cases h2 : j < p + ys.length
  ·rw [List.getElem?_append_left (by omega), if_pos ⟨by omega, h2⟩]
  ·rw [List.getElem?_append_right (by omega), List.getElem?_drop, if_neg (by omega)]
   congr 1
   omega
theorem goodC_struct {P : Program} {W : World} {n : Nat} {t : TypeId} {fs : Array Field} {cs : List Value} (hu : P.underlying t = some (.struct fs)) : GoodC P W (n + 1) t cs ↔ cs.length = P.cellsOf t ∧ ∀ (i : Nat) (f : Field), fs[i]? = some f → GoodC P W n f.type (part_ cs f.offset (P.cellsOf f.type)) := by
 conv => lhs; unfold GoodC
 simp only [hu]
 exact Iff.rfl
set_option maxRecDepth 100000
theorem Box.there {W : World} {b : Nat} {cs : List Value} (h : Box W b cs) (o n : Nat) (hl : o + n ≤ cs.length) : W.there b o n := fun j hj =>
 ⟨by rw [h.cell (o + j) cs[o + j] (List.getElem?_eq_getElem (by omega))]; rfl, h.free _⟩
structure Cpg (W0 W : World) (n : Nat) (T : TypeId) (k : Nat) (C : Nat) (X : Nat → List Value) (len q : Nat) (Wr : World) : Prop where
 low : Below W.heap.size W Wr
 eqC : C = W.heap.size
 row : ∃ cs, Box Wr C cs ∧ cs.length = len * k ∧ ∀ j, j < q → EqC Tryz.prog Wr Wr (fun i => i < W0.heap.size) (fun i => W.heap.size < i) n T (X j) (part_ cs (j * k) k)
end Go.Proofs.YtilopjlcgmedgaaGreatDoor
namespace Go.Proofs.YtilopjlcgmedgaaGreatDoor
open Go.ChangeShapes Go.WideShapes Go.ChangeAt Go.RowKit Go.ChangeMaps Go.Joins Go.Deep
set_option linter.unusedVariables false
set_option linter.unusedSimpArgs false
set_option maxRecDepth 100000
attribute [local go_sem] Oper.semAt_some
end Go.Proofs.YtilopjlcgmedgaaGreatDoor
namespace Go.Proofs.YtilopjlcgmedgaaGreatDoor
open Go.ChangeShapes Go.WideShapes Go.ChangeAt Go.RowKit Go.ChangeMaps Go.Joins Go.Deep
set_option linter.unusedVariables false
set_option linter.unusedSimpArgs false
set_option maxRecDepth 100000
attribute [local go_sem] Oper.semAt_some
end Go.Proofs.YtilopjlcgmedgaaGreatDoor
namespace Go.Proofs.YtilopjlcgmedgaaGreatDoor
open Go.ChangeShapes Go.WideShapes Go.ChangeAt Go.RowKit Go.ChangeMaps Go.Joins Go.Deep
set_option linter.unusedVariables false
set_option linter.unusedSimpArgs false
set_option maxRecDepth 100000
attribute [local go_sem] Oper.semAt_some
end Go.Proofs.YtilopjlcgmedgaaGreatDoor
namespace Go.Proofs.YtilopjlcgmedgaaGreatDoor
open Go.ChangeShapes Go.WideShapes Go.ChangeAt Go.RowKit Go.ChangeMaps Go.Joins Go.Deep
set_option linter.unusedVariables false
set_option linter.unusedSimpArgs false
set_option maxRecDepth 100000
section
variable {P : Program} {w : World} {o : Oper} {ρ : Operand → Value}
theorem run_program_ (P : Program) (w : World) : (program).run P w = .ok P w := rfl
theorem ex_box (T : TypeId) (x : Operand) (cs : List Value) (ho : o.op = .box T x) (hx : ρ x = .agg cs.toArray) : (execOp ρ o).run P w = .ok (.value (.pointer (some ⟨w.heap.size, 0, none⟩))) (w.alloc (.cells cs.toArray T)) := by
 unfold execOp
 simp only [ho, hx, Instr.box, newVar, newRow, run_newObj_alloc, Sem.run_bind, Sem.run_pure, Result.andThen_ok, Value.cells]
theorem ex_alloc (T : TypeId) (i : TypeInfo) (zs : List Value) (ho : o.op = .alloc T) (hi : P.info? T = some i) (hz : i.zero = some (.agg zs.toArray)) : (execOp ρ o).run P w = .ok (.value (.pointer (some ⟨w.heap.size, 0, none⟩))) (w.alloc (.cells zs.toArray T)) := by
 unfold execOp
 simp only [ho, Instr.alloc, zeroValue, typeInfo, hi, hz, newVar, newRow, run_newObj_alloc, Sem.run_bind, Sem.run_pure, Result.andThen_ok, Value.cells, run_program_]
theorem ex_field (T : TypeId) (x : Operand) (j b p : Nat) (fs : Array Field) (f : Field) (ho : o.op = .fieldAddr T x j) (hx : ρ x = .pointer (some ⟨b, p, none⟩)) (hu : P.underlying T = some (.struct fs)) (hf : fs[j]? = some f) (hs : ((P.info? f.type).map (·.size)).getD 0 ≠ 0) : (execOp ρ o).run P w = .ok (.value (.pointer (some ⟨b, p + f.offset, none⟩))) w := by
 unfold execOp
 cases hq : P.info? f.type with
 | none => simp [hq] at hs
 | some i =>
  have h0 : i.size ≠ 0 := by simpa [hq] using hs
  simp only [ho, hx, Instr.fieldAt, Sem.run_bind, run_underlying hu w, Result.andThen_ok, hf, Instr.sureAddr, Sem.run_pure, fieldPlace, sizeOf, typeInfo, hq, run_program_, if_neg h0, Addr.add_mid]
theorem ex_load_row (T : TypeId) (x : Operand) (b p : Nat) (cs : List Value) (d : TypeDesc) (ho : o.op = .load T x) (hx : ρ x = .pointer (some ⟨b, p, none⟩)) (hc : w.rangeAt b p cs) (hu : P.underlying T = some d) (hd : d.isRow = true) (hi : (P.info? T).map (·.size) = some cs.length) : (execOp ρ o).run P w = .ok (.value (.agg cs.toArray)) w := by
 unfold execOp
 simp only [ho, hx, Instr.loadAt, Instr.sureAddr, Sem.run_bind, Sem.run_pure, Result.andThen_ok, run_loadVar_mid w b p T cs d hc hu hd hi]
theorem run_load_cell {a : Addr} {v : Value} (h : w.cell? a = some v) : (load a).run P w = .ok v w := by simp [go_sem, h]
theorem ex_load_cell (T : TypeId) (x : Operand) (b p : Nat) (v : Value) (d : TypeDesc) (ho : o.op = .load T x) (hx : ρ x = .pointer (some ⟨b, p, none⟩)) (hc : w.cell? ⟨b, p, none⟩ = some v) (hu : P.underlying T = some d) (hd : d.isRow = false) : (execOp ρ o).run P w = .ok (.value v) w := by
 unfold execOp
 have hagg : (isAgg T).run P w = .ok false w := by
  unfold isAgg
  rw [Sem.run_bind, run_underlying hu w]
  cases d <;> simp_all
 simp only [ho, hx, Instr.loadAt, Instr.sureAddr, Sem.run_bind, Sem.run_pure, Result.andThen_ok, loadVar, hagg]
 rw [if_neg (by decide), run_load_cell hc]
 rfl
theorem ex_store_row (T : TypeId) (x y : Operand) (b p : Nat) (cs : List Value) (ho : o.op = .store T x y) (hx : ρ x = .pointer (some ⟨b, p, none⟩)) (hy : ρ y = .agg cs.toArray) (ht : w.there b p cs.length) (hi : (P.info? T).map (·.size) = some cs.length) (h1 : ∀ v ∈ cs, v.oneCell' = true) : (execOp ρ o).run P w = .ok .skip (w.setCells b p cs) := by
 unfold execOp
 have := run_storeVar_mid (P := P) w b p T cs.toArray (by simpa using ht) (by simpa using hi) (all_oneCell_toArray h1)
 simp only [ho, hx, hy, Instr.storeAt, Instr.sureAddr, Sem.run_bind, Sem.run_pure, Result.andThen_ok, this]
theorem cells_one {v : Value} (h : v.oneCell' = true) : v.cells = #[v] := by
 cases v <;> simp_all [Value.oneCell', Value.cells]
theorem ex_store_cell (T : TypeId) (x y : Operand) (b p : Nat) (v : Value) (ho : o.op = .store T x y) (hx : ρ x = .pointer (some ⟨b, p, none⟩)) (hy : ρ y = v) (ht : w.there b p 1) (hi : (P.info? T).map (·.size) = some 1) (h1 : v.oneCell' = true) : (execOp ρ o).run P w = .ok .skip (w.setCells b p [v]) := by
 unfold execOp
 have hk : (storeCells ⟨b, p, none⟩ [v]).run P w = .ok () (w.setCells b p [v]) := by
  have := run_storeCells_cells (P := P) b p [v] 0 w (fun j hj => by simpa using (ht j (by simpa using hj)).1) (fun j hj => by simpa using (ht j (by simpa using hj)).2) (fun u hu => by
   have : u = v := by simpa using hu
   rw [this]; exact h1)
  simpa using this
 cases hq : P.info? T with
 | none => simp [hq] at hi
 | some i =>
  have hs : i.size = 1 := by simpa [hq] using hi
  simp only [ho, hx, hy, Instr.storeAt, Instr.sureAddr, Sem.run_bind, Sem.run_pure, Result.andThen_ok, storeVar, sizeOf, typeInfo, hq, run_program_, cells_one h1, hs]
  rw [if_neg (by simp), hk]
  rfl
theorem wpList_ok {ops : Array Oper} {rest : List Oper} {a : Act} {w w' : World} {Q : Exit → Act → World → Prop} {v : Value} (hg : o.guard = none) (hrun : (execOp a.eval o).run P w = .ok (.value v) w')
  (h : wpList P ops Q rest (a.put o.dst v) w') : wpList P ops Q (o :: rest) a w := by
 refine wpList_plain hg fun K hK => ?_
 unfold Oper.wp
 rw [hrun, Oper.upon_value]
 exact hK _ _ h
theorem wpList_done {ops : Array Oper} {rest : List Oper} {a : Act} {w w' : World} {Q : Exit → Act → World → Prop} (hg : o.guard = none) (hd : o.dst = none) (hrun : (execOp a.eval o).run P w = .ok .skip w')
  (h : wpList P ops Q rest a w') : wpList P ops Q (o :: rest) a w := by
 refine wpList_plain hg fun K hK => ?_
 unfold Oper.wp
 rw [hrun, Oper.upon_skip, hd]
 exact hK _ _ h
def FnOK (P : Program) (g : FuncId) : Prop := ∃ fn, P.funcs[g]? = some fn ∧ (fn.name == "runtime.NumGoroutine") = false ∧ fn.body.isNone = false
theorem ex_call {g : FuncId} {xs : Array Operand} {ts : Array TypeId} (hF : FnOK P g) (hρ : ρ (.func g) = .func (.func g) #[] #[]) (ho : o.op = .call { callee := .value (.func g), args := xs, argTypes := ts }) : (execOp ρ o).run P w = .ok (.enter g (xs.map ρ)) w := by
 obtain ⟨fn, h1, h2, h3⟩ := hF
 unfold execOp
 simp only [ho, resolve, hρ, Deferred.ofValue, Sem.run_bind, Sem.run_pure, Result.andThen_ok, invoke, callFunc, run_program_, h1, h2, h3, Array.append_empty, Array.empty_append, if_neg]
 rfl
theorem wpList_calls {ops : Array Oper} {rest : List Oper} {a : Act} {Q : Exit → Act → World → Prop} {g : FuncId} {xs : Array Operand} {ts : Array TypeId} {R : Ending → World → Prop} (hF : FnOK P g) (hg : o.guard = none) (ho : o.op = .call { callee := .value (.func g), args := xs, argTypes := ts }) (hc : Calls P g (xs.map a.eval) w R)
  (hR : ∀ e w', R e w' → ∃ v, e = .returned v ∧ wpList P ops Q rest (a.put o.dst v) w') : wpList P ops Q (o :: rest) a w := by
 refine wpList_plain hg fun K hK => ?_
 unfold Oper.wp
 rw [ex_call (w := w) hF rfl ho, Oper.upon_enter]
 refine hc.mono ?_
 intro e w' hr
 obtain ⟨v, rfl, h⟩ := hR e w' hr
 exact hK _ _ h
end
abbrev VEnv := List (Nat × Value)
structure FrV (N : Nat) (env : VEnv) (a : Act) : Prop where
 size : a.tmps.size = N
 defers : a.defers = []
 rel : ∀ t v, env.lookup t = some v → a.eval (.tmp t) = v
theorem FrV.put {N : Nat} {env : VEnv} {a : Act} (h : FrV N env a) {d : Nat} (hd : d < N) (v : Value) : FrV N ((d, v) :: env) (a.put (some d) v) := by
 refine ⟨by simp [Act.put, h.size], h.defers, fun t u hl => ?_⟩
 by_cases e : t = d
 ·subst e
  simp [List.lookup] at hl
  subst hl
  simp [Act.put, Act.eval, Array.getElem?_setIfInBounds, h.size, hd]
 ·have hb : (t == d) = false := by simpa using e
  simp only [List.lookup, hb] at hl
  rw [← h.rel t u hl]
  have hne : ¬ d = t := fun e' => e e'.symm
  simp [Act.put, Act.eval, Array.getElem?_setIfInBounds, hne]
theorem FrV.sub {N : Nat} {env : VEnv} {a : Act} (h : FrV N env a) : ∀ {env' : VEnv}, (∀ p ∈ env', env.lookup p.1 = some p.2) → FrV N env' a := fun {env'} hs => by
 refine ⟨h.size, h.defers, fun t v hl => h.rel t v ?_⟩
 have : (t, v) ∈ env' := by
  clear hs
  induction env' with
  | nil => cases hl
  | cons p env' ih =>
   obtain ⟨k, u⟩ := p
   by_cases e : t = k
   ·subst e
    simp [List.lookup] at hl
    subst hl
    exact List.mem_cons_self
   ·have hb : (t == k) = false := by simpa using e
    simp only [List.lookup, hb] at hl
    exact List.mem_cons_of_mem _ (ih hl)
 exact hs _ this
theorem sub_nil {env : VEnv} : ∀ p ∈ ([] : VEnv), env.lookup p.1 = some p.2 := fun p h => by cases h
theorem sub_cons {env env' : VEnv} {t : Nat} {v : Value} (h : env.lookup t = some v) (hs : ∀ p ∈ env', env.lookup p.1 = some p.2) : ∀ p ∈ (t, v) :: env', env.lookup p.1 = some p.2 := fun p hp => by
 rcases List.mem_cons.1 hp with rfl | hp
 ·exact h
 ·exact hs p hp
structure Base where
 w : World
 bs : List (World × (Nat → Prop))
structure Bx (b : Base) (l : List (Nat × List Value)) (W : World) : Prop where
 box : ∀ x ∈ l, Box W x.1 x.2
 low : Below b.w.heap.size b.w W
 ge : ∀ x ∈ l, b.w.heap.size ≤ x.1
 nd : ∀ (i j : Nat) (x y : Nat × List Value), l[i]? = some x → l[j]? = some y → x.1 = y.1 → i = j
 bas : ∀ p ∈ b.bs, p.1.heap.size ≤ W.heap.size ∧ ∀ i, i < p.1.heap.size → p.2 i → W.heap[i]? = p.1.heap[i]?
 bge : ∀ p ∈ b.bs, ∀ x ∈ l, x.1 < p.1.heap.size → ¬ p.2 x.1
theorem Bx.start (w : World) : Bx ⟨w, []⟩ [] w := ⟨fun x h => (by cases h), Below.refl _ _, fun x h => (by cases h), fun i j x y h => (by simp at h), fun p h => (by cases h), fun p h => (by cases h)⟩
theorem Bx.keep {b : Base} {W W' : World} {l : List (Nat × List Value)} (h : Bx b l W) (hb : Below W.heap.size W W') : Bx b l W' := ⟨fun x hx => (h.box x hx).keep hb, h.low.trans (hb.mono h.low.size), h.ge, h.nd, fun p hp => ⟨Nat.le_trans (h.bas p hp).1 hb.size, fun i hi hpi => (hb.block i (Nat.lt_of_lt_of_le hi (h.bas p hp).1)).trans ((h.bas p hp).2 i hi hpi)⟩, h.bge⟩
theorem Bx.drew {b : Base} {W : World} {l : List (Nat × List Value)} (h : Bx b l W) : Bx b l W.drew := h.keep (Below.refl _ _).drew
theorem Bx.get {b : Base} {W : World} {l : List (Nat × List Value)} (h : Bx b l W) {i C : Nat} {cs : List Value} (hi : l[i]? = some (C, cs)) : Box W C cs := h.box _ (List.mem_of_getElem? hi)
theorem Bx.new {b : Base} {W : World} {l : List (Nat × List Value)} (h : Bx b l W) (cs : List Value) (T : TypeId) : Bx b ((W.heap.size, cs) :: l) (W.alloc (.cells cs.toArray T)) := by
 have hb : Below W.heap.size W (W.alloc (.cells cs.toArray T)) := (Below.refl _ _).alloc (Nat.le_refl _) _
 have h1 := h.keep hb
 refine ⟨fun x hx => ?_, h1.low, fun x hx => ?_, ?_, h1.bas, fun p hp x hx hlt => ?_⟩
 ·rcases List.mem_cons.1 hx with rfl | hx
  ·exact Box.new W cs T
  ·exact h1.box x hx
 ·rcases List.mem_cons.1 hx with rfl | hx
  ·exact h.low.size
  ·exact h.ge x hx
 ·intro i j x y hi hj he
  match i, j, hi, hj with
  | 0, 0, _, _ => rfl
  | 0, j + 1, hi, hj =>
   have h1 : (W.heap.size, cs) = x := Option.some.inj hi
   have := (h.box y (List.mem_of_getElem? (by simpa using hj))).lt
   rw [← h1] at he
   have he' : W.heap.size = y.1 := he
   omega
  | i + 1, 0, hi, hj =>
   have h1 : (W.heap.size, cs) = y := Option.some.inj hj
   have := (h.box x (List.mem_of_getElem? (by simpa using hi))).lt
   rw [← h1] at he
   have he' : x.1 = W.heap.size := he
   omega
  | i + 1, j + 1, hi, hj => rw [h.nd i j x y (by simpa using hi) (by simpa using hj) he]
 ·rcases List.mem_cons.1 hx with rfl | hx
  ·have := (h.bas p hp).1
   have hlt' : W.heap.size < p.1.heap.size := hlt
   omega
  ·exact h.bge p hp x hx hlt
theorem Bx.set {b : Base} {W W' : World} {l : List (Nat × List Value)} (h : Bx b l W) {i C : Nat} {cs cs' : List Value} (hi : l[i]? = some (C, cs)) (hb : Box W' C cs') (ho : Only W W' C) : Bx b (l.set i (C, cs')) W' := by
 have hil : i < l.length := (List.getElem?_eq_some_iff.1 hi).1
 have hli : l[i] = (C, cs) := (List.getElem?_eq_some_iff.1 hi).2
 have hge := h.ge _ (List.mem_of_getElem? hi)
 have hmi := List.mem_of_getElem? hi
 refine ⟨fun x hx => ?_, h.low.trans (ho.below _ hge), fun x hx => ?_, fun j k x y hj hk he => ?_, fun p hp => ⟨by rw [ho.size]; exact (h.bas p hp).1, fun k hk hpk => ?_⟩, fun p hp x hx hlt => ?_⟩
 ·obtain ⟨j, hj, hjx⟩ := List.mem_iff_getElem.1 hx
  rw [List.length_set] at hj
  rw [List.getElem_set] at hjx
  split at hjx
  ·subst hjx; exact hb
  ·rename_i hne
   have hx2 : x ∈ l := hjx ▸ List.getElem_mem hj
   refine (h.box x hx2).other ho (fun e => hne ?_)
   exact (h.nd i j _ _ hi (by rw [List.getElem?_eq_getElem hj, hjx]) e.symm)
 ·rcases List.mem_or_eq_of_mem_set hx with hx | rfl
  ·exact h.ge x hx
  ·exact hge
 ·have key : ∀ (j : Nat) (x : Nat × List Value), (l.set i (C, cs'))[j]? = some x → ∃ x', l[j]? = some x' ∧ x'.1 = x.1 := fun j x hj => by
   by_cases e : i = j
   ·subst e
    rw [List.getElem?_set_self hil] at hj
    obtain rfl := Option.some.inj hj
    exact ⟨_, hi, rfl⟩
   ·rw [List.getElem?_set_ne e] at hj
    exact ⟨x, hj, rfl⟩
  obtain ⟨x', h1, h2⟩ := key j x hj
  obtain ⟨y', h3, h4⟩ := key k y hk
  exact h.nd j k x' y' h1 h3 (h2.trans (he.trans h4.symm))
 ·refine (ho.heap k (fun e => ?_)).trans ((h.bas p hp).2 k hk hpk)
  subst e
  exact h.bge p hp _ hmi hk hpk
 ·rcases List.mem_or_eq_of_mem_set hx with hx | rfl
  ·exact h.bge p hp x hx hlt
  ·exact h.bge p hp (C, cs) hmi hlt
theorem Bx.sub {b : Base} {W : World} {x : Nat × List Value} {l : List (Nat × List Value)} (h : Bx b (x :: l) W) : Bx b l W := ⟨fun y hy => h.box y (List.mem_cons_of_mem _ hy), h.low, fun y hy => h.ge y (List.mem_cons_of_mem _ hy), fun i j y z hi hj he => by have := h.nd (i + 1) (j + 1) y z (by simpa using hi) (by simpa using hj) he; omega, h.bas, fun p hp y hy => h.bge p hp y (List.mem_cons_of_mem _ hy)⟩
theorem Bx.made {b : Base} {W W2 : World} {l : List (Nat × List Value)} (h : Bx b l W) (hb : Below W.heap.size W W2) : Bx ⟨b.w, (W2, fun k => k < b.w.heap.size ∨ W.heap.size ≤ k) :: b.bs⟩ l W2 := by
 have h1 := h.keep hb
 refine ⟨h1.box, h1.low, h1.ge, h1.nd, fun p hp => ?_, fun p hp x hx hlt hpx => ?_⟩
 ·rcases List.mem_cons.1 hp with rfl | hp
  ·exact ⟨Nat.le_refl _, fun _ _ _ => rfl⟩
  ·exact h1.bas p hp
 ·rcases List.mem_cons.1 hp with rfl | hp
  ·have h2 := h.ge x hx
   have h3 := (h.box x hx).lt
   have hpx' : x.1 < b.w.heap.size ∨ W.heap.size ≤ x.1 := hpx
   omega
  ·exact h1.bge p hp x hx hlt hpx
theorem Bx.box_later {b : Base} {X W2 : World} {l : List (Nat × List Value)} {p : Nat → Prop} (h : Bx b l X) (hp : (W2, p) ∈ b.bs) {C : Nat} {cs : List Value} (hC : p C) (hb : Box W2 C cs) : Box X C cs := by
 have he := (h.bas _ hp).2 C hb.lt hC
 exact ⟨fun j v hv => (World.cell?_of_block (a := ⟨C, 0 + j, none⟩) he).trans (hb.rng j v hv), fun o => (World.frozen?_of_block (a := ⟨C, o, none⟩) he).trans (hb.free o), Nat.lt_of_lt_of_le hb.lt (h.bas _ hp).1⟩
section
variable {P : Program} {N : Nat} {env : VEnv} {a : Act} {ops : Array Oper} {rest : List Oper} {Q : Exit → Act → World → Prop} {w : World} {w0 : Base} {l : List (Nat × List Value)} {d y x z : Nat} {ps : String} {af : Array Edge} {T t : TypeId}
theorem sv_run {op : Op} {v : Value} {w' : World} (hf : FrV N env a) (hd : d < N) (hrun : ∀ a : Act, FrV N env a → (execOp a.eval { dst := some d, op := op, type := y, pos := ps, after := af, guard := none }).run P w = .ok (.value v) w') (h : ∀ a', FrV N ((d, v) :: env) a' → wpList P ops Q rest a' w') : wpList P ops Q ({ dst := some d, op := op, type := y, pos := ps, after := af, guard := none } :: rest) a w :=
 wpList_ok rfl (hrun a hf) (h _ (hf.put hd v))
theorem sv_mv {v : Value} (hf : FrV N env a) (hx : env.lookup x = some v) (hd : d < N) (h : ∀ a', FrV N ((d, v) :: env) a' → wpList P ops Q rest a' w) : wpList P ops Q ({ dst := some d, op := .move (.tmp x), type := y, pos := ps, after := af, guard := none } :: rest) a w :=
 sv_run hf hd (fun a hf => by unfold execOp; simp only [hf.rel x v hx, Sem.run_pure]) h
theorem sv_as {v : Value} (hf : FrV N env a) (hx : env.lookup x = some v) (hd : d < N) (h : ∀ a', FrV N ((d, v) :: env) a' → wpList P ops Q rest a' w) : wpList P ops Q ({ dst := some d, op := .assign (.tmp x), type := y, pos := ps, after := af, guard := none } :: rest) a w :=
 sv_run hf hd (fun a hf => by unfold execOp; simp only [hf.rel x v hx, Sem.run_pure]) h
def ev (env : VEnv) : Operand → Option Value
 | .tmp t => env.lookup t
 | .const v => some v
 | .global g => some (.pointer (some ⟨g, 0, none⟩))
 | .func f => some (.func (.func f) #[] #[])
theorem FrV.ev {x : Operand} {v : Value} (hf : FrV N env a) (h : ev env x = some v) : a.eval x = v := by
 cases x with
 | tmp t => exact hf.rel t v h
 | const u => exact Option.some.inj h
 | global g => exact Option.some.inj h
 | func f => exact Option.some.inj h
theorem sv_pk {b : Bool} {p q : Operand} {v : Value} (hf : FrV N env a) (hx : env.lookup x = some (.bool b)) (hp : ev env (if b then p else q) = some v) (hd : d < N) (h : ∀ a', FrV N ((d, v) :: env) a' → wpList P ops Q rest a' w) : wpList P ops Q ({ dst := some d, op := .pick (.tmp x) p q, type := y, pos := ps, after := af, guard := none } :: rest) a w :=
 sv_run hf hd (fun a hf => by
  unfold execOp
  have hv := hf.ev hp
  cases b
  ·simp only [hf.rel x _ hx, asBool, Sem.run_bind, Sem.run_pure, Result.andThen_ok]
   rw [show a.eval q = v from hv]; rfl
  ·simp only [hf.rel x _ hx, asBool, Sem.run_bind, Sem.run_pure, Result.andThen_ok]
   rw [show a.eval p = v from hv]; rfl) h
theorem sv_fld {j b p : Nat} {fs : Array Field} {f : Field} (hf : FrV N env a) (hx : env.lookup x = some (.pointer (some ⟨b, p, none⟩))) (hu : P.underlying T = some (.struct fs)) (hj : fs[j]? = some f) (hs : ((P.info? f.type).map (·.size)).getD 0 ≠ 0) (off : Nat) (ho : p + f.offset = off) (hd : d < N) (h : ∀ a', FrV N ((d, .pointer (some ⟨b, off, none⟩)) :: env) a' → wpList P ops Q rest a' w) : wpList P ops Q ({ dst := some d, op := .fieldAddr T (.tmp x) j, type := y, pos := ps, after := af, guard := none } :: rest) a w := by
 subst ho
 exact sv_run hf hd (fun a hf => ex_field T (.tmp x) j b p fs f rfl (hf.rel x _ hx) hu hj hs) h
theorem sv_lc {b p : Nat} {cs : List Value} {v : Value} {td : TypeDesc} (hf : FrV N env a) (hB : Bx w0 l w) (hx : env.lookup x = some (.pointer (some ⟨b, p, none⟩))) (i : Nat) (hi : l[i]? = some (b, cs)) (hc : cs[p]? = some v) (hu : P.underlying t = some td) (hr : td.isRow = false) (hd : d < N) (h : ∀ a', FrV N ((d, v) :: env) a' → wpList P ops Q rest a' w) : wpList P ops Q ({ dst := some d, op := .load t (.tmp x), type := y, pos := ps, after := af, guard := none } :: rest) a w :=
 sv_run hf hd (fun a hf => ex_load_cell t (.tmp x) b p v td rfl (hf.rel x _ hx) ((hB.get hi).cell p v hc) hu hr) h
theorem sv_lm {b p : Nat} {v : Value} {td : TypeDesc} (hf : FrV N env a) (hx : env.lookup x = some (.pointer (some ⟨b, p, none⟩))) (hc : w.cell? ⟨b, p, none⟩ = some v) (hu : P.underlying t = some td) (hr : td.isRow = false) (hd : d < N) (h : ∀ a', FrV N ((d, v) :: env) a' → wpList P ops Q rest a' w) : wpList P ops Q ({ dst := some d, op := .load t (.tmp x), type := y, pos := ps, after := af, guard := none } :: rest) a w :=
 sv_run hf hd (fun a hf => ex_load_cell t (.tmp x) b p v td rfl (hf.rel x _ hx) hc hu hr) h
theorem sv_lr {b : Nat} {cs : List Value} {fs : Array Field} (hf : FrV N env a) (hB : Bx w0 l w) (hx : env.lookup x = some (.pointer (some ⟨b, 0, none⟩))) (i : Nat) (hi : l[i]? = some (b, cs)) (hu : P.underlying t = some (.struct fs)) (hn : (P.info? t).map (·.size) = some cs.length) (hd : d < N) (h : ∀ a', FrV N ((d, .agg cs.toArray) :: env) a' → wpList P ops Q rest a' w) : wpList P ops Q ({ dst := some d, op := .load t (.tmp x), type := y, pos := ps, after := af, guard := none } :: rest) a w :=
 sv_run hf hd (fun a hf => ex_load_row t (.tmp x) b 0 cs (.struct fs) rfl (hf.rel x _ hx) (hB.get hi).rng hu rfl hn) h
theorem sv_sc {b p : Nat} {cs cs' : List Value} {v : Value} {z : Operand} (hf : FrV N env a) (hB : Bx w0 l w) (hx : env.lookup x = some (.pointer (some ⟨b, p, none⟩))) (hz : ev env z = some v) (i : Nat) (hi : l[i]? = some (b, cs)) (hp : p < cs.length) (hcs : cs.set p v = cs') (hn : (P.info? t).map (·.size) = some 1) (h1 : v.oneCell' = true) (l' : List (Nat × List Value)) (hl : l.set i (b, cs') = l') (h : ∀ w', Bx w0 l' w' → Only w w' b → wpList P ops Q rest a w') : wpList P ops Q ({ dst := none, op := .store t (.tmp x) z, type := y, pos := ps, after := af, guard := none } :: rest) a w := by
 have hb := hB.get hi
 refine wpList_done rfl rfl (ex_store_cell t (.tmp x) z b p v rfl (hf.rel x _ hx) (hf.ev hz) (hb.there p 1 (by omega)) hn h1) (h _ ?_ (Only.setCell w b p v))
 subst hcs hl
 exact hB.set hi (hb.setCell p v hp) (Only.setCell w b p v)
theorem sv_sr {b : Nat} {cs vs : List Value} {z : Operand} (hf : FrV N env a) (hB : Bx w0 l w) (hx : env.lookup x = some (.pointer (some ⟨b, 0, none⟩))) (hz : ev env z = some (.agg vs.toArray)) (i : Nat) (hi : l[i]? = some (b, cs)) (hlen : vs.length = cs.length) (hn : (P.info? t).map (·.size) = some vs.length) (h1 : ∀ v ∈ vs, v.oneCell' = true) (l' : List (Nat × List Value)) (hl : l.set i (b, vs) = l') (h : ∀ w', Bx w0 l' w' → Only w w' b → wpList P ops Q rest a w') : wpList P ops Q ({ dst := none, op := .store t (.tmp x) z, type := y, pos := ps, after := af, guard := none } :: rest) a w := by
 have hb := hB.get hi
 refine wpList_done rfl rfl (ex_store_row t (.tmp x) z b 0 vs rfl (hf.rel x _ hx) (hf.ev hz) (hb.there 0 vs.length (by omega)) hn h1) (h _ ?_ (Only.setCells w b 0 vs hb.lt))
 subst hl
 exact hB.set hi (hb.store hlen) (Only.setCells w b 0 vs hb.lt)
theorem sv_box {vs : List Value} (hf : FrV N env a) (hB : Bx w0 l w) (hx : env.lookup x = some (.agg vs.toArray)) (hd : d < N) (h : ∀ a' C w', C = w.heap.size → FrV N ((d, .pointer (some ⟨C, 0, none⟩)) :: env) a' → Bx w0 ((C, vs) :: l) w' → Below w.heap.size w w' → wpList P ops Q rest a' w') : wpList P ops Q ({ dst := some d, op := .box T (.tmp x), type := y, pos := ps, after := af, guard := none } :: rest) a w :=
 wpList_ok rfl (ex_box T (.tmp x) vs rfl (hf.rel x _ hx)) (h _ _ _ rfl (hf.put hd _) (hB.new vs T) ((Below.refl _ _).alloc (Nat.le_refl _) _))
theorem sv_alloc {zs : List Value} (hf : FrV N env a) (hB : Bx w0 l w) (hz : (P.info? T).bind (·.zero) = some (.agg zs.toArray)) (hd : d < N) (h : ∀ a' C w', C = w.heap.size → FrV N ((d, .pointer (some ⟨C, 0, none⟩)) :: env) a' → Bx w0 ((C, zs) :: l) w' → Below w.heap.size w w' → wpList P ops Q rest a' w') : wpList P ops Q ({ dst := some d, op := .alloc T, type := y, pos := ps, after := af, guard := none } :: rest) a w := by
 obtain ⟨i, hi, hzz⟩ := Option.bind_eq_some_iff.1 hz
 exact wpList_ok rfl (ex_alloc T i zs rfl hi hzz) (h _ _ _ rfl (hf.put hd _) (hB.new zs T) ((Below.refl _ _).alloc (Nat.le_refl _) _))
def cmpI (op : BinOp) (m n : Int) : Option Bool := match op with
 | .eql => some (decide (m = n))
 | .neq => some (!decide (m = n))
 | .lss => some (decide (m < n))
 | .leq => some (decide (m ≤ n))
 | .gtr => some (decide (n < m))
 | .geq => some (decide (n ≤ m))
 | _ => none
theorem cmpI_run {op : BinOp} {m n : Int} {b : Bool} {xT : TypeId} {x z : Operand} (h : cmpI op m n = some b) (w : World) : (do eqGuard op xT x z (.int .i64 m) (.int .i64 n); binOp op xT (.int .i64 m) (.int .i64 n)).run P w = .ok (.bool b) w := by
 unfold cmpI at h
 split at h <;> first
  | (obtain rfl := Option.some.inj h; simp [go_sem]; done)
  | (obtain rfl := Option.some.inj h; simp [go_sem]; rw [Bool.eq_iff_iff]; simp; done)
  | (obtain rfl := Option.some.inj h; simp [go_sem]; rw [Bool.eq_iff_iff]; simp; omega)
  | cases h
theorem sv_cmp {op : BinOp} {xT zT : TypeId} {x z : Operand} {m n : Int} (hf : FrV N env a) (hx : ev env x = some (.int .i64 m)) (hz : ev env z = some (.int .i64 n)) (b : Bool) (hb : cmpI op m n = some b) (hd : d < N) (h : ∀ a', FrV N ((d, .bool b) :: env) a' → wpList P ops Q rest a' w) : wpList P ops Q ({ dst := some d, op := .binOp op xT x z zT, type := y, pos := ps, after := af, guard := none } :: rest) a w :=
 sv_run hf hd (fun a hf => by
  unfold execOp
  simp only [hf.ev hx, hf.ev hz]
  have := cmpI_run (P := P) (xT := xT) (x := x) (z := z) hb w
  simp only [Sem.run_bind] at this ⊢
  rw [this]
  rfl) h
def evs (env : VEnv) : List Operand → Option (List Value)
 | [] => some []
 | x :: xs => match ev env x, evs env xs with
  | some v, some vs => some (v :: vs)
  | _, _ => none
theorem FrV.evs (hf : FrV N env a) : ∀ {xs : List Operand} {vs : List Value}, evs env xs = some vs → xs.map a.eval = vs
 | [], vs, h => by obtain rfl := Option.some.inj h; rfl
 | x :: xs, vs, h => by
  unfold Proofs.YtilopjlcgmedgaaGreatDoor.evs at h
  split at h
  ·rename_i v us hv hus
   obtain rfl := Option.some.inj h
   rw [List.map_cons, hf.ev hv, hf.evs hus]
  ·cases h
theorem sv_call {g : FuncId} {xs : List Operand} {vs : List Value} {ts : Array TypeId} {R : Ending → World → Prop} (hf : FrV N env a) (hF : FnOK P g) (hx : evs env xs = some vs) (hc : Calls P g vs.toArray w R) (hd : d < N) (h : ∀ e w', R e w' → ∃ v, e = .returned v ∧ ∀ a', FrV N ((d, v) :: env) a' → wpList P ops Q rest a' w') : wpList P ops Q ({ dst := some d, op := .call { callee := .value (.func g), args := xs.toArray, argTypes := ts }, type := y, pos := ps, after := af, guard := none } :: rest) a w := by
 refine wpList_calls hF rfl rfl (R := R) (by rw [List.map_toArray, hf.evs hx]; exact hc) (fun e w' hr => ?_)
 obtain ⟨v, rfl, hv⟩ := h e w' hr
 exact ⟨v, rfl, hv _ (hf.put hd v)⟩
theorem sv_len {e : TypeId} {ad : Option Addr} {n c : Nat} (hf : FrV N env a) (hx : env.lookup x = some (.slice ad n c)) (hu : P.underlying t = some (.slice e)) (hd : d < N) (h : ∀ a', FrV N ((d, .int .i64 n) :: env) a' → wpList P ops Q rest a' w) : wpList P ops Q ({ dst := some d, op := .call { callee := .builtin .len, args := #[.tmp x], argTypes := #[t] }, type := y, pos := ps, after := af, guard := none } :: rest) a w :=
 sv_run hf hd (fun a hf => by
  have hel : P.underlying t = some (.slice (P.elem t)) := by simp [Program.elem, hu]
  unfold execOp
  simp only [resolve, invoke, builtin, Sem.run_bind, Sem.run_pure, Result.andThen_ok, List.map_toArray, List.map_cons, List.map_nil, hf.rel x _ hx, run_len_slice w t _ ad n c hel]
  rfl) h
theorem sv_idx {e : TypeId} {B o n c q k : Nat} (hf : FrV N env a) {z : Operand} (hx : env.lookup x = some (.slice (some ⟨B, o, none⟩) n c)) (hz : ev env z = some (.int .i64 (q : Int))) (hq : q < n) (hu : P.underlying t = some (.slice e)) (hk : (P.info? e).map (·.size) = some k) (hd : d < N) (h : ∀ a', FrV N ((d, .pointer (some ⟨B, o + q * k, none⟩)) :: env) a' → wpList P ops Q rest a' w) : wpList P ops Q ({ dst := some d, op := .indexAddr t (.tmp x) z, type := y, pos := ps, after := af, guard := none } :: rest) a w :=
 sv_run hf hd (fun a hf => by
  have hel : P.underlying t = some (.slice (P.elem t)) := by simp [Program.elem, hu]
  have hee : P.elem t = e := by simp [Program.elem, hu]
  have hsize : (sizeOf (P.elem t)).run P w = .ok k w := by
   rw [hee]
   cases hq : P.info? e with
   | none => simp [hq] at hk
   | some inf =>
    have : inf.size = k := by simpa [hq] using hk
    simp [sizeOf, typeInfo, hq, this]
  unfold execOp
  simp only [hf.rel x _ hx, hf.ev hz, Sem.run_bind, run_indexAt_slice w t ⟨B, o, none⟩ n c .i64 q hel]
  rw [if_pos ⟨by omega, by omega⟩, hsize]
  simp only [Result.andThen_ok, Int.toNat_natCast, Addr.add_mid, Sem.run_pure]) h
def evp (env : VEnv) : List (Nat × Operand) → Option (List (Nat × Value))
 | [] => some []
 | (i, x) :: xs => match ev env x, evp env xs with
  | some v, some vs => some ((i, v) :: vs)
  | _, _ => none
theorem FrV.evp (hf : FrV N env a) : ∀ {xs : List (Nat × Operand)} {vs : List (Nat × Value)}, evp env xs = some vs → xs.map (fun p => (p.1, a.eval p.2)) = vs
 | [], vs, h => by obtain rfl := Option.some.inj h; rfl
 | (i, x) :: xs, vs, h => by
  unfold Proofs.YtilopjlcgmedgaaGreatDoor.evp at h
  split at h
  ·rename_i v us hv hus
   obtain rfl := Option.some.inj h
   rw [List.map_cons, hf.ev hv, hf.evp hus]
  ·cases h
theorem sv_build {xs : List (Nat × Operand)} {vs : List (Nat × Value)} {cs : List Value} (hf : FrV N env a) (hx : evp env xs = some vs) (hb : P.built T vs = some cs.toArray) (hd : d < N) (h : ∀ a', FrV N ((d, .agg cs.toArray) :: env) a' → wpList P ops Q rest a' w) : wpList P ops Q ({ dst := some d, op := .build T xs.toArray, type := y, pos := ps, after := af, guard := none } :: rest) a w :=
 sv_run hf hd (fun a hf => by
  have he : (xs.toArray.map fun (i, x) => (i, a.eval x)) = vs.toArray := by
   rw [List.map_toArray]
   exact congrArg List.toArray (hf.evp hx)
  unfold execOp
  simp only [he, Sem.run_bind, run_build w T _ cs.toArray (by simpa using hb), Result.andThen_ok, Sem.run_pure]) h
theorem sv_ext {j : Nat} {vs : Array Value} {v : Value} (hf : FrV N env a) (hx : env.lookup x = some (.tuple vs)) (hj : vs[j]? = some v) (hd : d < N) (h : ∀ a', FrV N ((d, v) :: env) a' → wpList P ops Q rest a' w) : wpList P ops Q ({ dst := some d, op := .extract (.tmp x) j, type := y, pos := ps, after := af, guard := none } :: rest) a w :=
 sv_run hf hd (fun a hf => by
  unfold execOp
  simp [hf.rel x _ hx, Instr.extract, hj]) h
def gv (ops : Array Oper) (env : VEnv) (j : Nat) : Option Value := match ops[j]? with
 | some o => match o.dst with
  | some d => env.lookup d
  | none => none
 | none => none
theorem wanted_of {o : Oper} {j : Nat} {b b' : Bool} (hf : FrV N env a) (hN : ∀ d o', ops[j]? = some o' → o'.dst = some d → d < N) (hg : o.guard = some (j, b)) (h : gv ops env j = some (.bool b')) : Region.wanted o (yielded ops a.tmps) = (b' == b) := by
 unfold gv at h
 split at h
 ·rename_i o' ho
  split at h
  ·rename_i d hd
   have hv := hf.rel d _ h
   have hdN := hN d o' ho hd
   have h1 : a.tmps.getD d undef = .bool b' := hv
   have h2 : d < a.tmps.size := by rw [hf.size]; exact hdN
   have h3 : a.tmps[d]? = some (.bool b') := by
    rw [Array.getElem?_eq_getElem h2]
    simp [h2] at h1
    rw [h1]
   unfold Region.wanted
   rw [hg]
   unfold yielded
   simp only [ho, hd, Option.bind_some, h3]
   cases b <;> cases b' <;> rfl
  ·cases h
 ·cases h
def dstB (ops : Array Oper) (j N : Nat) : Bool := match ops[j]? with
 | some o => match o.dst with
  | some d => decide (d < N)
  | none => true
 | none => true
theorem dstB_spec {j : Nat} (h : dstB ops j N = true) : ∀ d o', ops[j]? = some o' → o'.dst = some d → d < N := by
 intro d o' ho hd
 unfold dstB at h
 simp only [ho, hd] at h
 simpa using h
theorem sv_want {dst : Option Nat} {op : Op} {j : Nat} {b : Bool} (hf : FrV N env a) (hN : dstB ops j N = true) (h : gv ops env j = some (.bool b)) (hk : wpList P ops Q ({ dst := dst, op := op, type := y, pos := ps, after := af, guard := none } :: rest) a w) : wpList P ops Q ({ dst := dst, op := op, type := y, pos := ps, after := af, guard := some (j, b) } :: rest) a w := by
 have hw := wanted_of (o := { dst := dst, op := op, type := y, pos := ps, after := af, guard := some (j, b) }) hf (dstB_spec hN) rfl h
 unfold wpList at hk ⊢
 rw [if_pos (by rw [hw]; simp)]
 rw [if_pos (by rfl)] at hk
 exact hk
theorem sv_nil (hf : FrV N env a) (h : Q .normal a w) : wpList P ops Q [] a w := wpList_nil h
theorem calls_frv {g : FuncId} {fn : Func} {k : Code} {vs : List Value} {R : Ending → World → Prop} (env : VEnv) (hf : P.funcs[g]? = some fn) (hb : fn.body = some k) (hN : fn.ntmps = N) (hvs : vs.length ≤ N) (henv : ∀ p ∈ env, vs[p.1]? = some p.2)
  (h : ∀ a : Act, FrV N env a → k.wp P (bodyPost P fn R) a w) : Calls P g vs.toArray w R := by
 refine calls_of_wp hf hb (h _ ⟨by simp [hN]; omega, rfl, fun t v hl => ?_⟩)
 have hm : (t, v) ∈ env := by
  clear henv h
  induction env with
  | nil => cases hl
  | cons p env ih =>
   obtain ⟨k, u⟩ := p
   by_cases e : t = k
   ·subst e
    simp [List.lookup] at hl
    subst hl
    exact List.mem_cons_self
   ·have hb : (t == k) = false := by simpa using e
    simp only [List.lookup, hb] at hl
    exact List.mem_cons_of_mem _ (ih hl)
 have h1 := henv _ hm
 have h2 : t < vs.length := (List.getElem?_eq_some_iff.1 h1).1
 have h3 : vs[t] = v := (List.getElem?_eq_some_iff.1 h1).2
 simp [Act.eval, Array.getElem?_append, h2, h3]
end
section
variable {P : Program} {ops : Array Oper} {md : Region.Mode} {Q : Exit → Act → World → Prop} {S : World → Prop}
def Avail (ops : Array Oper) (p : Nat → Prop) (t : Nat) : Prop := ∀ (j : Nat) (o : Oper), ops[j]? = some o → o.dst = some t → p j
structure FreeInv (ops : Array Oper) (V : Nat → Option Value) (N : Nat) (listed : Array Bool) (a : Act) : Prop where
 size : a.tmps.size = N
 defers : a.defers = []
 val : ∀ t v, V t = some v → Avail ops (fun j => listed.getD j false = true) t → a.eval (.tmp t) = v
end
structure ActC (a : Act) (N C : Nat) : Prop where
 size : a.tmps.size = N
 src : a.eval (.tmp 1) = .pointer (some ⟨C, 0, none⟩)
 dst : a.eval (.tmp 2) = .pointer (some ⟨C + 1, 0, none⟩)
 defers : a.defers = []
structure CpSt (W0 W : World) (n k : Nat) (cs0 : List Value) (done : List (Nat × TypeId)) (w : World) : Prop where
 low : Below W.heap.size W w
 src : ∃ cs, BoxN k w W.heap.size cs ∧ (∀ v ∈ cs, v.oneCell' = true) ∧
  (∀ p ∈ done, EqC Tryz.prog w w (fun i => i < W0.heap.size) (fun i => W.heap.size + 1 < i) n p.2 (part_ cs0 p.1 (Tryz.prog.cellsOf p.2)) (part_ cs p.1 (Tryz.prog.cellsOf p.2))) ∧
  ∀ a q, (∀ p ∈ done, a + q ≤ p.1 ∨ p.1 + Tryz.prog.cellsOf p.2 ≤ a) → part_ cs a q = part_ cs0 a q
 dst : ∃ zs, BoxN k w (W.heap.size + 1) zs
def zeroB (P : Program) (T : TypeId) (k : Nat) : Bool := match P.info? T with
 | some i => match i.zero with
  | some (.agg zs) => zs.size == k
  | _ => false
 | none => false
theorem zeroB_spec {P : Program} {T : TypeId} {k : Nat} (h : zeroB P T k = true) : ∃ i zs, P.info? T = some i ∧ i.zero = some (.agg (List.toArray zs)) ∧ zs.length = k := by
 unfold zeroB at h
 split at h
 ·rename_i i hi
  split at h
  ·rename_i zs hz
   exact ⟨i, zs.toList, hi, by rw [hz], by simpa using h⟩
  ·cases h
 ·cases h
theorem fold_set : ∀ (ds : List Value) (off k : Nat) (cs : Array Value), off + k + ds.length ≤ cs.size → (((ds.zipIdx k).foldl (fun cs x => cs.setIfInBounds (off + x.2) x.1) cs)).toList = spl cs.toList (off + k) ds
 | [], off, k, cs, h => by
  unfold spl
  simp
 | d :: ds, off, k, cs, h => by
  rw [List.zipIdx_cons, List.foldl_cons, fold_set ds off (k + 1) _ (by simp at h ⊢; omega)]
  apply List.ext_getElem?
  intro i
  have h1 : off + (k + 1) + ds.length ≤ (cs.setIfInBounds (off + k) d).toList.length := by simp at h ⊢; omega
  have h2 : off + k + (d :: ds).length ≤ cs.toList.length := by simp at h ⊢; omega
  rw [spl_getElem h1, spl_getElem h2]
  simp only [List.length_cons] at h ⊢
  by_cases e : i = off + k
  ·subst e
   rw [if_neg (by omega), if_pos ⟨by omega, by omega⟩, Array.toList_setIfInBounds, List.getElem?_set_self (by rw [Array.length_toList]; omega)]
   simp
  ·by_cases e2 : off + (k + 1) ≤ i ∧ i < off + (k + 1) + ds.length
   ·rw [if_pos e2, if_pos ⟨by omega, by omega⟩, show i - (off + k) = (i - (off + (k + 1))) + 1 by omega, List.getElem?_cons_succ]
   ·rw [if_neg e2, if_neg (by omega)]
    rw [Array.toList_setIfInBounds, List.getElem?_set_ne (by omega)]
section
variable {P : Program} {ops : Array Oper} {md : Region.Mode} {Q : Exit → Act → World → Prop} {N : Nat}
theorem wp_meet_region {u : Code} {a : Act} {w : World} (J : Act → World → Prop) (hu : ∀ K : Act → World → Prop, (∀ a w, J a w → K a w) → u.wp P (Exit.then K Q) a w) (hv : ∀ a w, J a w → Q .normal a w) : u.wp P Q a w :=
 Code.wp_mono (fun e a w h => by cases e <;> exact h) (hu (fun a w => Q .normal a w) hv)
end
section
variable {P : Program} {N : Nat} {env : VEnv} {a : Act} {ops : Array Oper} {rest : List Oper} {Q : Exit → Act → World → Prop} {w : World} {w0 : Base} {l : List (Nat × List Value)} {d y x z : Nat} {ps : String} {af : Array Edge} {T t : TypeId}
theorem fill_one {zs cs : List Value} {k : Nat} (hz : zs.length = k) (hc : cs.length = k) (hk : 0 < k) : Instr.fill (fun i => some (i * k, k)) ((Array.range (1 * k)).map (zs.toArray[· % zs.toArray.size]!)) [(0, .agg cs.toArray)] = some cs.toArray := by
 have e2 : (Value.agg cs.toArray).cells = cs.toArray := rfl
 have hsz : ((Array.range (1 * k)).map (zs.toArray[· % zs.toArray.size]!)).size = k := by simp
 have hf := fold_set cs 0 0 ((Array.range (1 * k)).map (zs.toArray[· % zs.toArray.size]!)) (by rw [hsz, hc]; omega)
 have hl : ((Array.range (1 * k)).map (zs.toArray[· % zs.toArray.size]!)).toList.length = k := by rw [Array.length_toList, hsz]
 generalize ((Array.range (1 * k)).map (zs.toArray[· % zs.toArray.size]!)) = A at *
 have e1 : spl A.toList (0 + 0) cs = cs := by
  unfold spl
  rw [Nat.zero_add, List.take_zero, List.nil_append, List.drop_eq_nil_of_le (by omega), List.append_nil]
 rw [e1] at hf
 simp only [Instr.fill, e2, Nat.zero_mul]
 rw [if_neg (by simp [hc, hsz])]
 congr 1
 apply Array.toList_inj.1
 have e3 : cs.toArray.zipIdx = (cs.zipIdx).toArray := by simp
 rw [e3, List.foldl_toArray, hf]
theorem ex_bs1 {o : Oper} {ρ : Operand → Value} {e : TypeId} {x : Operand} {cs : List Value} {k : Nat} (ho : o.op = .buildSlice t 1 #[(0, x)]) (hx : ρ x = .agg cs.toArray) (hu : P.underlying t = some (.slice e)) (hz : zeroB P e k = true) (hi : (P.info? e).map (·.size) = some k) (hc : cs.length = k) (hk : 0 < k) (hk2 : k ≤ 1000) : (execOp ρ o).run P w = .ok (.value (.slice (some ⟨w.heap.size, 0, none⟩) 1 1)) (w.alloc (.cells cs.toArray e)) := by
 obtain ⟨i, zs, hie, hzz, hzl⟩ := zeroB_spec hz
 have hsz : i.size = k := by rw [hie] at hi; exact Option.some.inj hi
 unfold execOp
 simp only [ho, List.map_toArray, List.map_cons, List.map_nil, hx, Sem.run_bind]
 rw [run_buildSlice (P := P) w t e 1 _ cs.toArray i (.agg zs.toArray) hu hie hzz (by rw [hsz]; omega) (by rw [hsz]; omega) (by
  rw [hsz]
  exact fill_one hzl hc hk)]
 simp only [Result.andThen_ok, Sem.run_pure]
theorem sv_bs1 {e : TypeId} {cs : List Value} {k : Nat} (hf : FrV N env a) (hB : Bx w0 l w) (hx : env.lookup x = some (.agg cs.toArray)) (hu : P.underlying t = some (.slice e)) (hz : zeroB P e k = true) (hi : (P.info? e).map (·.size) = some k) (hc : cs.length = k) (hk : 0 < k) (hk2 : k ≤ 1000) (hd : d < N) (h : ∀ a' C w', C = w.heap.size → FrV N ((d, .slice (some ⟨C, 0, none⟩) 1 1) :: env) a' → Bx w0 ((C, cs) :: l) w' → Below w.heap.size w w' → wpList P ops Q rest a' w') : wpList P ops Q ({ dst := some d, op := .buildSlice t 1 #[(0, .tmp x)], type := y, pos := ps, after := af, guard := none } :: rest) a w :=
 wpList_ok rfl (ex_bs1 rfl (hf.rel x _ hx) hu hz hi hc hk hk2) (h _ _ _ rfl (hf.put hd _) (hB.new cs e) ((Below.refl _ _).alloc (Nat.le_refl _) _))
theorem sv_add {xT zT : TypeId} {x z : Operand} {m n : Int} (r : Int) (hf : FrV N env a) (hx : ev env x = some (.int .i64 m)) (hz : ev env z = some (.int .i64 n)) (hr : IntKind.i64.wrap (m + n) = r) (hd : d < N) (h : ∀ a', FrV N ((d, .int .i64 r) :: env) a' → wpList P ops Q rest a' w) : wpList P ops Q ({ dst := some d, op := .binOp .add xT x z zT, type := y, pos := ps, after := af, guard := none } :: rest) a w :=
 sv_run hf hd (fun a hf => by
  subst hr
  unfold execOp
  simp only [hf.ev hx, hf.ev hz]
  simp [go_sem]) h
theorem sv_sub {xT zT : TypeId} {x z : Operand} {m n : Int} (r : Int) (hf : FrV N env a) (hx : ev env x = some (.int .i64 m)) (hz : ev env z = some (.int .i64 n)) (hr : IntKind.i64.wrap (m - n) = r) (hd : d < N) (h : ∀ a', FrV N ((d, .int .i64 r) :: env) a' → wpList P ops Q rest a' w) : wpList P ops Q ({ dst := some d, op := .binOp .sub xT x z zT, type := y, pos := ps, after := af, guard := none } :: rest) a w :=
 sv_run hf hd (fun a hf => by
  subst hr
  unfold execOp
  simp only [hf.ev hx, hf.ev hz]
  simp [go_sem]) h
theorem wrap_in {m : Int} (h : -9223372036854775808 ≤ m ∧ m ≤ 9223372036854775807) : IntKind.i64.wrap m = m := by
 rw [IntKind.wrap_i64]; omega
theorem sv_skip1 {op : Op} {j : Nat} {b b' : Bool} (hf : FrV N env a) (hN : dstB ops j N = true) (h : gv ops env j = some (.bool b')) (hb : b' ≠ b) (hd : d < N) (hk : ∀ a', FrV N ((d, undef) :: env) a' → wpList P ops Q rest a' w) : wpList P ops Q ({ dst := some d, op := op, type := y, pos := ps, after := af, guard := some (j, b) } :: rest) a w := by
 have hw := wanted_of (o := { dst := some d, op := op, type := y, pos := ps, after := af, guard := some (j, b) }) hf (dstB_spec hN) rfl h
 unfold wpList
 rw [if_neg (by rw [hw]; simpa using hb)]
 exact hk _ (hf.put hd undef)
theorem sv_skip2 {op : Op} {j : Nat} {b : Bool} (hf : FrV N env a) (hN : dstB ops j N = true) (h : gv ops env j = some undef) (hd : d < N) (hk : ∀ a', FrV N ((d, undef) :: env) a' → wpList P ops Q rest a' w) : wpList P ops Q ({ dst := some d, op := op, type := y, pos := ps, after := af, guard := some (j, b) } :: rest) a w := by
 have hw : Region.wanted ({ dst := some d, op := op, type := y, pos := ps, after := af, guard := some (j, b) } : Oper) (yielded ops a.tmps) = false := by
  unfold gv at h
  split at h
  ·rename_i o' ho
   split at h
   ·rename_i d' hd'
    have hv := hf.rel d' _ h
    have hdN := dstB_spec hN d' o' ho hd'
    have h1 : a.tmps.getD d' undef = undef := hv
    have h2 : d' < a.tmps.size := by rw [hf.size]; exact hdN
    have h3 : a.tmps[d']? = some undef := by
     rw [Array.getElem?_eq_getElem h2]
     simp [h2] at h1
     rw [h1]
    unfold Region.wanted
    simp only
    unfold yielded
    simp only [ho, hd', Option.bind_some, h3]
    rfl
   ·cases h
  ·cases h
 unfold wpList
 rw [if_neg (by rw [hw]; decide)]
 exact hk _ (hf.put hd undef)
end
def upd (f : Nat → Bool) (i : Nat) : Nat → Bool := fun j => if j = i then true else f j
theorem frv_of {N : Nat} {a : Act} {env : VEnv} (hN : a.tmps.size = N) (hd : a.defers = []) (h : ∀ p ∈ env, a.eval (.tmp p.1) = p.2) : FrV N env a := by
 refine ⟨hN, hd, fun t v hl => ?_⟩
 have : (t, v) ∈ env := by
  clear h
  induction env with
  | nil => cases hl
  | cons p env ih =>
   obtain ⟨k, u⟩ := p
   by_cases e : t = k
   ·subst e
    simp [List.lookup] at hl
    subst hl
    exact List.mem_cons_self
   ·have hb : (t == k) = false := by simpa using e
    simp only [List.lookup, hb] at hl
    exact List.mem_cons_of_mem _ (ih hl)
 exact h _ this
theorem all_nil {a : Act} : ∀ p ∈ ([] : VEnv), a.eval (.tmp p.1) = p.2 := fun p h => by cases h
theorem all_cons {a : Act} {t : Nat} {v : Value} {env : VEnv} (h : a.eval (.tmp t) = v) (hs : ∀ p ∈ env, a.eval (.tmp p.1) = p.2) : ∀ p ∈ (t, v) :: env, a.eval (.tmp p.1) = p.2 := fun p hp => by
 rcases List.mem_cons.1 hp with rfl | hp
 ·exact h
 ·exact hs p hp
theorem ex_as {P : Program} {w : World} {o : Oper} {ρ : Operand → Value} {x : Operand} {v : Value} (ho : o.op = .assign x) (hx : ρ x = v) : (execOp ρ o).run P w = .ok (.value v) w := by
 unfold execOp
 simp only [ho, hx, Sem.run_pure]
theorem ex_mv {P : Program} {w : World} {o : Oper} {ρ : Operand → Value} {x : Operand} {v : Value} (ho : o.op = .move x) (hx : ρ x = v) : (execOp ρ o).run P w = .ok (.value v) w := by
 unfold execOp
 simp only [ho, hx, Sem.run_pure]
theorem Bx.add {b : Base} {W : World} {l : List (Nat × List Value)} (h : Bx b l W) {C : Nat} {cs : List Value} (hb : Box W C cs) (hge : b.w.heap.size ≤ C) (hne : ∀ x ∈ l, x.1 ≠ C) (hbas : ∀ p ∈ b.bs, C < p.1.heap.size → ¬ p.2 C) : Bx b ((C, cs) :: l) W := by
 refine ⟨fun x hx => ?_, h.low, fun x hx => ?_, fun i j x y hi hj he => ?_, h.bas, fun p hp x hx hlt => ?_⟩
 ·rcases List.mem_cons.1 hx with rfl | hx
  ·exact hb
  ·exact h.box x hx
 ·rcases List.mem_cons.1 hx with rfl | hx
  ·exact hge
  ·exact h.ge x hx
 ·match i, j, hi, hj with
  | 0, 0, _, _ => rfl
  | 0, j + 1, hi, hj =>
   have h1 : (C, cs) = x := Option.some.inj hi
   rw [← h1] at he
   exact absurd he.symm (hne y (List.mem_of_getElem? (by simpa using hj)))
  | i + 1, 0, hi, hj =>
   have h1 : (C, cs) = y := Option.some.inj hj
   rw [← h1] at he
   exact absurd he (hne x (List.mem_of_getElem? (by simpa using hi)))
  | i + 1, j + 1, hi, hj => rw [h.nd i j x y (by simpa using hi) (by simpa using hj) he]
 ·rcases List.mem_cons.1 hx with rfl | hx
  ·exact hbas p hp hlt
  ·exact h.bge p hp x hx hlt
section
variable {P : Program} {w : World} {o : Oper} {a : Act} {N : Nat} {env : VEnv}
theorem ex_pk {b : Bool} {c p q : Operand} {v : Value} (hf : FrV N env a) (ho : o.op = .pick c p q) (hx : ev env c = some (.bool b)) (hp : ev env (if b then p else q) = some v) : (execOp a.eval o).run P w = .ok (.value v) w := by
 have hv := hf.ev hp
 unfold execOp
 cases b
 ·simp only [ho, hf.ev hx, asBool, Sem.run_bind, Sem.run_pure, Result.andThen_ok]
  rw [show a.eval q = v from hv]; rfl
 ·simp only [ho, hf.ev hx, asBool, Sem.run_bind, Sem.run_pure, Result.andThen_ok]
  rw [show a.eval p = v from hv]; rfl
theorem ex_cmp {op : BinOp} {xT zT : TypeId} {x z : Operand} {m n : Int} {b : Bool} (hf : FrV N env a) (ho : o.op = .binOp op xT x z zT) (hx : ev env x = some (.int .i64 m)) (hz : ev env z = some (.int .i64 n)) (hb : cmpI op m n = some b) : (execOp a.eval o).run P w = .ok (.value (.bool b)) w := by
 unfold execOp
 simp only [ho, hf.ev hx, hf.ev hz]
 have := cmpI_run (P := P) (xT := xT) (x := x) (z := z) hb w
 simp only [Sem.run_bind] at this ⊢
 rw [this]
 rfl
theorem ex_not {b : Bool} {xT : TypeId} {x : Operand} (hf : FrV N env a) (ho : o.op = .unOp .not xT x) (hx : ev env x = some (.bool b)) : (execOp a.eval o).run P w = .ok (.value (.bool (!b))) w := by
 unfold execOp
 simp only [ho, hf.ev hx]
 simp [go_sem]
theorem ex_len {t e : TypeId} {x : Operand} {ad : Option Addr} {n c : Nat} (hf : FrV N env a) (ho : o.op = .call { callee := .builtin .len, args := #[x], argTypes := #[t] }) (hx : ev env x = some (.slice ad n c)) (hu : P.underlying t = some (.slice e)) : (execOp a.eval o).run P w = .ok (.value (.int .i64 n)) w := by
 have hel : P.underlying t = some (.slice (P.elem t)) := by simp [Program.elem, hu]
 unfold execOp
 simp only [ho, resolve, invoke, builtin, Sem.run_bind, Sem.run_pure, Result.andThen_ok, List.map_toArray, List.map_cons, List.map_nil, hf.ev hx, run_len_slice w t _ ad n c hel]
 rfl
theorem ex_idx {t e : TypeId} {B p n c q k : Nat} {x z : Operand} (hf : FrV N env a) (ho : o.op = .indexAddr t x z) (hx : ev env x = some (.slice (some ⟨B, p, none⟩) n c)) (hz : ev env z = some (.int .i64 (q : Int))) (hq : q < n) (hu : P.underlying t = some (.slice e)) (hk : (P.info? e).map (·.size) = some k) : (execOp a.eval o).run P w = .ok (.value (.pointer (some ⟨B, p + q * k, none⟩))) w := by
 have hel : P.underlying t = some (.slice (P.elem t)) := by simp [Program.elem, hu]
 have hee : P.elem t = e := by simp [Program.elem, hu]
 have hsize : (sizeOf (P.elem t)).run P w = .ok k w := by
  rw [hee]
  cases hq : P.info? e with
  | none => simp [hq] at hk
  | some inf =>
   have : inf.size = k := by simpa [hq] using hk
   simp [sizeOf, typeInfo, hq, this]
 unfold execOp
 simp only [ho, hf.ev hx, hf.ev hz, Sem.run_bind, run_indexAt_slice w t ⟨B, p, none⟩ n c .i64 q hel]
 rw [if_pos ⟨by omega, by omega⟩, hsize]
 simp only [Result.andThen_ok, Int.toNat_natCast, Addr.add_mid, Sem.run_pure]
theorem ex_bld {T : TypeId} {xs : List (Nat × Operand)} {vs : List (Nat × Value)} {cs : List Value} (hf : FrV N env a) (ho : o.op = .build T xs.toArray) (hx : evp env xs = some vs) (hb : P.built T vs = some cs.toArray) : (execOp a.eval o).run P w = .ok (.value (.agg cs.toArray)) w := by
 have he : (xs.toArray.map fun (i, x) => (i, a.eval x)) = vs.toArray := by
  rw [List.map_toArray]
  exact congrArg List.toArray (hf.evp hx)
 unfold execOp
 simp only [ho, he, Sem.run_bind, run_build w T _ cs.toArray (by simpa using hb), Result.andThen_ok, Sem.run_pure]
theorem ex_vfld {S : TypeId} {x : Operand} {j b p : Nat} {fs : Array Field} {f : Field} (off : Nat) (hf : FrV N env a) (ho : o.op = .fieldAddr S x j) (hx : ev env x = some (.pointer (some ⟨b, p, none⟩))) (hu : P.underlying S = some (.struct fs)) (hj : fs[j]? = some f) (hs : ((P.info? f.type).map (·.size)).getD 0 ≠ 0) (hoff : p + f.offset = off) : (execOp a.eval o).run P w = .ok (.value (.pointer (some ⟨b, off, none⟩))) w := by
 subst hoff
 exact ex_field S x j b p fs f ho (hf.ev hx) hu hj hs
theorem ex_vlc {t : TypeId} {x : Operand} {b p : Nat} {cs : List Value} {v : Value} {td : TypeDesc} (hf : FrV N env a) (ho : o.op = .load t x) (hx : ev env x = some (.pointer (some ⟨b, p, none⟩))) (hb : Box w b cs) (hc : cs[p]? = some v) (hu : P.underlying t = some td) (hr : td.isRow = false) : (execOp a.eval o).run P w = .ok (.value v) w :=
 ex_load_cell t x b p v td ho (hf.ev hx) (hb.cell p v hc) hu hr
theorem ex_vlm {t : TypeId} {x : Operand} {b p : Nat} {v : Value} {td : TypeDesc} (hf : FrV N env a) (ho : o.op = .load t x) (hx : ev env x = some (.pointer (some ⟨b, p, none⟩))) (hc : w.cell? ⟨b, p, none⟩ = some v) (hu : P.underlying t = some td) (hr : td.isRow = false) : (execOp a.eval o).run P w = .ok (.value v) w :=
 ex_load_cell t x b p v td ho (hf.ev hx) hc hu hr
theorem ex_vlr {t : TypeId} {x : Operand} {b : Nat} {cs : List Value} {fs : Array Field} (hf : FrV N env a) (ho : o.op = .load t x) (hx : ev env x = some (.pointer (some ⟨b, 0, none⟩))) (hb : Box w b cs) (hu : P.underlying t = some (.struct fs)) (hn : (P.info? t).map (·.size) = some cs.length) : (execOp a.eval o).run P w = .ok (.value (.agg cs.toArray)) w :=
 ex_load_row t x b 0 cs (.struct fs) ho (hf.ev hx) hb.rng hu rfl hn
theorem ex_vmv {x : Operand} {v : Value} (hf : FrV N env a) (ho : o.op = .move x) (hx : ev env x = some v) : (execOp a.eval o).run P w = .ok (.value v) w := ex_mv ho (hf.ev hx)
theorem ex_vas {x : Operand} {v : Value} (hf : FrV N env a) (ho : o.op = .assign x) (hx : ev env x = some v) : (execOp a.eval o).run P w = .ok (.value v) w := ex_as ho (hf.ev hx)
theorem ex_vext {x : Operand} {j : Nat} {vs : Array Value} {v : Value} (hf : FrV N env a) (ho : o.op = .extract x j) (hx : ev env x = some (.tuple vs)) (hj : vs[j]? = some v) : (execOp a.eval o).run P w = .ok (.value v) w := by
 unfold execOp
 simp [ho, hf.ev hx, Instr.extract, hj]
end
section
variable {P : Program} {ops : Array Oper} {Q : Exit → Act → World → Prop} {N : Nat} {env : VEnv} {a : Act} {w : World} {S : World → Prop} {R : Act → World → Prop} {i d : Nat} {rest : List (Nat × Nat)} {oi : Oper} {v : Value}
theorem ov0 (hf : FrV N env a) (hi : ops[i]? = some oi) (hd : oi.dst = some d) (hdN : d < N) (hw : Region.wanted oi (yielded ops a.tmps) = true) (hrun : ∀ W, (execOp a.eval oi).run P W = .ok (.value v) W) (h : ∀ a', FrV N ((d, v) :: env) a' → wpOrd P ops Q S R rest a' w) : wpOrd P ops Q S R ((i, 0) :: rest) a w :=
 wpOrd_read0 v hi hw hrun (fun K hK => hK _ _ (by rw [hd]; exact h _ (hf.put hdN v)))
theorem ov1 (hf : FrV N env a) (hi : ops[i]? = some oi) (hd : oi.dst = some d) (hdN : d < N) (hw : Region.wanted oi (yielded ops a.tmps) = true) (hrun : ∀ W, S W → (execOp a.eval oi).run P W = .ok (.value v) W) (h : ∀ a', FrV N ((d, v) :: env) a' → wpOrd P ops Q S R rest a' w) : wpOrd P ops Q S R ((i, 1) :: rest) a w :=
 wpOrd_read1 v hi hw hrun (fun K hK => hK _ _ (by rw [hd]; exact h _ (hf.put hdN v)))
theorem ov2c {g : FuncId} {xs : List Operand} {vs : List Value} {ts : Array TypeId} {R' : Ending → World → Prop} (hf : FrV N env a) (hi : ops[i]? = some oi) (hd : oi.dst = some d) (hdN : d < N) (hw : Region.wanted oi (yielded ops a.tmps) = true) (ho : oi.op = .call { callee := .value (.func g), args := xs.toArray, argTypes := ts }) (hF : FnOK P g) (hx : evs env xs = some vs) (hc : Calls P g vs.toArray w R') (h : ∀ e w', R' e w' → ∃ v, e = .returned v ∧ S w' ∧ ∀ a', FrV N ((d, v) :: env) a' → wpOrd P ops Q S R rest a' w') : wpOrd P ops Q S R ((i, 2) :: rest) a w := by
 refine wpOrd_eff2 hi hw (fun K hK => ?_)
 unfold Oper.wp
 rw [ex_call (w := w) hF rfl ho, Oper.upon_enter, List.map_toArray, hf.evs hx]
 refine hc.mono ?_
 intro e w' hr
 obtain ⟨v, rfl, hs, hk⟩ := h e w' hr
 refine hK _ _ hs ?_
 rw [hd]
 exact hk _ (hf.put hdN v)
theorem ov3 {w' : World} (hi : ops[i]? = some oi) (hd : oi.dst = none) (hw : Region.wanted oi (yielded ops a.tmps) = true) (hrun : (execOp a.eval oi).run P w = .ok .skip w') (h : wpOrd P ops Q S R rest a w') : wpOrd P ops Q S R ((i, 3) :: rest) a w := by
 refine wpOrd_eff3 hi hw (fun K hK => ?_)
 unfold Oper.wp
 rw [hrun, Oper.upon_skip, hd]
 exact hK _ _ h
theorem ov3v (hf : FrV N env a) (hi : ops[i]? = some oi) (hd : oi.dst = some d) (hdN : d < N) (hw : Region.wanted oi (yielded ops a.tmps) = true) (hrun : (execOp a.eval oi).run P w = .ok (.value v) w) (h : ∀ a', FrV N ((d, v) :: env) a' → wpOrd P ops Q S R rest a' w) : wpOrd P ops Q S R ((i, 3) :: rest) a w := by
 refine wpOrd_eff3 hi hw (fun K hK => ?_)
 unfold Oper.wp
 rw [hrun, Oper.upon_value, hd]
 exact hK _ _ (h _ (hf.put hdN v))
theorem wanted_known {j : Nat} {b : Bool} (hf : FrV N env a) (hN : dstB ops j N = true) (hg : oi.guard = some (j, b)) (h : gv ops env j = some (.bool b)) : Region.wanted oi (yielded ops a.tmps) = true := by
 rw [wanted_of hf (dstB_spec hN) hg h]; simp
end
section
variable {P : Program} {ops : Array Oper} {Q : Exit → Act → World → Prop} {N : Nat}
end
theorem Bx.grown {b : Base} {W W' : World} {l : List (Nat × List Value)} {row : Option Nat} (h : Bx b l W) (hg : W.grownBy W' row) (hr : ∀ k, row = some k → b.w.heap.size ≤ k ∧ (∀ x ∈ l, x.1 ≠ k) ∧ ∀ p ∈ b.bs, k < p.1.heap.size → ¬ p.2 k) : Bx b l W' := by
 have hblk : ∀ x ∈ l, W'.heap[x.1]? = W.heap[x.1]? := fun x hx => hg.block x.1 (h.box x hx).lt (fun e => (hr x.1 e.symm).2.1 x hx rfl)
 refine ⟨fun x hx => ?_, ?_, h.ge, h.nd, fun p hp => ⟨Nat.le_trans (h.bas p hp).1 hg.size, fun k hk hpk => ?_⟩, h.bge⟩
 ·have hb := h.box x hx
  exact ⟨fun j v hv => (World.cell?_of_block (a := ⟨x.1, 0 + j, none⟩) (hblk x hx)).trans (hb.rng j v hv), fun o => (World.frozen?_of_block (a := ⟨x.1, o, none⟩) (hblk x hx)).trans (hb.free o), Nat.lt_of_lt_of_le hb.lt hg.size⟩
 ·refine ⟨hg.os.trans h.low.os, hg.tape.trans h.low.tape, hg.output.trans h.low.output, Nat.le_trans h.low.size hg.size, fun k hk => ?_⟩
  exact (hg.block k (Nat.lt_of_lt_of_le hk h.low.size) (fun e => by have := (hr k e.symm).1; omega)).trans (h.low.block k hk)
 ·exact (hg.block k (Nat.lt_of_lt_of_le hk (h.bas p hp).1) (fun e => (hr k e.symm).2.2 p hp hk hpk)).trans ((h.bas p hp).2 k hk hpk)
section
variable {P : Program} {N : Nat} {env : VEnv} {a : Act} {ops : Array Oper} {rest : List Oper} {Q : Exit → Act → World → Prop} {w : World} {b : Base} {l : List (Nat × List Value)} {d y x z : Nat} {ps : String} {af : Array Edge} {t : TypeId}
end
section
variable {P : Program} {w : World} {o : Oper} {a : Act} {N : Nat} {env : VEnv}
end
section
variable {P : Program} {ops : Array Oper} {Q : Exit → Act → World → Prop} {N : Nat} {env : VEnv} {a : Act} {w : World} {S : World → Prop} {R : Act → World → Prop} {i d : Nat} {rest : List (Nat × Nat)} {oi : Oper} {v : Value}
theorem ov2w {w' : World} (hf : FrV N env a) (hi : ops[i]? = some oi) (hd : oi.dst = some d) (hdN : d < N) (hw : Region.wanted oi (yielded ops a.tmps) = true) (hrun : (execOp a.eval oi).run P w = .ok (.value v) w') (hS : S w') (h : ∀ a', FrV N ((d, v) :: env) a' → wpOrd P ops Q S R rest a' w') : wpOrd P ops Q S R ((i, 2) :: rest) a w := by
 refine wpOrd_eff2 hi hw (fun K hK => ?_)
 unfold Oper.wp
 rw [hrun, Oper.upon_value, hd]
 exact hK _ _ hS (h _ (hf.put hdN v))
theorem ov3w {w' : World} (hf : FrV N env a) (hi : ops[i]? = some oi) (hd : oi.dst = some d) (hdN : d < N) (hw : Region.wanted oi (yielded ops a.tmps) = true) (hrun : (execOp a.eval oi).run P w = .ok (.value v) w') (h : ∀ a', FrV N ((d, v) :: env) a' → wpOrd P ops Q S R rest a' w') : wpOrd P ops Q S R ((i, 3) :: rest) a w := by
 refine wpOrd_eff3 hi hw (fun K hK => ?_)
 unfold Oper.wp
 rw [hrun, Oper.upon_value, hd]
 exact hK _ _ (h _ (hf.put hdN v))
theorem ov3c {g : FuncId} {xs : List Operand} {vs : List Value} {ts : Array TypeId} {R' : Ending → World → Prop} (hf : FrV N env a) (hi : ops[i]? = some oi) (hd : oi.dst = some d) (hdN : d < N) (hw : Region.wanted oi (yielded ops a.tmps) = true) (ho : oi.op = .call { callee := .value (.func g), args := xs.toArray, argTypes := ts }) (hF : FnOK P g) (hx : evs env xs = some vs) (hc : Calls P g vs.toArray w R') (h : ∀ e w', R' e w' → ∃ v, e = .returned v ∧ ∀ a', FrV N ((d, v) :: env) a' → wpOrd P ops Q S R rest a' w') : wpOrd P ops Q S R ((i, 3) :: rest) a w := by
 refine wpOrd_eff3 hi hw (fun K hK => ?_)
 unfold Oper.wp
 rw [ex_call (w := w) hF rfl ho, Oper.upon_enter, List.map_toArray, hf.evs hx]
 refine hc.mono ?_
 intro e w' hr
 obtain ⟨v, rfl, hk⟩ := h e w' hr
 refine hK _ _ ?_
 rw [hd]
 exact hk _ (hf.put hdN v)
end
section
variable {P : Program} {w : World}
theorem ex_apps {o : Oper} {ρ : Operand → Value} {x z : Operand} {t e : TypeId} {z0 : Value} {size bytes base n m c : Nat} {v : Value} {xs news : List Value} {ad : Addr} (ho : o.op = .call { callee := .builtin .append, args := #[x, z], argTypes := #[t, t] }) (hx : ρ x = v) (hz : ρ z = .slice (some ad) m c) (hu : P.underlying t = some (.slice e)) (hi : (P.info? e).map (fun i => (i.zero, i.size, i.bytes)) = some (some z0, size, bytes)) (hzs : z0.cells.size = size) (hsz : 0 < size)
  (hown : w.ownsRow base e size v n xs) (hl : news.length = m * size) (hnews : ∀ j u, news[j]? = some u → w.cell? (ad.add j) = some u) (h1 : ∀ u ∈ news, u.oneCell' = true) (h63 : n + m ≤ maxLen) (hbytes : (n + m) * bytes ≤ 140737488355328) (hbase : base ≤ w.heap.size) :
  ∃ v' w', (execOp ρ o).run P w = .ok (.value v') w' ∧ w'.ownsRow base e size v' (n + m) (xs ++ news) ∧ w.grownBy w' v.ownBlock ∧ (∀ k, v'.ownBlock = some k → v.ownBlock = some k ∨ w.heap.size ≤ k) ∧ (∃ ad c, v' = .slice ad (n + m) c) := by
 obtain ⟨i0, hi', hz0, hz1, hz2⟩ := info_parts hi
 obtain ⟨v', w', hr, h2, h3, h4, h5⟩ := run_append_own_at (P := P) w base t o.type e i0 z0 size bytes hu hi' hz0 hz1 hz2 hzs hsz v n xs hown ad m c news hl hnews h1 h63 hbytes hbase
 refine ⟨v', w', ?_, h2, h3, fun k hk => ?_, ?_⟩
 ·unfold execOp
  simp only [ho, resolve, invoke, builtin, Sem.run_bind, Sem.run_pure, Result.andThen_ok, List.map_toArray, List.map_cons, List.map_nil, hx, hz, hr]
 ·rcases h5 with h5 | h5
  ·exact .inl (h5 ▸ hk)
  ·rw [h5] at hk
   exact .inr (Nat.le_of_eq (Option.some.inj hk))
 ·rcases h2.2 with ⟨h6, h7⟩ | ⟨g, cap, cur, rfl, _⟩
  ·exact ⟨none, 0, by rw [h6, h7]⟩
  ·exact ⟨_, _, rfl⟩
end
section
variable {P : Program} {ops : Array Oper} {Q : Exit → Act → World → Prop} {N : Nat} {env : VEnv} {a : Act} {w : World} {S : World → Prop} {R : Act → World → Prop} {i d : Nat} {rest : List (Nat × Nat)} {oi : Oper} {v : Value} {b : Base} {l : List (Nat × List Value)}
end
section
variable {P : Program} {N : Nat} {env : VEnv} {a : Act} {ops : Array Oper} {rest : List Oper} {Q : Exit → Act → World → Prop} {w : World} {b : Base} {l : List (Nat × List Value)} {d y x z : Nat} {ps : String} {af : Array Edge} {t : TypeId}
end
section
variable {P : Program} {w : World} {o : Oper} {a : Act} {N : Nat} {env : VEnv}
end
section
variable {P : Program} {w : World} {o : Oper} {a : Act} {N : Nat} {env : VEnv}
end
inductive Tr where
 | mk (k n : Int) (s : ByteArray) (l d : Tr)
 | nil
 | lcons (t r : Tr)
 | fcons (m : ByteArray) (t r : Tr)
namespace Tr
def lst : Tr → List Tr
 | lcons t r => t :: r.lst
 | fcons _ t r => t :: r.lst
 | _ => []
def nms : Tr → List ByteArray
 | fcons m _ r => m :: r.nms
 | _ => []
abbrev len (t : Tr) : Nat := t.lst.length
def isL : Tr → Bool
 | nil => true
 | lcons _ r => r.isL
 | _ => false
def isF : Tr → Bool
 | nil => true
 | fcons _ _ r => r.isF
 | _ => false
def isV : Tr → Bool
 | mk _ _ _ _ _ => true
 | _ => false
def ofL : List Tr → Tr
 | [] => nil
 | t :: l => lcons t (ofL l)
def ofF : List (ByteArray × Tr) → Tr
 | [] => nil
 | (m, t) :: l => fcons m t (ofF l)
def sz : Tr → Nat
 | mk _ _ _ l d => 1 + l.sz + d.sz
 | nil => 1
 | lcons t r => 1 + t.sz + r.sz
 | fcons _ t r => 1 + t.sz + r.sz
theorem sz_lst : ∀ (l t : Tr), t ∈ l.lst → t.sz < l.sz
 | mk _ _ _ _ _, t, h => by cases h
 | nil, t, h => by cases h
 | lcons a r, t, h => by
  rcases List.mem_cons.1 h with rfl | h
  ·simp only [sz]; omega
  ·have := sz_lst r t h; simp only [sz]; omega
 | fcons _ a r, t, h => by
  rcases List.mem_cons.1 h with rfl | h
  ·simp only [sz]; omega
  ·have := sz_lst r t h; simp only [sz]; omega
theorem nms_len : ∀ d : Tr, d.isF = true → d.nms.length = d.len
 | nil, _ => rfl
 | fcons _ _ r, h => congrArg (· + 1) (nms_len r h)
 | mk _ _ _ _ _, h => by cases h
 | lcons _ _, h => by cases h
def parts : Tr → List Tr
 | mk k _ _ l d => if k = 6 then l.lst else if k = 5 then d.lst else []
 | _ => []
theorem sz_parts {v t : Tr} (h : t ∈ v.parts) : t.sz < v.sz := by
 cases v with
 | mk k n s l d =>
  simp only [parts] at h
  split at h
  ·have := sz_lst l t h; simp only [sz]; omega
  ·split at h
   ·have := sz_lst d t h; simp only [sz]; omega
   ·cases h
 | _ => cases h
def nod : Tr → Nat
 | mk k _ _ l d => 1 + (if k = 6 then l.nod else if k = 5 then d.nod else 0)
 | nil => 0
 | lcons t r => t.nod + r.nod
 | fcons _ t r => t.nod + r.nod
def dep : Tr → Nat
 | mk k _ _ l d => 1 + (if k = 6 then l.dep else if k = 5 then d.dep else 0)
 | nil => 0
 | lcons t r => max t.dep r.dep
 | fcons _ t r => max t.dep r.dep
theorem nod_lst : ∀ l : Tr, l.isL = true ∨ l.isF = true → l.nod = (l.lst.map nod).sum
 | nil, _ => rfl
 | lcons t r, h => by
  have := nod_lst r (by rcases h with h | h; exact .inl h; cases h)
  simp only [nod, lst, List.map_cons, List.sum_cons, this]
 | fcons _ t r, h => by
  have := nod_lst r (by rcases h with h | h; cases h; exact .inr h)
  simp only [nod, lst, List.map_cons, List.sum_cons, this]
 | mk _ _ _ _ _, h => by rcases h with h | h <;> cases h
theorem dep_lst : ∀ l : Tr, l.isL = true ∨ l.isF = true → l.dep = (l.lst.map dep).foldr max 0
 | nil, _ => rfl
 | lcons t r, h => by
  have := dep_lst r (by rcases h with h | h; exact .inl h; cases h)
  simp only [dep, lst, List.map_cons, List.foldr_cons, this]
 | fcons _ t r, h => by
  have := dep_lst r (by rcases h with h | h; cases h; exact .inr h)
  simp only [dep, lst, List.map_cons, List.foldr_cons, this]
 | mk _ _ _ _ _, h => by rcases h with h | h <;> cases h
abbrev kI (k : Int) : Bool := k = 3 || k = 9 || k = 10
abbrev kT (k : Int) : Bool := k = 4 || k = 7 || k = 8
def chN (c : UInt8) : Bool := !(decide (c.toNat < 33) || decide (126 < c.toNat) || decide (c.toNat = 46))
def isN (s : ByteArray) : Bool := decide (1 ≤ s.size) && decide (s.size ≤ 32) && !decide (s.data.toList.head? = some 36) && s.data.toList.all chN
def nmsOK : List ByteArray → List ByteArray → Bool
 | _, [] => true
 | seen, m :: r => isN m && !seen.any (fun x => decide (x = m)) && nmsOK (m :: seen) r
def snd : Tr → Bool
 | mk k n s l d => (kI k || decide (n = 0)) && (kT k || decide (s.size = 0)) && (decide (k = 6) || decide (l.len = 0)) && (decide (k = 5) || decide (d.len = 0)) &&
   (if k = 1 ∨ k = 2 ∨ k = 11 ∨ k = 3 then true else if k = 9 then decide (n = 0) || decide (n = 1) else if k = 10 then decide (0 ≤ n) else if k = 4 then decide (s.size ≤ 4096) && Lib.validD s.data.toList else if k = 7 then decide (s.size ≤ 4096) else if k = 8 then decide (s.size = 12) else if k = 6 then l.snd else if k = 5 then d.snd && nmsOK [] d.nms else false)
 | nil => true
 | lcons t r => t.snd && r.snd
 | fcons _ t r => t.snd && r.snd
def valid (t : Tr) : Bool := decide (t.nod ≤ 1024) && decide (t.dep ≤ 16) && t.snd
def allowed : Tr → Bool
 | mk k n s l d => if k = 0 then decide (n = 0) && decide (s.size = 0) && decide (l.len = 0) && decide (d.len = 0) else (mk k n s l d).valid
 | t => t.valid
def cmp : Tr → Tr → Int
 | mk k n s l d, t => match t with
  | mk k' n' s' l' d' => if k ≠ k' then Lib.compareInt k k' else if kI k then Lib.compareInt n n' else if kT k then Lib.compareBytes s.data.toList s'.data.toList else if k = 6 then l.cmp l' else if k = 5 then d.cmp d' else 0
  | _ => 0
 | nil, t => if t.len = 0 then 0 else -1
 | lcons a r, t => match t with
  | lcons b r' => if a.cmp b ≠ 0 then a.cmp b else r.cmp r'
  | _ => 1
 | fcons m a r, t => match t with
  | fcons m' b r' => if Lib.compareBytes m.data.toList m'.data.toList ≠ 0 then Lib.compareBytes m.data.toList m'.data.toList else if a.cmp b ≠ 0 then a.cmp b else r.cmp r'
  | _ => 1
def be8 (n : Int) : List UInt8 := (List.range 8).map fun i => UInt8.ofNat (((n + 9223372036854775808).toNat / 2 ^ (8 * (7 - i))) % 256)
def esc (l : List UInt8) : List UInt8 := l.flatMap fun c => if c = 0 then [0, 255] else [c]
abbrev kB (k : Int) : UInt8 := UInt8.ofNat (k % 256).toNat
def kb : Tr → List UInt8
 | mk k n s l d => kB k :: (if kI k then be8 n else if kT k then esc s.data.toList ++ [0, 0] else if k = 6 then l.kb else if k = 5 then d.kb else [])
 | nil => [0]
 | lcons t r => 1 :: (t.kb ++ r.kb)
 | fcons m t r => 1 :: (m.data.toList ++ (0 :: (t.kb ++ r.kb)))
def zz (n : Int) : Nat := if 0 ≤ n then (2 * n).toNat else (-2 * n - 1).toNat
def nb (n : Int) : List UInt8 := vlq (zz n)
def cb : Tr → List UInt8
 | mk k n s l d => kB k :: (if k = 3 ∨ k = 10 then nb n else if k = 9 then [UInt8.ofNat (n % 256).toNat] else if k = 4 ∨ k = 7 then nb s.size ++ s.data.toList else if k = 8 then s.data.toList else if k = 6 then nb l.len ++ l.cb else if k = 5 then nb d.len ++ d.cb else [])
 | nil => []
 | lcons t r => t.cb ++ r.cb
 | fcons m t r => (nb m.size ++ m.data.toList) ++ (t.cb ++ r.cb)
end Tr
open Go.ChangeShapes Go.WideShapes Go.ChangeAt Go.RowKit Go.ChangeMaps Go.Joins Go.Deep
set_option linter.unusedVariables false
set_option linter.unusedSimpArgs false
set_option maxRecDepth 100000
inductive Pl where
 | val (cs : List Value)
 | row (B o : Nat)
abbrev wfI (n : Int) : Prop := (Lit.int .i64 n).wf = true
def rep (W : World) (F : Nat → Prop) : Tr → Pl → Prop
 | .mk k n s l d, .val cs => ∃ la lc da dc, cs = [.int .i64 k, .int .i64 n, .string s, .slice la l.len lc, .slice da d.len dc] ∧ (wfI k ∧ wfI n ∧ s.size ≤ maxLen) ∧ (l.isL = true ∧ d.isF = true) ∧ (l.len ≤ lc ∧ lc ≤ maxLen ∧ (la = none → lc = 0)) ∧ (d.len ≤ dc ∧ dc ≤ maxLen ∧ (da = none → dc = 0)) ∧ (0 < l.len → ∃ B o, la = some ⟨B, o, none⟩ ∧ F B ∧ B < W.heap.size ∧ rep W F l (.row B o)) ∧ (0 < d.len → ∃ B o, da = some ⟨B, o, none⟩ ∧ F B ∧ B < W.heap.size ∧ rep W F d (.row B o))
 | .nil, .row _ _ => True
 | .lcons t r, .row B o => (∃ ds, ds.length = 5 ∧ W.rangeAt B o ds ∧ rep W F t (.val ds)) ∧ rep W F r (.row B (o + 5))
 | .fcons m t r, .row B o => (∃ ds, ds.length = 5 ∧ m.size ≤ maxLen ∧ W.rangeAt B o (.string m :: ds) ∧ rep W F t (.val ds)) ∧ rep W F r (.row B (o + 6))
 | _, _ => False
abbrev VAt (W : World) (F : Nat → Prop) (t : Tr) (cs : List Value) : Prop := rep W F t (.val cs)
def LAt (W : World) (F : Nat → Prop) (l : Tr) (v : Value) : Prop := ∃ a c, v = .slice a l.len c ∧ l.isL = true ∧ l.len ≤ c ∧ c ≤ maxLen ∧ (a = none → c = 0) ∧ (0 < l.len → ∃ B o, a = some ⟨B, o, none⟩ ∧ F B ∧ B < W.heap.size ∧ rep W F l (.row B o))
def FAt (W : World) (F : Nat → Prop) (d : Tr) (v : Value) : Prop := ∃ a c, v = .slice a d.len c ∧ d.isF = true ∧ d.len ≤ c ∧ c ≤ maxLen ∧ (a = none → c = 0) ∧ (0 < d.len → ∃ B o, a = some ⟨B, o, none⟩ ∧ F B ∧ B < W.heap.size ∧ rep W F d (.row B o))
theorem rep_row_mono {W W' : World} {B o : Nat} {cs : List Value} (h : W.rangeAt B o cs) (hk : W'.heap[B]? = W.heap[B]?) : W'.rangeAt B o cs := fun i u hu => by
 have := h i u hu
 simp only [World.cell?] at this ⊢
 rw [hk]
 exact this
theorem rep_kept {W W' : World} {F G : Nat → Prop} (hs : W.heap.size ≤ W'.heap.size) (hk : ∀ k, F k → k < W.heap.size → W'.heap[k]? = W.heap[k]?) (hG : ∀ k, F k → k < W.heap.size → G k) : ∀ (t : Tr) (p : Pl), rep W F t p → (∀ B o, p = .row B o → F B ∧ B < W.heap.size) → rep W' G t p
 | .mk k n s l d, .val cs, h, _ => by
  obtain ⟨la, lc, da, dc, e, h1, h2, h3, h4, h5, h6⟩ := h
  refine ⟨la, lc, da, dc, e, h1, h2, h3, h4, fun h0 => ?_, fun h0 => ?_⟩
  ·obtain ⟨B, o, e1, f1, f2, f3⟩ := h5 h0
   exact ⟨B, o, e1, hG B f1 f2, Nat.lt_of_lt_of_le f2 hs, rep_kept hs hk hG l _ f3 (fun B' o' e => by obtain ⟨rfl, rfl⟩ := Pl.row.inj e; exact ⟨f1, f2⟩)⟩
  ·obtain ⟨B, o, e1, f1, f2, f3⟩ := h6 h0
   exact ⟨B, o, e1, hG B f1 f2, Nat.lt_of_lt_of_le f2 hs, rep_kept hs hk hG d _ f3 (fun B' o' e => by obtain ⟨rfl, rfl⟩ := Pl.row.inj e; exact ⟨f1, f2⟩)⟩
 | .mk _ _ _ _ _, .row _ _, h, _ => h.elim
 | .nil, .row _ _, _, _ => trivial
 | .nil, .val _, h, _ => h.elim
 | .lcons t r, .row B o, h, hp => by
  obtain ⟨⟨ds, h1, h2, h3⟩, h4⟩ := h
  obtain ⟨f1, f2⟩ := hp B o rfl
  exact ⟨⟨ds, h1, rep_row_mono h2 (hk B f1 f2), rep_kept hs hk hG t _ h3 (fun _ _ e => by cases e)⟩, rep_kept hs hk hG r _ h4 (fun B' o' e => by obtain ⟨rfl, rfl⟩ := Pl.row.inj e; exact ⟨f1, f2⟩)⟩
 | .lcons _ _, .val _, h, _ => h.elim
 | .fcons m t r, .row B o, h, hp => by
  obtain ⟨⟨ds, h1, h0, h2, h3⟩, h4⟩ := h
  obtain ⟨f1, f2⟩ := hp B o rfl
  exact ⟨⟨ds, h1, h0, rep_row_mono h2 (hk B f1 f2), rep_kept hs hk hG t _ h3 (fun _ _ e => by cases e)⟩, rep_kept hs hk hG r _ h4 (fun B' o' e => by obtain ⟨rfl, rfl⟩ := Pl.row.inj e; exact ⟨f1, f2⟩)⟩
 | .fcons _ _ _, .val _, h, _ => h.elim
theorem VAt.kept {W W' : World} {F G : Nat → Prop} {t : Tr} {cs : List Value} (h : VAt W F t cs) (hs : W.heap.size ≤ W'.heap.size) (hk : ∀ k, F k → k < W.heap.size → W'.heap[k]? = W.heap[k]?) (hG : ∀ k, F k → k < W.heap.size → G k) : VAt W' G t cs := rep_kept hs hk hG t _ h (fun _ _ e => by cases e)
theorem VAt.below {W W' : World} {F : Nat → Prop} {t : Tr} {cs : List Value} (h : VAt W F t cs) (hb : Below W.heap.size W W') : VAt W' F t cs := h.kept hb.size (fun k _ hl => hb.block k hl) (fun _ h _ => h)
theorem LAt.kept {W W' : World} {F G : Nat → Prop} {t : Tr} {v : Value} (h : LAt W F t v) (hs : W.heap.size ≤ W'.heap.size) (hk : ∀ k, F k → k < W.heap.size → W'.heap[k]? = W.heap[k]?) (hG : ∀ k, F k → k < W.heap.size → G k) : LAt W' G t v := by
 obtain ⟨a, c, e, h1, h2, h3, h4, h5⟩ := h
 refine ⟨a, c, e, h1, h2, h3, h4, fun h0 => ?_⟩
 obtain ⟨B, o, e1, f1, f2, f3⟩ := h5 h0
 exact ⟨B, o, e1, hG B f1 f2, Nat.lt_of_lt_of_le f2 hs, rep_kept hs hk hG t _ f3 (fun B' o' e => by obtain ⟨rfl, rfl⟩ := Pl.row.inj e; exact ⟨f1, f2⟩)⟩
theorem FAt.kept {W W' : World} {F G : Nat → Prop} {t : Tr} {v : Value} (h : FAt W F t v) (hs : W.heap.size ≤ W'.heap.size) (hk : ∀ k, F k → k < W.heap.size → W'.heap[k]? = W.heap[k]?) (hG : ∀ k, F k → k < W.heap.size → G k) : FAt W' G t v := by
 obtain ⟨a, c, e, h1, h2, h3, h4, h5⟩ := h
 refine ⟨a, c, e, h1, h2, h3, h4, fun h0 => ?_⟩
 obtain ⟨B, o, e1, f1, f2, f3⟩ := h5 h0
 exact ⟨B, o, e1, hG B f1 f2, Nat.lt_of_lt_of_le f2 hs, rep_kept hs hk hG t _ f3 (fun B' o' e => by obtain ⟨rfl, rfl⟩ := Pl.row.inj e; exact ⟨f1, f2⟩)⟩
theorem LAt.below {W W' : World} {F : Nat → Prop} {t : Tr} {v : Value} (h : LAt W F t v) (hb : Below W.heap.size W W') : LAt W' F t v := h.kept hb.size (fun k _ hl => hb.block k hl) (fun _ h _ => h)
theorem VAt.parts {W : World} {F : Nat → Prop} {k n : Int} {s : ByteArray} {l d : Tr} {cs : List Value} (h : VAt W F (.mk k n s l d) cs) : ∃ la lc da dc, cs = [.int .i64 k, .int .i64 n, .string s, .slice la l.len lc, .slice da d.len dc] ∧ wfI k ∧ wfI n ∧ s.size ≤ maxLen ∧ LAt W F l (.slice la l.len lc) ∧ FAt W F d (.slice da d.len dc) := by
 obtain ⟨la, lc, da, dc, e, ⟨h1, h2, h3⟩, ⟨h4, h5⟩, ⟨h6, h7, h8⟩, ⟨h9, h10, h11⟩, h12, h13⟩ := h
 exact ⟨la, lc, da, dc, e, h1, h2, h3, ⟨la, lc, rfl, h4, h6, h7, h8, h12⟩, ⟨da, dc, rfl, h5, h9, h10, h11, h13⟩⟩
theorem VAt.isV {W : World} {F : Nat → Prop} {t : Tr} {cs : List Value} (h : VAt W F t cs) : ∃ k n s l d, t = .mk k n s l d := by
 cases t with
 | mk k n s l d => exact ⟨k, n, s, l, d, rfl⟩
 | _ => exact h.elim
theorem VAt.mk {W : World} {F : Nat → Prop} {k n : Int} {s : ByteArray} {l d : Tr} {lv dv : Value} (h1 : wfI k) (h2 : wfI n) (h3 : s.size ≤ maxLen) (hl : LAt W F l lv) (hd : FAt W F d dv) : VAt W F (.mk k n s l d) [.int .i64 k, .int .i64 n, .string s, lv, dv] := by
 obtain ⟨la, lc, rfl, h4, h6, h7, h8, h12⟩ := hl
 obtain ⟨da, dc, rfl, h5, h9, h10, h11, h13⟩ := hd
 exact ⟨la, lc, da, dc, rfl, ⟨h1, h2, h3⟩, ⟨h4, h5⟩, ⟨h6, h7, h8⟩, ⟨h9, h10, h11⟩, h12, h13⟩
theorem LAt.nil (W : World) (F : Nat → Prop) : LAt W F .nil (.slice none 0 0) := ⟨none, 0, rfl, rfl, Nat.le_refl _, Nat.zero_le _, fun _ => rfl, fun h => absurd h (Nat.lt_irrefl _)⟩
theorem FAt.nil (W : World) (F : Nat → Prop) : FAt W F .nil (.slice none 0 0) := ⟨none, 0, rfl, rfl, Nat.le_refl _, Nat.zero_le _, fun _ => rfl, fun h => absurd h (Nat.lt_irrefl _)⟩
theorem rep_getL {W : World} {F : Nat → Prop} : ∀ (l : Tr) (B o j : Nat) (t : Tr), l.isL = true → rep W F l (.row B o) → l.lst[j]? = some t → ∃ ds, ds.length = 5 ∧ W.rangeAt B (o + j * 5) ds ∧ VAt W F t ds
 | .nil, _, _, _, _, _, _, h => by cases h
 | .mk _ _ _ _ _, _, _, _, _, h, _, _ => by cases h
 | .fcons _ _ _, _, _, _, _, h, _, _ => by cases h
 | .lcons a r, B, o, 0, t, _, hr, h => by
  obtain rfl := Option.some.inj h
  obtain ⟨⟨ds, h1, h2, h3⟩, _⟩ := hr
  exact ⟨ds, h1, by rwa [Nat.zero_mul, Nat.add_zero], h3⟩
 | .lcons a r, B, o, j + 1, t, hl, hr, h => by
  obtain ⟨ds, h1, h2, h3⟩ := rep_getL r B (o + 5) j t hl hr.2 h
  exact ⟨ds, h1, by rwa [show o + (j + 1) * 5 = o + 5 + j * 5 by omega], h3⟩
theorem rep_getF {W : World} {F : Nat → Prop} : ∀ (d : Tr) (B o j : Nat) (t : Tr), d.isF = true → rep W F d (.row B o) → d.lst[j]? = some t → ∃ m ds, d.nms[j]? = some m ∧ m.size ≤ maxLen ∧ ds.length = 5 ∧ W.rangeAt B (o + j * 6) (.string m :: ds) ∧ VAt W F t ds
 | .nil, _, _, _, _, _, _, h => by cases h
 | .mk _ _ _ _ _, _, _, _, _, h, _, _ => by cases h
 | .lcons _ _, _, _, _, _, h, _, _ => by cases h
 | .fcons m a r, B, o, 0, t, _, hr, h => by
  obtain rfl := Option.some.inj h
  obtain ⟨⟨ds, h1, h0, h2, h3⟩, _⟩ := hr
  exact ⟨m, ds, rfl, h0, h1, by rwa [Nat.zero_mul, Nat.add_zero], h3⟩
 | .fcons m a r, B, o, j + 1, t, hl, hr, h => by
  obtain ⟨m', ds, h0, h1, h2, h3, h4⟩ := rep_getF r B (o + 6) j t hl hr.2 h
  exact ⟨m', ds, h0, h1, h2, by rwa [show o + (j + 1) * 6 = o + 6 + j * 6 by omega], h4⟩
theorem LAt.get {W : World} {F : Nat → Prop} {l : Tr} {v : Value} (h : LAt W F l v) {j : Nat} (hj : j < l.len) : ∃ B o c t ds, v = .slice (some ⟨B, o, none⟩) l.len c ∧ F B ∧ B < W.heap.size ∧ l.lst[j]? = some t ∧ ds.length = 5 ∧ W.rangeAt B (o + j * 5) ds ∧ VAt W F t ds := by
 obtain ⟨a, c, e, h1, h2, h3, h4, h5⟩ := h
 obtain ⟨B, o, rfl, f1, f2, f3⟩ := h5 (by omega)
 obtain ⟨ds, g1, g2, g3⟩ := rep_getL l B o j _ h1 f3 (List.getElem?_eq_getElem hj)
 exact ⟨B, o, c, _, ds, e, f1, f2, List.getElem?_eq_getElem hj, g1, g2, g3⟩
theorem FAt.get {W : World} {F : Nat → Prop} {d : Tr} {v : Value} (h : FAt W F d v) {j : Nat} (hj : j < d.len) : ∃ B o c t m ds, v = .slice (some ⟨B, o, none⟩) d.len c ∧ F B ∧ B < W.heap.size ∧ d.lst[j]? = some t ∧ d.nms[j]? = some m ∧ m.size ≤ maxLen ∧ ds.length = 5 ∧ W.rangeAt B (o + j * 6) (.string m :: ds) ∧ VAt W F t ds := by
 obtain ⟨a, c, e, h1, h2, h3, h4, h5⟩ := h
 obtain ⟨B, o, rfl, f1, f2, f3⟩ := h5 (by omega)
 obtain ⟨m, ds, g0, g1, g2, g3, g4⟩ := rep_getF d B o j _ h1 f3 (List.getElem?_eq_getElem hj)
 exact ⟨B, o, c, _, m, ds, e, f1, f2, List.getElem?_eq_getElem hj, g0, g1, g2, g3, g4⟩
theorem VAt.len {W : World} {F : Nat → Prop} {t : Tr} {cs : List Value} (h : VAt W F t cs) : cs.length = 5 := by
 obtain ⟨k, n, s, l, d, rfl⟩ := h.isV
 obtain ⟨la, lc, da, dc, rfl, _⟩ := h.parts
 rfl
theorem VAt.ones {W : World} {F : Nat → Prop} {t : Tr} {cs : List Value} (h : VAt W F t cs) : ∀ v ∈ cs, v.oneCell' = true := by
 obtain ⟨k, n, s, l, d, rfl⟩ := h.isV
 obtain ⟨la, lc, da, dc, rfl, _⟩ := h.parts
 exact fun v hv => List.all_eq_true.1 (show List.all [Value.int .i64 k, .int .i64 n, .string s, .slice la l.len lc, .slice da d.len dc] (·.oneCell') = true from rfl) v hv
theorem cellsV : Tryz.prog.cellsOf 29 = 5 := by kernel_rfl
theorem cellsF : Tryz.prog.cellsOf 78 = 6 := by kernel_rfl
theorem cells3 : Tryz.prog.cellsOf 3 = 1 := by kernel_rfl
theorem cells9 : Tryz.prog.cellsOf 9 = 1 := by kernel_rfl
theorem cellsLV : Tryz.prog.cellsOf 26 = 1 := by kernel_rfl
theorem cellsLF : Tryz.prog.cellsOf 27 = 1 := by kernel_rfl
abbrev LowF (W : World) : Nat → Prop := fun k => k < W.heap.size
theorem goodC_sl {W : World} {n : Nat} {t e : TypeId} {v : Value} (hu : Tryz.prog.underlying t = some (.slice e)) (h : GoodC Tryz.prog W (n + 1) t [v]) : ∃ a len cap, v = .slice a len cap ∧ len ≤ cap ∧ (cap ≤ maxLen ∧ len * Tryz.prog.bytesOf e ≤ 140737488355328 ∧ (a = none → cap = 0)) ∧ (0 < len → ∃ B o, a = some ⟨B, o, none⟩ ∧ B < W.heap.size ∧ ∀ j, j < len → ∃ ds, ds.length = Tryz.prog.cellsOf e ∧ W.rangeAt B (o + j * Tryz.prog.cellsOf e) ds ∧ GoodC Tryz.prog W n e ds) := by
 unfold GoodC at h
 simp only [hu] at h
 obtain ⟨a, len, cap, h1, h2⟩ := h
 exact ⟨a, len, cap, (List.cons.inj h1).1, h2⟩
theorem row_of {W : World} {F : Nat → Prop} (B : Nat) : ∀ (len o : Nat), (∀ j, j < len → ∃ ds t, ds.length = 5 ∧ W.rangeAt B (o + j * 5) ds ∧ VAt W F t ds) → ∃ l : Tr, l.isL = true ∧ l.len = len ∧ rep W F l (.row B o)
 | 0, o, _ => ⟨.nil, rfl, rfl, trivial⟩
 | n + 1, o, h => by
  obtain ⟨ds, t, h1, h2, h3⟩ := h 0 (by omega)
  obtain ⟨l, g1, g2, g3⟩ := row_of B n (o + 5) (fun j hj => by
   obtain ⟨ds, t, k1, k2, k3⟩ := h (j + 1) (by omega)
   exact ⟨ds, t, k1, by rwa [show o + 5 + j * 5 = o + (j + 1) * 5 by omega], k3⟩)
  rw [Nat.zero_mul, Nat.add_zero] at h2
  exact ⟨.lcons t l, g1, congrArg (· + 1) g2, ⟨ds, h1, h2, h3⟩, g3⟩
theorem rowF_of {W : World} {F : Nat → Prop} (B : Nat) : ∀ (len o : Nat), (∀ j, j < len → ∃ m ds t, m.size ≤ maxLen ∧ ds.length = 5 ∧ W.rangeAt B (o + j * 6) (.string m :: ds) ∧ VAt W F t ds) → ∃ d : Tr, d.isF = true ∧ d.len = len ∧ rep W F d (.row B o)
 | 0, o, _ => ⟨.nil, rfl, rfl, trivial⟩
 | n + 1, o, h => by
  obtain ⟨m, ds, t, h0, h1, h2, h3⟩ := h 0 (by omega)
  obtain ⟨l, g1, g2, g3⟩ := rowF_of B n (o + 6) (fun j hj => by
   obtain ⟨m, ds, t, k0, k1, k2, k3⟩ := h (j + 1) (by omega)
   exact ⟨m, ds, t, k0, k1, by rwa [show o + 6 + j * 6 = o + (j + 1) * 6 by omega], k3⟩)
  rw [Nat.zero_mul, Nat.add_zero] at h2
  exact ⟨.fcons m t l, g1, congrArg (· + 1) g2, ⟨ds, h1, h0, h2, h3⟩, g3⟩
theorem tree_of {W : World} : ∀ n : Nat, (∀ cs, GoodC Tryz.prog W n 29 cs → ∃ t, VAt W (LowF W) t cs) ∧ (∀ v, GoodC Tryz.prog W n 26 [v] → ∃ l, LAt W (LowF W) l v) ∧ (∀ v, GoodC Tryz.prog W n 27 [v] → ∃ d, FAt W (LowF W) d v) ∧ (∀ cs, GoodC Tryz.prog W n 78 cs → ∃ m ds t, cs = .string m :: ds ∧ m.size ≤ maxLen ∧ ds.length = 5 ∧ VAt W (LowF W) t ds)
 | 0 => ⟨fun _ h => h.elim, fun _ h => h.elim, fun _ h => h.elim, fun _ h => h.elim⟩
 | n + 1 => by
  obtain ⟨ihV, ihL, ihF, ihf⟩ := tree_of (W := W) n
  refine ⟨fun cs h => ?_, fun v h => ?_, fun v h => ?_, fun cs h => ?_⟩
  ·obtain ⟨hl, hs⟩ := (goodC_struct Tryz.underlying29).1 h
   rw [cellsV] at hl
   match cs, hl with
   | [c0, c1, c2, c3, c4], _ =>
    have g0 : GoodC Tryz.prog W n 3 (part_ [c0, c1, c2, c3, c4] 0 (Tryz.prog.cellsOf 3)) := hs 0 _ rfl
    have g1 : GoodC Tryz.prog W n 3 (part_ [c0, c1, c2, c3, c4] 1 (Tryz.prog.cellsOf 3)) := hs 1 _ rfl
    have g2 : GoodC Tryz.prog W n 9 (part_ [c0, c1, c2, c3, c4] 2 (Tryz.prog.cellsOf 9)) := hs 2 _ rfl
    have g3 : GoodC Tryz.prog W n 26 (part_ [c0, c1, c2, c3, c4] 3 (Tryz.prog.cellsOf 26)) := hs 3 _ rfl
    have g4 : GoodC Tryz.prog W n 27 (part_ [c0, c1, c2, c3, c4] 4 (Tryz.prog.cellsOf 27)) := hs 4 _ rfl
    rw [cells3] at g0 g1
    rw [cells9] at g2
    rw [cellsLV] at g3
    rw [cellsLF] at g4
    replace g0 : GoodC Tryz.prog W n 3 [c0] := g0
    replace g1 : GoodC Tryz.prog W n 3 [c1] := g1
    replace g2 : GoodC Tryz.prog W n 9 [c2] := g2
    replace g3 : GoodC Tryz.prog W n 26 [c3] := g3
    replace g4 : GoodC Tryz.prog W n 27 [c4] := g4
    obtain ⟨l, hl⟩ := ihL _ g3
    obtain ⟨d, hd⟩ := ihF _ g4
    cases n with
    | zero => exact g0.elim
    | succ n =>
     unfold GoodC at g0 g1 g2
     simp only [Tryz.underlying3] at g0 g1
     simp only [Tryz.underlying9] at g2
     obtain ⟨k, e0, w0⟩ := g0
     obtain ⟨m, e1, w1⟩ := g1
     obtain ⟨s, e2, w2⟩ := g2
     obtain rfl := (List.cons.inj e0).1
     obtain rfl := (List.cons.inj e1).1
     obtain rfl := (List.cons.inj e2).1
     exact ⟨.mk k m s l d, VAt.mk w0 w1 w2 hl hd⟩
  ·obtain ⟨a, l, c, rfl, h1, ⟨h2, _, h3⟩, hin⟩ := goodC_sl Tryz.underlying26 h
   by_cases h0 : 0 < l
   ·obtain ⟨B, o, e, hB, hj⟩ := hin h0
    rw [cellsV] at hj
    obtain ⟨t, k1, k2, k3⟩ := row_of (F := LowF W) B l o (fun j hjl => by
     obtain ⟨ds, d1, d2, d3⟩ := hj j hjl
     obtain ⟨t, ht⟩ := ihV ds d3
     exact ⟨ds, t, d1, d2, ht⟩)
    refine ⟨t, a, c, by rw [k2], k1, by omega, h2, h3, fun _ => ⟨B, o, e, hB, hB, k3⟩⟩
   ·refine ⟨.nil, a, c, ?_, rfl, Nat.zero_le _, h2, h3, fun h => absurd h (Nat.lt_irrefl _)⟩
    rw [show l = 0 by omega]
    rfl
  ·obtain ⟨a, l, c, rfl, h1, ⟨h2, _, h3⟩, hin⟩ := goodC_sl Tryz.underlying27 h
   by_cases h0 : 0 < l
   ·obtain ⟨B, o, e, hB, hj⟩ := hin h0
    rw [cellsF] at hj
    obtain ⟨t, k1, k2, k3⟩ := rowF_of (F := LowF W) B l o (fun j hjl => by
     obtain ⟨ds, d1, d2, d3⟩ := hj j hjl
     obtain ⟨m, ds', t, rfl, e2, e3, ht⟩ := ihf ds d3
     exact ⟨m, ds', t, e2, e3, d2, ht⟩)
    refine ⟨t, a, c, by rw [k2], k1, by omega, h2, h3, fun _ => ⟨B, o, e, hB, hB, k3⟩⟩
   ·refine ⟨.nil, a, c, ?_, rfl, Nat.zero_le _, h2, h3, fun h => absurd h (Nat.lt_irrefl _)⟩
    rw [show l = 0 by omega]
    rfl
  ·obtain ⟨hl, hs⟩ := (goodC_struct Tryz.underlying78).1 h
   rw [cellsF] at hl
   match cs, hl with
   | [c0, c1, c2, c3, c4, c5], _ =>
    have g0 : GoodC Tryz.prog W n 9 (part_ [c0, c1, c2, c3, c4, c5] 0 (Tryz.prog.cellsOf 9)) := hs 0 _ rfl
    have g1 : GoodC Tryz.prog W n 29 (part_ [c0, c1, c2, c3, c4, c5] 1 (Tryz.prog.cellsOf 29)) := hs 1 _ rfl
    rw [cells9] at g0
    rw [cellsV] at g1
    replace g0 : GoodC Tryz.prog W n 9 [c0] := g0
    replace g1 : GoodC Tryz.prog W n 29 [c1, c2, c3, c4, c5] := g1
    obtain ⟨t, ht⟩ := ihV _ g1
    cases n with
    | zero => exact g0.elim
    | succ n =>
     unfold GoodC at g0
     simp only [Tryz.underlying9] at g0
     obtain ⟨s, e2, w2⟩ := g0
     obtain rfl := (List.cons.inj e2).1
     exact ⟨s, _, t, rfl, w2, rfl, ht⟩
def U8 (W : World) : Prop := Lib.Utf8Tabs 0 1 W ∧ 1 < W.heap.size
theorem U8.kept {W W' : World} (h : U8 W) (hs : W.heap.size ≤ W'.heap.size) (h0 : W'.heap[0]? = W.heap[0]?) (h1 : W'.heap[1]? = W.heap[1]?) : U8 W' := by
 obtain ⟨⟨a, b⟩, c⟩ := h
 have e : ∀ (B o : Nat), W'.heap[B]? = W.heap[B]? → W'.cell? ⟨B, o, none⟩ = W.cell? ⟨B, o, none⟩ := fun B o h => by simp only [World.cell?, h]
 exact ⟨⟨fun i hi => (e 0 i h0).trans (a i hi), fun i hi => ⟨(e 1 _ h1).trans (b i hi).1, (e 1 _ h1).trans (b i hi).2⟩⟩, Nat.lt_of_lt_of_le c hs⟩
theorem U8.below {W W' : World} (h : U8 W) (hb : Below W.heap.size W W') : U8 W' := h.kept hb.size (hb.block 0 (Nat.lt_trans (by decide) h.2)) (hb.block 1 h.2)
section
variable {P : Program} {w : World} {o : Oper} {ρ : Operand → Value}
theorem ex_box1 (T : TypeId) (x : Operand) (v : Value) (ho : o.op = .box T x) (hx : ρ x = v) (hv : v.cells = #[v]) : (execOp ρ o).run P w = .ok (.value (.pointer (some ⟨w.heap.size, 0, none⟩))) (w.alloc (.cells [v].toArray T)) := by
 unfold execOp
 simp only [ho, hx, Instr.box, newVar, newRow, run_newObj_alloc, Sem.run_bind, Sem.run_pure, Result.andThen_ok, hv]
theorem ex_alloc1 (T : TypeId) (i : TypeInfo) (v : Value) (ho : o.op = .alloc T) (hi : P.info? T = some i) (hz : i.zero = some v) (hv : v.cells = #[v]) : (execOp ρ o).run P w = .ok (.value (.pointer (some ⟨w.heap.size, 0, none⟩))) (w.alloc (.cells [v].toArray T)) := by
 unfold execOp
 simp only [ho, Instr.alloc, zeroValue, typeInfo, hi, hz, newVar, newRow, run_newObj_alloc, Sem.run_bind, Sem.run_pure, Result.andThen_ok, hv, run_program_]
theorem ex_callv {g : FuncId} {cap : Array Value} {y : Operand} {xs : Array Operand} {ts : Array TypeId} (hF : FnOK P g) (hρ : ρ y = .func (.func g) #[] cap) (ho : o.op = .call { callee := .value y, args := xs, argTypes := ts }) : (execOp ρ o).run P w = .ok (.enter g (xs.map ρ ++ cap)) w := by
 obtain ⟨fn, h1, h2, h3⟩ := hF
 unfold execOp
 simp only [ho, resolve, hρ, Deferred.ofValue, Sem.run_bind, Sem.run_pure, Result.andThen_ok, invoke, callFunc, run_program_, h1, h2, h3, Array.append_empty, Array.empty_append, if_neg]
 rfl
theorem ex_mkf {f : Fn} {first : List (Operand)} {cap : List Operand} {vs : List Value} (ho : o.op = .makeFunc f #[] cap.toArray) (hx : cap.map ρ = vs) : (execOp ρ o).run P w = .ok (.value (.func f #[] vs.toArray)) w := by
 subst hx
 unfold execOp
 simp only [ho]
 simp [Instr.makeFunc]
end
section
variable {P : Program} {N : Nat} {env : VEnv} {a : Act} {ops : Array Oper} {rest : List Oper} {Q : Exit → Act → World → Prop} {w : World} {w0 : Base} {l : List (Nat × List Value)} {d y x z : Nat} {ps : String} {af : Array Edge} {T t : TypeId}
theorem sv_box1 {v : Value} {q : Operand} (hf : FrV N env a) (hB : Bx w0 l w) (hx : ev env q = some v) (hv : v.cells = #[v]) (hd : d < N) (h : ∀ a' C w', C = w.heap.size → FrV N ((d, .pointer (some ⟨C, 0, none⟩)) :: env) a' → Bx w0 ((C, [v]) :: l) w' → Below w.heap.size w w' → wpList P ops Q rest a' w') : wpList P ops Q ({ dst := some d, op := .box T q, type := y, pos := ps, after := af, guard := none } :: rest) a w :=
 wpList_ok rfl (ex_box1 T q v rfl (hf.ev hx) hv) (h _ _ _ rfl (hf.put hd _) (hB.new [v] T) ((Below.refl _ _).alloc (Nat.le_refl _) _))
theorem sv_alloc1 {v : Value} (hf : FrV N env a) (hB : Bx w0 l w) (hz : (P.info? T).bind (·.zero) = some v) (hv : v.cells = #[v]) (hd : d < N) (h : ∀ a' C w', C = w.heap.size → FrV N ((d, .pointer (some ⟨C, 0, none⟩)) :: env) a' → Bx w0 ((C, [v]) :: l) w' → Below w.heap.size w w' → wpList P ops Q rest a' w') : wpList P ops Q ({ dst := some d, op := .alloc T, type := y, pos := ps, after := af, guard := none } :: rest) a w := by
 obtain ⟨i, hi, hzz⟩ := Option.bind_eq_some_iff.1 hz
 exact wpList_ok rfl (ex_alloc1 T i v rfl hi hzz hv) (h _ _ _ rfl (hf.put hd _) (hB.new [v] T) ((Below.refl _ _).alloc (Nat.le_refl _) _))
theorem sv_callv {g : FuncId} {cap : List Value} {q : Operand} {xs : List Operand} {vs : List Value} {ts : Array TypeId} {R : Ending → World → Prop} (hf : FrV N env a) (hq : ev env q = some (.func (.func g) #[] cap.toArray)) (hF : FnOK P g) (hx : evs env xs = some vs) (hc : Calls P g (vs ++ cap).toArray w R) (hd : d < N) (h : ∀ e w', R e w' → ∃ v, e = .returned v ∧ ∀ a', FrV N ((d, v) :: env) a' → wpList P ops Q rest a' w') : wpList P ops Q ({ dst := some d, op := .call { callee := .value q, args := xs.toArray, argTypes := ts }, type := y, pos := ps, after := af, guard := none } :: rest) a w := by
 refine wpList_plain rfl fun K hK => ?_
 unfold Oper.wp
 rw [ex_callv (w := w) hF (hf.ev hq) rfl, Oper.upon_enter, List.map_toArray, hf.evs hx, List.append_toArray]
 refine hc.mono ?_
 intro e w' hr
 obtain ⟨v, rfl, hk⟩ := h e w' hr
 exact hK _ _ (hk _ (hf.put hd v))
theorem sv_mkf {f : Fn} {cap : List Operand} {vs : List Value} (hf : FrV N env a) (hx : evs env cap = some vs) (hd : d < N) (h : ∀ a', FrV N ((d, .func f #[] vs.toArray) :: env) a' → wpList P ops Q rest a' w) : wpList P ops Q ({ dst := some d, op := .makeFunc f #[] cap.toArray, type := y, pos := ps, after := af, guard := none } :: rest) a w :=
 sv_run hf hd (fun a hf => ex_mkf (first := []) rfl (hf.evs hx)) h
theorem ex_lens {t : TypeId} {x : Operand} {o : Oper} {s : ByteArray} (hf : FrV N env a) (ho : o.op = .call { callee := .builtin .len, args := #[x], argTypes := #[t] }) (hx : ev env x = some (.string s)) (hu : P.underlying t = some .string) : (execOp a.eval o).run P w = .ok (.value (.int .i64 (s.size : Int))) w := by
 unfold execOp
 simp only [ho, resolve, invoke, builtin, Sem.run_bind, Sem.run_pure, Result.andThen_ok, List.map_toArray, List.map_cons, List.map_nil, hf.ev hx]
 simp [go_sem, hu]
theorem sv_lens {q : Operand} {s : ByteArray} (hf : FrV N env a) (hx : ev env q = some (.string s)) (hu : P.underlying t = some .string) (hd : d < N) (h : ∀ a', FrV N ((d, .int .i64 (s.size : Int)) :: env) a' → wpList P ops Q rest a' w) : wpList P ops Q ({ dst := some d, op := .call { callee := .builtin .len, args := #[q], argTypes := #[t] }, type := y, pos := ps, after := af, guard := none } :: rest) a w :=
 sv_run hf hd (fun a hf => ex_lens hf rfl hx hu) h
theorem ex_chr {t : TypeId} {x z : Operand} {o : Oper} {s : ByteArray} {k : Nat} (hf : FrV N env a) (ho : o.op = .index t x z) (hx : ev env x = some (.string s)) (hz : ev env z = some (.int .i64 (k : Int))) (hu : P.underlying t = some .string) (hk : k < s.size) : (execOp a.eval o).run P w = .ok (.value (.int .u8 ((s[k]'hk).toNat : Int))) w := by
 unfold execOp
 simp only [ho, hf.ev hx, hf.ev hz]
 simp [go_sem, hu, hk]
theorem cmpK_run {K : IntKind} {op : BinOp} {m n : Int} {b : Bool} {xT : TypeId} {x z : Operand} (h : cmpI op m n = some b) (w : World) : (do eqGuard op xT x z (.int K m) (.int K n); binOp op xT (.int K m) (.int K n)).run P w = .ok (.bool b) w := by
 unfold cmpI at h
 split at h <;> first
  | (obtain rfl := Option.some.inj h; simp [go_sem]; done)
  | (obtain rfl := Option.some.inj h; simp [go_sem]; rw [Bool.eq_iff_iff]; simp; done)
  | (obtain rfl := Option.some.inj h; simp [go_sem]; rw [Bool.eq_iff_iff]; simp; omega)
  | cases h
theorem ex_cmpk {K : IntKind} {op : BinOp} {o : Oper} {xT zT : TypeId} {x z : Operand} {m n : Int} {b : Bool} (hf : FrV N env a) (ho : o.op = .binOp op xT x z zT) (hx : ev env x = some (.int K m)) (hz : ev env z = some (.int K n)) (hb : cmpI op m n = some b) : (execOp a.eval o).run P w = .ok (.value (.bool b)) w := by
 unfold execOp
 simp only [ho, hf.ev hx, hf.ev hz]
 have := cmpK_run (P := P) (K := K) (xT := xT) (x := x) (z := z) hb w
 simp only [Sem.run_bind] at this ⊢
 rw [this]
 rfl
theorem str_beq (s r : ByteArray) : (s.toList == r.toList) = decide (s = r) := by
 by_cases h : s = r
 ·subst h; simp
 ·rw [decide_eq_false h]
  refine beq_eq_false_iff_ne.2 (fun e => h ?_)
  rw [Lib.toList_data, Lib.toList_data] at e
  exact ByteArray.ext (Array.toList_inj.1 e)
theorem ex_cmps {op : BinOp} {o : Oper} {xT zT : TypeId} {x z : Operand} {s r : ByteArray} {b : Bool} (hf : FrV N env a) (ho : o.op = .binOp op xT x z zT) (hu : P.underlying xT = some .string) (hx : ev env x = some (.string s)) (hz : ev env z = some (.string r)) (hb : (op = .eql ∧ b = decide (s = r)) ∨ (op = .neq ∧ b = !decide (s = r))) : (execOp a.eval o).run P w = .ok (.value (.bool b)) w := by
 unfold execOp
 simp only [ho, hf.ev hx, hf.ev hz]
 rcases hb with ⟨rfl, rfl⟩ | ⟨rfl, rfl⟩
 ·simp [go_sem, hu]
  exact str_beq s r
 ·simp [go_sem, hu]
  exact str_beq s r
theorem ex_sub {o : Oper} {xT zT : TypeId} {x z : Operand} {m n r : Int} (hf : FrV N env a) (ho : o.op = .binOp .sub xT x z zT) (hx : ev env x = some (.int .i64 m)) (hz : ev env z = some (.int .i64 n)) (hr : IntKind.i64.wrap (m - n) = r) : (execOp a.eval o).run P w = .ok (.value (.int .i64 r)) w := by
 subst hr
 unfold execOp
 simp only [ho, hf.ev hx, hf.ev hz]
 rfl
theorem ex_addk {o : Oper} {K : IntKind} {xT zT : TypeId} {x z : Operand} {m n r : Int} (hf : FrV N env a) (ho : o.op = .binOp .add xT x z zT) (hx : ev env x = some (.int K m)) (hz : ev env z = some (.int K n)) (hr : K.wrap (m + n) = r) : (execOp a.eval o).run P w = .ok (.value (.int K r)) w := by
 subst hr
 unfold execOp
 simp only [ho, hf.ev hx, hf.ev hz]
 cases K <;> rfl
theorem ex_max {o : Oper} {t : TypeId} {x z : Operand} {m n : Int} (hf : FrV N env a) (ho : o.op = .call { callee := .builtin .max, args := #[x, z], argTypes := #[t, t] }) (hx : ev env x = some (.int .i64 m)) (hz : ev env z = some (.int .i64 n)) (hu : P.underlying t = some (.int .i64)) : (execOp a.eval o).run P w = .ok (.value (.int .i64 (max m n))) w := by
  unfold execOp
  simp only [ho, resolve, invoke, builtin, Sem.run_bind, Sem.run_pure, Result.andThen_ok, List.map_toArray, List.map_cons, List.map_nil, hf.ev hx, hf.ev hz]
  simp [go_sem, hu]
  try (split <;> omega)
theorem ex_min {o : Oper} {t : TypeId} {x z : Operand} {m n : Int} (hf : FrV N env a) (ho : o.op = .call { callee := .builtin .min, args := #[x, z], argTypes := #[t, t] }) (hx : ev env x = some (.int .i64 m)) (hz : ev env z = some (.int .i64 n)) (hu : P.underlying t = some (.int .i64)) : (execOp a.eval o).run P w = .ok (.value (.int .i64 (min m n))) w := by
  unfold execOp
  simp only [ho, resolve, invoke, builtin, Sem.run_bind, Sem.run_pure, Result.andThen_ok, List.map_toArray, List.map_cons, List.map_nil, hf.ev hx, hf.ev hz]
  simp [go_sem, hu]
  try (split <;> omega)
end
section
variable {P : Program} {N : Nat} {env : VEnv} {a : Act} {ops : Array Oper} {rest : List Oper} {Q : Exit → Act → World → Prop} {w : World} {b : Base} {l : List (Nat × List Value)} {d y x z : Nat} {ps : String} {af : Array Edge} {t : TypeId}
theorem sv_lrr {g p : Nat} {cs : List Value} {fs : Array Field} (hf : FrV N env a) (hx : env.lookup x = some (.pointer (some ⟨g, p, none⟩))) (hr : w.rangeAt g p cs) (hu : P.underlying t = some (.struct fs)) (hn : (P.info? t).map (·.size) = some cs.length) (hd : d < N) (h : ∀ a', FrV N ((d, .agg cs.toArray) :: env) a' → wpList P ops Q rest a' w) : wpList P ops Q ({ dst := some d, op := .load t (.tmp x), type := y, pos := ps, after := af, guard := none } :: rest) a w :=
 sv_run hf hd (fun a hf => ex_load_row t (.tmp x) g p cs _ rfl (hf.rel x _ hx) hr hu rfl hn) h
end
theorem info_err : (Tryz.prog.info? 32).map (·.size) = some 1 := by kernel_rfl
theorem sz_err : ((Tryz.prog.info? 32).map (·.size)).getD 0 ≠ 0 := by rw [info_err]; decide
theorem info_krd : (Tryz.prog.info? 105).map (·.size) = some 4 := by kernel_rfl
theorem info_int : (Tryz.prog.info? 3).map (·.size) = some 1 := by kernel_rfl
theorem sz_int : ((Tryz.prog.info? 3).map (·.size)).getD 0 ≠ 0 := by rw [info_int]; decide
theorem info_bool : (Tryz.prog.info? 4).map (·.size) = some 1 := by kernel_rfl
theorem sz_bool : ((Tryz.prog.info? 4).map (·.size)).getD 0 ≠ 0 := by rw [info_bool]; decide
theorem info_u8 : (Tryz.prog.info? 5).map (·.size) = some 1 := by kernel_rfl
theorem sz_u8 : ((Tryz.prog.info? 5).map (·.size)).getD 0 ≠ 0 := by rw [info_u8]; decide
theorem info_str : (Tryz.prog.info? 9).map (·.size) = some 1 := by kernel_rfl
theorem sz_str : ((Tryz.prog.info? 9).map (·.size)).getD 0 ≠ 0 := by rw [info_str]; decide
theorem info_val : (Tryz.prog.info? 29).map (·.size) = some 5 := by kernel_rfl
theorem sz_val : ((Tryz.prog.info? 29).map (·.size)).getD 0 ≠ 0 := by rw [info_val]; decide
theorem info_vals : (Tryz.prog.info? 26).map (·.size) = some 1 := by kernel_rfl
theorem sz_vals : ((Tryz.prog.info? 26).map (·.size)).getD 0 ≠ 0 := by rw [info_vals]; decide
theorem info_flds : (Tryz.prog.info? 27).map (·.size) = some 1 := by kernel_rfl
theorem sz_flds : ((Tryz.prog.info? 27).map (·.size)).getD 0 ≠ 0 := by rw [info_flds]; decide
theorem info_fld : (Tryz.prog.info? 78).map (·.size) = some 6 := by kernel_rfl
theorem zero_err : (Tryz.prog.info? 32).bind (·.zero) = some (.int .i64 0) := by kernel_rfl
theorem zero_int : (Tryz.prog.info? 3).bind (·.zero) = some (.int .i64 0) := by kernel_rfl
theorem zero_krd : (Tryz.prog.info? 105).bind (·.zero) = some (.agg (List.toArray [.string ⟨#[]⟩, .int .i64 0, .int .u8 0, .int .i64 0])) := by kernel_rfl
theorem zero_val : (Tryz.prog.info? 29).bind (·.zero) = some (.agg (List.toArray [.int .i64 0, .int .i64 0, .string ⟨#[]⟩, .slice none 0 0, .slice none 0 0])) := by kernel_rfl
theorem zero_fld : (Tryz.prog.info? 78).bind (·.zero) = some (.agg (List.toArray [.string ⟨#[]⟩, .int .i64 0, .int .i64 0, .string ⟨#[]⟩, .slice none 0 0, .slice none 0 0])) := by kernel_rfl
theorem einfo_vals : (Tryz.prog.info? 29).map (·.size) = some 5 := info_val
theorem einfo_flds : (Tryz.prog.info? 78).map (·.size) = some 6 := info_fld
theorem fnOK_4 : FnOK Tryz.prog 4 := ⟨_, Tryz.func4, rfl, rfl⟩
theorem fnOK_5 : FnOK Tryz.prog 5 := ⟨_, Tryz.func5, rfl, rfl⟩
theorem fnOK_6 : FnOK Tryz.prog 6 := ⟨_, Tryz.func6, rfl, rfl⟩
theorem fnOK_7 : FnOK Tryz.prog 7 := ⟨_, Tryz.func7, rfl, rfl⟩
theorem fnOK_8 : FnOK Tryz.prog 8 := ⟨_, Tryz.func8, rfl, rfl⟩
theorem fnOK_9 : FnOK Tryz.prog 9 := ⟨_, Tryz.func9, rfl, rfl⟩
theorem fnOK_10 : FnOK Tryz.prog 10 := ⟨_, Tryz.func10, rfl, rfl⟩
theorem fnOK_11 : FnOK Tryz.prog 11 := ⟨_, Tryz.func11, rfl, rfl⟩
theorem fnOK_12 : FnOK Tryz.prog 12 := ⟨_, Tryz.func12, rfl, rfl⟩
theorem fnOK_13 : FnOK Tryz.prog 13 := ⟨_, Tryz.func13, rfl, rfl⟩
theorem fnOK_14 : FnOK Tryz.prog 14 := ⟨_, Tryz.func14, rfl, rfl⟩
theorem fnOK_15 : FnOK Tryz.prog 15 := ⟨_, Tryz.func15, rfl, rfl⟩
theorem fnOK_16 : FnOK Tryz.prog 16 := ⟨_, Tryz.func16, rfl, rfl⟩
theorem fnOK_17 : FnOK Tryz.prog 17 := ⟨_, Tryz.func17, rfl, rfl⟩
theorem fnOK_18 : FnOK Tryz.prog 18 := ⟨_, Tryz.func18, rfl, rfl⟩
theorem fnOK_22 : FnOK Tryz.prog 22 := ⟨_, Tryz.func22, rfl, rfl⟩
theorem fnOK_30 : FnOK Tryz.prog 30 := ⟨_, Tryz.func30, rfl, rfl⟩
theorem fnOK_31 : FnOK Tryz.prog 31 := ⟨_, Tryz.func31, rfl, rfl⟩
theorem fnOK_32 : FnOK Tryz.prog 32 := ⟨_, Tryz.func32, rfl, rfl⟩
theorem fnOK_33 : FnOK Tryz.prog 33 := ⟨_, Tryz.func33, rfl, rfl⟩
theorem fnOK_34 : FnOK Tryz.prog 34 := ⟨_, Tryz.func34, rfl, rfl⟩
theorem fnOK_35 : FnOK Tryz.prog 35 := ⟨_, Tryz.func35, rfl, rfl⟩
theorem fnOK_43 : FnOK Tryz.prog 43 := ⟨_, Tryz.func43, rfl, rfl⟩
theorem fnOK_44 : FnOK Tryz.prog 44 := ⟨_, Tryz.func44, rfl, rfl⟩
theorem fnOK_46 : FnOK Tryz.prog 46 := ⟨_, Tryz.func46, rfl, rfl⟩
theorem fnOK_47 : FnOK Tryz.prog 47 := ⟨_, Tryz.func47, rfl, rfl⟩
theorem fnOK_48 : FnOK Tryz.prog 48 := ⟨_, Tryz.func48, rfl, rfl⟩
theorem fnOK_54 : FnOK Tryz.prog 54 := ⟨_, Tryz.func54, rfl, rfl⟩
theorem fnOK_55 : FnOK Tryz.prog 55 := ⟨_, Tryz.func55, rfl, rfl⟩
theorem fnOK_56 : FnOK Tryz.prog 56 := ⟨_, Tryz.func56, rfl, rfl⟩
theorem fnOK_57 : FnOK Tryz.prog 57 := ⟨_, Tryz.func57, rfl, rfl⟩
theorem fnOK_59 : FnOK Tryz.prog 59 := ⟨_, Tryz.func59, rfl, rfl⟩
theorem fnOK_60 : FnOK Tryz.prog 60 := ⟨_, Tryz.func60, rfl, rfl⟩
theorem fnOK_70 : FnOK Tryz.prog 70 := ⟨_, Tryz.func70, rfl, rfl⟩
theorem fnOK_71 : FnOK Tryz.prog 71 := ⟨_, Tryz.func71, rfl, rfl⟩
theorem fnOK_78 : FnOK Tryz.prog 78 := ⟨_, Tryz.func78, rfl, rfl⟩
theorem fnOK_79 : FnOK Tryz.prog 79 := ⟨_, Tryz.func79, rfl, rfl⟩
theorem fnOK_80 : FnOK Tryz.prog 80 := ⟨_, Tryz.func80, rfl, rfl⟩
theorem fnOK_81 : FnOK Tryz.prog 81 := ⟨_, Tryz.func81, rfl, rfl⟩
theorem fnOK_83 : FnOK Tryz.prog 83 := ⟨_, Tryz.func83, rfl, rfl⟩
theorem fnOK_84 : FnOK Tryz.prog 84 := ⟨_, Tryz.func84, rfl, rfl⟩
theorem fnOK_85 : FnOK Tryz.prog 85 := ⟨_, Tryz.func85, rfl, rfl⟩
theorem fnOK_86 : FnOK Tryz.prog 86 := ⟨_, Tryz.func86, rfl, rfl⟩
theorem fnOK_88 : FnOK Tryz.prog 88 := ⟨_, Tryz.func88, rfl, rfl⟩
theorem fnOK_96 : FnOK Tryz.prog 96 := ⟨_, Tryz.func96, rfl, rfl⟩
theorem fnOK_97 : FnOK Tryz.prog 97 := ⟨_, Tryz.func97, rfl, rfl⟩
theorem fnOK_98 : FnOK Tryz.prog 98 := ⟨_, Tryz.func98, rfl, rfl⟩
theorem fnOK_99 : FnOK Tryz.prog 99 := ⟨_, Tryz.func99, rfl, rfl⟩
theorem fnOK_100 : FnOK Tryz.prog 100 := ⟨_, Tryz.func100, rfl, rfl⟩
theorem fnOK_101 : FnOK Tryz.prog 101 := ⟨_, Tryz.func101, rfl, rfl⟩
theorem fnOK_118 : FnOK Tryz.prog 118 := ⟨_, Tryz.func118, rfl, rfl⟩
theorem fnOK_58 : FnOK Tryz.prog 58 := ⟨_, Tryz.func58, rfl, rfl⟩
theorem mixed : Tryz.prog.follows .mixedOrders = true := by kernel_rfl
theorem res_cell {fn : Func} {T : TypeId} {c C : Nat} {cs : List Value} {a : Act} {w : World} {fs : Array Field} (hr : fn.results = #[.cell c T]) (ha : a.eval (.tmp c) = .pointer (some ⟨C, 0, none⟩)) (hc : Box w C cs) (hu : Tryz.prog.underlying T = some (.struct fs)) (hi : (Tryz.prog.info? T).map (·.size) = some cs.length) : (results fn a.tmps).run Tryz.prog w = .ok (.agg cs.toArray) w := by
 have hl := run_loadVar_mid (P := Tryz.prog) w C 0 T cs (.struct fs) hc.rng hu rfl hi
 have h3 : a.tmps[c]?.getD undef = .pointer (some ⟨C, 0, none⟩) := by simpa [Act.eval] using ha
 simp [results, hr, asAddr, h3, hl]
theorem res_cell_tmp {fn : Func} {T : TypeId} {c d C : Nat} {cs : List Value} {v : Value} {a : Act} {w : World} {fs : Array Field} (hr : fn.results = #[.cell c T, .tmp d]) (ha : a.eval (.tmp c) = .pointer (some ⟨C, 0, none⟩)) (hd : a.eval (.tmp d) = v) (hc : Box w C cs) (hu : Tryz.prog.underlying T = some (.struct fs)) (hi : (Tryz.prog.info? T).map (·.size) = some cs.length) : (results fn a.tmps).run Tryz.prog w = .ok (.tuple #[.agg cs.toArray, v]) w := by
 have hl := run_loadVar_mid (P := Tryz.prog) w C 0 T cs (.struct fs) hc.rng hu rfl hi
 have h3 : a.tmps[c]?.getD undef = .pointer (some ⟨C, 0, none⟩) := by simpa [Act.eval] using ha
 have h4 : a.tmps[d]?.getD undef = v := by simpa [Act.eval] using hd
 simp [results, hr, asAddr, h3, h4, hl]
theorem res_tmp {fn : Func} {d : Nat} {v : Value} {a : Act} {w : World} (hr : fn.results = #[.tmp d]) (hd : a.eval (.tmp d) = v) : (results fn a.tmps).run Tryz.prog w = .ok v w := by
 rw [results_tmp hr, show a.tmps.getD d undef = v from hd]
section
variable {P : Program} {N : Nat} {env : VEnv} {ops : Array Oper} {rest l : List Oper} {Q : Exit → Act → World → Prop} {w : World} {d y x : Nat} {ps : String} {af : Array Edge} {v : Value} {T : TypeId}
def lk : VEnv → Nat → Option Value
 | [], _ => none
 | (k, v) :: r, x => bif Nat.beq x k then some v else lk r x
theorem lk_eq : ∀ (env : VEnv) (x : Nat), lk env x = env.lookup x
 | [], _ => rfl
 | (k, v) :: r, x => by
  show (bif Nat.beq x k then some v else lk r x) = _
  rw [List.lookup_cons, lk_eq r x]
  show (bif Nat.beq x k then _ else _) = match x == k with | true => some v | false => List.lookup x r
  have e : (x == k) = Nat.beq x k := by
   cases h : Nat.beq x k
   ·exact beq_eq_false_iff_ne.2 (Nat.ne_of_beq_eq_false h)
   ·exact beq_iff_eq.2 (Nat.eq_of_beq_eq_true h)
  rw [e]
  cases Nat.beq x k <;> rfl
def lke (env : VEnv) : Operand → Option Value
 | .tmp t => lk env t
 | .const v => some v
 | .global g => some (.pointer (some ⟨g, 0, none⟩))
 | .func f => some (.func (.func f) #[] #[])
theorem lke_eq (env : VEnv) (x : Operand) : lke env x = ev env x := by cases x <;> first | rfl | exact lk_eq _ _
def gd : List Oper → Nat → Option Nat
 | [], _ => none
 | o :: _, 0 => o.dst
 | _ :: r, j + 1 => gd r j
theorem gd_gv : ∀ (l : List Oper) (env : VEnv) (j d : Nat), gd l j = some d → gv l.toArray env j = env.lookup d
 | [], _, _, _, h => by cases h
 | o :: r, env, 0, d, h => by
  have h' : o.dst = some d := h
  have e : (o :: r).toArray[0]? = some o := by simp
  unfold gv
  rw [e]
  simp only [h']
 | o :: r, env, j + 1, d, h => by
  have := gd_gv r env j d h
  have e : (o :: r).toArray[j + 1]? = r.toArray[j]? := by simp
  unfold gv at this ⊢
  rw [e]; exact this
theorem gd_dst : ∀ (l : List Oper) (j d N : Nat), gd l j = some d → d < N → dstB l.toArray j N = true
 | [], _, _, _, h, _ => by cases h
 | o :: r, 0, d, N, h, hd => by
  have h' : o.dst = some d := h
  have e : (o :: r).toArray[0]? = some o := by simp
  unfold dstB
  rw [e]
  simp only [h', hd, decide_true]
 | o :: r, j + 1, d, N, h, hd => by
  have := gd_dst r j d N h hd
  have e : (o :: r).toArray[j + 1]? = r.toArray[j]? := by simp
  unfold dstB at this ⊢
  rw [e]; exact this
structure WkL (P : Program) (N : Nat) (env : VEnv) (ops : Array Oper) (l : List Oper) (Q : Exit → Act → World → Prop) (w : World) : Prop where
 h : ∀ a, FrV N env a → wpList P ops Q l a w
structure WkC (P : Program) (N : Nat) (env : VEnv) (c : Code) (Q : Exit → Act → World → Prop) (w : World) : Prop where
 h : ∀ a, FrV N env a → c.wp P Q a w
structure WkQ (N : Nat) (env : VEnv) (Q : Exit → Act → World → Prop) (w : World) : Prop where
 h : ∀ a, FrV N env a → Q .normal a w
def fof (T j : Nat) : Option Nat := match T, j with
 | 29, 0 => some 0
 | 29, 1 => some 1
 | 29, 2 => some 2
 | 29, 3 => some 3
 | 29, 4 => some 4
 | 105, 0 => some 0
 | 105, 1 => some 1
 | 105, 2 => some 2
 | 105, 3 => some 3
 | _, _ => none
theorem fof_ok {T j o : Nat} (h : fof T j = some o) : ∃ fs f, Tryz.prog.underlying T = some (.struct fs) ∧ fs[j]? = some f ∧ ((Tryz.prog.info? f.type).map (·.size)).getD 0 ≠ 0 ∧ f.offset = o := by
 unfold fof at h
 split at h <;> cases h
 ·exact ⟨_, _, Tryz.underlying29, rfl, sz_int, rfl⟩
 ·exact ⟨_, _, Tryz.underlying29, rfl, sz_int, rfl⟩
 ·exact ⟨_, _, Tryz.underlying29, rfl, sz_str, rfl⟩
 ·exact ⟨_, _, Tryz.underlying29, rfl, sz_vals, rfl⟩
 ·exact ⟨_, _, Tryz.underlying29, rfl, sz_flds, rfl⟩
 ·exact ⟨_, _, Tryz.underlying105, rfl, sz_str, rfl⟩
 ·exact ⟨_, _, Tryz.underlying105, rfl, sz_int, rfl⟩
 ·exact ⟨_, _, Tryz.underlying105, rfl, sz_u8, rfl⟩
 ·exact ⟨_, _, Tryz.underlying105, rfl, sz_err, rfl⟩
def opv (env : VEnv) : Op → Option Value
 | .move x => lke env x
 | .assign x => lke env x
 | .pick (.tmp c) p q => match lk env c with
  | some (.bool true) => lke env p
  | some (.bool false) => lke env q
  | _ => none
 | .binOp op _ x z _ => match lke env x, lke env z with
  | some (.int .i64 m), some (.int .i64 n) => match cmpI op m n with
   | some true => some (.bool true)
   | some false => some (.bool false)
   | none => none
  | _, _ => none
 | .fieldAddr T (.tmp x) j => match lk env x with
  | some (.pointer (some ⟨b, p, none⟩)) => match fof T j with
   | some o => some (.pointer (some ⟨b, p + o, none⟩))
   | none => none
  | _ => none
 | .unOp .not _ (.tmp x) => match lk env x with
  | some (.bool true) => some (.bool false)
  | some (.bool false) => some (.bool true)
  | _ => none
 | .nilCheck x => match lke env x with
  | some (.pointer (some ⟨b, p, none⟩)) => some (.pointer (some ⟨b, p, none⟩))
  | _ => none
 | _ => none
theorem ex_nilc0 {a : Act} {o : Oper} {x : Operand} {b p : Nat} (hf : FrV N env a) (ho : o.op = .nilCheck x) (hx : ev env x = some (.pointer (some ⟨b, p, none⟩))) : (execOp a.eval o).run Tryz.prog w = .ok (.value (.pointer (some ⟨b, p, none⟩))) w := by
 unfold execOp
 simp only [ho, hf.ev hx]
 rfl
theorem opv_run {a : Act} (hf : FrV N env a) : ∀ (op : Op) (v : Value) (o : Oper), o.op = op → opv env op = some v → (execOp a.eval o).run Tryz.prog w = .ok (.value v) w := fun op v o ho h => by
 unfold opv at h
 split at h
 ·exact ex_vmv hf ho ((lke_eq _ _).symm.trans h)
 ·exact ex_vas hf ho ((lke_eq _ _).symm.trans h)
 ·split at h
  ·rename_i hc
   exact ex_pk (b := true) hf ho ((lk_eq _ _).symm.trans hc) ((lke_eq _ _).symm.trans h)
  ·rename_i hc
   exact ex_pk (b := false) hf ho ((lk_eq _ _).symm.trans hc) ((lke_eq _ _).symm.trans h)
  ·cases h
 ·split at h
  ·rename_i hx hz
   split at h
   ·rename_i hb
    obtain rfl := Option.some.inj h
    exact ex_cmp hf ho ((lke_eq _ _).symm.trans hx) ((lke_eq _ _).symm.trans hz) hb
   ·rename_i hb
    obtain rfl := Option.some.inj h
    exact ex_cmp hf ho ((lke_eq _ _).symm.trans hx) ((lke_eq _ _).symm.trans hz) hb
   ·cases h
  ·cases h
 ·split at h
  ·rename_i hx
   split at h
   ·rename_i hj
    obtain ⟨fs, f, h1, h2, h3, h4⟩ := fof_ok hj
    obtain rfl := Option.some.inj h
    exact ex_vfld _ hf ho ((lk_eq _ _).symm.trans hx) h1 h2 h3 (by rw [h4])
   ·cases h
  ·cases h
 ·split at h
  ·rename_i hx
   obtain rfl := Option.some.inj h
   exact ex_not (b := true) hf ho ((lk_eq _ _).symm.trans hx)
  ·rename_i hx
   obtain rfl := Option.some.inj h
   exact ex_not (b := false) hf ho ((lk_eq _ _).symm.trans hx)
  ·cases h
 ·split at h
  ·rename_i hx
   obtain rfl := Option.some.inj h
   exact ex_nilc0 hf ho ((lke_eq _ _).symm.trans hx)
  ·cases h
 ·cases h
def stq (L : List Oper) (env : VEnv) (N : Nat) (op : Op) : Option (Nat × Bool) → Option Value
 | none => opv env op
 | some (j, b) => match gd L j with
  | none => none
  | some e => match decide (e < N) with
   | false => none
   | true => match lk env e, b with
    | some (.bool true), true => opv env op
    | some (.bool false), false => opv env op
    | some (.bool true), false => some undef
    | some (.bool false), true => some undef
    | some (.tuple ⟨[]⟩), _ => some undef
    | _, _ => none
theorem st_all {op : Op} {g : Option (Nat × Bool)} {L : List Oper} (h : WkL Tryz.prog N ((d, v) :: env) L.toArray rest Q w) (hv : stq L env N op g = some v) (hd : decide (d < N) = true) : WkL Tryz.prog N env L.toArray ({ dst := some d, op := op, type := y, pos := ps, after := af, guard := g } :: rest) Q w := ⟨fun a hf => by
 have hdN := of_decide_eq_true hd
 have hone : ∀ a : Act, FrV N env a → opv env op = some v → wpList Tryz.prog L.toArray Q ({ dst := some d, op := op, type := y, pos := ps, after := af, guard := none } :: rest) a w := fun a hf hv => sv_run hf hdN (fun a hf => opv_run hf op v _ rfl hv) h.h
 match g, hv with
 | none, hv => exact hone a hf hv
 | some (j, b), hv =>
  unfold stq at hv
  dsimp only at hv
  cases he : gd L j with
  | none => rw [he] at hv; cases hv
  | some e =>
   rw [he] at hv
   cases hN : decide (e < N) with
   | false => simp only [hN] at hv; cases hv
   | true =>
    simp only [hN] at hv
    have hN' := gd_dst _ _ _ _ he (of_decide_eq_true hN)
    have hg := (gd_gv L env j e he).trans (lk_eq env e).symm
    split at hv
    ·rename_i hl
     exact sv_want hf hN' (hg.trans hl) (hone a hf hv)
    ·rename_i hl
     exact sv_want hf hN' (hg.trans hl) (hone a hf hv)
    ·rename_i hl
     obtain rfl := Option.some.inj hv
     exact sv_skip1 hf hN' (hg.trans hl) (by decide) hdN h.h
    ·rename_i hl
     obtain rfl := Option.some.inj hv
     exact sv_skip1 hf hN' (hg.trans hl) (by decide) hdN h.h
    ·rename_i hl
     obtain rfl := Option.some.inj hv
     exact sv_skip2 hf hN' (hg.trans hl) hdN h.h
    ·cases hv⟩
theorem st_wt {dst : Option Nat} {op : Op} {j e : Nat} {b : Bool} {L : List Oper} (h : WkL P N env L.toArray ({ dst := dst, op := op, type := y, pos := ps, after := af, guard := none } :: rest) Q w) (hg : gd L j = some e) (hl : lk env e = some (.bool b)) (hN : decide (e < N) = true) : WkL P N env L.toArray ({ dst := dst, op := op, type := y, pos := ps, after := af, guard := some (j, b) } :: rest) Q w := ⟨fun a hf => sv_want hf (gd_dst _ _ _ _ hg (of_decide_eq_true hN)) ((gd_gv _ _ _ _ hg).trans ((lk_eq _ _).symm.trans hl)) (h.h a hf)⟩
def celB (T : Nat) : Bool := match T with
  | 3 => true
  | 9 => true
  | 26 => true
  | 27 => true
  | 32 => true
  | _ => false
theorem celB_ok {T : Nat} (h : celB T = true) : ∃ td, Tryz.prog.underlying T = some td ∧ td.isRow = false := by
  unfold celB at h
  split at h
  · exact ⟨_, Tryz.underlying3, rfl⟩
  · exact ⟨_, Tryz.underlying9, rfl⟩
  · exact ⟨_, Tryz.underlying26, rfl⟩
  · exact ⟨_, Tryz.underlying27, rfl⟩
  · exact ⟨_, Tryz.underlying32, rfl⟩
  · cases h
theorem st_lc {b0 : Base} {bl : List (Nat × List Value)} {T b p : Nat} {cs : List Value} (i : Nat) (hT : celB T = true) (h : WkL Tryz.prog N ((d, v) :: env) ops rest Q w) (hB : Bx b0 bl w) (hx : lk env x = some (.pointer (some ⟨b, p, none⟩))) (hi : bl[i]? = some (b, cs)) (hc : cs[p]? = some v) (hd : decide (d < N) = true) : WkL Tryz.prog N env ops ({ dst := some d, op := .load T (.tmp x), type := y, pos := ps, after := af, guard := none } :: rest) Q w := ⟨fun a hf => by
 obtain ⟨td, h1, h2⟩ := celB_ok hT
 exact sv_lc hf hB ((lk_eq _ _).symm.trans hx) i hi hc h1 h2 (of_decide_eq_true hd) h.h⟩
theorem st_glc {b0 : Base} {bl : List (Nat × List Value)} {T b p j e : Nat} {cs : List Value} {bb : Bool} {L : List Oper} (i : Nat) (hT : celB T = true) (h : WkL Tryz.prog N ((d, v) :: env) L.toArray rest Q w) (hB : Bx b0 bl w) (hg : gd L j = some e) (hl : lk env e = some (.bool bb)) (hN : decide (e < N) = true) (hx : lk env x = some (.pointer (some ⟨b, p, none⟩))) (hi : bl[i]? = some (b, cs)) (hc : cs[p]? = some v) (hd : decide (d < N) = true) : WkL Tryz.prog N env L.toArray ({ dst := some d, op := .load T (.tmp x), type := y, pos := ps, after := af, guard := some (j, bb) } :: rest) Q w := st_wt (st_lc i hT h hB hx hi hc hd) hg hl hN
theorem st_nt {u : Code} (h : WkC P N env u Q w) : WkL P N env ops [] (Exit.then (u.wp P Q) Q) w := ⟨fun a hf => sv_nil hf (h.h a hf)⟩
theorem st_sr {id : Nat} {l : List Oper} {v : Code} (h : WkL P N env l.toArray l (Exit.then (v.wp P Q) Q) w) : WkC P N env (Code.seq (Code.region id l.toArray false) v) Q w := ⟨fun a hf => wp_seq (wp_region_lit (h.h a hf))⟩
theorem st_nil (h : WkQ N env Q w) : WkL P N env ops [] Q w := ⟨fun a hf => sv_nil hf (h.h a hf)⟩
theorem st_then {u : Code} (h : WkC P N env u Q w) : WkQ N env (Exit.then (u.wp P Q) Q) w := ⟨h.h⟩
theorem st_ib {k : Nat} (h : WkQ N env Q w) : WkQ N env (Exit.inBlock k Q) w := ⟨fun a hf => h.h a hf⟩
structure WkR (N : Nat) (env : VEnv) (Q : Exit → Act → World → Prop) (w : World) : Prop where
 h : ∀ a, FrV N env a → Q .ret a w
theorem st_ret (h : WkR N env Q w) : WkC P N env Code.ret Q w := ⟨fun a hf => wp_ret (h.h a hf)⟩
theorem st_r1 {K : Act → World → Prop} (h : WkR N env Q w) : WkR N env (Exit.then K Q) w := ⟨fun a hf => h.h a hf⟩
theorem st_r2 {k : Nat} (h : WkR N env Q w) : WkR N env (Exit.inBlock k Q) w := ⟨fun a hf => h.h a hf⟩
theorem st_seq {u v : Code} (h : WkC P N env u (Exit.then (v.wp P Q) Q) w) : WkC P N env (Code.seq u v) Q w := ⟨fun a hf => wp_seq (h.h a hf)⟩
theorem st_reg {id : Nat} {l : List Oper} (h : WkL P N env l.toArray l Q w) : WkC P N env (Code.region id l.toArray false) Q w := ⟨fun a hf => wp_region_lit (h.h a hf)⟩
theorem st_it {c : Operand} {u v : Code} (h : WkC P N env u Q w) (hc : lke env c = some (.bool true)) : WkC P N env (Code.cond c u v) Q w := ⟨fun a hf => wp_cond_true (hf.ev ((lke_eq _ _).symm.trans hc)) (h.h a hf)⟩
theorem st_if {c : Operand} {u v : Code} (h : WkC P N env v Q w) (hc : lke env c = some (.bool false)) : WkC P N env (Code.cond c u v) Q w := ⟨fun a hf => wp_cond_false (hf.ev ((lke_eq _ _).symm.trans hc)) (h.h a hf)⟩
theorem st_skip (h : WkQ N env Q w) : WkC P N env Code.skip Q w := ⟨fun a hf => wp_skip (h.h a hf)⟩
theorem go {a : Act} {q : Prop} (hf : FrV N env a) (h : q) (s : q → WkL P N env ops l Q w := by
  intro h
  repeat (first | refine st_all ?_ rfl rfl | refine st_lc 0 rfl ?_ hX rfl rfl rfl rfl | refine st_nt ?_ | refine st_sr ?_ | refine st_glc 0 rfl ?_ hX rfl rfl rfl rfl rfl rfl rfl | refine st_if ?_ rfl | refine st_it ?_ rfl | refine st_lc 1 rfl ?_ hX rfl rfl rfl rfl | refine st_wt ?_ rfl rfl rfl | refine st_skip ?_ | refine st_then ?_ | refine st_ib ?_ | refine st_nil ?_ | refine st_seq ?_ | refine st_reg ?_ | refine st_ret ?_ | refine st_r1 ?_ | refine st_r2 ?_ | refine st_lc 2 rfl ?_ hX rfl rfl rfl rfl | refine st_lc 3 rfl ?_ hX rfl rfl rfl rfl)
  exact ⟨h⟩) : wpList P ops Q l a w := (s h).h a hf
theorem gc {a : Act} {c : Code} {q : Prop} (hf : FrV N env a) (h : q) (s : q → WkC P N env c Q w := by
  intro h
  repeat (first | refine st_all ?_ rfl rfl | refine st_lc 0 rfl ?_ hX rfl rfl rfl rfl | refine st_nt ?_ | refine st_sr ?_ | refine st_glc 0 rfl ?_ hX rfl rfl rfl rfl rfl rfl rfl | refine st_if ?_ rfl | refine st_it ?_ rfl | refine st_lc 1 rfl ?_ hX rfl rfl rfl rfl | refine st_wt ?_ rfl rfl rfl | refine st_skip ?_ | refine st_then ?_ | refine st_ib ?_ | refine st_nil ?_ | refine st_seq ?_ | refine st_reg ?_ | refine st_ret ?_ | refine st_r1 ?_ | refine st_r2 ?_ | refine st_lc 2 rfl ?_ hX rfl rfl rfl rfl | refine st_lc 3 rfl ?_ hX rfl rfl rfl rfl)
  exact ⟨h⟩) : c.wp P Q a w := (s h).h a hf
end
theorem dd {p : Prop} [Decidable p] (h : decide p = true := by rfl) : p := of_decide_eq_true h
abbrev u3 := Tryz.underlying3
abbrev u4 := Tryz.underlying4
abbrev u9 := Tryz.underlying9
abbrev u29 := Tryz.underlying29
abbrev u26 := Tryz.underlying26
abbrev u27 := Tryz.underlying27
abbrev u78 := Tryz.underlying78
abbrev u105 := Tryz.underlying105
abbrev u53 := Tryz.underlying53
theorem ones_of {vs : List Value} (h : vs.all (·.oneCell') = true) : ∀ v ∈ vs, v.oneCell' = true := fun v hv => List.all_eq_true.1 h v hv
theorem bQ {x y : Bool} (h : x = y) : Ending.returned (.bool x) = .returned (.bool y) := by rw [h]
section
variable {N d : Nat} {env : VEnv} {w : World} {a : Act} {fn : Func} {R : Ending → World → Prop} {v : Value}
theorem rt (hf : FrV N env a) (hr : fn.results = #[.tmp d]) (hl : env.lookup d = some v) (hR : R (.returned v) w) : bodyPost Tryz.prog fn R .ret a w := bodyPost_ret (res_tmp hr (hf.rel d _ hl)) hf.defers hR
variable {P : Program} {g : FuncId} {k : Code} {v0 v1 v2 v3 v4 v5 : Value}
theorem cv1 (hf : P.funcs[g]? = some fn) (hb : fn.body = some k) (hN : fn.ntmps = N) (hn : decide (1 ≤ N) = true) (h : ∀ a : Act, FrV N [(0, v0)] a → k.wp P (bodyPost P fn R) a w) : Calls P g #[v0] w R := calls_frv (vs := [v0]) _ hf hb hN (of_decide_eq_true hn) (fun p hp => by simp only [List.mem_cons, List.not_mem_nil, or_false] at hp; rcases hp with rfl <;> rfl) h
theorem cv2 (hf : P.funcs[g]? = some fn) (hb : fn.body = some k) (hN : fn.ntmps = N) (hn : decide (2 ≤ N) = true) (h : ∀ a : Act, FrV N [(0, v0), (1, v1)] a → k.wp P (bodyPost P fn R) a w) : Calls P g #[v0, v1] w R := calls_frv (vs := [v0, v1]) _ hf hb hN (of_decide_eq_true hn) (fun p hp => by simp only [List.mem_cons, List.not_mem_nil, or_false] at hp; rcases hp with rfl | rfl <;> rfl) h
theorem cv3 (hf : P.funcs[g]? = some fn) (hb : fn.body = some k) (hN : fn.ntmps = N) (hn : decide (3 ≤ N) = true) (h : ∀ a : Act, FrV N [(0, v0), (1, v1), (2, v2)] a → k.wp P (bodyPost P fn R) a w) : Calls P g #[v0, v1, v2] w R := calls_frv (vs := [v0, v1, v2]) _ hf hb hN (of_decide_eq_true hn) (fun p hp => by simp only [List.mem_cons, List.not_mem_nil, or_false] at hp; rcases hp with rfl | rfl | rfl <;> rfl) h
end
section
variable {P : Program} {N d y : Nat} {env : VEnv} {a : Act} {ops : Array Oper} {rest : List Oper} {Q : Exit → Act → World → Prop} {w : World} {ps : String} {af : Array Edge} {op : BinOp} {xT zT : TypeId} {x z : Operand} {m n : Int} {p : Prop} [Decidable p]
theorem ct (hf : FrV N env a) (hp : p) (h : ∀ a', FrV N ((d, .bool true) :: env) a' → wpList P ops Q rest a' w) (hx : ev env x = some (.int .i64 m) := by rfl) (hz : ev env z = some (.int .i64 n) := by rfl) (hb : cmpI op m n = some (decide p) := by rfl) (hd : d < N := by decide) : wpList P ops Q ({ dst := some d, op := .binOp op xT x z zT, type := y, pos := ps, after := af, guard := none } :: rest) a w := sv_cmp hf hx hz true (by rw [hb, decide_eq_true hp]) hd h
theorem cf (hf : FrV N env a) (hp : ¬ p) (h : ∀ a', FrV N ((d, .bool false) :: env) a' → wpList P ops Q rest a' w) (hx : ev env x = some (.int .i64 m) := by rfl) (hz : ev env z = some (.int .i64 n) := by rfl) (hb : cmpI op m n = some (decide p) := by rfl) (hd : d < N := by decide) : wpList P ops Q ({ dst := some d, op := .binOp op xT x z zT, type := y, pos := ps, after := af, guard := none } :: rest) a w := sv_cmp hf hx hz false (by rw [hb, decide_eq_false hp]) hd h
theorem nt (hf : FrV N env a) (hp : p) (h : ∀ a', FrV N ((d, .bool false) :: env) a' → wpList P ops Q rest a' w) (hx : ev env x = some (.int .i64 m) := by rfl) (hz : ev env z = some (.int .i64 n) := by rfl) (hb : cmpI op m n = some (!decide p) := by rfl) (hd : d < N := by decide) : wpList P ops Q ({ dst := some d, op := .binOp op xT x z zT, type := y, pos := ps, after := af, guard := none } :: rest) a w := sv_cmp hf hx hz false (by rw [hb, decide_eq_true hp]; rfl) hd h
theorem nf (hf : FrV N env a) (hp : ¬ p) (h : ∀ a', FrV N ((d, .bool true) :: env) a' → wpList P ops Q rest a' w) (hx : ev env x = some (.int .i64 m) := by rfl) (hz : ev env z = some (.int .i64 n) := by rfl) (hb : cmpI op m n = some (!decide p) := by rfl) (hd : d < N := by decide) : wpList P ops Q ({ dst := some d, op := .binOp op xT x z zT, type := y, pos := ps, after := af, guard := none } :: rest) a w := sv_cmp hf hx hz true (by rw [hb, decide_eq_false hp]; rfl) hd h
end
theorem o0 {N d i : Nat} {env : VEnv} {a : Act} {L : List Oper} {oi : Oper} {Q : Exit → Act → World → Prop} {S : World → Prop} {R : Act → World → Prop} {rest : List (Nat × Nat)} {v : Value} {w : World} (hf : FrV N env a) (h : ∀ a', FrV N ((d, v) :: env) a' → wpOrd Tryz.prog L.toArray Q S R rest a' w) (hi : L.toArray[i]? = some oi := by rfl) (hd : oi.dst = some d := by rfl) (hg : oi.guard = none := by rfl) (hv : opv env oi.op = some v := by rfl) (hdN : decide (d < N) = true := by rfl) : wpOrd Tryz.prog L.toArray Q S R ((i, 0) :: rest) a w :=
 ov0 hf hi hd (of_decide_eq_true hdN) (by simp [Region.wanted, hg]) (fun X => opv_run hf oi.op v oi rfl hv) h
def bare (W : World) : World := { W with heap := #[] }
theorem Bx.bare (W : World) (p : Nat → Prop) : Bx ⟨bare W, [(W, p)]⟩ [] W :=
 ⟨fun x h => (by cases h), ⟨rfl, rfl, rfl, Nat.zero_le _, fun k hk => absurd hk (Nat.not_lt_zero k)⟩, fun x h => (by cases h), fun i j x y h => (by simp at h), fun q hq => by rw [List.mem_singleton.1 hq]; exact ⟨Nat.le_refl _, fun _ _ _ => rfl⟩, fun q hq x hx => (by cases hx)⟩
theorem Bx.turn {b : Base} {W W' : World} {l : List (Nat × List Value)} (h : Bx b l W) {i C : Nat} {cs cs' : List Value} (hi : l[i]? = some (C, cs)) (hg : W.grownBy W' (some C)) (hb : Box W' C cs') : Bx b (l.set i (C, cs')) W' := by
 have hmem := List.mem_of_getElem? hi
 have hne : ∀ j x, l[j]? = some x → j ≠ i → x.1 ≠ C := fun j x hj hji e => hji (h.nd j i x _ hj hi e)
 refine ⟨fun x hx => ?_, ?_, fun x hx => ?_, fun j k x y hj hk he => ?_, fun p hp => ⟨Nat.le_trans (h.bas p hp).1 hg.size, fun k hk hpk => ?_⟩, fun p hp x hx hlt => ?_⟩
 ·obtain ⟨j, hj⟩ := List.mem_iff_getElem?.1 hx
  rw [List.getElem?_set] at hj
  split at hj
  ·split at hj
   ·obtain rfl := Option.some.inj hj; exact hb
   ·cases hj
  ·have hxl := List.mem_of_getElem? hj
   have hbx := h.box x hxl
   have hk : W'.heap[x.1]? = W.heap[x.1]? := hg.block x.1 hbx.lt (fun e => hne j x hj (by omega) (Option.some.inj e))
   exact ⟨fun q v hv => (World.cell?_of_block (a := ⟨x.1, 0 + q, none⟩) hk).trans (hbx.rng q v hv), fun q => (World.frozen?_of_block (a := ⟨x.1, q, none⟩) hk).trans (hbx.free q), Nat.lt_of_lt_of_le hbx.lt hg.size⟩
 ·refine ⟨hg.os.trans h.low.os, hg.tape.trans h.low.tape, hg.output.trans h.low.output, Nat.le_trans h.low.size hg.size, fun k hk => ?_⟩
  exact (hg.block k (Nat.lt_of_lt_of_le hk h.low.size) (fun e => by have h1 := h.ge (C, cs) hmem; have h2 := Option.some.inj e; simp only at h1; omega)).trans (h.low.block k hk)
 ·rcases List.mem_or_eq_of_mem_set hx with hx | rfl
  ·exact h.ge x hx
  ·exact h.ge (C, cs) hmem
 ·rw [List.getElem?_set] at hj hk
  have key : ∀ (m : Nat) (z : Nat × List Value), (if i = m then (if i < l.length then some (C, cs') else none) else l[m]?) = some z → ∃ z', l[m]? = some z' ∧ z'.1 = z.1 := fun m z hz => by
   split at hz
   ·rename_i e
    subst e
    split at hz
    ·obtain rfl := Option.some.inj hz; exact ⟨_, hi, rfl⟩
    ·cases hz
   ·exact ⟨z, hz, rfl⟩
  obtain ⟨x', hx', ex⟩ := key j x hj
  obtain ⟨y', hy', ey⟩ := key k y hk
  exact h.nd j k x' y' hx' hy' (by rw [ex, ey, he])
 ·exact (hg.block k (Nat.lt_of_lt_of_le hk (h.bas p hp).1) (fun e => by have e2 : k = C := Option.some.inj e; exact h.bge p hp (C, cs) hmem (e2 ▸ hk) (e2 ▸ hpk))).trans ((h.bas p hp).2 k hk hpk)
 ·rcases List.mem_or_eq_of_mem_set hx with hx | rfl
  ·exact h.bge p hp x hx hlt
  ·exact h.bge p hp (C, cs) hmem hlt
def eachF (step : Int → Tr → Int) (cont : Int → Bool) : Int → List Tr → Int
 | s, [] => s
 | s, p :: r => if cont (step s p) = true then eachF step cont (step s p) r else step s p
theorem eachF_stop {step : Int → Tr → Int} {cont : Int → Bool} : ∀ (l : List Tr) (s s' : Int) (j : Nat) (p : Tr), eachF step cont s (l.take j) = s' → (∀ k, k < j → ∀ q, l[k]? = some q → cont (eachF step cont s (l.take (k + 1))) = true) → l[j]? = some p → cont (step s' p) = false → eachF step cont s l = step s' p
 | [], s, s', j, p, _, _, h, _ => by simp at h
 | a :: r, s, s', 0, p, h0, _, h, hc => by
  obtain rfl := Option.some.inj h
  have : s = s' := h0
  subst this
  show (if _ then _ else _) = _
  rw [if_neg (by rw [hc]; decide)]
 | a :: r, s, s', j + 1, p, h0, hk, h, hc => by
  have h1 : cont (step s a) = true := by
   have := hk 0 (by omega) a rfl
   simpa [eachF] using this
  have h2 : eachF step cont s (a :: r.take j) = s' := h0
  unfold eachF at h2
  rw [if_pos h1] at h2
  show (if _ then _ else _) = _
  rw [if_pos h1]
  refine eachF_stop r _ s' j p h2 (fun k hkj q hq => ?_) h hc
  have := hk (k + 1) (by omega) q hq
  have e : eachF step cont s ((a :: r).take (k + 1 + 1)) = eachF step cont (step s a) (r.take (k + 1)) := by
   show (if _ then _ else _) = _
   rw [if_pos h1]
  rwa [e] at this
theorem eachF_go {step : Int → Tr → Int} {cont : Int → Bool} : ∀ (l : List Tr) (s s' : Int) (j : Nat) (p : Tr), eachF step cont s (l.take j) = s' → (∀ k, k < j → ∀ q, l[k]? = some q → cont (eachF step cont s (l.take (k + 1))) = true) → l[j]? = some p → eachF step cont s (l.take (j + 1)) = step s' p
 | [], s, s', j, p, _, _, h => by simp at h
 | a :: r, s, s', 0, p, h0, _, h => by
  obtain rfl := Option.some.inj h
  have : s = s' := h0
  subst this
  show (if _ then _ else _) = _
  split <;> rfl
 | a :: r, s, s', j + 1, p, h0, hk, h => by
  have h1 : cont (step s a) = true := by
   have := hk 0 (by omega) a rfl
   simpa [eachF] using this
  have h2 : eachF step cont s (a :: r.take j) = s' := h0
  unfold eachF at h2
  rw [if_pos h1] at h2
  show (if _ then _ else _) = _
  rw [if_pos h1]
  refine eachF_go r _ s' j p h2 (fun k hkj q hq => ?_) h
  have := hk (k + 1) (by omega) q hq
  have e : eachF step cont s ((a :: r).take (k + 1 + 1)) = eachF step cont (step s a) (r.take (k + 1)) := by
   show (if _ then _ else _) = _
   rw [if_pos h1]
  rwa [e] at this
theorem each_any (g : FuncId) (hG : FnOK Tryz.prog g) (C M : Nat) (mo : Int) (step : Int → Tr → Int) (cont : Int → Bool) (ok : Int → Prop) (F : Nat → Prop) (t : Tr) (cs : List Value) (w : World) (hv : VAt w F t cs) (hF : ∀ k, F k → k ≠ C) (hCM : C ≠ M) (s0 : Int) (hC : Box w C [.int .i64 s0]) (hM : Box w M [.int .i64 mo]) (hok : ok s0)
  (hcall : ∀ p, p ∈ t.parts → ∀ (s : Int) (X : World) (ps : List Value), w.heap.size ≤ X.heap.size → ok s → VAt X F p ps → Box X C [.int .i64 s] → Box X M [.int .i64 mo] → Calls Tryz.prog g #[.agg ps.toArray, .pointer (some ⟨C, 0, none⟩), .pointer (some ⟨M, 0, none⟩)] X fun e w' => e = .returned (.bool (cont (step s p))) ∧ Box w' C [.int .i64 (step s p)] ∧ X.grownBy w' (some C) ∧ (cont (step s p) = true → ok (step s p))) :
  Calls Tryz.prog 84 #[.agg cs.toArray, .func (.func g) #[] #[.pointer (some ⟨C, 0, none⟩), .pointer (some ⟨M, 0, none⟩)]] w fun e w' => e = .returned (.tuple #[]) ∧ Box w' C [.int .i64 (eachF step cont s0 t.parts)] ∧ w.grownBy w' (some C) := by
 obtain ⟨k, n, s, lt, dt, rfl⟩ := hv.isV
 obtain ⟨la, lc, da, dc, rfl, wk, wn, ws, hL, hD⟩ := hv.parts
 obtain ⟨_, _, e1, _, _, hlm, _⟩ := id hL
 obtain ⟨_, _, e2, _, _, hdm, _⟩ := id hD
 obtain ⟨_, _, rfl⟩ := Value.slice.inj e1
 obtain ⟨_, _, rfl⟩ := Value.slice.inj e2
 have hlm2 : lt.len ≤ 9223372036854775807 := by have := hL; obtain ⟨_, _, e, _, h1, h2, _⟩ := this; obtain ⟨_, _, rfl⟩ := Value.slice.inj e; unfold maxLen at h2; omega
 have hdm2 : dt.len ≤ 9223372036854775807 := by have := hD; obtain ⟨_, _, e, _, h1, h2, _⟩ := this; obtain ⟨_, _, rfl⟩ := Value.slice.inj e; unfold maxLen at h2; omega
 refine cv2 Tryz.func84 rfl rfl rfl fun a hf => ?_
 have hX := Bx.start w
 clear hX
 have hX0 := Bx.bare w (fun k => k ≠ C)
 have hX := hX0.add hC (Nat.zero_le _) (fun x h => by cases h) (fun p hp _ => by rw [List.mem_singleton.1 hp]; exact fun h => h rfl)
 clear hX0
 refine gc hf ?_
 intro a hf
 refine sv_box hf hX rfl dd (fun a C1 W hC hf hX hA => ?_)
 clear hC hA
 refine go hf ?_
 intro a hf
 refine wp_block ?_
 refine gc hf ?_
 intro a hf
 rcases Decidable.em (k = 6) with hq2 | hq2
 ·
  refine ct hf hq2 fun a hf => ?_
  refine go hf ?_
  intro a hf
  have hk6 : k = 6 := hq2
  first | refine gc hf ?_ | refine go hf ?_
  intro a hf
  refine sv_len hf rfl u26 dd (fun a hf => ?_)
  refine go hf ?_
  intro a hf
  refine wp_block (wp_loop (fun a X => ∃ (q : Nat) (sx : Int), FrV 39 [(1, .func (.func g) #[] #[.pointer (some ⟨C, 0, none⟩), .pointer (some ⟨M, 0, none⟩)]), (13, .slice la lt.len lc), (14, .int .i64 ((lt.len : Nat) : Int)), (15, .int .i64 (q : Int))] a ∧ Bx ⟨bare w, [(w, fun k => k ≠ C)]⟩ [(C1, [.int .i64 k, .int .i64 n, .string s, .slice la lt.len lc, .slice da dt.len dc]), (C, [.int .i64 sx])] X ∧ q ≤ lt.len ∧ eachF step cont s0 (lt.lst.take q) = sx ∧ (∀ j, j < q → ∀ r, lt.lst[j]? = some r → cont (eachF step cont s0 (lt.lst.take (j + 1))) = true) ∧ ok sx) (fun a _ => lt.len - (intOf (a.eval (.tmp 15))).toNat) ⟨0, s0, hf.sub (sub_cons rfl (sub_cons rfl (sub_cons rfl (sub_cons rfl (sub_nil))))), hX, Nat.zero_le _, rfl, fun j hj => absurd hj (Nat.not_lt_zero j), hok⟩ ?_)
  clear hf hX
  rintro a W ⟨q, sx, hf, hX, hq, hsx, hbef, hoks⟩
  have hm15 : a.eval (.tmp 15) = .int .i64 (q : Int) := hf.rel 15 _ rfl
  rcases Decidable.em ((q : Int) < ((lt.len : Nat) : Int)) with hgo | hgo
  ·
   refine gc hf ?_
   intro a hf
   refine ct hf hgo fun a hf => ?_
   refine go hf ?_
   intro a hf
   refine wp_block ?_
   have hq2 : q < lt.len := by omega
   obtain ⟨LB, LO, _, p, ps, hsl, hFB, hLB, hpq, hps, hr, hvp⟩ := hL.get hq2
   obtain ⟨rfl, _, _⟩ := Value.slice.inj hsl
   have hones := hvp.ones
   have hpp : p ∈ (Tr.mk k n s lt dt).parts := by simp only [Tr.parts]; rw [if_pos hk6]; exact List.mem_of_getElem? hpq
   refine gc hf ?_
   intro a hf
   refine sv_idx (k := 5) (q := q) hf rfl rfl (by omega) u26 einfo_vals dd (fun a hf => ?_)
   refine sv_lrr (cs := ps) hf rfl (rep_row_mono hr (hX.bas _ List.mem_cons_self |>.2 LB hLB (hF LB hFB))) u29 (by show _ = some (ps.length); rw [hps]; exact info_val) dd (fun a hf => ?_)
   refine sv_alloc (zs := [.int .i64 0, .int .i64 0, .string ⟨#[]⟩, .slice none 0 0, .slice none 0 0]) hf hX zero_val dd (fun a C3 W hC hf hX hA => ?_)
   clear hC hA
   refine sv_sr hf hX rfl rfl 0 rfl (by show ps.length = _; rw [hps]; rfl) (by show _ = some (ps.length); rw [hps]; exact info_val) hones [(C3, ps), (C1, [.int .i64 k, .int .i64 n, .string s, .slice (some ⟨LB, LO, none⟩) lt.len lc, .slice da dt.len dc]), (C, [.int .i64 sx])] rfl (fun W hX hO => ?_)
   clear hO
   refine go hf ?_
   intro a hf
   refine sv_lr hf hX rfl 0 rfl u29 (by rw [hps]; exact info_val) dd (fun a hf => ?_)
   have hcl := hcall p (hpp) sx W ps (hX.bas _ List.mem_cons_self).1 hoks (hvp.kept (hX.bas _ List.mem_cons_self).1 (fun k hk hlt => (hX.bas _ List.mem_cons_self).2 k hlt (hF k hk)) (fun _ h _ => h)) (hX.get (i := 2) rfl) (hX.box_later List.mem_cons_self (fun e => hCM e.symm) hM)
   refine sv_callv (vs := [.agg ps.toArray]) (cap := [.pointer (some ⟨C, 0, none⟩), .pointer (some ⟨M, 0, none⟩)]) hf rfl hG rfl hcl dd ?_
   rintro e W2 ⟨rfl, hb, hg, hoks2⟩
   replace hX : Bx ⟨bare w, [(w, fun k => k ≠ C)]⟩ [(C3, ps), (C1, [.int .i64 k, .int .i64 n, .string s, .slice (some ⟨LB, LO, none⟩) lt.len lc, .slice da dt.len dc]), (C, [.int .i64 (step sx p)])] W2 := hX.turn (i := 2) rfl hg hb
   clear hb hg hcl
   obtain ⟨W, hWW⟩ : ∃ X, X = W2 := ⟨_, rfl⟩
   subst hWW
   obtain ⟨cb, hcb⟩ : ∃ b, b = cont (step sx p) := ⟨_, rfl⟩
   rw [← hcb]
   refine ⟨_, rfl, fun a hf => ?_⟩
   cases cb
   ·
    refine go hf ?_
    intro a hf
    have hcx : cont (step sx p) = false := hcb.symm
    have hfin : eachF step cont s0 (Tr.mk k n s lt dt).parts = step sx p := by simp only [Tr.parts]; rw [if_pos hk6]; exact eachF_stop _ _ _ _ _ hsx hbef hpq hcx
    rw [hfin]
    exact bodyPost_ret (results_none rfl _ _ _) hf.defers ⟨rfl, hX.get (i := 2) rfl, ⟨hX.low.os, hX.low.tape, hX.low.output, (hX.bas _ List.mem_cons_self).1, fun k hk hne => (hX.bas _ List.mem_cons_self).2 k hk (fun e => hne (by rw [e]))⟩⟩
   ·
    refine go hf ?_
    intro a hf
    refine sv_add ((q + 1 : Nat) : Int) hf rfl rfl (by rw [wrap_in (by omega)]; rfl) dd (fun a hf => ?_)
    refine go hf ?_
    intro a hf
    have hcx : cont (step sx p) = true := hcb.symm
    refine ⟨⟨q + 1, step sx p, hf.sub (sub_cons rfl (sub_cons rfl (sub_cons rfl (sub_cons rfl (sub_nil))))), hX.sub, by omega, eachF_go _ _ _ _ _ hsx hbef hpq, fun j hj r hr => ?_, hoks2 hcx⟩, ?_⟩
    ·by_cases e : j = q
     ·subst e; rw [eachF_go _ _ _ _ _ hsx hbef hpq]; exact hcx
     ·exact hbef j (by omega) r hr
    have h5 : a.eval (.tmp 15) = .int .i64 ((q + 1 : Nat) : Int) := hf.rel 15 _ rfl
    rw [h5, hm15]; simp only [intOf, Int.toNat_natCast]; omega
  ·
   refine gc hf ?_
   intro a hf
   refine cf hf hgo fun a hf => ?_
   refine go hf ?_
   intro a hf
   refine wp_exit ?_
   simp only [Exit.inBlock, Exit.then, ↓reduceIte]
   have hqe : q = lt.len := by omega
   have hfin : eachF step cont s0 (Tr.mk k n s lt dt).parts = sx := by simp only [Tr.parts]; rw [if_pos hk6]; rw [← hsx, hqe, List.take_length]
   try simp only [Exit.inBlock, Exit.then]
   rw [hfin]
   exact bodyPost_end (results_none rfl _ _ _) hf.defers ⟨rfl, hX.get (i := 1) rfl, ⟨hX.low.os, hX.low.tape, hX.low.output, (hX.bas _ List.mem_cons_self).1, fun k hk hne => (hX.bas _ List.mem_cons_self).2 k hk (fun e => hne (by rw [e]))⟩⟩
 ·
  refine cf hf hq2 fun a hf => ?_
  refine go hf ?_
  intro a hf
  rcases Decidable.em (k = 5) with hq5 | hq5
  ·
   refine ct hf hq5 fun a hf => ?_
   refine go hf ?_
   intro a hf
   have hk6 : ¬ k = 6 := hq2
   have hk5 : k = 5 := hq5
   first | refine gc hf ?_ | refine go hf ?_
   intro a hf
   refine sv_len hf rfl u27 dd (fun a hf => ?_)
   refine go hf ?_
   intro a hf
   refine wp_block (wp_loop (fun a X => ∃ (q : Nat) (sx : Int), FrV 39 [(1, .func (.func g) #[] #[.pointer (some ⟨C, 0, none⟩), .pointer (some ⟨M, 0, none⟩)]), (27, .slice da dt.len dc), (28, .int .i64 ((dt.len : Nat) : Int)), (29, .int .i64 (q : Int))] a ∧ Bx ⟨bare w, [(w, fun k => k ≠ C)]⟩ [(C1, [.int .i64 k, .int .i64 n, .string s, .slice la lt.len lc, .slice da dt.len dc]), (C, [.int .i64 sx])] X ∧ q ≤ dt.len ∧ eachF step cont s0 (dt.lst.take q) = sx ∧ (∀ j, j < q → ∀ r, dt.lst[j]? = some r → cont (eachF step cont s0 (dt.lst.take (j + 1))) = true) ∧ ok sx) (fun a _ => dt.len - (intOf (a.eval (.tmp 29))).toNat) ⟨0, s0, hf.sub (sub_cons rfl (sub_cons rfl (sub_cons rfl (sub_cons rfl (sub_nil))))), hX, Nat.zero_le _, rfl, fun j hj => absurd hj (Nat.not_lt_zero j), hok⟩ ?_)
   clear hf hX
   rintro a W ⟨q, sx, hf, hX, hq, hsx, hbef, hoks⟩
   have hm29 : a.eval (.tmp 29) = .int .i64 (q : Int) := hf.rel 29 _ rfl
   rcases Decidable.em ((q : Int) < ((dt.len : Nat) : Int)) with hgo | hgo
   ·
    refine gc hf ?_
    intro a hf
    refine ct hf hgo fun a hf => ?_
    refine go hf ?_
    intro a hf
    refine wp_block ?_
    have hq2 : q < dt.len := by omega
    obtain ⟨LB, LO, _, p, mn, ps, hsl, hFB, hLB, hpq, _, _, hps, hr, hvp⟩ := hD.get hq2
    obtain ⟨rfl, _, _⟩ := Value.slice.inj hsl
    have hones := hvp.ones
    have hpp : p ∈ (Tr.mk k n s lt dt).parts := by simp only [Tr.parts]; rw [if_neg hk6, if_pos hk5]; exact List.mem_of_getElem? hpq
    refine gc hf ?_
    intro a hf
    refine sv_idx (k := 6) (q := q) hf rfl rfl (by omega) u27 einfo_flds dd (fun a hf => ?_)
    refine sv_lrr (cs := (.string mn :: ps)) hf rfl (rep_row_mono hr (hX.bas _ List.mem_cons_self |>.2 LB hLB (hF LB hFB))) u78 (by show _ = some (ps.length + 1); rw [hps]; exact info_fld) dd (fun a hf => ?_)
    refine sv_alloc (zs := [.string ⟨#[]⟩, .int .i64 0, .int .i64 0, .string ⟨#[]⟩, .slice none 0 0, .slice none 0 0]) hf hX zero_fld dd (fun a C6 W hC hf hX hA => ?_)
    clear hC hA
    refine sv_sr hf hX rfl rfl 0 rfl (by show ps.length + 1 = _; rw [hps]; rfl) (by show _ = some (ps.length + 1); rw [hps]; exact info_fld) (fun v hv => by rcases List.mem_cons.1 hv with rfl | hv; rfl; exact hones v hv) [(C6, (.string mn :: ps)), (C1, [.int .i64 k, .int .i64 n, .string s, .slice la lt.len lc, .slice (some ⟨LB, LO, none⟩) dt.len dc]), (C, [.int .i64 sx])] rfl (fun W hX hO => ?_)
    clear hO
    refine go hf ?_
    intro a hf
    refine sv_fld hf rfl u78 rfl sz_val (1) rfl dd (fun a hf => ?_)
    refine sv_lrr (cs := ps) hf rfl (fun j u hu => by have := (hX.get (i := 0) rfl).cell (j + 1) u hu; rwa [Nat.add_comm j 1] at this) u29 (by rw [hps]; exact info_val) dd (fun a hf => ?_)
    have hcl := hcall p (hpp) sx W ps (hX.bas _ List.mem_cons_self).1 hoks (hvp.kept (hX.bas _ List.mem_cons_self).1 (fun k hk hlt => (hX.bas _ List.mem_cons_self).2 k hlt (hF k hk)) (fun _ h _ => h)) (hX.get (i := 2) rfl) (hX.box_later List.mem_cons_self (fun e => hCM e.symm) hM)
    refine sv_callv (vs := [.agg ps.toArray]) (cap := [.pointer (some ⟨C, 0, none⟩), .pointer (some ⟨M, 0, none⟩)]) hf rfl hG rfl hcl dd ?_
    rintro e W2 ⟨rfl, hb, hg, hoks2⟩
    replace hX : Bx ⟨bare w, [(w, fun k => k ≠ C)]⟩ [(C6, (.string mn :: ps)), (C1, [.int .i64 k, .int .i64 n, .string s, .slice la lt.len lc, .slice (some ⟨LB, LO, none⟩) dt.len dc]), (C, [.int .i64 (step sx p)])] W2 := hX.turn (i := 2) rfl hg hb
    clear hb hg hcl
    obtain ⟨W, hWW⟩ : ∃ X, X = W2 := ⟨_, rfl⟩
    subst hWW
    obtain ⟨cb, hcb⟩ : ∃ b, b = cont (step sx p) := ⟨_, rfl⟩
    rw [← hcb]
    refine ⟨_, rfl, fun a hf => ?_⟩
    cases cb
    ·
     refine go hf ?_
     intro a hf
     have hcx : cont (step sx p) = false := hcb.symm
     have hfin : eachF step cont s0 (Tr.mk k n s lt dt).parts = step sx p := by simp only [Tr.parts]; rw [if_neg hk6, if_pos hk5]; exact eachF_stop _ _ _ _ _ hsx hbef hpq hcx
     rw [hfin]
     exact bodyPost_ret (results_none rfl _ _ _) hf.defers ⟨rfl, hX.get (i := 2) rfl, ⟨hX.low.os, hX.low.tape, hX.low.output, (hX.bas _ List.mem_cons_self).1, fun k hk hne => (hX.bas _ List.mem_cons_self).2 k hk (fun e => hne (by rw [e]))⟩⟩
    ·
     refine go hf ?_
     intro a hf
     refine sv_add ((q + 1 : Nat) : Int) hf rfl rfl (by rw [wrap_in (by omega)]; rfl) dd (fun a hf => ?_)
     refine go hf ?_
     intro a hf
     have hcx : cont (step sx p) = true := hcb.symm
     refine ⟨⟨q + 1, step sx p, hf.sub (sub_cons rfl (sub_cons rfl (sub_cons rfl (sub_cons rfl (sub_nil))))), hX.sub, by omega, eachF_go _ _ _ _ _ hsx hbef hpq, fun j hj r hr => ?_, hoks2 hcx⟩, ?_⟩
     ·by_cases e : j = q
      ·subst e; rw [eachF_go _ _ _ _ _ hsx hbef hpq]; exact hcx
      ·exact hbef j (by omega) r hr
     have h5 : a.eval (.tmp 29) = .int .i64 ((q + 1 : Nat) : Int) := hf.rel 29 _ rfl
     rw [h5, hm29]; simp only [intOf, Int.toNat_natCast]; omega
   ·
    refine gc hf ?_
    intro a hf
    refine cf hf hgo fun a hf => ?_
    refine go hf ?_
    intro a hf
    refine wp_exit ?_
    simp only [Exit.inBlock, Exit.then, ↓reduceIte]
    have hqe : q = dt.len := by omega
    have hfin : eachF step cont s0 (Tr.mk k n s lt dt).parts = sx := by simp only [Tr.parts]; rw [if_neg hk6, if_pos hk5]; rw [← hsx, hqe, List.take_length]
    try simp only [Exit.inBlock, Exit.then]
    rw [hfin]
    exact bodyPost_end (results_none rfl _ _ _) hf.defers ⟨rfl, hX.get (i := 1) rfl, ⟨hX.low.os, hX.low.tape, hX.low.output, (hX.bas _ List.mem_cons_self).1, fun k hk hne => (hX.bas _ List.mem_cons_self).2 k hk (fun e => hne (by rw [e]))⟩⟩
  ·
   refine cf hf hq5 fun a hf => ?_
   refine go hf ?_
   intro a hf
   have hfin : eachF step cont s0 (Tr.mk k n s lt dt).parts = s0 := by simp only [Tr.parts]; rw [if_neg hq2, if_neg hq5]; rfl
   rw [hfin]
   exact bodyPost_end (results_none rfl _ _ _) hf.defers ⟨rfl, hX.get (i := 1) rfl, ⟨hX.low.os, hX.low.tape, hX.low.output, (hX.bas _ List.mem_cons_self).1, fun k hk hne => (hX.bas _ List.mem_cons_self).2 k hk (fun e => hne (by rw [e]))⟩⟩
end Go.Proofs.YtilopjlcgmedgaaGreatDoor
