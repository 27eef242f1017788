/- Merged texts: En10, En11, En12, En13, En14, En15, En16. -/
import Derived.Test.YtpcjmceakelilaaEc5
import Derived.Deep.RegionHeld3
import Derived.RangeFuncNested
/- Engine: refusal. -/
namespace Go.Proofs.Ytpcjmceakelilaa
open Go.ChangeShapes Go.WideShapes Go.ChangeAt Go.RowKit Go.Deep Go.ChangeMaps Go.Shelf
set_option linter.unusedVariables false
set_option linter.unusedSimpArgs false
/-- what refuses a change, in order -/
def ref1 (A : Bs → Bs → List Ver) (s : Int) (x : Chg) (P : List Plc) : Int :=
  if isNm x.1 = false then 9 else if 4096 < x.2.1.size then 2 else if 16384 < x.2.2.1.size then 2 else if x.2.2.2 = true ∧ x.2.2.1.size ≠ 0 then 4 else if inP (x.1, x.2.1) P = true then 12 else if s ≤ lastT (A x.1 x.2.1) then 1 else 0
def refL (A : Bs → Bs → List Ver) (s : Int) : List Chg → List Plc → Int
  | [], _ => 0
  | x :: L, P => if ref1 A s x P ≠ 0 then ref1 A s x P else refL A s L (P ++ [(x.1, x.2.1)])
def refC (A : Bs → Bs → List Ver) (s : Int) (L : List Chg) : Int := if s < 1 then 1 else if 1099511627776 < s then 1 else if 256 < L.length then 2 else refL A s L []
theorem last_nil (k : Bs) (W : World) : Calls Try.prog 36 #[.pointer none, .string k] W fun e W' => e = .returned (.int .i64 (-1)) ∧ W' = W := by
  go_enter Try.func36, Try.ntmps36
  go_wp2_with fail
  go_ret
  exact ⟨rfl, rfl⟩
theorem last_of {B b mt tc : Nat} {W : World} {T : List Tb} {st sy : Int} {dk : Bs} (h : Egs B W b mt T tc st dk sy) (tb k : Bs) :
    Calls Try.prog 36 #[tbP (tbOf T tb), .string k] W fun e W' => e = .returned (.int .i64 (lastT (cont T tb k))) ∧ W' = W := by
  unfold cont
  cases hu : tbOf T tb with
  | none => exact last_nil k W
  | some t =>
    have := h.sto t (tbOf_mem hu).1
    exact last_any B t.S t.m t.clock t.E k W this
theorem ch_get {W : World} {va : Option Addr} {vc : Nat} {L : List Chg} (h : ChAt W (.slice va L.length vc) L) {k : Nat} (hk : k < L.length) : ∃ g, va = some ⟨g, 0, none⟩ ∧ L.length ≤ vc ∧ vc ≤ 9223372036854775807 ∧ g < W.heap.size ∧ W.cell? ⟨g, k * 4, none⟩ = some (.string L[k].1) ∧ W.cell? ⟨g, k * 4 + 1, none⟩ = some (.string L[k].2.1) ∧ W.cell? ⟨g, k * 4 + 2, none⟩ = some (.string L[k].2.2.1) ∧ W.cell? ⟨g, k * 4 + 3, none⟩ = some (.bool L[k].2.2.2) := by
  rcases h with ⟨_, h⟩ | ⟨g, c, hv, h1, h2, h3, h4⟩
  · rw [h] at hk; simp at hk
  · cases hv
    exact ⟨g, rfl, h1, h2, h3, h4 k hk⟩
theorem plat_set {W : World} {m n : Nat} {P P' : List Plc} (h : PlAt W m P) (hn : n = P'.length) : PlAt (setBlock W m (.map (plE P' 0).toArray n)) m P' := by
  rw [hn]
  exact setBlock_at h
theorem below_set {B m : Nat} {w W : World} {o : Obj} (h : Below B w W) (hm : B ≤ m) : Below B w (setBlock W m o) := by
  refine ⟨h.os, h.tape, h.output, by show w.heap.size ≤ (W.heap.setIfInBounds m o).size; rw [Array.size_setIfInBounds]; exact h.size, fun k hk => ?_⟩
  rw [← h.block k hk]
  show (W.heap.setIfInBounds m o)[k]? = _
  rw [Array.getElem?_setIfInBounds_ne (by omega)]
set_option maxRecDepth 100000 in
theorem refusal_early (b : Nat) (A : Bs → Bs → List Ver) (s : Int) (v : Value) (L : List Chg) (w : World) (hv : ChAt w v L) (hc : s < 1 ∨ 1099511627776 < s ∨ 256 < L.length) :
    Calls Try.prog 22 #[.pointer (some ⟨b, 0, none⟩), v, .int .i64 s] w fun e w' => e = .returned (.int .i64 (refC A s L)) ∧ Below w.heap.size w w' := by
  obtain ⟨va, vc, rfl⟩ := hv.len
  clear hv
  unfold refC
  by_cases h1 : s < 1
  · rw [if_pos h1]
    have d1 : decide (s < 1) = true := decide_eq_true h1
    go_enter Try.func22, Try.ntmps22
    go_wp2_with fail
    go_ret
    exact ⟨rfl, Below.refl _ _⟩
  · rw [if_neg h1]
    have d1 : decide (s < 1) = false := decide_eq_false h1
    by_cases h2 : 1099511627776 < s
    · rw [if_pos h2]
      have d2 : decide (1099511627776 < s) = true := decide_eq_true h2
      go_enter Try.func22, Try.ntmps22
      go_wp2_with fail
      go_ret
      exact ⟨rfl, Below.refl _ _⟩
    · rw [if_neg h2]
      have d2 : decide (1099511627776 < s) = false := decide_eq_false h2
      have h3 : 256 < L.length := by omega
      rw [if_pos h3]
      have d3 : decide ((256 : Int) < (L.length : Int)) = true := decide_eq_true (by omega)
      go_enter Try.func22, Try.ntmps22
      go_wp2_with fail
      go_ret
      exact ⟨rfl, Below.refl _ _⟩
set_option maxRecDepth 100000 in
set_option maxHeartbeats 4000000 in
theorem refusal_late {B b mt tc : Nat} {T : List Tb} {st sy : Int} {dk : Bs} (s : Int) (v : Value) (L : List Chg) (w : World) (h : Egs B w b mt T tc st dk sy) (hv : ChAt w v L) (h1 : ¬ s < 1) (h2 : ¬ 1099511627776 < s) (h3 : ¬ 256 < L.length) :
    Calls Try.prog 22 #[.pointer (some ⟨b, 0, none⟩), v, .int .i64 s] w fun e w' => e = .returned (.int .i64 (refC (cont T) s L)) ∧ Below w.heap.size w w' := by
  obtain ⟨va, vc, rfl⟩ := hv.len
  have e0 : refC (cont T) s L = refL (cont T) s L [] := by unfold refC; rw [if_neg h1, if_neg h2, if_neg h3]
  obtain ⟨R, hR⟩ : ∃ R, R = refL (cont T) s L [] := ⟨_, rfl⟩
  rw [e0, ← hR]
  have HR := Lib.hid hR
  have HV := Lib.hid hv
  have HE := Lib.hid h
  have HL := Lib.hid h3
  have d1 : decide (s < 1) = false := decide_eq_false h1
  have d2 : decide (1099511627776 < s) = false := decide_eq_false h2
  have d3 : decide ((256 : Int) < (L.length : Int)) = false := decide_eq_false (by omega)
  have hmm := @run_makeMap Try.prog
  clear hR hv h h1 h2 h3 e0
  go_enter Try.func22, Try.ntmps22
  go_wp2_with fail
  clear d1 d2 d3 hmm
  have HB0 := Lib.hid ((Below.refl w.heap.size w).alloc (Nat.le_refl _) (Obj.map #[] 0))
  have HP0 := Lib.hid (show PlAt (w.alloc (Obj.map #[] 0)) w.heap.size [] from heap_alloc_new w _)
  go_loopw [22] (fun i wr => ∃ (k : Nat) (P : List Plc), k ≤ L.length ∧ i = .int .i64 k ∧ Hid (PlAt wr w.heap.size P ∧ Below w.heap.size w wr ∧ refL (cont T) s (L.drop k) P = R)) (fun i _ => L.length - (intOf i).toNat)
  case atStart => exact ⟨0, [], Nat.zero_le _, rfl, Lib.hid ⟨HP0.out, HB0.out, HR.out.symm⟩⟩
  case round =>
    obtain ⟨k, P, hk, rfl, HX⟩ := hrel
    by_cases hlt : k < L.length
    · have HD := Lib.hid (show L.drop k = L[k] :: L.drop (k + 1) from List.drop_eq_getElem_cons hlt)
      obtain ⟨g, rfl, v1, v2, hgl, a0, a1, a2, a3⟩ := ch_get HV.out hlt
      have hbw := HX.out.2.1
      have b0 := (hbw.cell (p := ⟨g, k * 4, none⟩) hgl).trans a0
      have b1 := (hbw.cell (p := ⟨g, k * 4 + 1, none⟩) hgl).trans a1
      have b2 := (hbw.cell (p := ⟨g, k * 4 + 2, none⟩) hgl).trans a2
      have b3 := (hbw.cell (p := ⟨g, k * 4 + 3, none⟩) hgl).trans a3
      clear a0 a1 a2 a3 hbw
      have HKL := Lib.hid (show L.length ≤ 256 by have := HL.out; omega)
      have hRx := HX.out.2.2
      rw [HD.out] at hRx
      generalize L[k] = x at *
      obtain ⟨tb, ky, vl, dl⟩ := x
      simp only at b0 b1 b2 b3
      have HS : Hid ((ref1 (cont T) s (tb, ky, vl, dl) P ≠ 0 → R = ref1 (cont T) s (tb, ky, vl, dl) P) ∧ (ref1 (cont T) s (tb, ky, vl, dl) P = 0 → refL (cont T) s (L.drop (k + 1)) (P ++ [(tb, ky)]) = R)) := by
        refine Lib.hid ⟨fun hne => ?_, fun he => ?_⟩
        · rw [← hRx, refL, if_pos hne]
        · rw [← hRx, refL, if_neg (by simp [he])]
      have HBW := Lib.hid (show Below w.heap.size w (wr.alloc (.cells #[.string tb, .string ky, .string vl, .bool dl] 58)) from HX.out.2.1.alloc HX.out.2.1.size _)
      have HPW := Lib.hid (show PlAt (wr.alloc (.cells #[.string tb, .string ky, .string vl, .bool dl] 58)) w.heap.size P from (heap_alloc_old wr _ (Array.getElem?_eq_some_iff.1 HX.out.1).1).trans HX.out.1)
      clear hRx HD HX
      cases n1 : isNm tb with
      | false =>
        have HR1 := Lib.hid (show R = 9 by
          have e : ref1 (cont T) s (tb, ky, vl, dl) P = 9 := by unfold ref1; rw [if_pos n1]
          rw [HS.out.1 (by rw [e]; decide), e])
        go_wp2_with fail
        refine (isName_any tb _).mono ?_
        rintro e w2 ⟨rfl, rfl⟩
        go_wp2_with fail
        go_ret
        exact ⟨by rw [HR1.out]; rfl, HBW.out⟩
      | true =>
        by_cases n2 : 4096 < ky.size
        · have HR1 := Lib.hid (show R = 2 by
            have e : ref1 (cont T) s (tb, ky, vl, dl) P = 2 := by unfold ref1; rw [if_neg (by simp [n1]), if_pos n2]
            rw [HS.out.1 (by rw [e]; decide), e])
          have d1 : decide ((4096 : Int) < (ky.size : Int)) = true := decide_eq_true (by omega)
          go_wp2_with fail
          refine (isName_any tb _).mono ?_
          rintro e w2 ⟨rfl, rfl⟩
          go_wp2_with fail
          go_ret
          exact ⟨by rw [HR1.out]; rfl, HBW.out⟩
        · have d1 : decide ((4096 : Int) < (ky.size : Int)) = false := decide_eq_false (by omega)
          by_cases n3 : 16384 < vl.size
          · have HR1 := Lib.hid (show R = 2 by
              have e : ref1 (cont T) s (tb, ky, vl, dl) P = 2 := by unfold ref1; rw [if_neg (by simp [n1]), if_neg n2, if_pos n3]
              rw [HS.out.1 (by rw [e]; decide), e])
            have d2 : decide ((16384 : Int) < (vl.size : Int)) = true := decide_eq_true (by omega)
            go_wp2_with fail
            refine (isName_any tb _).mono ?_
            rintro e w2 ⟨rfl, rfl⟩
            go_wp2_with fail
            go_ret
            exact ⟨by rw [HR1.out]; rfl, HBW.out⟩
          · have d2 : decide ((16384 : Int) < (vl.size : Int)) = false := decide_eq_false (by omega)
            by_cases n4 : dl = true ∧ vl.size ≠ 0
            · have HR1 := Lib.hid (show R = 4 by
                have e : ref1 (cont T) s (tb, ky, vl, dl) P = 4 := by unfold ref1; rw [if_neg (by simp [n1]), if_neg n2, if_neg n3, if_pos n4]
                rw [HS.out.1 (by rw [e]; decide), e])
              obtain ⟨rfl, n5⟩ := n4
              have d3 : (ByteArray.toList vl).isEmpty = false := by
                rw [ByteArray.toList_eq]
                cases hq : vl.data.toList with
                | nil =>
                  have : vl.data.toList.length = vl.size := Array.length_toList
                  rw [hq] at this
                  exact absurd this.symm n5
                | cons a b => rfl
              go_wp2_with fail
              refine (isName_any tb _).mono ?_
              rintro e w2 ⟨rfl, rfl⟩
              go_wp2_with fail
              go_ret
              exact ⟨by rw [HR1.out]; rfl, HBW.out⟩
            · have hl := run_lookP HPW.out (tb, ky)
              simp only [plV] at hl
              have HN := Lib.hid (And.intro n2 (And.intro n3 n4))
              have hd : dl = false ∨ (dl = true ∧ (ByteArray.toList vl).isEmpty = true) := by
                cases dl with
                | false => exact .inl rfl
                | true =>
                  refine .inr ⟨rfl, ?_⟩
                  have h0 : vl.size = 0 := by
                    by_cases q : vl.size = 0
                    · exact q
                    · exact absurd ⟨rfl, q⟩ n4
                  rw [ByteArray.toList_eq]
                  have : vl.data.toList.length = 0 := by rw [Array.length_toList]; exact h0
                  rw [List.eq_nil_of_length_eq_zero this]; rfl
              clear n2 n3 n4
              cases n6 : inP (tb, ky) P with
              | true =>
                have HR1 := Lib.hid (show R = 12 by
                  have e : ref1 (cont T) s (tb, ky, vl, dl) P = 12 := by unfold ref1; rw [if_neg (by simp [n1]), if_neg HN.out.1, if_neg HN.out.2.1, if_neg HN.out.2.2, if_pos n6]
                  rw [HS.out.1 (by rw [e]; decide), e])
                rcases hd with rfl | ⟨rfl, d3⟩
                all_goals
                  go_wp2_with fail
                  refine (isName_any tb _).mono ?_
                  rintro e w2 ⟨rfl, rfl⟩
                  go_wp2_with fail
                  go_ret
                  exact ⟨by rw [HR1.out]; rfl, HBW.out⟩
              | false =>
                have HE2 := Lib.hid (HE.out.below HBW.out)
                have HLA := Lib.hid (fun q => last_of (HE2.out.drewN q) tb ky)
                have hlt2 := fun q => run_lookT (HE2.out.drewN q).map tb
                have q0 := HE2.out.c0
                obtain ⟨la, hla⟩ : ∃ la, la = lastT (cont T tb ky) := ⟨_, rfl⟩
                rw [← hla] at HLA
                by_cases n7 : s ≤ la
                · have HR1 := Lib.hid (show R = 1 by
                    have e : ref1 (cont T) s (tb, ky, vl, dl) P = 1 := by unfold ref1; rw [if_neg (by simp [n1]), if_neg HN.out.1, if_neg HN.out.2.1, if_neg HN.out.2.2, if_neg (by simp [n6]), if_pos (by rw [← hla]; exact n7)]
                    rw [HS.out.1 (by rw [e]; decide), e])
                  have d5 : decide (s ≤ la) = true := decide_eq_true n7
                  clear HS hla n7
                  rcases hd with rfl | ⟨rfl, d3⟩
                  all_goals
                    go_wp2_with fail
                    refine (isName_any tb _).mono ?_
                    rintro e w2 ⟨rfl, rfl⟩
                    go_wp2_with fail
                    clear hl d1 d2
                    go_quiet ((go_at_call 36; refine Calls.quiet_of_same (HLA.out _)))
                    go_wp2_with fail
                    go_ret
                    exact ⟨by rw [HR1.out]; rfl, HBW.out.trans ⟨rfl, rfl, rfl, Nat.le_refl _, fun _ _ => rfl⟩⟩
                · have HR1 := Lib.hid (show refL (cont T) s (L.drop (k + 1)) (P ++ [(tb, ky)]) = R by
                    have e : ref1 (cont T) s (tb, ky, vl, dl) P = 0 := by unfold ref1; rw [if_neg (by simp [n1]), if_neg HN.out.1, if_neg HN.out.2.1, if_neg HN.out.2.2, if_neg (by simp [n6]), if_neg (by rw [← hla]; exact n7)]
                    exact HS.out.2 e)
                  have d5 : decide (s ≤ la) = false := decide_eq_false n7
                  have hnot : (tb, ky) ∉ P := fun h => by rw [(inP_iff _ _).2 h] at n6; cases n6
                  have hup := fun q => run_updP (show PlAt ((wr.alloc (.cells #[.string tb, .string ky, .string vl, .bool dl] 58)).drewN q) w.heap.size P from HPW.out) (tb, ky) hnot
                  simp only [plV] at hup
                  clear HS hla n7 hnot
                  rcases hd with rfl | ⟨rfl, d3⟩
                  all_goals
                    go_wp2_with fail
                    refine (isName_any tb _).mono ?_
                    rintro e w2 ⟨rfl, rfl⟩
                    go_wp2_with fail
                    clear hl d1 d2
                    go_quiet ((go_at_call 36; refine Calls.quiet_of_same (HLA.out _)))
                    go_wp2_with fail
                    go_roundw
                    case rel => exact ⟨k + 1, P ++ [(tb, ky)], by omega, by go_num, Lib.hid ⟨plat_set (P := P) HPW.out (by simp), below_set (HBW.out.trans ⟨rfl, rfl, rfl, Nat.le_refl _, fun _ _ => rfl⟩) (Nat.le_refl _), HR1.out⟩⟩
                    case measure => simp [intOf]; omega
    · have e : R = 0 := by
        have := HX.out.2.2
        rw [List.drop_of_length_le (by omega)] at this
        exact this.symm
      go_wp2_with fail
      go_ret
      exact ⟨by rw [e]; rfl, HX.out.2.1⟩
theorem refusal_any {B b mt tc : Nat} {T : List Tb} {st sy : Int} {dk : Bs} (s : Int) (v : Value) (L : List Chg) (w : World) (h : Egs B w b mt T tc st dk sy) (hv : ChAt w v L) :
    Calls Try.prog 22 #[.pointer (some ⟨b, 0, none⟩), v, .int .i64 s] w fun e w' => e = .returned (.int .i64 (refC (cont T) s L)) ∧ Below w.heap.size w w' := by
  by_cases hc : s < 1 ∨ 1099511627776 < s ∨ 256 < L.length
  · exact refusal_early b _ s v L w hv hc
  · exact refusal_late s v L w h hv (fun h => hc (.inl h)) (fun h => hc (.inr (.inl h))) (fun h => hc (.inr (.inr h)))
end Go.Proofs.Ytpcjmceakelilaa
/- Engine: append: a record is appended to the disk. -/
namespace Go.Proofs.Ytpcjmceakelilaa
open Go.ChangeShapes Go.WideShapes Go.ChangeAt Go.RowKit Go.Deep Go.ChangeMaps Go.Shelf
set_option linter.unusedVariables false
set_option linter.unusedSimpArgs false
theorem ETurn.rebox {B b mt tc : Nat} {F : Nat → Prop} {W W1 W2 : World} {T : List Tb} {st sy st' sy' : Int} {dk dk' : Bs} (h : ETurn B b F W W1 mt T tc st dk sy) (hF : F b) (ho : Only W1 W2 b) (hb : Box W2 b [.map (some mt), .int .i64 st', .string dk', .int .i64 sy']) : ETurn B b F W W2 mt T tc st' dk' sy' :=
  ⟨h.egs.rebox ho hb, h.foot, h.kept.trans (T := fun k => k = b) ⟨(ho.below b (Nat.le_refl _)).os, (ho.below b (Nat.le_refl _)).tape, (ho.below b (Nat.le_refl _)).output, (ho.below b (Nat.le_refl _)).size, fun k _ hk => ho.heap k hk⟩ (fun k hk => .inl (by rw [hk]; exact hF))⟩
theorem ETurn.setDisk {B b mt tc : Nat} {F : Nat → Prop} {W W1 : World} {T : List Tb} {st sy : Int} {dk : Bs} (h : ETurn B b F W W1 mt T tc st dk sy) (dk' : Bs) (hF : F b) : ETurn B b F W (W1.setCell ⟨b, 2, none⟩ (.string dk')) mt T tc st dk' sy :=
  h.rebox hF (Only.setCell W1 b 2 _) (h.egs.box.setCell 2 (.string dk') (by simp))
theorem ETurn.setStamp {B b mt tc : Nat} {F : Nat → Prop} {W W1 : World} {T : List Tb} {st sy : Int} {dk : Bs} (h : ETurn B b F W W1 mt T tc st dk sy) (st' : Int) (hF : F b) : ETurn B b F W (W1.setCell ⟨b, 1, none⟩ (.int .i64 st')) mt T tc st' dk sy :=
  h.rebox hF (Only.setCell W1 b 1 _) (h.egs.box.setCell 1 (.int .i64 st') (by simp))
theorem ETurn.setSync {B b mt tc : Nat} {F : Nat → Prop} {W W1 : World} {T : List Tb} {st sy : Int} {dk : Bs} (h : ETurn B b F W W1 mt T tc st dk sy) (sy' : Int) (hF : F b) : ETurn B b F W (W1.setCell ⟨b, 3, none⟩ (.int .i64 sy')) mt T tc st dk sy' :=
  h.rebox hF (Only.setCell W1 b 3 _) (h.egs.box.setCell 3 (.int .i64 sy') (by simp))
theorem ETurn.below {B b mt tc : Nat} {F : Nat → Prop} {W W1 W2 : World} {T : List Tb} {st sy : Int} {dk : Bs} (h : ETurn B b F W W1 mt T tc st dk sy) (hb : Below W1.heap.size W1 W2) : ETurn B b F W W2 mt T tc st dk sy :=
  h.trans (ETurn.same h.egs hb)
/-- a record that is handed on -/
structure RecIn (W : World) (k s : Nat) (v : Value) (L : List Chg) : Prop where
  s_lt : s < 4611686018427387904
  kind : ((k = 2 ∨ k = 4) ∧ L = []) ∨ ((k = 1 ∨ k = 3) ∧ ChAt W v L ∧ Small L)
theorem RecIn.below {W W' : World} {k s : Nat} {v : Value} {L : List Chg} (h : RecIn W k s v L) (hb : Below W.heap.size W W') : RecIn W' k s v L :=
  ⟨h.s_lt, h.kind.imp id (fun g => ⟨g.1, g.2.1.below hb (fun k hk => g.2.1.lt k hk), g.2.2⟩)⟩
theorem text_any {W : World} {k s : Nat} {v : Value} {L : List Chg} (h : RecIn W k s v L) :
    Calls Try.prog 38 #[.agg #[.int .i64 k, .int .i64 s, v]] W fun e w' => e = .returned (.string (mkS (recB k s L))) ∧ Below W.heap.size W w' := by
  rcases h.kind with ⟨hk, rfl⟩ | ⟨rfl | rfl, hv, hL⟩
  · exact text_short k s v W hk h.s_lt
  · exact text_1 s v L W h.s_lt hv hL
  · exact text_3 s v L W h.s_lt hv hL
theorem RecIn.len {W : World} {k s : Nat} {v : Value} {L : List Chg} (h : RecIn W k s v L) : (mkS (recB k s L)).size ≤ 100000000 := by
  rw [mkS_size]
  unfold recB
  have h1 := numB_len s h.s_lt
  rcases h.kind with ⟨hk, rfl⟩ | ⟨_, hv, hL⟩
  · rw [if_neg (by omega), List.append_nil, List.length_cons]; omega
  · have h2 := numB_len L.length (by have := hL.1; omega)
    have h3 := chsB_len L hL.2
    have h4 := hL.1
    split
    · simp only [List.length_append, List.length_cons]; omega
    · simp only [List.length_append, List.length_cons]; omega
theorem wapp_two (a s : ByteArray) (w : World) (ha2 : a.size ≤ 1000000000) (hs2 : s.size ≤ 1000000000) :
    Calls Try.prog 37 #[.string a, .string s] w fun e w' => ∃ (r : Bs) (n : Int), e = .returned (.tuple #[.string r, .int .i64 n]) ∧ (n = 0 ∧ r = a ++ framed s ∧ s.size ≤ 65536 ∧ a.size + s.size + 8 ≤ 16777216 ∨ n = 2 ∧ ¬ (s.size ≤ 65536 ∧ a.size + s.size + 8 ≤ 16777216)) ∧ Below w.heap.size w w' := by
  refine (wapp_any a s w ha2 hs2).mono ?_
  rintro e w' ⟨⟨rfl, h1, h2⟩ | ⟨rfl, h⟩, hb⟩
  · exact ⟨_, _, rfl, .inl ⟨rfl, rfl, h1, h2⟩, hb⟩
  · exact ⟨_, _, rfl, .inr ⟨rfl, h⟩, hb⟩
/-- whether a record fits the disk -/
def Fits (dk : Bs) (k s : Nat) (L : List Chg) : Prop := (recB k s L).length ≤ 65536 ∧ dk.size + (recB k s L).length + 8 ≤ 16777216
instance (dk : Bs) (k s : Nat) (L : List Chg) : Decidable (Fits dk k s L) := by unfold Fits; exact inferInstance
/-- the disk with one more record -/
def addD (dk : Bs) (k s : Nat) (L : List Chg) : Bs := dk ++ framed (mkS (recB k s L))
theorem addD_size (dk : Bs) (k s : Nat) (L : List Chg) : (addD dk k s L).size = dk.size + (recB k s L).length + 8 := by
  unfold addD
  rw [ByteArray.size_append, framed_size, mkS_size]
  omega
set_option maxRecDepth 100000 in
set_option maxHeartbeats 2000000 in
theorem append_any {B b mt tc : Nat} {T : List Tb} {st sy : Int} {dk : Bs} {k s : Nat} {v : Value} {L : List Chg} {W : World} (h : Egs B W b mt T tc st dk sy) (hr : RecIn W k s v L) (hd : dk.size ≤ 1000000000) :
    Calls Try.prog 23 #[.pointer (some ⟨b, 0, none⟩), .agg #[.int .i64 k, .int .i64 s, v]] W fun e W' =>
      (Fits dk k s L ∧ e = .returned (.int .i64 0) ∧ ETurn B b (FootE b mt T) W W' mt T tc st (addD dk k s L) sy ∧ Kept (fun j => j = b) W W') ∨ (¬ Fits dk k s L ∧ e = .returned (.int .i64 2) ∧ Below W.heap.size W W') := by
  have HLN := Lib.hid hr.len
  have hbA : Below W.heap.size W (W.alloc (.cells #[.int .i64 k, .int .i64 s, v] 54)) := (Below.refl _ W).alloc (Nat.le_refl _) _
  have HR1 := Lib.hid (hr.below hbA)
  have HE1 := Lib.hid (h.below hbA)
  have HBA := Lib.hid hbA
  have rc := rec_cells W (.int .i64 k) (.int .i64 s) v 54
  have q0 : (W.alloc (.cells #[.int .i64 k, .int .i64 s, v] 54)).cell? ⟨W.heap.size, 0, none⟩ = some (.int .i64 k) := Lib.cell_of_heap rc 0
  have q1 : (W.alloc (.cells #[.int .i64 k, .int .i64 s, v] 54)).cell? ⟨W.heap.size, 1, none⟩ = some (.int .i64 s) := Lib.cell_of_heap rc 1
  have q2 : (W.alloc (.cells #[.int .i64 k, .int .i64 s, v] 54)).cell? ⟨W.heap.size, 2, none⟩ = some v := Lib.cell_of_heap rc 2
  have p2 := HE1.out.c2
  have HD := Lib.hid hd
  have HB0 := Lib.hid (show b < W.heap.size from h.box.lt)
  have HE0 := Lib.hid h
  clear h hr hbA rc hd
  go_enter Try.func23, Try.ntmps23
  go_wp2_with fail
  generalize hW1 : W.alloc (.cells #[.int .i64 k, .int .i64 s, v] 54) = W1 at *
  have HSZ := Lib.hid (show W.heap.size < W1.heap.size by rw [← hW1]; simp)
  clear hW1
  obtain ⟨FF, hFF⟩ : ∃ FF : World → Prop, FF = fun X => Below W1.heap.size W1 X := ⟨_, rfl⟩
  have fI : FF W1.drew := by rw [hFF]; exact (Below.refl _ _).drew
  have fO : ∀ X, FF X → Below W1.heap.size W1 X := fun X hX => by rw [hFF] at hX; exact hX
  have fB : ∀ X Y, FF X → Below X.heap.size X Y → FF Y := fun X Y hX hY => by rw [hFF] at hX ⊢; exact hX.trans (hY.mono hX.size)
  have fC : ∀ X, FF X → X.cell? ⟨b, 2, none⟩ = some (.string dk) ∧ X.cell? ⟨W.heap.size, 0, none⟩ = some (.int .i64 k) ∧ X.cell? ⟨W.heap.size, 1, none⟩ = some (.int .i64 s) ∧ X.cell? ⟨W.heap.size, 2, none⟩ = some v := fun X hX => by
    have hx := fO X hX
    exact ⟨(hx.cell (p := ⟨b, 2, none⟩) (Nat.lt_trans HB0.out HSZ.out)).trans p2, (hx.cell (p := ⟨W.heap.size, 0, none⟩) HSZ.out).trans q0, (hx.cell (p := ⟨W.heap.size, 1, none⟩) HSZ.out).trans q1, (hx.cell (p := ⟨W.heap.size, 2, none⟩) HSZ.out).trans q2⟩
  clear hFF
  have HT := Lib.hid (fun X (hX : FF X) => text_any (HR1.out.below (fO X hX)))
  go_region_held3 (fun X => X.cell? ⟨b, 2, none⟩ = some (.string dk) ∧ X.cell? ⟨W.heap.size, 0, none⟩ = some (.int .i64 k) ∧ X.cell? ⟨W.heap.size, 1, none⟩ = some (.int .i64 s) ∧ X.cell? ⟨W.heap.size, 2, none⟩ = some v ∧ FF X) (first | (refine ⟨?_, ?_, ?_, ?_, ?_⟩ <;> assumption) | (refine ⟨(fC _ ?_).1, (fC _ ?_).2.1, (fC _ ?_).2.2.1, (fC _ ?_).2.2.2, ?_⟩ <;> assumption)) (first
    | (go_at_call 38; refine (HT.out _ (by assumption)).mono ?_; rintro e w2 ⟨rfl, hb2⟩; have hf2 := fB _ _ (by assumption) hb2)
    | (go_at_call 37; refine (wapp_two dk _ _ HD.out (by have := HLN.out; omega)).mono ?_; rintro e w3 ⟨rr, nn, rfl, hor, hb3⟩; have hf3 := fB _ _ (by assumption) hb3; have HOR := Lib.hid hor; clear hor))
  have hw3 := fO _ hf3
  have hE3 := HE1.out.below hw3
  have c2 := hE3.c2
  have z2 := hE3.fr 2
  have HE3 := Lib.hid hE3
  have HW3 := Lib.hid (show Below W.heap.size W w3 from HBA.out.trans (hw3.mono HBA.out.size))
  clear hE3 hw3 fC fO fB fI hf2 hf3 hb2 hb3 HT HE1 HR1 q0 q1 q2 p2
  rcases HOR.out with ⟨rfl, hrr, h1, h2⟩ | ⟨rfl, h3⟩
  · have HF := Lib.hid (show Fits dk k s L by rw [mkS_size] at h1 h2; exact ⟨h1, h2⟩)
    have HRR := Lib.hid hrr
    clear HOR h1 h2 hrr
    go_wp2_with fail
    go_ret
    refine .inl ⟨HF.out, rfl, ?_, ?_⟩
    · have := (ETurn.same HE0.out HW3.out).setDisk rr (.inl rfl)
      rw [HRR.out] at this ⊢
      exact this
    · have h1 : Kept (fun j => j = b) W w3 := ⟨HW3.out.os, HW3.out.tape, HW3.out.output, HW3.out.size, fun k hk _ => HW3.out.block k hk⟩
      have ho := Only.setCell w3 b 2 (.string rr)
      exact h1.trans (T := fun j => j = b) ⟨(ho.below b (Nat.le_refl _)).os, (ho.below b (Nat.le_refl _)).tape, (ho.below b (Nat.le_refl _)).output, (ho.below b (Nat.le_refl _)).size, fun k _ hk => ho.heap k hk⟩ (fun k hk => .inl hk)
  · have HF := Lib.hid (show ¬ Fits dk k s L by rw [mkS_size] at h3; exact h3)
    clear HOR h3
    go_wp2_with fail
    go_ret
    exact .inr ⟨HF.out, rfl, HW3.out⟩
end Go.Proofs.Ytpcjmceakelilaa
/- Engine: add: the versions of a commit. -/
namespace Go.Proofs.Ytpcjmceakelilaa
open Go.ChangeShapes Go.WideShapes Go.ChangeAt Go.RowKit Go.Deep Go.ChangeMaps Go.Shelf
set_option linter.unusedVariables false
set_option linter.unusedSimpArgs false
/-- the version that a change adds -/
def verOf (s : Int) (x : Chg) : Ver := (s, if x.2.2.2 = true then ⟨#[]⟩ else x.2.2.1, x.2.2.2)
def add1 (A : Bs → Bs → List Ver) (s : Int) (x : Chg) : Bs → Bs → List Ver := fun tb => if tb = x.1 then addA (A x.1) x.2.1 (verOf s x) else A tb
def addsA (A : Bs → Bs → List Ver) (s : Int) (L : List Chg) : Bs → Bs → List Ver := L.foldl (fun A x => add1 A s x) A
theorem addsA_snoc (A : Bs → Bs → List Ver) (s : Int) (L : List Chg) (x : Chg) : addsA A s (L ++ [x]) = add1 (addsA A s L) s x := by simp [addsA]
/-- the tables are not too great -/
def Bud (T : List Tb) (N : Nat) : Prop := T.length ≤ N ∧ ∀ t ∈ T, total t.E ≤ N
/-- the time after some changes -/
def stOf (st s : Int) (k : Nat) : Int := if k = 0 then st else max st s
theorem stOf_succ (st s : Int) (k : Nat) : max (stOf st s k) s = stOf st s (k + 1) := by
  unfold stOf
  rw [if_neg (Nat.succ_ne_zero k)]
  split
  · rfl
  · omega
theorem addB_any {B S m clock : Nat} {E : List En} (ky vl : Bs) (dl : Bool) (s : Int) (x : Chg) (hx : x = (x.1, ky, vl, dl)) (W : World) (h : Sto B W S m E clock) (hB : B ≤ W.heap.size) (hT : total E < 5000) (e : Ending) (W' : World) :
    PutOut B S m E ky (verOf s x) W e W' → ∃ n : Int, e = .returned (.int .i64 n) ∧ Done B S m E (addA (lkL E) ky (verOf s x)) W W' := fun ⟨h1, h2⟩ => ⟨_, h1, h2⟩
theorem updT_len (T : List Tb) (k : Bs) (E : List En) (c : Nat) : (updT T k E c).length = T.length := by simp [updT]
theorem adds_step {B b mt tc : Nat} {F : Nat → Prop} {W W5 W6 : World} {T2 : List Tb} {st sy s : Int} {dk : Bs} {t2 : Tb} {x : Chg} {M : Nat} (h : ETurn B b F W W5 mt T2 tc st dk sy) (ht : tbOf T2 x.1 = some t2) (hd : Done B t2.S t2.m t2.E (addA (lkL t2.E) x.2.1 (verOf s x)) W5 W6) (h1 : T2.length ≤ M + 1) (h2 : ∀ t ∈ T2, total t.E ≤ M) :
    ∃ T3 tc3, ETurn B b F W W6 mt T3 tc3 st dk sy ∧ cont T3 = add1 (cont T2) s x ∧ Bud T3 (M + 1) := by
  obtain ⟨E', c', hT, hl⟩ := hd
  obtain ⟨hm, hk⟩ := tbOf_mem ht
  refine ⟨_, _, h.trans (h.egs.turn hm hT), ?_, by rw [updT_len]; exact h1, fun t ht2 => ?_⟩
  · rw [hk, cont_upd ht, hl]
    funext q
    unfold add1
    by_cases hq : q = x.1
    · rw [if_pos hq, if_pos hq]
      congr 2
      unfold cont
      rw [ht]
    · rw [if_neg hq, if_neg hq]
  · rcases updT_mem ht2 with ⟨h3, _⟩ | ⟨u, hu, hk2, rfl⟩
    · have := h2 t h3; omega
    · have e : u = t2 := nodup_inj h.egs.keys hu hm hk2
      subst e
      have := total_le (h.egs.sto u hu).gd hT.1.gd x.2.1 (fun k => by rw [hl]; exact addA_len _ _ _ k)
      have := h2 u hu
      show total E' ≤ _
      omega
def AddsOut (B b mt : Nat) (T : List Tb) (st : Int) (dk : Bs) (sy : Int) (s : Int) (L : List Chg) (N : Nat) (W W' : World) : Prop :=
  ∃ T' tc', ETurn B b (FootE b mt T) W W' mt T' tc' (stOf st s L.length) dk sy ∧ cont T' = addsA (cont T) s L ∧ Bud T' (N + L.length)
set_option maxRecDepth 100000 in
set_option maxHeartbeats 4000000 in
theorem add_walk {B b mt tc : Nat} {T : List Tb} {st sy : Int} {dk : Bs} (s : Int) (v : Value) (L : List Chg) (N : Nat) (W : World) (h : Egs B W b mt T tc st dk sy) (hv : ChAt W v L) (hvF : ∀ k, v.ownBlock = some k → ¬ FootE b mt T k) (hN : Bud T N) (hNL : N + L.length < 5000) (hB : B ≤ W.heap.size) :
    Calls Try.prog 24 #[.pointer (some ⟨b, 0, none⟩), v, .int .i64 s] W fun e W' => e = .returned (.tuple #[]) ∧ AddsOut B b mt T st dk sy s L N W W' := by
  obtain ⟨va, vc, rfl⟩ := hv.len
  have HV := Lib.hid (And.intro hv hvF)
  have HE := Lib.hid h
  have HN := Lib.hid (And.intro hN (And.intro hNL hB))
  clear hv h hvF hN
  have hL5 : L.length < 5000 := by omega
  clear hNL hB
  go_enter Try.func24, Try.ntmps24
  go_wp2_with fail
  go_loopw [11] (fun i wr => ∃ k : Nat, k ≤ L.length ∧ i = .int .i64 k ∧ Hid (∃ T' tc', ETurn B b (FootE b mt T) W wr mt T' tc' (stOf st s k) dk sy ∧ cont T' = addsA (cont T) s (L.take k) ∧ Bud T' (N + k))) (fun i _ => L.length - (intOf i).toNat)
  case atStart => exact ⟨0, Nat.zero_le _, rfl, Lib.hid ⟨T, tc, ETurn.same HE.out (Below.refl _ _), rfl, HN.out.1⟩⟩
  case round =>
    obtain ⟨k, hk, rfl, HX⟩ := hrel
    by_cases hlt : k < L.length
    · have HTK := Lib.hid (show L.take (k + 1) = L.take k ++ [L[k]] by rw [List.take_succ_eq_append_getElem hlt])
      obtain ⟨g, rfl, v1, v2, hgl, a0, a1, a2, a3⟩ := ch_get HV.out.1 hlt
      obtain ⟨T1, tc1, hT1, hc1, hb1⟩ := HX.out
      have hgF : ¬ FootE b mt T g := HV.out.2 g rfl
      have b0 := cell_kept2 hT1.kept hgl hgF a0
      have b1 := cell_kept2 hT1.kept hgl hgF a1
      have b2 := cell_kept2 hT1.kept hgl hgF a2
      have b3 := cell_kept2 hT1.kept hgl hgF a3
      generalize L[k] = x at *
      obtain ⟨tb, ky, vl, dl⟩ := x
      simp only at b0 b1 b2 b3
      have hT2 := hT1.below ((Below.refl _ wr).alloc (Nat.le_refl _) (.cells #[.string tb, .string ky, .string vl, .bool dl] 58))
      have HT2 := Lib.hid hT2
      have HCB := Lib.hid (And.intro hc1 hb1)
      have HSZ := Lib.hid hT1.kept.size
      have HCF := Lib.hid (fun hf : FootE b mt T1 wr.heap.size => Nat.lt_irrefl _ (hT1.egs.foot hf).2)
      have q0 := hT2.egs.c0
      have hlk := fun q => run_lookT (hT2.egs.drewN q).map tb
      clear a0 a1 a2 a3 hT1 hT2 hc1 hb1 hgF HX
      go_wp2_with fail
      clear b0 b1 b2 b3
      go_quiet (fail)
      have hTd := HT2.out.below (show Below _ _ ((wr.alloc (.cells #[.string tb, .string ky, .string vl, .bool dl] 58)).drewN nq) from ⟨rfl, rfl, rfl, Nat.le_refl _, fun _ _ => rfl⟩)
      have hcl : wr.heap.size < ((wr.alloc (.cells #[.string tb, .string ky, .string vl, .bool dl] 58)).drewN nq).heap.size := by simp
      have hcb : ((wr.alloc (.cells #[.string tb, .string ky, .string vl, .bool dl] 58)).drewN nq).heap[wr.heap.size]? = some (.cells #[.string tb, .string ky, .string vl, .bool dl] 58 (0, 0)) := heap_alloc_new wr _
      have hcF : ¬ FootE b mt T1 wr.heap.size := HCF.out
      clear hlk q0 HT2
      generalize ((wr.alloc (.cells #[.string tb, .string ky, .string vl, .bool dl] 58)).drewN nq) = Wd at *
      generalize hcc : wr.heap.size = cb at *
      obtain ⟨d0, d1, d2, d3⟩ : Wd.cell? ⟨cb, 0, none⟩ = some (.string tb) ∧ Wd.cell? ⟨cb, 1, none⟩ = some (.string ky) ∧ Wd.cell? ⟨cb, 2, none⟩ = some (.string vl) ∧ Wd.cell? ⟨cb, 3, none⟩ = some (.bool dl) := ⟨Lib.cell_of_heap hcb 0, Lib.cell_of_heap hcb 1, Lib.cell_of_heap hcb 2, Lib.cell_of_heap hcb 3⟩
      have HTD := Lib.hid hTd
      have HCX := Lib.hid (And.intro hcl (And.intro hcb hcF))
      clear hTd hcl hcb hcF hcc
      cases hto : tbOf T1 tb with
      | none =>
        have HTO := Lib.hid hto
        clear hto
        dsimp only [tbP]
        go_wp2_with fail
        refine (new_any Wd).mono ?_
        rintro e w2 ⟨rfl, hs2, hb2⟩
        have e0 := (hb2.cell (p := ⟨cb, 0, none⟩) HCX.out.1).trans d0
        have hT3 := HTD.out.below hb2
        have q0 := hT3.egs.c0
        obtain ⟨t2, ht2⟩ : ∃ t2 : Tb, t2 = ⟨tb, Wd.heap.size + 1, Wd.heap.size, [], 0, tc1⟩ := ⟨_, rfl⟩
        have hup := run_newT (hT3.egs.drew).map t2 (by rw [ht2]; exact HTO.out) (by rw [ht2])
        rw [ht2] at hup
        simp only at hup
        have HS2 := Lib.hid (And.intro hs2 (And.intro hb2 hT3))
        clear hs2 hb2 hT3
        go_wp2_with fail
        go_region
        have PK : Hid (∃ T2 tc2 t2, ETurn B b (FootE b mt T) W (setBlock w2.drew mt (.map (esOf (ens (T1 ++ [⟨tb, Wd.heap.size + 1, Wd.heap.size, [], 0, tc1⟩]))) (tc1 + 1))) mt T2 tc2 (stOf st s k) dk sy ∧ tbOf T2 tb = some t2 ∧ t2.S = Wd.heap.size + 1 ∧ cont T2 = cont T1 ∧ T2.length ≤ N + k + 1 ∧ ∀ t ∈ T2, total t.E ≤ N + k) := by
          refine Lib.hid ⟨T1 ++ [⟨tb, Wd.heap.size + 1, Wd.heap.size, [], 0, tc1⟩], tc1 + 1, ⟨tb, Wd.heap.size + 1, Wd.heap.size, [], 0, tc1⟩, HTD.out.trans (HTD.out.egs.add (t := ⟨tb, Wd.heap.size + 1, Wd.heap.size, [], 0, tc1⟩) HTO.out rfl (show Below Wd.heap.size Wd w2.drew from HS2.out.2.1.trans ⟨rfl, rfl, rfl, Nat.le_refl _, fun _ _ => rfl⟩) HS2.out.1.drew (Nat.le_trans HN.out.2.2 HTD.out.kept.size)), ?_, rfl, ?_, ?_, fun t ht => ?_⟩
          · unfold tbOf
            rw [List.find?_append, show T1.find? (fun t => decide (tb = t.key)) = none from HTO.out]
            simp
          · rw [cont_add (t := ⟨tb, Wd.heap.size + 1, Wd.heap.size, [], 0, tc1⟩) HTO.out]
            funext q
            by_cases hq : q = tb
            · rw [if_pos hq, hq]
              unfold cont
              rw [HTO.out]
              rfl
            · rw [if_neg hq]
          · rw [List.length_append]; have := HCB.out.2.1; simp; omega
          · rcases List.mem_append.1 ht with ht | ht
            · exact HCB.out.2.2 t ht
            · rw [List.mem_singleton.1 ht]; exact Nat.zero_le _
        have f1 := (HS2.out.2.1.cell (p := ⟨cb, 1, none⟩) HCX.out.1).trans d1
        have f2 := (HS2.out.2.1.cell (p := ⟨cb, 2, none⟩) HCX.out.1).trans d2
        have f3 := (HS2.out.2.1.cell (p := ⟨cb, 3, none⟩) HCX.out.1).trans d3
        have hcm : cb ≠ mt := fun e => HCX.out.2.2 (by rw [e]; exact .inr (.inl rfl))
        have hkk : Kept (fun j => j = mt) w2.drew (setBlock w2.drew mt (.map (esOf (ens (T1 ++ [⟨tb, Wd.heap.size + 1, Wd.heap.size, [], 0, tc1⟩]))) (tc1 + 1))) := setBlock_kept (Kept.refl _ _) mt _ (.inl rfl)
        have hcs : cb < w2.drew.heap.size := Nat.lt_of_lt_of_le HCX.out.1 HS2.out.2.1.size
        have g1 := cell_kept2 hkk hcs hcm f1
        have g2 := cell_kept2 hkk hcs hcm f2
        have g3 := cell_kept2 hkk hcs hcm f3
        clear f1 f2 f3 hcm hkk hcs hup q0 e0 d0 d1 d2 d3 HS2 ht2 t2
        generalize setBlock w2.drew mt (.map (esOf (ens (T1 ++ [⟨tb, Wd.heap.size + 1, Wd.heap.size, [], 0, tc1⟩]))) (tc1 + 1)) = W5 at *
        generalize Wd.heap.size + 1 = S2 at *
        cases dl with
        | true =>
          have HQ : Hid (Calls Try.prog 40 #[.pointer (some ⟨S2, 0, none⟩), .string ky, .int .i64 s] W5 fun e W6 => ∃ n : Int, e = .returned (.int .i64 n) ∧ Hid (∃ T3 tc3, ETurn B b (FootE b mt T) W W6 mt T3 tc3 (stOf st s k) dk sy ∧ cont T3 = addsA (cont T) s (L.take (k + 1)) ∧ Bud T3 (N + (k + 1)))) := by
            obtain ⟨T2, tc2, t2, p1, p2, p3, p4, p5, p6⟩ := PK.out
            obtain ⟨p7, p8⟩ := tbOf_mem p2
            rw [← p3]
            refine Lib.hid ((del_any B t2.S t2.m t2.clock t2.E ky s W5 (p1.egs.sto t2 p7) (Nat.le_trans HN.out.2.2 p1.kept.size) (by have := p6 t2 p7; have := HN.out.2.1; omega)).mono ?_)
            rintro e W6 ⟨h1, h2⟩
            rw [HTK.out, addsA_snoc, ← HCB.out.1, ← p4]
            exact ⟨_, h1, Lib.hid (adds_step (x := (tb, ky, vl, true)) p1 p2 h2 p5 p6)⟩
          go_wp2_with fail
          refine HQ.out.mono ?_
          rintro e W6 ⟨n6, rfl, HT6⟩
          obtain ⟨T3, tc3, hT3, hc3, hb3⟩ := HT6.out
          have r1 := hT3.egs.c1
          have r2 := hT3.egs.fr 1
          have HT7 := Lib.hid (And.intro hT3 (And.intro hc3 hb3))
          clear hT3 hc3 hb3 HQ PK HT6 HTD HTO HCX g1 g2 g3
          go_wp2_with fail
          go_roundw
          case rel => exact ⟨k + 1, by omega, by go_num, Lib.hid ⟨T3, tc3, by rw [← stOf_succ]; exact HT7.out.1.setStamp _ (.inl rfl), HT7.out.2.1, HT7.out.2.2⟩⟩
          case measure => simp [intOf]; omega
        | false =>
          have HQ : Hid (Calls Try.prog 41 #[.pointer (some ⟨S2, 0, none⟩), .string ky, .string vl, .int .i64 s] W5 fun e W6 => ∃ n : Int, e = .returned (.int .i64 n) ∧ Hid (∃ T3 tc3, ETurn B b (FootE b mt T) W W6 mt T3 tc3 (stOf st s k) dk sy ∧ cont T3 = addsA (cont T) s (L.take (k + 1)) ∧ Bud T3 (N + (k + 1)))) := by
            obtain ⟨T2, tc2, t2, p1, p2, p3, p4, p5, p6⟩ := PK.out
            obtain ⟨p7, p8⟩ := tbOf_mem p2
            rw [← p3]
            refine Lib.hid ((put_any B t2.S t2.m t2.clock t2.E ky vl s W5 (p1.egs.sto t2 p7) (Nat.le_trans HN.out.2.2 p1.kept.size) (by have := p6 t2 p7; have := HN.out.2.1; omega)).mono ?_)
            rintro e W6 ⟨h1, h2⟩
            rw [HTK.out, addsA_snoc, ← HCB.out.1, ← p4]
            exact ⟨_, h1, Lib.hid (adds_step (x := (tb, ky, vl, false)) p1 p2 h2 p5 p6)⟩
          go_wp2_with fail
          refine HQ.out.mono ?_
          rintro e W6 ⟨n6, rfl, HT6⟩
          obtain ⟨T3, tc3, hT3, hc3, hb3⟩ := HT6.out
          have r1 := hT3.egs.c1
          have r2 := hT3.egs.fr 1
          have HT7 := Lib.hid (And.intro hT3 (And.intro hc3 hb3))
          clear hT3 hc3 hb3 HQ PK HT6 HTD HTO HCX g1 g2 g3
          go_wp2_with fail
          go_roundw
          case rel => exact ⟨k + 1, by omega, by go_num, Lib.hid ⟨T3, tc3, by rw [← stOf_succ]; exact HT7.out.1.setStamp _ (.inl rfl), HT7.out.2.1, HT7.out.2.2⟩⟩
          case measure => simp [intOf]; omega
      | some t2 =>
        have HTO := Lib.hid hto
        clear hto
        obtain ⟨S2, hS2⟩ : ∃ S2, S2 = t2.S := ⟨_, rfl⟩
        have PK : Hid (∃ T2 tc2 t2, ETurn B b (FootE b mt T) W Wd mt T2 tc2 (stOf st s k) dk sy ∧ tbOf T2 tb = some t2 ∧ t2.S = S2 ∧ cont T2 = cont T1 ∧ T2.length ≤ N + k + 1 ∧ ∀ t ∈ T2, total t.E ≤ N + k) :=
          Lib.hid ⟨T1, tc1, t2, HTD.out, HTO.out, hS2.symm, rfl, by have := HCB.out.2.1; omega, HCB.out.2.2⟩
        dsimp only [tbP]
        rw [← hS2]
        have g1 := d1
        have g2 := d2
        have g3 := d3
        clear hS2 d0 d1 d2 d3
        generalize Wd = W5 at *
        cases dl with
        | true =>
          have HQ : Hid (Calls Try.prog 40 #[.pointer (some ⟨S2, 0, none⟩), .string ky, .int .i64 s] W5 fun e W6 => ∃ n : Int, e = .returned (.int .i64 n) ∧ Hid (∃ T3 tc3, ETurn B b (FootE b mt T) W W6 mt T3 tc3 (stOf st s k) dk sy ∧ cont T3 = addsA (cont T) s (L.take (k + 1)) ∧ Bud T3 (N + (k + 1)))) := by
            obtain ⟨T2, tc2, t2, p1, p2, p3, p4, p5, p6⟩ := PK.out
            obtain ⟨p7, p8⟩ := tbOf_mem p2
            rw [← p3]
            refine Lib.hid ((del_any B t2.S t2.m t2.clock t2.E ky s W5 (p1.egs.sto t2 p7) (Nat.le_trans HN.out.2.2 p1.kept.size) (by have := p6 t2 p7; have := HN.out.2.1; omega)).mono ?_)
            rintro e W6 ⟨h1, h2⟩
            rw [HTK.out, addsA_snoc, ← HCB.out.1, ← p4]
            exact ⟨_, h1, Lib.hid (adds_step (x := (tb, ky, vl, true)) p1 p2 h2 p5 p6)⟩
          go_wp2_with fail
          refine HQ.out.mono ?_
          rintro e W6 ⟨n6, rfl, HT6⟩
          obtain ⟨T3, tc3, hT3, hc3, hb3⟩ := HT6.out
          have r1 := hT3.egs.c1
          have r2 := hT3.egs.fr 1
          have HT7 := Lib.hid (And.intro hT3 (And.intro hc3 hb3))
          clear hT3 hc3 hb3 HQ PK HT6 HTD HTO HCX g1 g2 g3
          go_wp2_with fail
          go_roundw
          case rel => exact ⟨k + 1, by omega, by go_num, Lib.hid ⟨T3, tc3, by rw [← stOf_succ]; exact HT7.out.1.setStamp _ (.inl rfl), HT7.out.2.1, HT7.out.2.2⟩⟩
          case measure => simp [intOf]; omega
        | false =>
          have HQ : Hid (Calls Try.prog 41 #[.pointer (some ⟨S2, 0, none⟩), .string ky, .string vl, .int .i64 s] W5 fun e W6 => ∃ n : Int, e = .returned (.int .i64 n) ∧ Hid (∃ T3 tc3, ETurn B b (FootE b mt T) W W6 mt T3 tc3 (stOf st s k) dk sy ∧ cont T3 = addsA (cont T) s (L.take (k + 1)) ∧ Bud T3 (N + (k + 1)))) := by
            obtain ⟨T2, tc2, t2, p1, p2, p3, p4, p5, p6⟩ := PK.out
            obtain ⟨p7, p8⟩ := tbOf_mem p2
            rw [← p3]
            refine Lib.hid ((put_any B t2.S t2.m t2.clock t2.E ky vl s W5 (p1.egs.sto t2 p7) (Nat.le_trans HN.out.2.2 p1.kept.size) (by have := p6 t2 p7; have := HN.out.2.1; omega)).mono ?_)
            rintro e W6 ⟨h1, h2⟩
            rw [HTK.out, addsA_snoc, ← HCB.out.1, ← p4]
            exact ⟨_, h1, Lib.hid (adds_step (x := (tb, ky, vl, false)) p1 p2 h2 p5 p6)⟩
          go_wp2_with fail
          refine HQ.out.mono ?_
          rintro e W6 ⟨n6, rfl, HT6⟩
          obtain ⟨T3, tc3, hT3, hc3, hb3⟩ := HT6.out
          have r1 := hT3.egs.c1
          have r2 := hT3.egs.fr 1
          have HT7 := Lib.hid (And.intro hT3 (And.intro hc3 hb3))
          clear hT3 hc3 hb3 HQ PK HT6 HTD HTO HCX g1 g2 g3
          go_wp2_with fail
          go_roundw
          case rel => exact ⟨k + 1, by omega, by go_num, Lib.hid ⟨T3, tc3, by rw [← stOf_succ]; exact HT7.out.1.setStamp _ (.inl rfl), HT7.out.2.1, HT7.out.2.2⟩⟩
          case measure => simp [intOf]; omega
    · have e : k = L.length := by omega
      have HL := Lib.hid (show L.take k = L from List.take_of_length_le (by omega))
      go_wp2_with fail
      go_end0
      obtain ⟨T', tc', h1, h2, h3⟩ := HX.out
      rw [HL.out] at h2
      rw [e] at h1 h3
      exact ⟨rfl, T', tc', h1, h2, h3⟩
end Go.Proofs.Ytpcjmceakelilaa
/- Engine: Commit. -/
namespace Go.Proofs.Ytpcjmceakelilaa
open Go.ChangeShapes Go.WideShapes Go.ChangeAt Go.RowKit Go.Deep Go.ChangeMaps Go.Shelf
set_option linter.unusedVariables false
set_option linter.unusedSimpArgs false
theorem refL_small (A : Bs → Bs → List Ver) (s : Int) : ∀ (L : List Chg) (P : List Plc), refL A s L P = 0 → ∀ x ∈ L, x.1.size ≤ 32 ∧ x.2.1.size ≤ 4096 ∧ x.2.2.1.size ≤ 16384
  | [], _, _ => fun x hx => by cases hx
  | y :: L, P, h => fun x hx => by
    unfold refL at h
    by_cases h1 : ref1 A s y P ≠ 0
    · rw [if_pos h1] at h; exact absurd h h1
    · rw [if_neg h1] at h
      rcases List.mem_cons.1 hx with rfl | hx
      · have h2 : ref1 A s x P = 0 := by simpa using h1
        unfold ref1 at h2
        by_cases c1 : isNm x.1 = false
        · rw [if_pos c1] at h2; cases h2
        · rw [if_neg c1] at h2
          by_cases c2 : 4096 < x.2.1.size
          · rw [if_pos c2] at h2; cases h2
          · rw [if_neg c2] at h2
            by_cases c3 : 16384 < x.2.2.1.size
            · rw [if_pos c3] at h2; cases h2
            · refine ⟨?_, by omega, by omega⟩
              unfold isNm at c1
              simp at c1
              omega
      · exact refL_small A s L _ h x hx
theorem refC_zero {A : Bs → Bs → List Ver} {s : Int} {L : List Chg} (h : refC A s L = 0) : 1 ≤ s ∧ s ≤ 1099511627776 ∧ L.length ≤ 256 ∧ Small L ∧ refL A s L [] = 0 := by
  unfold refC at h
  by_cases c1 : s < 1
  · rw [if_pos c1] at h; cases h
  · rw [if_neg c1] at h
    by_cases c2 : 1099511627776 < s
    · rw [if_pos c2] at h; cases h
    · rw [if_neg c2] at h
      by_cases c3 : 256 < L.length
      · rw [if_pos c3] at h; cases h
      · rw [if_neg c3] at h
        refine ⟨by omega, by omega, by omega, ⟨by omega, fun x hx => ?_⟩, h⟩
        have := refL_small A s L [] h x hx
        omega
/-- what Commit returns -/
def comC (A : Bs → Bs → List Ver) (dk : Bs) (s : Int) (L : List Chg) : Int := if refC A s L ≠ 0 then refC A s L else if Fits dk 1 s.toNat L then 0 else 2
def ComOut (B b mt : Nat) (T : List Tb) (st : Int) (dk : Bs) (sy : Int) (s : Int) (L : List Chg) (N : Nat) (W W' : World) : Prop :=
  (comC (cont T) dk s L ≠ 0 ∧ Below W.heap.size W W') ∨ (comC (cont T) dk s L = 0 ∧ refC (cont T) s L = 0 ∧ Fits dk 1 s.toNat L ∧ ∃ T' tc', ETurn B b (FootE b mt T) W W' mt T' tc' (stOf st s L.length) (addD dk 1 s.toNat L) sy ∧ cont T' = addsA (cont T) s L ∧ Bud T' (N + L.length))
set_option maxRecDepth 100000 in
set_option maxHeartbeats 2000000 in
theorem commit_any {B b mt tc : Nat} {T : List Tb} {st sy : Int} {dk : Bs} (s : Int) (v : Value) (L : List Chg) (N : Nat) (W : World) (h : Egs B W b mt T tc st dk sy) (hv : ChAt W v L) (hvF : ∀ k, v.ownBlock = some k → ¬ FootE b mt T k) (hN : Bud T N) (hNL : L.length ≤ 256 → N + L.length < 5000) (hB : B ≤ W.heap.size) (hd : dk.size ≤ 1000000000) :
    Calls Try.prog 12 #[.pointer (some ⟨b, 0, none⟩), v, .int .i64 s] W fun e W' => e = .returned (.int .i64 (comC (cont T) dk s L)) ∧ ComOut B b mt T st dk sy s L N W W' := by
  have HC := Lib.hid (refusal_any s v L W h hv)
  have HE := Lib.hid h
  obtain ⟨va, vc, hve⟩ := hv.len
  by_cases h0 : refC (cont T) s L = 0
  · obtain ⟨s1, s2, s3, s4, s5⟩ := refC_zero h0
    obtain ⟨n, rfl⟩ : ∃ n : Nat, s = (n : Int) := ⟨s.toNat, by omega⟩
    rw [h0] at HC
    have HV := Lib.hid (And.intro hv (And.intro hvF (And.intro hN (And.intro (hNL s3) (And.intro hB hd)))))
    have HS := Lib.hid (And.intro s1 (And.intro s2 (And.intro s3 s4)))
    have H0 := Lib.hid h0
    subst hve
    clear h hv hvF hN hNL hB hd s1 s2 s3 s4 s5 h0
    by_cases hf : Fits dk 1 n L
    · have HF := Lib.hid hf
      have hcc : comC (cont T) dk n L = 0 := by unfold comC; rw [if_neg (by simp [H0.out]), Int.toNat_natCast, if_pos hf]
      rw [hcc]
      have HCC := Lib.hid hcc
      clear hf hcc
      go_enter Try.func12, Try.ntmps12
      go_wp2_with fail
      refine HC.out.mono ?_
      rintro e w1 ⟨rfl, hb1⟩
      have HE1 := Lib.hid (HE.out.below hb1)
      have HV1 := Lib.hid (HV.out.1.below hb1 (fun k hk => HV.out.1.lt k hk))
      have HB1 := Lib.hid hb1
      clear hb1
      go_wp2_with fail
      refine (append_any (k := 1) (s := n) (L := L) HE1.out ⟨by have := HS.out.2.1; omega, .inr ⟨.inl rfl, HV1.out, HS.out.2.2.2⟩⟩ HV.out.2.2.2.2.2).mono ?_
      rintro e w2 h2
      obtain ⟨_, rfl, ht2, _⟩ := h2.resolve_right (fun h => h.1 HF.out)
      have HT2 := Lib.hid ((ETurn.same HE.out HB1.out).trans ht2)
      have HV2 := Lib.hid (show ChAt w2 (.slice va L.length vc) L from by
        have hk := ht2.kept
        rcases HV1.out with ⟨h1, h2⟩ | ⟨g, c, h1, h2, h3, h4, h5⟩
        · exact .inl ⟨h1, h2⟩
        · have hg : ¬ FootE b mt T g := HV.out.2.1 g (by rw [h1]; rfl)
          refine .inr ⟨g, c, h1, h2, h3, Nat.lt_of_lt_of_le h4 hk.size, fun j hj => ?_⟩
          obtain ⟨a0, a1, a2, a3⟩ := h5 j hj
          exact ⟨cell_kept2 hk h4 hg a0, cell_kept2 hk h4 hg a1, cell_kept2 hk h4 hg a2, cell_kept2 hk h4 hg a3⟩)
      clear ht2 h2
      go_wp2_with fail
      refine (add_walk n _ L N w2 HT2.out.egs HV2.out (fun k hk hf => (HT2.out.foot k hf).elim (HV.out.2.1 k hk) (fun h3 => by have := HV.out.1.lt k hk; omega)) HV.out.2.2.1 HV.out.2.2.2.1 (Nat.le_trans HV.out.2.2.2.2.1 HT2.out.kept.size)).mono ?_
      rintro e w3 ⟨rfl, h3⟩
      have H3 := Lib.hid h3
      clear h3
      go_wp2_with fail
      go_ret
      obtain ⟨T', tc', q1, q2, q3⟩ := H3.out
      exact ⟨rfl, .inr ⟨HCC.out, H0.out, by rw [Int.toNat_natCast]; exact HF.out, T', tc', by rw [Int.toNat_natCast]; exact HT2.out.trans q1, q2, q3⟩⟩
    · have HF := Lib.hid hf
      have hcc : comC (cont T) dk n L = 2 := by unfold comC; rw [if_neg (by simp [H0.out]), Int.toNat_natCast, if_neg hf]
      rw [hcc]
      have HCC := Lib.hid hcc
      clear hf hcc
      go_enter Try.func12, Try.ntmps12
      go_wp2_with fail
      refine HC.out.mono ?_
      rintro e w1 ⟨rfl, hb1⟩
      have HE1 := Lib.hid (HE.out.below hb1)
      have HV1 := Lib.hid (HV.out.1.below hb1 (fun k hk => HV.out.1.lt k hk))
      have HB1 := Lib.hid hb1
      clear hb1
      go_wp2_with fail
      refine (append_any (k := 1) (s := n) (L := L) HE1.out ⟨by have := HS.out.2.1; omega, .inr ⟨.inl rfl, HV1.out, HS.out.2.2.2⟩⟩ HV.out.2.2.2.2.2).mono ?_
      rintro e w2 h2
      obtain ⟨_, rfl, hb2⟩ := h2.resolve_left (fun h => HF.out h.1)
      have HB2 := Lib.hid (HB1.out.trans (hb2.mono HB1.out.size))
      clear hb2 h2
      go_wp2_with fail
      go_ret
      exact ⟨rfl, .inl ⟨by rw [HCC.out]; decide, HB2.out⟩⟩
  · have hcc : comC (cont T) dk s L = refC (cont T) s L := by unfold comC; rw [if_pos h0]
    have HCC := Lib.hid hcc
    rw [hcc]
    generalize hr : refC (cont T) s L = r at *
    have hne : (r != 0) = true := by simpa using h0
    have H0 := Lib.hid h0
    subst hve
    clear h hv hvF hN hNL hB hd h0 hr hcc
    go_enter Try.func12, Try.ntmps12
    go_wp2_with fail
    refine HC.out.mono ?_
    rintro e w1 ⟨rfl, hb1⟩
    have HB1 := Lib.hid hb1
    clear hb1
    go_wp2_with fail
    go_ret
    exact ⟨rfl, .inl ⟨by rw [HCC.out]; exact H0.out, HB1.out⟩⟩
end Go.Proofs.Ytpcjmceakelilaa
/- Engine: New, Stamp, Disk, Synced, Sync, Get; the calls on nil. -/
namespace Go.Proofs.Ytpcjmceakelilaa
open Go.ChangeShapes Go.WideShapes Go.ChangeAt Go.RowKit Go.Deep Go.ChangeMaps Go.Shelf
set_option linter.unusedVariables false
set_option linter.unusedSimpArgs false
set_option maxRecDepth 100000 in
theorem enew_any (W : World) : Calls Try.prog 7 #[] W fun e W' => e = .returned (.pointer (some ⟨W.heap.size + 1, 0, none⟩)) ∧ Egs W.heap.size W' (W.heap.size + 1) W.heap.size [] 0 0 ⟨#[]⟩ 0 ∧ Below W.heap.size W W' := by
  have hmm := @run_makeMap Try.prog
  have hb := Box.new (W.alloc (Obj.map #[] 0)) [.map (some W.heap.size), .int .i64 0, .string ⟨#[]⟩, .int .i64 0] 50
  rw [World.size_alloc] at hb
  have hm : MapAt ((W.alloc (Obj.map #[] 0)).alloc (Obj.cells #[.map (some W.heap.size), .int .i64 0, .string ⟨#[]⟩, .int .i64 0] 50)) W.heap.size (ens []) 0 := by
    show _ = some (Obj.map #[] 0)
    rw [heap_alloc_old _ _ (by simp)]
    exact heap_alloc_new W _
  have hbb : Below W.heap.size W ((W.alloc (Obj.map #[] 0)).alloc (Obj.cells #[.map (some W.heap.size), .int .i64 0, .string ⟨#[]⟩, .int .i64 0] 50)) := ((Below.refl _ W).alloc (Nat.le_refl _) _).alloc (by simp) _
  have HX := Lib.hid (And.intro hb (And.intro hm hbb))
  clear hb hm hbb
  go_enter Try.func7, Try.ntmps7
  go_wp2_with fail
  go_ret
  exact ⟨rfl, ⟨HX.out.1, HX.out.2.1, EnOK.nil 0, (fun t ht => by cases ht), List.Pairwise.nil, (fun t ht => by cases ht), by omega, by omega, Nat.le_refl _⟩, HX.out.2.2⟩
section
variable {B b mt tc : Nat} {W : World} {T : List Tb} {st sy : Int} {dk : Bs}
theorem stamp_any (h : Egs B W b mt T tc st dk sy) : Calls Try.prog 10 #[.pointer (some ⟨b, 0, none⟩)] W fun e W' => e = .returned (.int .i64 st) ∧ W' = W := by
  have c1 := h.c1
  clear h
  go_enter Try.func10, Try.ntmps10
  go_wp2_with fail
  go_ret
  exact ⟨rfl, rfl⟩
theorem disk_any (h : Egs B W b mt T tc st dk sy) : Calls Try.prog 9 #[.pointer (some ⟨b, 0, none⟩)] W fun e W' => e = .returned (.string dk) ∧ W' = W := by
  have c2 := h.c2
  clear h
  go_enter Try.func9, Try.ntmps9
  go_wp2_with fail
  go_ret
  exact ⟨rfl, rfl⟩
theorem synced_any (h : Egs B W b mt T tc st dk sy) : Calls Try.prog 17 #[.pointer (some ⟨b, 0, none⟩)] W fun e W' => e = .returned (.int .i64 sy) ∧ W' = W := by
  have c3 := h.c3
  clear h
  go_enter Try.func17, Try.ntmps17
  go_wp2_with fail
  go_ret
  exact ⟨rfl, rfl⟩
theorem sync_any (h : Egs B W b mt T tc st dk sy) : Calls Try.prog 18 #[.pointer (some ⟨b, 0, none⟩)] W fun e W' => e = .returned (.tuple #[]) ∧ ETurn B b (FootE b mt T) W W' mt T tc st dk dk.size := by
  have c2 := h.c2
  have c3 := h.c3
  have z3 := h.fr 3
  have H := Lib.hid h
  clear h
  go_enter Try.func18, Try.ntmps18
  go_wp2_with fail
  go_end0
  exact ⟨rfl, (ETurn.same H.out (Below.refl _ _)).setSync _ (.inl rfl)⟩
theorem get_nil (k : Bs) (t : Int) (W : World) : Calls Try.prog 31 #[.pointer none, .string k, .int .i64 t] W (GetOut none W) := by
  go_enter Try.func31, Try.ntmps31
  go_wp2_with fail
  go_ret2
  exact ⟨rfl, Below.refl _ _⟩
theorem valAt_nil (t : Int) : valAt [] t = none := by simp [valAt]
theorem get_of (h : Egs B W b mt T tc st dk sy) (tb k : Bs) (t : Int) :
    Calls Try.prog 31 #[tbP (tbOf T tb), .string k, .int .i64 t] W (GetOut (valAt (cont T tb k) t) W) := by
  unfold cont
  cases hu : tbOf T tb with
  | none => rw [valAt_nil]; exact get_nil k t W
  | some u => exact get_any B u.S u.m u.clock u.E k t W (h.sto u (tbOf_mem hu).1)
theorem eget_any (h : Egs B W b mt T tc st dk sy) (tb k : Bs) (t : Int) :
    Calls Try.prog 19 #[.pointer (some ⟨b, 0, none⟩), .string tb, .string k, .int .i64 t] W (GetOut (valAt (cont T tb k) t) W) := by
  have c0 := h.c0
  have hl := run_lookT h.map tb
  have HG := Lib.hid (get_of h tb k t)
  obtain ⟨o, ho⟩ : ∃ o, o = valAt (cont T tb k) t := ⟨_, rfl⟩
  rw [← ho] at HG ⊢
  clear h ho
  go_enter Try.func19, Try.ntmps19
  go_wp2_with fail
  refine HG.out.mono ?_
  rintro e w1 ⟨rfl, hb⟩
  have HB := Lib.hid hb
  clear hb
  go_wp2_with fail
  go_ret2
  exact ⟨rfl, HB.out⟩
end
theorem nil_commit (v : Value) (s : Int) (W : World) : Calls Try.prog 12 #[.pointer none, v, .int .i64 s] W fun e W' => e = .returned (.int .i64 3) ∧ W' = W := by
  go_enter Try.func12, Try.ntmps12
  go_wp2_with fail
  go_ret
  exact ⟨rfl, rfl⟩
theorem nil_rollback (s : Int) (W : World) : Calls Try.prog 21 #[.pointer none, .int .i64 s] W fun e W' => e = .returned (.int .i64 3) ∧ W' = W := by
  go_enter Try.func21, Try.ntmps21
  go_wp2_with fail
  go_ret
  exact ⟨rfl, rfl⟩
theorem nil_stamp (W : World) : Calls Try.prog 10 #[.pointer none] W fun e W' => e = .returned (.int .i64 0) ∧ W' = W := by
  go_enter Try.func10, Try.ntmps10
  go_wp2_with fail
  go_ret
  exact ⟨rfl, rfl⟩
theorem nil_disk (W : World) : Calls Try.prog 9 #[.pointer none] W fun e W' => e = .returned (.string ⟨#[]⟩) ∧ W' = W := by
  go_enter Try.func9, Try.ntmps9
  go_wp2_with fail
  go_ret
  exact ⟨rfl, rfl⟩
theorem nil_synced (W : World) : Calls Try.prog 17 #[.pointer none] W fun e W' => e = .returned (.int .i64 0) ∧ W' = W := by
  go_enter Try.func17, Try.ntmps17
  go_wp2_with fail
  go_ret
  exact ⟨rfl, rfl⟩
theorem nil_sync (W : World) : Calls Try.prog 18 #[.pointer none] W fun e W' => e = .returned (.tuple #[]) ∧ W' = W := by
  go_enter Try.func18, Try.ntmps18
  go_wp2_with fail
  go_end0
  exact ⟨rfl, rfl⟩
theorem nil_get (tb k : Bs) (t : Int) (W : World) : Calls Try.prog 19 #[.pointer none, .string tb, .string k, .int .i64 t] W fun e W' => e = .returned (.tuple #[.string ⟨#[]⟩, .bool false]) ∧ W' = W := by
  go_enter Try.func19, Try.ntmps19
  go_wp2_with fail
  go_ret2
  exact ⟨rfl, rfl⟩
end Go.Proofs.Ytpcjmceakelilaa
/- Engine: the law's awake. -/
namespace Go.Proofs.Ytpcjmceakelilaa
open Go.ChangeShapes Go.WideShapes Go.ChangeAt Go.RowKit Go.Deep Go.ChangeMaps Go.Shelf
set_option linter.unusedVariables false
set_option linter.unusedSimpArgs false
theorem ChAt.new (W : World) (tb ky vl : Bs) (dl : Bool) (t : TypeId) : ChAt (W.alloc (.cells #[.string tb, .string ky, .string vl, .bool dl] t)) (.slice (some ⟨W.heap.size, 0, none⟩) 1 1) [(tb, ky, vl, dl)] := by
  have e := heap_alloc_new W (.cells #[.string tb, .string ky, .string vl, .bool dl] t)
  refine .inr ⟨W.heap.size, 1, rfl, Nat.le_refl _, by decide, by simp, fun j hj => ?_⟩
  have h0 : j = 0 := by simpa using hj
  subst h0
  exact ⟨Lib.cell_of_heap e 0, Lib.cell_of_heap e 1, Lib.cell_of_heap e 2, Lib.cell_of_heap e 3⟩
theorem recB_len1 (k s : Nat) (x : Chg) (hs : s < 4611686018427387904) (hx : x.1.size ≤ 20000 ∧ x.2.1.size ≤ 20000 ∧ x.2.2.1.size ≤ 20000) : (recB k s [x]).length ≤ 60119 := by
  unfold recB
  have h1 := numB_len s hs
  have h2 := numB_len 1 (by decide)
  have h3 := chsB_len [x] (fun y hy => by rw [List.mem_singleton.1 hy]; exact hx)
  split
  · have e : [x].length = 1 := rfl
    rw [e] at h3 ⊢
    simp only [List.length_append, List.length_cons]; omega
  · simp only [List.append_nil, List.length_cons]; omega
theorem comC_ok {A : Bs → Bs → List Ver} {dk : Bs} {s : Nat} {x : Chg} (h : refC A s [x] = 0) (hd : dk.size ≤ 1000000) : comC A dk s [x] = 0 := by
  have h1 := refC_zero h
  unfold comC
  rw [if_neg (by simp [h]), Int.toNat_natCast, if_pos]
  have := recB_len1 1 s x (by omega) (h1.2.2.2.1.2 x (by simp))
  exact ⟨by omega, by omega⟩
def bt : Bs := ⟨#[116]⟩
def ba : Bs := ⟨#[97]⟩
def bb : Bs := ⟨#[98]⟩
def bx : Bs := ⟨#[120]⟩
def by' : Bs := ⟨#[121]⟩
def bz : Bs := ⟨#[122]⟩
def noT : Bs → Bs → List Ver := fun _ _ => []
theorem aw_cont : cont [] = noT := rfl
theorem aw1 : refC noT 5 [(bt, ba, bx, false)] = 0 := by decide +kernel
theorem aw2 : refC (addsA noT 5 [(bt, ba, bx, false)]) 3 [(bt, bb, by', false)] = 0 := by decide +kernel
theorem aw3 : refC (addsA (addsA noT 5 [(bt, ba, bx, false)]) 3 [(bt, bb, by', false)]) 5 [(bt, ba, bz, false)] = 1 := by decide +kernel
theorem aw4 : valAt (addsA (addsA noT 5 [(bt, ba, bx, false)]) 3 [(bt, bb, by', false)] bt ba) 4 = none := by decide +kernel
theorem aw5 : valAt (addsA (addsA noT 5 [(bt, ba, bx, false)]) 3 [(bt, bb, by', false)] bt bb) 4 = some by' := by decide +kernel
theorem one_foot {B b mt tc : Nat} {W : World} {T : List Tb} {st sy : Int} {dk : Bs} (h : Egs B W b mt T tc st dk sy) : ∀ k, (Value.slice (some ⟨W.heap.size, 0, none⟩) 1 1).ownBlock = some k → ¬ FootE b mt T k := fun k hk hf => by
  simp only [Value.ownBlock, Option.some.injEq] at hk
  have := (h.foot hf).2
  omega
theorem commit_one {B b mt tc : Nat} {W : World} {T : List Tb} {st sy : Int} {dk : Bs} {N : Nat} (h : Egs B W b mt T tc st dk sy) (tb ky vl : Bs) (dl : Bool) (s : Nat) (hz : refC (cont T) s [(tb, ky, vl, dl)] = 0) (hd : dk.size ≤ 1000000) (hN : Bud T N) (hN2 : N + 1 < 5000) (hB : B ≤ W.heap.size) :
    Calls Try.prog 12 #[.pointer (some ⟨b, 0, none⟩), .slice (some ⟨W.heap.size, 0, none⟩) 1 1, .int .i64 s] (W.alloc (.cells #[.string tb, .string ky, .string vl, .bool dl] 58)) fun e W' => e = .returned (.int .i64 0) ∧ ∃ T' tc', Egs B W' b mt T' tc' (max st s) (addD dk 1 s [(tb, ky, vl, dl)]) sy ∧ cont T' = addsA (cont T) s [(tb, ky, vl, dl)] ∧ Bud T' (N + 1) ∧ Below B W W' ∧ B ≤ W'.heap.size := by
  have hba : Below W.heap.size W (W.alloc (.cells #[.string tb, .string ky, .string vl, .bool dl] 58)) := (Below.refl _ W).alloc (Nat.le_refl _) _
  have h1 := h.below hba
  have hc := comC_ok hz hd
  refine (commit_any s _ [(tb, ky, vl, dl)] N _ h1 (ChAt.new W tb ky vl dl _) (one_foot h) hN (fun _ => hN2) (Nat.le_trans hB hba.size) (by omega)).mono ?_
  rintro e W' ⟨he, ho⟩
  rw [hc] at he
  refine ⟨he, ?_⟩
  rcases ho with ⟨h2, _⟩ | ⟨_, _, _, T', tc', h2, h3, h4⟩
  · exact absurd hc h2
  · have hbl := (hba.mono hB).trans (h2.low (Nat.le_trans hB hba.size) (fun k hk => (h.foot hk).1))
    exact ⟨T', tc', h2.egs, h3, h4, hbl, Nat.le_trans hB hbl.size⟩
theorem commit_bad {B b mt tc : Nat} {W : World} {T : List Tb} {st sy : Int} {dk : Bs} {N : Nat} {n : Int} (h : Egs B W b mt T tc st dk sy) (tb ky vl : Bs) (dl : Bool) (s : Nat) (hz : refC (cont T) s [(tb, ky, vl, dl)] = n) (hn : n ≠ 0) (hd : dk.size ≤ 1000000) (hN : Bud T N) (hN2 : N + 1 < 5000) (hB : B ≤ W.heap.size) :
    Calls Try.prog 12 #[.pointer (some ⟨b, 0, none⟩), .slice (some ⟨W.heap.size, 0, none⟩) 1 1, .int .i64 s] (W.alloc (.cells #[.string tb, .string ky, .string vl, .bool dl] 58)) fun e W' => e = .returned (.int .i64 n) ∧ Below W.heap.size W W' := by
  have hba : Below W.heap.size W (W.alloc (.cells #[.string tb, .string ky, .string vl, .bool dl] 58)) := (Below.refl _ W).alloc (Nat.le_refl _) _
  have h1 := h.below hba
  have hc : comC (cont T) dk s [(tb, ky, vl, dl)] = n := by unfold comC; rw [if_pos (by rw [hz]; exact hn), hz]
  refine (commit_any s _ [(tb, ky, vl, dl)] N _ h1 (ChAt.new W tb ky vl dl _) (one_foot h) hN (fun _ => hN2) (Nat.le_trans hB hba.size) (by omega)).mono ?_
  rintro e W' ⟨he, ho⟩
  rw [hc] at he
  refine ⟨he, ?_⟩
  rcases ho with ⟨_, h2⟩ | ⟨h2, _⟩
  · exact hba.trans (h2.mono hba.size)
  · exact absurd (hc.symm.trans h2) hn
theorem addD_one (dk : Bs) (k s : Nat) (x : Chg) (hs : s < 4611686018427387904) (hx : x.1.size ≤ 20000 ∧ x.2.1.size ≤ 20000 ∧ x.2.2.1.size ≤ 20000) : (addD dk k s [x]).size ≤ dk.size + 60127 ∧ 0 < (addD dk k s [x]).size := by
  rw [addD_size]
  have := recB_len1 k s x hs hx
  omega
set_option maxRecDepth 100000 in
set_option maxHeartbeats 4000000 in
theorem awake_any (W : World) : Calls Try.prog 14 #[] W fun e W' => e = .returned (.bool true) ∧ Below W.heap.size W W' := by
  go_enter Try.func14, Try.ntmps14
  go_wp2_with fail
  refine (enew_any W).mono ?_
  rintro e w1 ⟨rfl, hE1, hb1⟩
  have c1 := hE1.c0
  have HE1 := Lib.hid hE1
  have HB1 := Lib.hid hb1
  clear hE1 hb1 c1
  go_wp2_with fail
  refine (commit_one HE1.out bt ba bx false 5 aw1 (by decide) ⟨Nat.le_refl 0, fun t ht => by cases ht⟩ (by decide) HB1.out.size).mono ?_
  rintro e w2 ⟨rfl, T2, tc2, hE2, hc2, hN2, hb2, hs2⟩
  have hd2 := addD_one ⟨#[]⟩ 1 5 (bt, ba, bx, false) (by decide) (by decide)
  have H2 := Lib.hid (And.intro hE2 (And.intro hc2 (And.intro hN2 (And.intro (HB1.out.trans hb2) (And.intro hs2 hd2)))))
  clear hE2 hc2 hN2 hb2 hs2 hd2 HE1 HB1
  generalize addD ⟨#[]⟩ 1 5 [(bt, ba, bx, false)] = D2 at H2
  go_wp2_with fail
  refine (commit_one H2.out.1 bt bb by' false 3 (by rw [H2.out.2.1]; exact aw2) (by have := H2.out.2.2.2.2.2.1; have : (⟨#[]⟩ : Bs).size = 0 := rfl; omega) H2.out.2.2.1 (by decide) H2.out.2.2.2.2.1).mono ?_
  rintro e w3 ⟨rfl, T3, tc3, hE3, hc3, hN3, hb3, hs3⟩
  have hd3 := addD_one D2 1 3 (bt, bb, by', false) (by decide) (by decide)
  have hc3 : cont T3 = addsA (addsA noT 5 [(bt, ba, bx, false)]) 3 [(bt, bb, by', false)] := by rw [hc3, H2.out.2.1]; rfl
  have H3 := Lib.hid (And.intro hE3 (And.intro hc3 (And.intro hN3 (And.intro (H2.out.2.2.2.1.trans hb3) (And.intro hs3 (And.intro hd3 (show D2.size ≤ 60127 by have := H2.out.2.2.2.2.2.1; have : (⟨#[]⟩ : Bs).size = 0 := rfl; omega)))))))
  clear hE3 hc3 hN3 hb3 hs3 hd3 H2
  generalize addD D2 1 3 [(bt, bb, by', false)] = D3 at H3
  go_wp2_with fail
  refine (commit_bad (n := 1) H3.out.1 bt ba bz false 5 (by rw [H3.out.2.1]; exact aw3) (by decide) (by have := H3.out.2.2.2.2.2.1; have := H3.out.2.2.2.2.2.2; omega) H3.out.2.2.1 (by decide) H3.out.2.2.2.2.1).mono ?_
  rintro e w4 ⟨rfl, hb4⟩
  have H4 := Lib.hid (And.intro (H3.out.1.below hb4) (And.intro H3.out.2.1 (And.intro (H3.out.2.2.2.1.trans (hb4.mono H3.out.2.2.2.2.1)) (show 0 < D3.size from H3.out.2.2.2.2.2.1.2))))
  clear hb4 H3
  go_wp2_with fail
  have g4 := eget_any H4.out.1 bt ba 4
  rw [H4.out.2.1, aw4] at g4
  refine g4.mono ?_
  rintro e w5 ⟨rfl, hb5⟩
  clear g4
  have H5 := Lib.hid (And.intro (H4.out.1.below hb5) (And.intro H4.out.2.1 (And.intro (H4.out.2.2.1.trans (hb5.mono H4.out.2.2.1.size)) H4.out.2.2.2)))
  clear hb5 H4
  go_wp2_with fail
  have g5 := eget_any H5.out.1 bt bb 4
  rw [H5.out.2.1, aw5] at g5
  refine g5.mono ?_
  rintro e w6 ⟨rfl, hb6⟩
  clear g5
  have H6 := Lib.hid (And.intro (H5.out.1.below hb6) (And.intro (H5.out.2.2.1.trans (hb6.mono H5.out.2.2.1.size)) H5.out.2.2.2))
  have hy : ByteArray.toList by' = [121] := by rw [ByteArray.toList_eq]; rfl
  have hd0 : decide (0 < D3.size) = true := decide_eq_true H6.out.2.2
  clear hb6 H5
  go_wp2_with fail
  refine (stamp_any H6.out.1).mono ?_
  rintro e w7 ⟨rfl, hw⟩
  obtain rfl := hw.symm
  go_wp2_with fail
  refine (synced_any H6.out.1).mono ?_
  rintro e w7 ⟨rfl, hw⟩
  obtain rfl := hw.symm
  go_wp2_with fail
  refine (disk_any H6.out.1).mono ?_
  rintro e w7 ⟨rfl, hw⟩
  obtain rfl := hw.symm
  go_wp2_with fail
  go_ret
  exact ⟨rfl, H6.out.2.1⟩
end Go.Proofs.Ytpcjmceakelilaa
/- Engine: a range over a function whose iterator ranges over a function itself: the outer loop's invariant abides what the inner loop's bookkeeping does. -/
namespace Go.Proofs.Ytpcjmceakelilaa
open Go.ChangeShapes Go.WideShapes Go.ChangeAt Go.RowKit Go.Deep Go.ChangeMaps Go.Shelf Go.Sort
set_option linter.unusedVariables false
set_option linter.unusedSimpArgs false
/-- an iterator's contract towards a loop whose state does not care for blocks without cells that come later; G: what is known of a value that is yielded -/
def SeqG {α : Type} (n : Nat) (P : Program) (g : Nat) (lb : Array Value) (encs : α → Array Value) (Kp : World → World → Prop) (G : List α → α → Prop) (S : List α → Prop) (w : World) : Prop :=
  ∀ (l : Nat) (J : List α → World → Prop) (W : World), Below w.heap.size w W → w.heap.size + 2 ≤ W.heap.size → OwnFrom W.heap.size J →
    (∀ pre x W1, J pre W1 → G pre x → YieldAt Fence.wide (n - 1) P l (encs x) W1 fun e W' => e = .returned (.bool true) ∧ J (pre ++ [x]) W' ∧ Kp W1 W') →
    J [] W →
    CallsIn Fence.wide n P g (#[.func (.yield l) #[] #[]] ++ lb) W fun e W' => (∃ v, e = .returned v) ∧ ∃ xs, S xs ∧ J xs W'
def SeqO {α : Type} (n : Nat) (P : Program) (g : Nat) (lb : Array Value) (encs : α → Array Value) (Kp : World → World → Prop) (S : List α → Prop) (N : Nat) (w : World) : Prop :=
  SeqG n P g lb encs Kp (fun (pre : List α) _ => pre.length < N) S w
theorem ownFrom_mono {β : Type} {A B : Nat} {I : β → World → Prop} (h : OwnFrom A I) (hab : A ≤ B) : OwnFrom B I := fun s W W' row hs hg hr => h s W W' row hs hg (fun r e => ⟨Nat.le_trans hab (hr r e).1, (hr r e).2⟩)
/-- a block that lies below B is kept by what turns no block below B -/
theorem grown_low {B k : Nat} {W W' : World} {row : Option Nat} {o : Obj} (hg : W.grownBy W' row) (hr : ∀ r, row = some r → B ≤ r) (hk : k < B) (h : W.heap[k]? = some o) : W'.heap[k]? = some o :=
  (hg.block k (Array.getElem?_eq_some_iff.1 h).1 (fun e => by have := hr k e.symm; omega)).trans h
theorem putObj_set {W : World} {l : Nat} {o o' : Obj} (h : W.heap[l]? = some o) : (W.putObj l o').heap[l]? = some o' := World.putObj_heap_same (Array.getElem?_eq_some_iff.1 h).1
theorem rangeG {α : Type} {n : Nat} {P : Program} {g : Operand} {ps : Array Tmp} {assign body : Code} {Q : Exit → Act → World → Prop} {a : Act} {w : World}
    (h1 : 1 ≤ n) {gf : Nat} {lb : Array Value} (hg : a.eval g = .func (.func gf) #[] lb) (eg : ∀ args w, (callFunc gf args).run P w = .ok (.enter gf args) w)
    {encs : α → Array Value} {Kp : World → World → Prop} {G : List α → α → Prop} {S : List α → Prop} {w0 : World} (hseq : SeqG (n - 1) P gf lb encs Kp G S w0) (hb0 : Below w0.heap.size w0 w)
    (hKt : ∀ {A B C : World}, Kp A B → Kp B C → Kp A C) (hKb : ∀ (W : World) (o o' : Obj), W.heap[w.heap.size + 1]? = some o → o.isCells = false → o.isWalk = false → Kp W (W.putObj (w.heap.size + 1) o')) (hps : ∀ x, (encs x).size = ps.size)
    (I : List α → World → Prop) (hI : OwnFrom w.heap.size I) (h0 : I [] w) (Ax : α → Act → World → Prop) (hAx : ∀ x a', OwnFrom w.heap.size (fun (_ : Unit) W => Ax x a' W))
    (hassign : ∀ (l : Nat) (pre : List α) (x : α) (W : World) (K : Act → World → Prop), G pre x → I pre W → (∀ a' W', KeepsFrom w.heap.size W W' → Kp W W' → I pre W' → Ax x a' W' → K a' W') →
      assign.wpIn (Fence.wide.inRound l) (n - 1 - 1) P (Exit.then K (fun _ _ _ => False)) { tmps := (ps.zip (encs x)).foldl (fun t (p, v) => t.setIfInBounds p v) a.tmps, defers := [] } W)
    (hbody : ∀ (l : Nat) (pre : List α) (x : α) (a' : Act) (W : World), I pre W → Ax x a' W → G pre x → body.wpIn (Fence.wide.inRound l) (n - 1 - 1) P (ownPostG w.heap.size Kp I (fun _ _ _ => False) (pre ++ [x]) W) a' W)
    (hdone : ∀ (D : Nat) (xs : List α) (W : World), w.heap.size ≤ D → S xs → I xs W → W.heap[D]? = some (.deferred (some [])) → Q .normal { a with defers := { target := .collected D, args := #[] } :: a.defers } W) :
    (Code.rangeFunc g ps assign body).wpIn Fence.wide n P Q a w := by
  refine wpIn_rangeFunc fun fn hfn => ?_
  have key : ∃ l D : Nat, l = w.heap.size + 1 ∧ D = w.heap.size := ⟨_, _, rfl, rfl⟩
  obtain ⟨l, D, hl, hD⟩ := key
  have hDl : D < l := by omega
  -- the record in its states
  obtain ⟨R, hR⟩ : ∃ R : LoopState → Obj, R = fun s => .loop { state := s, pending := none, fn, tmps := a.tmps, params := ps, assign, body, defers := w.heap.size } := ⟨_, rfl⟩
  have hnc : ∀ s, (R s).isCells = false ∧ (R s).isWalk = false := fun s => by rw [hR]; exact ⟨rfl, rfl⟩
  obtain ⟨A, hA⟩ : ∃ A : World, A = (w.alloc (.deferred (some []))).alloc (R .ready) := ⟨_, rfl⟩
  have sA : A.heap.size = l + 1 := by rw [hA]; simp; omega
  have bA : Below w.heap.size w A := by rw [hA]; exact ((Below.refl _ w).alloc (Nat.le_refl _) _).alloc (by simp) _
  have lA : A.heap[l]? = some (R .ready) := by rw [hA, hl]; have := World.alloc_heap_new (w.alloc (.deferred (some []))) (R .ready); rwa [World.size_alloc] at this
  have dA : A.heap[D]? = some (.deferred (some [])) := by rw [hA, hD, heap_alloc_old _ _ (by simp)]; exact World.alloc_heap_new w _
  have iA : I [] A := by rw [hA]; exact hI.alloc _ (hI.alloc _ h0)
  -- what the loop knows between rounds
  obtain ⟨J, hJ⟩ : ∃ J : List α → World → Prop, J = fun pre W => I pre W ∧ W.heap[l]? = some (R .ready) ∧ W.heap[D]? = some (.deferred (some [])) := ⟨_, rfl⟩
  have oJ : OwnFrom A.heap.size J := by
    rw [hJ]
    intro pre X Y row hs hg' hr
    exact ⟨hI pre X Y row hs.1 hg' (fun r e => ⟨by have := (hr r e).1; omega, (hr r e).2⟩), grown_low hg' (fun r e => (hr r e).1) (by omega) hs.2.1, grown_low hg' (fun r e => (hr r e).1) (by omega) hs.2.2⟩
  have hcall := hseq l J A (hb0.trans (bA.mono hb0.size)) (by have := hb0.size; omega) oJ (fun pre x W hj hlen => ?round) (by rw [hJ]; exact ⟨iA, lA, dA⟩)
  case round =>
    rw [hJ] at hj
    obtain ⟨hi, hrl, hrd⟩ := hj
    have hy := run_yield (P := P) (args := encs x) (show W.heap[l]? = some (.loop _) from by rw [hrl, hR]) (hps x)
    refine ⟨_, _, _, _, hy, roundIn_of_wpIn hfn (hassign l pre x W _ hlen hi ?_)⟩
    intro a' Wa ka kpa ia axa
    have ral := ka.same l _ (by omega) hrl (hnc _).1
    have rad := ka.same D _ (by omega) hrd rfl
    have hbr := run_beginRound (P := P) (show Wa.heap[l]? = some (.loop _) from by rw [ral, hR]) rfl
    refine ⟨_, hbr, ?_⟩
    have hbz : (Obj.loop { state := .busy, pending := none, fn := fn, tmps := a.tmps, params := ps, assign := assign, body := body, defers := w.heap.size }) = R .busy := by rw [hR]
    rw [hbz]
    have i2 : I pre (Wa.putObj l (R .busy)) := hI.putObj _ ia (by omega) ral (hnc _).1
    have l2 : (Wa.putObj l (R .busy)).heap[l]? = some (R .busy) := putObj_set ral
    have d2 : (Wa.putObj l (R .busy)).heap[D]? = some (.deferred (some [])) := (World.putObj_heap_other (by omega)).trans rad
    have k2 : Kp Wa (Wa.putObj l (R .busy)) := by subst hl; exact hKb Wa _ _ ral (hnc _).1 (hnc _).2
    have x2 : Ax x a' (Wa.putObj l (R .busy)) := (hAx x a').putObj (s := ()) _ axa (by omega) ral (hnc _).1
    refine wpIn_mono (hbody l pre x a' _ i2 x2 hlen) ?_
    rintro e a3 W3 hp
    cases e with
    | normal =>
      obtain ⟨hkf, hkp, hi3⟩ := hp
      have l3 := hkf.same l _ (by omega) l2 (hnc _).1
      have d3 := hkf.same D _ (by omega) d2 rfl
      have her := run_endRound (P := P) none (show W3.heap[l]? = some (.loop _) from by rw [l3, hR])
      have hrz : (Obj.loop { state := if (none : Option Code).isNone then .ready else .done, pending := none, fn := fn, tmps := a.tmps, params := ps, assign := assign, body := body, defers := w.heap.size }) = R .ready := by rw [hR]; rfl
      rw [hrz] at her
      refine ⟨_, _, her, rfl, ?_, hKt (hKt kpa (hKt k2 hkp)) (by subst hl; exact hKb W3 _ _ l3 (hnc _).1 (hnc _).2)⟩
      rw [hJ]
      exact ⟨hI.putObj _ hi3 (by omega) l3 (hnc _).1, putObj_set l3, (World.putObj_heap_other (by omega)).trans d3⟩
    | ret => exact hp.2.elim
    | exit id => exact hp.2.elim
    | goto t => exact hp.2.elim
    | panic ch => exact hp.elim
    | outgrown => exact hp.elim
  have henter := run_enterLoop_outer (P := P) (w := w) fn a.tmps ps assign body
  refine ⟨w.heap.size + 1, [{ target := .collected w.heap.size, args := #[] }], A, { target := .fn (.func gf) lb, args := #[.func (.yield (w.heap.size + 1)) #[] #[]] }, A, gf, #[.func (.yield (w.heap.size + 1)) #[] #[]] ++ lb, A, ?_, ?_, fun _ _ => trivial, ?_, fun _ => h1, ?_⟩
  · rw [hA, hR]; exact henter
  · simp only [resolve, hg]; simp [go_sem]
  · simp [invoke, go_sem, eg]
  · rw [← hl]
    refine hcall.mono ?_
    rintro e W2 ⟨⟨v, rfl⟩, xs, hS, hj⟩
    rw [hJ] at hj
    obtain ⟨hi, hrl, hrd⟩ := hj
    have hel := run_endLoop (P := P) (show W2.heap[l]? = some (.loop _) from by rw [hrl, hR]) (by simp)
    refine ⟨none, _, hel, ?_⟩
    have := hdone D xs (W2.putObj l (.loop { state := .exhausted, pending := none, fn := fn, tmps := a.tmps, params := ps, assign := assign, body := body, defers := w.heap.size })) (by omega) hS (hI.putObj _ hi (by omega) hrl (hnc _).1) ((World.putObj_heap_other (by omega)).trans hrd)
    rw [hD] at this
    exact this
theorem rangeO {α : Type} {n : Nat} {P : Program} {g : Operand} {ps : Array Tmp} {assign body : Code} {Q : Exit → Act → World → Prop} {a : Act} {w : World}
    (h1 : 1 ≤ n) {gf : Nat} {lb : Array Value} (hg : a.eval g = .func (.func gf) #[] lb) (eg : ∀ args w, (callFunc gf args).run P w = .ok (.enter gf args) w)
    {encs : α → Array Value} {Kp : World → World → Prop} {S : List α → Prop} {N : Nat} {w0 : World} (hseq : SeqO (n - 1) P gf lb encs Kp S N w0) (hb0 : Below w0.heap.size w0 w)
    (hKt : ∀ {A B C : World}, Kp A B → Kp B C → Kp A C) (hKr : ∀ W, Kp W W) (hKb : ∀ (W : World) (o o' : Obj), W.heap[w.heap.size + 1]? = some o → o.isCells = false → o.isWalk = false → Kp W (W.putObj (w.heap.size + 1) o')) (hps : ∀ x, (encs x).size = ps.size)
    (I : List α → World → Prop) (hI : OwnFrom w.heap.size I) (h0 : I [] w) (a1 : α → Act)
    (hassign : ∀ (l : Nat) (pre : List α) (x : α) (W : World) (K : Act → World → Prop), pre.length < N → K (a1 x) W →
      assign.wpIn (Fence.wide.inRound l) (n - 1 - 1) P (Exit.then K (fun _ _ _ => False)) { tmps := (ps.zip (encs x)).foldl (fun t (p, v) => t.setIfInBounds p v) a.tmps, defers := [] } W)
    (hbody : ∀ (l : Nat) (pre : List α) (x : α) (W : World), I pre W → pre.length < N → body.wpIn (Fence.wide.inRound l) (n - 1 - 1) P (ownPostG w.heap.size Kp I (fun _ _ _ => False) (pre ++ [x]) W) (a1 x) W)
    (hdone : ∀ (D : Nat) (xs : List α) (W : World), w.heap.size ≤ D → S xs → I xs W → W.heap[D]? = some (.deferred (some [])) → Q .normal { a with defers := { target := .collected D, args := #[] } :: a.defers } W) :
    (Code.rangeFunc g ps assign body).wpIn Fence.wide n P Q a w :=
  rangeG h1 hg eg hseq hb0 (fun h k => hKt h k) hKb hps I hI h0 (fun x a' _ => a' = a1 x) (fun _ _ _ _ _ _ h _ _ => h)
    (fun l pre x W K hG hi hK => hassign l pre x W K hG (hK _ _ (KeepsFrom.refl _ _) (hKr W) hi rfl)) (fun l pre x a' W hi e hG => by subst e; exact hbody l pre x W hi hG) hdone
/-- what a round keeps: what lies below n₀; cells of other types than Ex; from c on, blocks without cells -/
structure KpO (n₀ c : Nat) (Ex : TypeId → Prop) (W W' : World) : Prop where
  low : Below n₀ W W'
  cells : ∀ (k : Nat) (cs : Array Value) (T : TypeId) (fr : Nat × Nat), W.heap[k]? = some (Obj.cells cs T fr) → ¬ Ex T → W'.heap[k]? = some (Obj.cells cs T fr)
  keeps : KeepsFrom c W W'
theorem KpO.t {n₀ c : Nat} {Ex : TypeId → Prop} {A B C : World} (h : KpO n₀ c Ex A B) (g : KpO n₀ c Ex B C) : KpO n₀ c Ex A C :=
  ⟨h.low.trans g.low, fun k cs T fr hk hT => g.cells k cs T fr (h.cells k cs T fr hk hT) hT, h.keeps.trans g.keeps⟩
theorem KpO.below {n₀ c : Nat} {Ex : TypeId → Prop} {W W' : World} (h : Below W.heap.size W W') (hn : n₀ ≤ W.heap.size) : KpO n₀ c Ex W W' :=
  ⟨h.mono hn, fun k cs T fr hk _ => (h.block k (Array.getElem?_eq_some_iff.1 hk).1).trans hk, ⟨h.size, fun k o _ hk _ => (h.block k (Array.getElem?_eq_some_iff.1 hk).1).trans hk⟩⟩
theorem KpO.put {n₀ c l : Nat} {Ex : TypeId → Prop} {W : World} {o o' : Obj} (hl : n₀ ≤ l) (hc : l < c) (h : W.heap[l]? = some o) (ho : o.isCells = false) : KpO n₀ c Ex W (W.putObj l o') := by
  have key : ∀ k, k ≠ l → (W.putObj l o').heap[k]? = W.heap[k]? := fun k hk => World.putObj_heap_other hk
  refine ⟨⟨rfl, rfl, rfl, by simp, fun k hk => key k (by omega)⟩, fun k cs T fr hk hT => ?_, ⟨by simp, fun k o2 hk1 hk _ => (key k (by omega)).trans hk⟩⟩
  rw [key k (fun e => by rw [e, h] at hk; cases hk; cases ho)]
  exact hk
end Go.Proofs.Ytpcjmceakelilaa
