/- Engine: refusal. -/
import Derived.Test.YtpcjmceakelilaaEn9
namespace Go.Proofs.Ytpcjmceakelilaa
open Go.ChangeShapes Go.WideShapes Go.ChangeAt Go.RowKit Go.Deep Go.ChangeMaps Go.Shelf
set_option linter.unusedVariables false
set_option linter.unusedSimpArgs false
/-- what refuses a change, in order -/
def ref1 (A : Bs → Bs → List Ver) (s : Int) (x : Chg) (P : List Plc) : Int :=
  if isNm x.1 = false then 9 else if 4096 < x.2.1.size then 2 else if 16384 < x.2.2.1.size then 2 else if x.2.2.2 = true ∧ x.2.2.1.size ≠ 0 then 4 else if inP (x.1, x.2.1) P = true then 12 else if s ≤ lastT (A x.1 x.2.1) then 1 else 0
def refL (A : Bs → Bs → List Ver) (s : Int) : List Chg → List Plc → Int
  | [], _ => 0
  | x :: L, P => if ref1 A s x P ≠ 0 then ref1 A s x P else refL A s L (P ++ [(x.1, x.2.1)])
def refC (A : Bs → Bs → List Ver) (s : Int) (L : List Chg) : Int := if s < 1 then 1 else if 1099511627776 < s then 1 else if 256 < L.length then 2 else refL A s L []
theorem last_nil (k : Bs) (W : World) : Calls Try.prog 36 #[.pointer none, .string k] W fun e W' => e = .returned (.int .i64 (-1)) ∧ W' = W := by
  go_enter Try.func36, Try.ntmps36
  go_wp2_with fail
  go_ret
  exact ⟨rfl, rfl⟩
theorem last_of {B b mt tc : Nat} {W : World} {T : List Tb} {st sy : Int} {dk : Bs} (h : Egs B W b mt T tc st dk sy) (tb k : Bs) :
    Calls Try.prog 36 #[tbP (tbOf T tb), .string k] W fun e W' => e = .returned (.int .i64 (lastT (cont T tb k))) ∧ W' = W := by
  unfold cont
  cases hu : tbOf T tb with
  | none => exact last_nil k W
  | some t =>
    have := h.sto t (tbOf_mem hu).1
    exact last_any B t.S t.m t.clock t.E k W this
theorem ch_get {W : World} {va : Option Addr} {vc : Nat} {L : List Chg} (h : ChAt W (.slice va L.length vc) L) {k : Nat} (hk : k < L.length) : ∃ g, va = some ⟨g, 0, none⟩ ∧ L.length ≤ vc ∧ vc ≤ 9223372036854775807 ∧ g < W.heap.size ∧ W.cell? ⟨g, k * 4, none⟩ = some (.string L[k].1) ∧ W.cell? ⟨g, k * 4 + 1, none⟩ = some (.string L[k].2.1) ∧ W.cell? ⟨g, k * 4 + 2, none⟩ = some (.string L[k].2.2.1) ∧ W.cell? ⟨g, k * 4 + 3, none⟩ = some (.bool L[k].2.2.2) := by
  rcases h with ⟨_, h⟩ | ⟨g, c, hv, h1, h2, h3, h4⟩
  · rw [h] at hk; simp at hk
  · cases hv
    exact ⟨g, rfl, h1, h2, h3, h4 k hk⟩
theorem plat_set {W : World} {m n : Nat} {P P' : List Plc} (h : PlAt W m P) (hn : n = P'.length) : PlAt (setBlock W m (.map (plE P' 0).toArray n)) m P' := by
  rw [hn]
  exact setBlock_at h
theorem below_set {B m : Nat} {w W : World} {o : Obj} (h : Below B w W) (hm : B ≤ m) : Below B w (setBlock W m o) := by
  refine ⟨h.os, h.tape, h.output, by show w.heap.size ≤ (W.heap.setIfInBounds m o).size; rw [Array.size_setIfInBounds]; exact h.size, fun k hk => ?_⟩
  rw [← h.block k hk]
  show (W.heap.setIfInBounds m o)[k]? = _
  rw [Array.getElem?_setIfInBounds_ne (by omega)]
set_option maxRecDepth 100000 in
theorem refusal_early (b : Nat) (A : Bs → Bs → List Ver) (s : Int) (v : Value) (L : List Chg) (w : World) (hv : ChAt w v L) (hc : s < 1 ∨ 1099511627776 < s ∨ 256 < L.length) :
    Calls Try.prog 22 #[.pointer (some ⟨b, 0, none⟩), v, .int .i64 s] w fun e w' => e = .returned (.int .i64 (refC A s L)) ∧ Below w.heap.size w w' := by
  obtain ⟨va, vc, rfl⟩ := hv.len
  clear hv
  unfold refC
  by_cases h1 : s < 1
  · rw [if_pos h1]
    have d1 : decide (s < 1) = true := decide_eq_true h1
    go_enter Try.func22, Try.ntmps22
    go_wp2_with fail
    go_ret
    exact ⟨rfl, Below.refl _ _⟩
  · rw [if_neg h1]
    have d1 : decide (s < 1) = false := decide_eq_false h1
    by_cases h2 : 1099511627776 < s
    · rw [if_pos h2]
      have d2 : decide (1099511627776 < s) = true := decide_eq_true h2
      go_enter Try.func22, Try.ntmps22
      go_wp2_with fail
      go_ret
      exact ⟨rfl, Below.refl _ _⟩
    · rw [if_neg h2]
      have d2 : decide (1099511627776 < s) = false := decide_eq_false h2
      have h3 : 256 < L.length := by omega
      rw [if_pos h3]
      have d3 : decide ((256 : Int) < (L.length : Int)) = true := decide_eq_true (by omega)
      go_enter Try.func22, Try.ntmps22
      go_wp2_with fail
      go_ret
      exact ⟨rfl, Below.refl _ _⟩
set_option maxRecDepth 100000 in
set_option maxHeartbeats 4000000 in
theorem refusal_late {B b mt tc : Nat} {T : List Tb} {st sy : Int} {dk : Bs} (s : Int) (v : Value) (L : List Chg) (w : World) (h : Egs B w b mt T tc st dk sy) (hv : ChAt w v L) (h1 : ¬ s < 1) (h2 : ¬ 1099511627776 < s) (h3 : ¬ 256 < L.length) :
    Calls Try.prog 22 #[.pointer (some ⟨b, 0, none⟩), v, .int .i64 s] w fun e w' => e = .returned (.int .i64 (refC (cont T) s L)) ∧ Below w.heap.size w w' := by
  obtain ⟨va, vc, rfl⟩ := hv.len
  have e0 : refC (cont T) s L = refL (cont T) s L [] := by unfold refC; rw [if_neg h1, if_neg h2, if_neg h3]
  obtain ⟨R, hR⟩ : ∃ R, R = refL (cont T) s L [] := ⟨_, rfl⟩
  rw [e0, ← hR]
  have HR := Lib.hid hR
  have HV := Lib.hid hv
  have HE := Lib.hid h
  have HL := Lib.hid h3
  have d1 : decide (s < 1) = false := decide_eq_false h1
  have d2 : decide (1099511627776 < s) = false := decide_eq_false h2
  have d3 : decide ((256 : Int) < (L.length : Int)) = false := decide_eq_false (by omega)
  have hmm := @run_makeMap Try.prog
  clear hR hv h h1 h2 h3 e0
  go_enter Try.func22, Try.ntmps22
  go_wp2_with fail
  clear d1 d2 d3 hmm
  have HB0 := Lib.hid ((Below.refl w.heap.size w).alloc (Nat.le_refl _) (Obj.map #[] 0))
  have HP0 := Lib.hid (show PlAt (w.alloc (Obj.map #[] 0)) w.heap.size [] from heap_alloc_new w _)
  go_loopw [22] (fun i wr => ∃ (k : Nat) (P : List Plc), k ≤ L.length ∧ i = .int .i64 k ∧ Hid (PlAt wr w.heap.size P ∧ Below w.heap.size w wr ∧ refL (cont T) s (L.drop k) P = R)) (fun i _ => L.length - (intOf i).toNat)
  case atStart => exact ⟨0, [], Nat.zero_le _, rfl, Lib.hid ⟨HP0.out, HB0.out, HR.out.symm⟩⟩
  case round =>
    obtain ⟨k, P, hk, rfl, HX⟩ := hrel
    by_cases hlt : k < L.length
    · have HD := Lib.hid (show L.drop k = L[k] :: L.drop (k + 1) from List.drop_eq_getElem_cons hlt)
      obtain ⟨g, rfl, v1, v2, hgl, a0, a1, a2, a3⟩ := ch_get HV.out hlt
      have hbw := HX.out.2.1
      have b0 := (hbw.cell (p := ⟨g, k * 4, none⟩) hgl).trans a0
      have b1 := (hbw.cell (p := ⟨g, k * 4 + 1, none⟩) hgl).trans a1
      have b2 := (hbw.cell (p := ⟨g, k * 4 + 2, none⟩) hgl).trans a2
      have b3 := (hbw.cell (p := ⟨g, k * 4 + 3, none⟩) hgl).trans a3
      clear a0 a1 a2 a3 hbw
      have HKL := Lib.hid (show L.length ≤ 256 by have := HL.out; omega)
      have hRx := HX.out.2.2
      rw [HD.out] at hRx
      generalize L[k] = x at *
      obtain ⟨tb, ky, vl, dl⟩ := x
      simp only at b0 b1 b2 b3
      have HS : Hid ((ref1 (cont T) s (tb, ky, vl, dl) P ≠ 0 → R = ref1 (cont T) s (tb, ky, vl, dl) P) ∧ (ref1 (cont T) s (tb, ky, vl, dl) P = 0 → refL (cont T) s (L.drop (k + 1)) (P ++ [(tb, ky)]) = R)) := by
        refine Lib.hid ⟨fun hne => ?_, fun he => ?_⟩
        · rw [← hRx, refL, if_pos hne]
        · rw [← hRx, refL, if_neg (by simp [he])]
      have HBW := Lib.hid (show Below w.heap.size w (wr.alloc (.cells #[.string tb, .string ky, .string vl, .bool dl] 58)) from HX.out.2.1.alloc HX.out.2.1.size _)
      have HPW := Lib.hid (show PlAt (wr.alloc (.cells #[.string tb, .string ky, .string vl, .bool dl] 58)) w.heap.size P from (heap_alloc_old wr _ (Array.getElem?_eq_some_iff.1 HX.out.1).1).trans HX.out.1)
      clear hRx HD HX
      cases n1 : isNm tb with
      | false =>
        have HR1 := Lib.hid (show R = 9 by
          have e : ref1 (cont T) s (tb, ky, vl, dl) P = 9 := by unfold ref1; rw [if_pos n1]
          rw [HS.out.1 (by rw [e]; decide), e])
        go_wp2_with fail
        refine (isName_any tb _).mono ?_
        rintro e w2 ⟨rfl, rfl⟩
        go_wp2_with fail
        go_ret
        exact ⟨by rw [HR1.out]; rfl, HBW.out⟩
      | true =>
        by_cases n2 : 4096 < ky.size
        · have HR1 := Lib.hid (show R = 2 by
            have e : ref1 (cont T) s (tb, ky, vl, dl) P = 2 := by unfold ref1; rw [if_neg (by simp [n1]), if_pos n2]
            rw [HS.out.1 (by rw [e]; decide), e])
          have d1 : decide ((4096 : Int) < (ky.size : Int)) = true := decide_eq_true (by omega)
          go_wp2_with fail
          refine (isName_any tb _).mono ?_
          rintro e w2 ⟨rfl, rfl⟩
          go_wp2_with fail
          go_ret
          exact ⟨by rw [HR1.out]; rfl, HBW.out⟩
        · have d1 : decide ((4096 : Int) < (ky.size : Int)) = false := decide_eq_false (by omega)
          by_cases n3 : 16384 < vl.size
          · have HR1 := Lib.hid (show R = 2 by
              have e : ref1 (cont T) s (tb, ky, vl, dl) P = 2 := by unfold ref1; rw [if_neg (by simp [n1]), if_neg n2, if_pos n3]
              rw [HS.out.1 (by rw [e]; decide), e])
            have d2 : decide ((16384 : Int) < (vl.size : Int)) = true := decide_eq_true (by omega)
            go_wp2_with fail
            refine (isName_any tb _).mono ?_
            rintro e w2 ⟨rfl, rfl⟩
            go_wp2_with fail
            go_ret
            exact ⟨by rw [HR1.out]; rfl, HBW.out⟩
          · have d2 : decide ((16384 : Int) < (vl.size : Int)) = false := decide_eq_false (by omega)
            by_cases n4 : dl = true ∧ vl.size ≠ 0
            · have HR1 := Lib.hid (show R = 4 by
                have e : ref1 (cont T) s (tb, ky, vl, dl) P = 4 := by unfold ref1; rw [if_neg (by simp [n1]), if_neg n2, if_neg n3, if_pos n4]
                rw [HS.out.1 (by rw [e]; decide), e])
              obtain ⟨rfl, n5⟩ := n4
              have d3 : (ByteArray.toList vl).isEmpty = false := by
                rw [ByteArray.toList_eq]
                cases hq : vl.data.toList with
                | nil =>
                  have : vl.data.toList.length = vl.size := Array.length_toList
                  rw [hq] at this
                  exact absurd this.symm n5
                | cons a b => rfl
              go_wp2_with fail
              refine (isName_any tb _).mono ?_
              rintro e w2 ⟨rfl, rfl⟩
              go_wp2_with fail
              go_ret
              exact ⟨by rw [HR1.out]; rfl, HBW.out⟩
            · have hl := run_lookP HPW.out (tb, ky)
              simp only [plV] at hl
              have HN := Lib.hid (And.intro n2 (And.intro n3 n4))
              have hd : dl = false ∨ (dl = true ∧ (ByteArray.toList vl).isEmpty = true) := by
                cases dl with
                | false => exact .inl rfl
                | true =>
                  refine .inr ⟨rfl, ?_⟩
                  have h0 : vl.size = 0 := by
                    by_cases q : vl.size = 0
                    · exact q
                    · exact absurd ⟨rfl, q⟩ n4
                  rw [ByteArray.toList_eq]
                  have : vl.data.toList.length = 0 := by rw [Array.length_toList]; exact h0
                  rw [List.eq_nil_of_length_eq_zero this]; rfl
              clear n2 n3 n4
              cases n6 : inP (tb, ky) P with
              | true =>
                have HR1 := Lib.hid (show R = 12 by
                  have e : ref1 (cont T) s (tb, ky, vl, dl) P = 12 := by unfold ref1; rw [if_neg (by simp [n1]), if_neg HN.out.1, if_neg HN.out.2.1, if_neg HN.out.2.2, if_pos n6]
                  rw [HS.out.1 (by rw [e]; decide), e])
                rcases hd with rfl | ⟨rfl, d3⟩
                all_goals
                  go_wp2_with fail
                  refine (isName_any tb _).mono ?_
                  rintro e w2 ⟨rfl, rfl⟩
                  go_wp2_with fail
                  go_ret
                  exact ⟨by rw [HR1.out]; rfl, HBW.out⟩
              | false =>
                have HE2 := Lib.hid (HE.out.below HBW.out)
                have HLA := Lib.hid (fun q => last_of (HE2.out.drewN q) tb ky)
                have hlt2 := fun q => run_lookT (HE2.out.drewN q).map tb
                have q0 := HE2.out.c0
                obtain ⟨la, hla⟩ : ∃ la, la = lastT (cont T tb ky) := ⟨_, rfl⟩
                rw [← hla] at HLA
                by_cases n7 : s ≤ la
                · have HR1 := Lib.hid (show R = 1 by
                    have e : ref1 (cont T) s (tb, ky, vl, dl) P = 1 := by unfold ref1; rw [if_neg (by simp [n1]), if_neg HN.out.1, if_neg HN.out.2.1, if_neg HN.out.2.2, if_neg (by simp [n6]), if_pos (by rw [← hla]; exact n7)]
                    rw [HS.out.1 (by rw [e]; decide), e])
                  have d5 : decide (s ≤ la) = true := decide_eq_true n7
                  clear HS hla n7
                  rcases hd with rfl | ⟨rfl, d3⟩
                  all_goals
                    go_wp2_with fail
                    refine (isName_any tb _).mono ?_
                    rintro e w2 ⟨rfl, rfl⟩
                    go_wp2_with fail
                    clear hl d1 d2
                    go_quiet ((go_at_call 36; refine Calls.quiet_of_same (HLA.out _)))
                    go_wp2_with fail
                    go_ret
                    exact ⟨by rw [HR1.out]; rfl, HBW.out.trans ⟨rfl, rfl, rfl, Nat.le_refl _, fun _ _ => rfl⟩⟩
                · have HR1 := Lib.hid (show refL (cont T) s (L.drop (k + 1)) (P ++ [(tb, ky)]) = R by
                    have e : ref1 (cont T) s (tb, ky, vl, dl) P = 0 := by unfold ref1; rw [if_neg (by simp [n1]), if_neg HN.out.1, if_neg HN.out.2.1, if_neg HN.out.2.2, if_neg (by simp [n6]), if_neg (by rw [← hla]; exact n7)]
                    exact HS.out.2 e)
                  have d5 : decide (s ≤ la) = false := decide_eq_false n7
                  have hnot : (tb, ky) ∉ P := fun h => by rw [(inP_iff _ _).2 h] at n6; cases n6
                  have hup := fun q => run_updP (show PlAt ((wr.alloc (.cells #[.string tb, .string ky, .string vl, .bool dl] 58)).drewN q) w.heap.size P from HPW.out) (tb, ky) hnot
                  simp only [plV] at hup
                  clear HS hla n7 hnot
                  rcases hd with rfl | ⟨rfl, d3⟩
                  all_goals
                    go_wp2_with fail
                    refine (isName_any tb _).mono ?_
                    rintro e w2 ⟨rfl, rfl⟩
                    go_wp2_with fail
                    clear hl d1 d2
                    go_quiet ((go_at_call 36; refine Calls.quiet_of_same (HLA.out _)))
                    go_wp2_with fail
                    go_roundw
                    case rel => exact ⟨k + 1, P ++ [(tb, ky)], by omega, by go_num, Lib.hid ⟨plat_set (P := P) HPW.out (by simp), below_set (HBW.out.trans ⟨rfl, rfl, rfl, Nat.le_refl _, fun _ _ => rfl⟩) (Nat.le_refl _), HR1.out⟩⟩
                    case measure => simp [intOf]; omega
    · have e : R = 0 := by
        have := HX.out.2.2
        rw [List.drop_of_length_le (by omega)] at this
        exact this.symm
      go_wp2_with fail
      go_ret
      exact ⟨by rw [e]; rfl, HX.out.2.1⟩
theorem refusal_any {B b mt tc : Nat} {T : List Tb} {st sy : Int} {dk : Bs} (s : Int) (v : Value) (L : List Chg) (w : World) (h : Egs B w b mt T tc st dk sy) (hv : ChAt w v L) :
    Calls Try.prog 22 #[.pointer (some ⟨b, 0, none⟩), v, .int .i64 s] w fun e w' => e = .returned (.int .i64 (refC (cont T) s L)) ∧ Below w.heap.size w w' := by
  by_cases hc : s < 1 ∨ 1099511627776 < s ∨ 256 < L.length
  · exact refusal_early b _ s v L w hv hc
  · exact refusal_late s v L w h hv (fun h => hc (.inl h)) (fun h => hc (.inr (.inl h))) (fun h => hc (.inr (.inr h)))
end Go.Proofs.Ytpcjmceakelilaa
