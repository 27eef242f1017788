/- Balance: the law about moves. -/
import Derived.Test.YtimhokilicogdaaBal35a
import Derived.Outline
namespace Go.Proofs.Ytimhokilicogdaa
open Go.ChangeShapes Go.WideShapes Go.ChangeAt Go.RowKit Go.Deep
set_option linter.unusedVariables false
set_option linter.unusedSimpArgs false
set_option maxRecDepth 100000 in
set_option maxHeartbeats 2000000 in
theorem moves_in (sp : ByteArray) (ka : Option Addr) (kl kc : Nat) (hs : Bool) (ep vr : Int) (ch : Value) (cs : List Ch) (os : List Ord) (n : Int) (dr : Value) (xs : List Int) (w : World) (hsp : sp.size ≤ maxLen) (hf : cs.length ≤ 80 ∧ xs.length ≤ 20) (hcap : ∀ a len cap, ch = .slice a len cap → len ≤ cap)
    (hc : ChsIn w ch cs) (hk : OrdIn w (.slice ka kl kc) os) (hd : IntsIn w dr xs) :
    Calls Try.prog 5 #[rts sp (.slice ka kl kc) hs ep vr ch, .int .i64 n, dr] w fun e w' => e = .returned (.bool true) ∧ Below w.heap.size w w' := by
  obtain ⟨a, cap, rfl⟩ := hc.slice
  obtain ⟨a2, cap2, rfl⟩ := hd.slice
  have hcap' := hcap _ _ _ rfl
  have HC := Lib.hid hc
  have HD := Lib.hid hd
  have HK := Lib.hid hk
  clear hc hd hk hcap
  have HS := Lib.hid (RB.start w sp (.slice ka kl kc) hs ep vr (.slice a cs.length cap))
  have HFW := Lib.hid (few_any sp (.slice ka kl kc) hs ep vr a cs.length cap a2 xs.length cap2)
  go_enter Try.func5, Try.ntmps5
  go_wp2_with fail
  refine (HS.out.next (HFW.out _)).mono ?_
  rintro e w1 ⟨he1, hR1⟩
  rw [decide_eq_true hf] at he1
  subst he1
  have HF := Lib.hid hf
  clear hf HFW HS
  have HR1 := Lib.hid hR1
  obtain ⟨a0, a1, a2', a3, a4, a5, hz1, hb1⟩ := hR1
  have hb1' := Lib.hid hb1
  clear hb1
  go_wp2_with fail
  refine (HR1.out.nextG (G := fun e _ => ∃ n : Int, e = .returned (.int .i64 n) ∧ (n = 0 → Good cs ∧ 1 ≤ vr)) ((valid_any sp _ hs ep vr _ cs os _ hsp (HC.out.below hb1'.out) (HK.out.below hb1'.out)).mono fun e w' ⟨n, h1, h2, h3⟩ => ⟨⟨n, h1, h2⟩, h3⟩)).mono ?_
  rintro e w2 ⟨⟨vn, rfl, hgood⟩, _, hR2⟩
  have HGD := Lib.hid hgood
  clear hgood HR1 a0 a1 a2' a3 a4 a5 hz1 hb1'
  have HR2 := Lib.hid hR2
  obtain ⟨a0, a1, a2', a3, a4, a5, hz1, hb1⟩ := hR2
  have HB2 := Lib.hid hb1
  have hs2 := hb1.size
  clear hb1
  by_cases hvn : vn = 0
  · subst hvn
    have hv1 := (HGD.out rfl).2
    have HG := Lib.hid (HGD.out rfl).1
    clear HGD
    by_cases hvr : 1152921504606846976 < vr
    · go_wp2_with fail
      refine (awake_any _).mono ?_
      rintro e w3 ⟨rfl, hb3⟩
      go_wp2_with fail
      go_ret
      exact ⟨rfl, HB2.out.trans (hb3.mono hs2)⟩
    · have hvb : decide (1152921504606846976 < vr) = false := decide_eq_false hvr
      go_wp2_with fail
      refine (HR2.out.next (next_any sp _ hs ep vr _ cs n _ xs _ (by have := HF.out; omega) (HC.out.below HB2.out) (HD.out.below HB2.out))).mono ?_
      rintro e w3 ⟨he3, hR3⟩
      clear HR2 a0 a1 a2' a3 a4 a5 hz1 HB2 hs2
      have HR3 := Lib.hid hR3
      obtain ⟨a0, a1, a2', a3, a4, a5, hz1, hb1⟩ := hR3
      have HB3 := Lib.hid hb1
      have hs3 := hb1.size
      clear hb1
      cases hw : way cs xs n with
      | none =>
        rw [hw] at he3
        simp only [propV] at he3
        subst he3
        go_wp2_with fail
        refine calls_named (fun W => Below w.heap.size w W) (HB3.out.alloc hs3 _) ?_
        rintro w4 hb4
        refine (awake_any _).mono ?_
        rintro e w5 ⟨rfl, hb5⟩
        go_wp2_with fail
        go_ret
        exact ⟨rfl, hb4.trans (hb5.mono hb4.size)⟩
      | some ft =>
        obtain ⟨f, t⟩ := ft
        obtain ⟨m, rfl, hm1, hm8, hwo, i, hi, hfit, hpv⟩ := way_facts hw
        rw [hw, hpv] at he3
        subst he3
        obtain ⟨htm, hfm, hdt, hpos, hmin, hor⟩ := way_some hwo
        have hft := way_ne hwo
        have hfs : cs[i].sh = (f : Int) ∧ cs[i].jb = false := by simpa [fit] using hfit
        have HCG := Lib.hid (cnt_given cs i hi f t (vr + 1) hft hfit)
        have hnt : cs[i].sh ≠ (t : Int) := by rw [hfs.1]; omega
        have HLO : Hid (∀ j (h : j < i), (cs[j]'(by omega)).lo ≠ cs[i].lo) := Lib.hid fun j h e => by
          have := HG.out.asc j i hi h
          rw [e] at this
          exact List.lt_irrefl _ this
        obtain ⟨B, o, rfl, hB, hl9, hcc⟩ := HC.out.at (by omega)
        have HCC := Lib.hid hcc
        clear hcc hmin hor hpos hfit hw hpv hwo
        have HDT := Lib.hid hdt
        clear hdt
        generalize hlo : cs[i].lo = lo at HLO ⊢
        go_wp2_with fail
        refine calls_named (fun W => KP W (rcs w.heap.size sp (.slice ka kl kc) hs ep vr (.slice (some ⟨B, o, none⟩) cs.length cap) ++ pcs w3.heap.size lo f t) ∧ Below w.heap.size w W) ⟨(KP.new _ _ (rcs_of HR3.out)).app (pcs_new _ _ _ _ _), HB3.out.alloc hs3 _⟩ ?_
        rintro w4 ⟨hk4, hb4⟩
        have HK4 := Lib.hid hk4
        have HB4 := Lib.hid hb4
        clear hk4 hb4 HR3 a0 a1 a2' a3 a4 a5 hz1 HB3
        refine (give_at sp ka kl kc hs ep vr B o cap cs lo t i _ (by have := HF.out; omega) hcap' (by omega) (by omega) (Nat.lt_of_lt_of_le hB HB4.out.size) (fun j h => rangeAt5_below (HCC.out j h) HB4.out hB) hi hlo HLO.out (by omega) (by omega) hnt hfs.2).mono ?_
        rintro e w5 ⟨g, cap3, rfl, hown, hb5⟩
        have HK5 := Lib.hid (HK4.out.keep hb5)
        have HO5 := Lib.hid hown
        have HB5 : Hid (Below w.heap.size w w5) := Lib.hid (HB4.out.trans (hb5.mono HB4.out.size))
        have hgl := hown.lt g rfl
        have hs5 := hb5.size
        clear hown hb5 HK4
        have hs4 := HB4.out.size
        clear HB4
        obtain ⟨⟨a0, hz1⟩, ⟨a1, _⟩, ⟨a2', _⟩, ⟨a3, _⟩, ⟨a4, _⟩, ⟨a5, _⟩, ⟨p0, hz2⟩, ⟨p1, _⟩, ⟨p2, _⟩, _⟩ := HK5.out
        dsimp only at hz1 hz2
        go_wp2_with fail
        refine calls_named (fun W => SS w sp (.slice ka kl kc) hs ep vr (.slice (some ⟨B, o, none⟩) cs.length cap) w3.heap.size lo f t w5.heap.size (.slice (some ⟨g, 0, none⟩) (given cs i t (vr + 1)).length cap3) (given cs i t (vr + 1)) W) ⟨(KP.new _ _ HK5.out).app (rcs_new _ _ _ _ _ _ _ _), (HO5.out.chs (by rw [given_length]; omega)).below ((Below.refl _ _).alloc (Nat.le_refl _) _), HB5.out.alloc (by omega) _⟩ ?_
        rintro w6 hs6
        have HS6 := Lib.hid hs6
        clear hs6 HK5 HO5 HB5 a0 a1 a2' a3 a4 a5 p0 p1 p2 hgl hs5
        refine (find_at sp _ hs ep vr _ cs lo i _ (HC.out.below HS6.out.2.2) hi hlo HG.out).mono ?_
        rintro e w7 ⟨rfl, hb7⟩
        have HS7 := Lib.hid (HS6.out.keep hb7)
        clear HS6 hb7
        have hsh := (rangeAt5_below (HCC.out i hi) HS7.out.2.2 hB) 2 _ rfl
        rw [hfs.1] at hsh
        obtain ⟨⟨⟨a0, hz1⟩, ⟨a1, _⟩, ⟨a2', _⟩, ⟨a3, _⟩, ⟨a4, _⟩, ⟨a5, _⟩, ⟨p0, hz2⟩, ⟨p1, _⟩, ⟨p2, _⟩, _⟩, _, _⟩ := HS7.out
        dsimp only at hz1 hz2
        have hft2 : ((f : Int) == (t : Int)) = false := by rw [beq_eq_false_iff_ne]; omega
        have hii : (i : Int) < (cs.length : Int) := by omega
        have hb1 : decide ((i : Int) < 0) = false := decide_eq_false (by omega)
        have hb2 : decide ((t : Int) < 0) = false := decide_eq_false (by omega)
        have hb3 : decide (m ≤ t) = false := decide_eq_false (by omega)
        go_wp2_with fail
        go_quiet (fail)
        go_wp2_with fail
        go_loopw [12] (fun v W => ∃ k : Nat, k ≤ xs.length ∧ v = .int .i64 k ∧ SS w sp (.slice ka kl kc) hs ep vr (.slice (some ⟨B, o, none⟩) cs.length cap) w3.heap.size lo f t w5.heap.size (.slice (some ⟨g, 0, none⟩) (given cs i t (vr + 1)).length cap3) (given cs i t (vr + 1)) W) (fun v _ => xs.length - (intOf v).toNat)
        case atStart => exact ⟨0, Nat.zero_le _, rfl, HS7.out.drewN _⟩
        case round =>
          clear HS7 a0 a1 a2' a3 a4 a5 p0 p1 p2 hz1 hz2 hsh
          obtain ⟨k, hk, rfl, hss⟩ := hrel
          have HSS := Lib.hid hss
          have hx20 := HF.out.2
          obtain ⟨⟨⟨a0, hz1⟩, ⟨a1, _⟩, ⟨a2', _⟩, ⟨a3, _⟩, ⟨a4, _⟩, ⟨a5, _⟩, ⟨p0, hz2⟩, ⟨p1, _⟩, ⟨p2, _⟩, ⟨s0, hz3⟩, ⟨s1, _⟩, ⟨s2, _⟩, ⟨s3, _⟩, ⟨s4, _⟩, ⟨s5, _⟩, _⟩, _, _⟩ := hss
          dsimp only at hz1 hz2 hz3
          by_cases hlk : k < xs.length
          · obtain ⟨B2, o2, rfl, hB2, hx2⟩ := HD.out.at (by omega)
            have hxc := (HSS.out.2.2.cell (p := ⟨B2, o2 + k, none⟩) hB2).trans (hx2 k hlk)
            clear hx2
            have hxt : xs[k] ≠ (t : Int) := fun e => by
              have := HDT.out
              simp [drn] at this
              exact this (by rw [← e]; exact List.getElem_mem hlk)
            generalize xs[k] = x at hxc hxt
            have hxe : (x == (t : Int)) = false := by rw [beq_eq_false_iff_ne]; exact hxt
            have hkk : (k : Int) < (xs.length : Int) := by omega
            clear hxt
            go_wp2_with fail
            go_quiet (fail)
            go_wp2_with fail
            go_roundw
            case rel => exact ⟨k + 1, by omega, by go_num, HSS.out.drewN _⟩
            case measure => simp [intOf]; omega
          · go_wp2_with fail
            have hss := HSS.out.drewN 1
            have hss : SS w sp (.slice ka kl kc) hs ep vr (.slice (some ⟨B, o, none⟩) cs.length cap) w3.heap.size lo f t w5.heap.size (.slice (some ⟨g, 0, none⟩) (given cs i t (vr + 1)).length cap3) (given cs i t (vr + 1)) wr.drew := hss
            obtain ⟨d0, d1, d2, d3, d4, d5, d6, d7, d8, d9, d10, d11⟩ := hss.cells12
            clear HSS a0 a1 a2' a3 a4 a5 p0 p1 p2 s0 s1 s2 s3 s4 s5
            go_region_held3 (fun W => W.cell? ⟨w.heap.size, 0, none⟩ = some (.string sp) ∧ W.cell? ⟨w.heap.size, 1, none⟩ = some (.slice ka kl kc) ∧ W.cell? ⟨w.heap.size, 2, none⟩ = some (.bool hs) ∧ W.cell? ⟨w.heap.size, 3, none⟩ = some (.int .i64 ep) ∧ W.cell? ⟨w.heap.size, 4, none⟩ = some (.int .i64 vr) ∧ W.cell? ⟨w.heap.size, 5, none⟩ = some (.slice (some ⟨B, o, none⟩) cs.length cap) ∧ W.cell? ⟨w5.heap.size, 0, none⟩ = some (.string sp) ∧ W.cell? ⟨w5.heap.size, 1, none⟩ = some (.slice ka kl kc) ∧ W.cell? ⟨w5.heap.size, 2, none⟩ = some (.bool hs) ∧ W.cell? ⟨w5.heap.size, 3, none⟩ = some (.int .i64 ep) ∧ W.cell? ⟨w5.heap.size, 4, none⟩ = some (.int .i64 (vr + 1)) ∧ W.cell? ⟨w5.heap.size, 5, none⟩ = some (.slice (some ⟨g, 0, none⟩) (given cs i t (vr + 1)).length cap3) ∧ SS w sp (.slice ka kl kc) hs ep vr (.slice (some ⟨B, o, none⟩) cs.length cap) w3.heap.size lo f t w5.heap.size (.slice (some ⟨g, 0, none⟩) (given cs i t (vr + 1)).length cap3) (given cs i t (vr + 1)) W) (refine ⟨?_, ?_, ?_, ?_, ?_, ?_, ?_, ?_, ?_, ?_, ?_, ?_, ?_⟩ <;> assumption) (first | (go_at_call 9; refine (SS.next12 (by assumption) (Counts_any sp (.slice ka kl kc) hs ep vr (.slice (some ⟨B, o, none⟩) cs.length cap) cs m _ hm1 hm8 (HC.out.below (SS.below (by assumption))))).mono ?_; rintro e wa ⟨⟨b1, he1, hge1, hlt1, hN1⟩, hbA, ⟨d0, d1, d2, d3, d4, d5, d6, d7, d8, d9, d10, d11⟩, hssA⟩; rw [counts_len] at he1; subst he1) | (go_at_call 9; refine (SS.next12 (by assumption) (Counts_any sp (.slice ka kl kc) hs ep (vr + 1) (.slice (some ⟨g, 0, none⟩) (given cs i t (vr + 1)).length cap3) (given cs i t (vr + 1)) m _ hm1 hm8 (SS.chs (by assumption)))).mono ?_; rintro e wb ⟨⟨b2, he2, hge2, hlt2, hN2⟩, hbB, ⟨d0, d1, d2, d3, d4, d5, d6, d7, d8, d9, d10, d11⟩, hssB⟩; rw [counts_len] at he2; subst he2; have hN1' := NumsAt.below (by assumption) hbB (by assumption)))
            clear hx20
            have hl1 : f < (counts cs true m).length := by rw [counts_len]; exact hfm
            have hl2 : t < (counts cs true m).length := by rw [counts_len]; exact htm
            have hl3 : f < (counts (given cs i t (vr + 1)) true m).length := by rw [counts_len]; exact hfm
            have hl4 : t < (counts (given cs i t (vr + 1)) true m).length := by rw [counts_len]; exact htm
            have x1 := hN1'.cell f hl1
            have x2 := hN1'.cell t hl2
            have x3 := hN2.cell f hl3
            have x4 := hN2.cell t hl4
            have e1 : (counts cs true m)[f] = (cntOf cs true f : Int) := by simp [counts]
            have e2 : (counts cs true m)[t] = (cntOf cs true t : Int) := by simp [counts]
            have e3 : (counts (given cs i t (vr + 1)) true m)[f] = (cntOf cs true f : Int) - 1 := by rw [← HCG.out.1]; simp [counts]
            have e4 : (counts (given cs i t (vr + 1)) true m)[t] = (cntOf cs true t : Int) + 1 := by rw [← HCG.out.2]; simp [counts]
            rw [e1] at x1
            rw [e2] at x2
            rw [e3] at x3
            rw [e4] at x4
            have hA : (cntOf cs true f : Int) ≤ 80 := by have := cntOf_le cs true f; have := HF.out.1; omega
            have hC : (cntOf cs true t : Int) ≤ 80 := by have := cntOf_le cs true t; have := HF.out.1; omega
            have hA0 : (0 : Int) ≤ (cntOf cs true f : Int) := by omega
            have hC0 : (0 : Int) ≤ (cntOf cs true t : Int) := by omega
            generalize (cntOf cs true f : Int) = A at x1 x3 hA hA0
            generalize (cntOf cs true t : Int) = C at x2 x4 hC hC0
            have hssf := hssB
            have HSF := Lib.hid hssB
            obtain ⟨⟨_, _, _, _, _, _, _, ⟨p1, _⟩, ⟨p2, _⟩, _⟩, _, _⟩ := hssf
            clear hl1 hl2 hl3 hl4 e1 e2 e3 e4 hN1 hN1' hN2 hssA hssB hss d0 d1 d2 d3 d4 d5 d6 d7 d8 d9 d10 d11 hge1 hlt1 hge2 hlt2 hbA hbB
            have hdf : decide (f < m) = true := by simpa using hfm
            have hf0 : (0 : Int) ≤ (f : Int) := by omega
            have ht0 : (0 : Int) ≤ (t : Int) := by omega
            have hfi : (f : Int) < (m : Int) := by omega
            have hti : (t : Int) < (m : Int) := by omega
            have hwa : IntKind.i64.wrap (A - 1) = A - 1 := IntWalk.i64_in _ (by omega)
            have hwc : IntKind.i64.wrap (C + 1) = C + 1 := IntWalk.i64_in _ (by omega)
            clear hA hC hA0 hC0
            go_wp2_with fail
            go_still_tail 45, (by kernel_rfl)
            go_wp2_with fail
            refine calls_named (fun W => Below w.heap.size w W) (by first | exact HSF.out.2.2 | exact HSF.out.2.2.drew | exact (HSF.out.drewN _).2.2) ?_
            rintro w8 hb8
            refine (awake_any _).mono ?_
            rintro e w9 ⟨rfl, hb9⟩
            go_wp2_with fail
            go_ret
            exact ⟨rfl, hb8.trans (hb9.mono hb8.size)⟩
  · have hvn2 : (vn == 0) = false := by simpa using hvn
    go_wp2_with fail
    refine (awake_any _).mono ?_
    rintro e w3 ⟨rfl, hb3⟩
    go_wp2_with fail
    go_ret
    exact ⟨rfl, HB2.out.trans (hb3.mono hs2)⟩
end Go.Proofs.Ytimhokilicogdaa
