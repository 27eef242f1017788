/- Mvcc: the law Clone. -/
import Derived.Test.YtaecppkkbdbdbaaMv31
namespace Go.Proofs.Ytaecppkkbdbdbaa
open Go.ChangeShapes Go.WideShapes Go.ChangeAt Go.RowKit Go.ChangeMaps Go.Deep Go.Shelf Go.Sort
set_option linter.unusedVariables false
set_option linter.unusedSimpArgs false
/-- two stores that stand apart -/
structure Two (B S m C mc : Nat) (E EC : List En) (clock cc : Nat) (A AC : Bs → List Ver) (N NC : Nat) (W0 W : World) : Prop where
  s : Wk B S m E clock A N W0 W
  c : Wk B C mc EC cc AC NC W0 W
  ap : ∀ k, Foot S m E k → ¬ Foot C mc EC k
section
variable {B S m C mc clock cc clock' N NC : Nat} {E EC E' : List En} {A AC : Bs → List Ver} {W0 W W' : World} {x : Opv}
theorem Two.swap (h : Two B S m C mc E EC clock cc A AC N NC W0 W) : Two B C mc S m EC E cc clock AC A NC N W0 W := ⟨h.c, h.s, fun k h1 h2 => h.ap k h2 h1⟩
theorem Two.step (h : Two B S m C mc E EC clock cc A AC N NC W0 W) (ht : Turned B S m E W W' E' clock') (hl : lkL E' = stepA (lkL E) x) : Two B S m C mc E' EC clock' cc (stepA A x) AC (N + 1) NC W0 W' :=
  have hs := h.s.step ht hl
  ⟨hs, ⟨h.c.sto.kept ht.2.2 (fun k hk hf => h.ap k hf hk), h.c.lk, h.c.tot, hs.low, hs.bw⟩, fun k h1 h2 => by
    rcases ht.2.1 k h1 with h3 | h3
    · exact h.ap k h3 h2
    · have := (h.c.sto.foot h2).2; omega⟩
theorem Two.below (h : Two B S m C mc E EC clock cc A AC N NC W0 W) (hb : Below W.heap.size W W') : Two B S m C mc E EC clock cc A AC N NC W0 W' := ⟨h.s.below hb, h.c.below hb, h.ap⟩
end
theorem runA_app (A : Bs → List Ver) (a b : List Opv) : runA A (a ++ b) = runA (runA A a) b := by simp [runA]
set_option maxRecDepth 100000 in
set_option maxHeartbeats 6400000 in
theorem law_clone (v0 v1 v2 : Value) (l one other : List Opv) (W : World) (h0 : OpsArg W v0 l) (h1 : OpsArg W v1 one) (h2 : OpsArg W v2 other) :
    Calls Try.prog 5 #[v0, v1, v2] W (AwakeOut W) := by
  obtain ⟨a0, c0, rfl, h0'⟩ := h0
  have H0 : Hid (OpsArg W (.slice a0 l.length c0) l) := Lib.hid ⟨a0, c0, rfl, h0'⟩
  obtain ⟨a1, c1, rfl, h1'⟩ := h1
  have HO : Hid (OpsArg W (.slice a1 one.length c1) one) := Lib.hid ⟨a1, c1, rfl, h1'⟩
  obtain ⟨a2, c2, rfl, h2'⟩ := h2
  have HP : Hid (OpsArg W (.slice a2 other.length c2) other) := Lib.hid ⟨a2, c2, rfl, h2'⟩
  clear h0' h1' h2'
  by_cases l0 : 60 < l.length
  · go_enter Try.func5, Try.ntmps5
    go_wp2_with fail
    refine (awake_any W).mono ?_
    rintro e W1 ⟨rfl, hb⟩
    have HB := Lib.hid hb
    clear hb
    go_wp2_with fail
    go_ret
    exact ⟨rfl, HB.out⟩
  by_cases l1 : 60 < one.length
  · go_enter Try.func5, Try.ntmps5
    go_wp2_with fail
    refine (awake_any W).mono ?_
    rintro e W1 ⟨rfl, hb⟩
    have HB := Lib.hid hb
    clear hb
    go_wp2_with fail
    go_ret
    exact ⟨rfl, HB.out⟩
  by_cases l2 : 60 < other.length
  · go_enter Try.func5, Try.ntmps5
    go_wp2_with fail
    refine (awake_any W).mono ?_
    rintro e W1 ⟨rfl, hb⟩
    have HB := Lib.hid hb
    clear hb
    go_wp2_with fail
    go_ret
    exact ⟨rfl, HB.out⟩
  obtain ⟨n1, hn1⟩ : ∃ n1, n1 = one.length := ⟨_, rfl⟩
  obtain ⟨n2, hn2⟩ : ∃ n2, n2 = other.length := ⟨_, rfl⟩
  have HN1 := Lib.hid hn1
  have HN2 := Lib.hid hn2
  have HNL := Lib.hid (show l.length ≤ 60 by omega)
  rw [← hn1] at l1 ⊢
  rw [← hn2] at l2 ⊢
  clear hn1 hn2
  go_enter Try.func5, Try.ntmps5
  go_wp2_with fail
  refine (build_any _ l W H0.out (by have := HNL.out; omega)).mono ?_
  rintro e W1 ⟨rfl, E, clock, hwk⟩
  obtain ⟨B, hB⟩ : ∃ B, B = W.heap.size := ⟨_, rfl⟩
  rw [← hB] at hwk
  rw [← hB]
  have HBB := Lib.hid hB
  have H1 := Lib.hid hwk
  clear hwk hB l0
  go_wp2_with fail
  refine H1.out.clone.mono ?_
  rintro e W2 ⟨C, mc, EC, cc, rfl, hc2, hb2⟩
  have HT2 : Hid (Two B (B + 1) B C mc E EC clock cc (runA noA l) (runA noA l) l.length l.length W W2) := Lib.hid ⟨H1.out.below hb2, ⟨hc2.sto.base H1.out.bw, hc2.lk, hc2.tot, (H1.out.below hb2).low, (H1.out.below hb2).bw⟩, fun k h3 h4 => by have := (H1.out.sto.foot h3).2; have := (hc2.sto.foot h4).1; omega⟩
  have HVW := Lib.hid (vw_same H1.out.sto.gd hc2.sto.gd (by rw [hc2.lk, H1.out.lk]))
  clear hc2 hb2 H1
  go_wp2_with fail
  refine (HT2.out.s.all (by have := HNL.out; omega)).mono ?_
  rintro e W3 ⟨va, rfl, hra, hb⟩
  have HT3 := Lib.hid (HT2.out.below hb)
  have RA3 := Lib.hid hra
  clear hb hra HT2
  go_wp2_with fail
  refine (HT3.out.c.all (by have := HNL.out; omega)).mono ?_
  rintro e W4 ⟨vb, rfl, hrb, hb⟩
  rw [← HVW.out] at hrb
  have HT4 := Lib.hid (HT3.out.below hb)
  have RA4 := Lib.hid (RA3.out.below hb)
  have RB4 := Lib.hid hrb
  clear hb hrb HT3 RA3
  go_wp2_with fail
  refine (equalP_any _ _ _ _ W4 RA4.out RB4.out).mono ?_
  rintro e W5 ⟨he, hb⟩
  rw [decide_eq_true rfl] at he
  subst he
  have HT5 : Hid (Two B (B + 1) B C mc E EC clock cc (runA (runA noA l) (one.take 0)) (runA noA l) (l.length + 0) l.length W W5) := Lib.hid (HT4.out.below hb)
  clear hb HT4 RA4 RB4 HVW
  go_wp2_with fail
  go_loopw [51] (fun i wr => ∃ (j : Nat) (E : List En) (clock : Nat), i = .int .i64 j ∧ j ≤ n1 ∧ Hid (Two B (B + 1) B C mc E EC clock cc (runA (runA noA l) (one.take j)) (runA noA l) (l.length + j) l.length W wr)) (fun i wr => n1 - iv i)
  case atStart => exact ⟨0, _, _, rfl, Nat.zero_le _, HT5⟩
  case round =>
    clear HT5
    obtain ⟨j, E7, clock7, rfl, hj, HT⟩ := hrel
    by_cases hlast : j = n1
    · have hlast' := hlast.symm
      subst hlast'
      have HS5 : Hid (Two B C mc (B + 1) B EC E7 cc clock7 (runA (runA noA l) (other.take 0)) (runA (runA noA l) one) (l.length + 0) (l.length + n1) W wr) := Lib.hid (by
        have := HT.out.swap
        rw [HN1.out, List.take_length] at this
        rw [HN1.out]
        exact this)
      clear HT
      generalize E7 = E5 at *
      generalize clock7 = k5 at *
      go_wp2_with fail
      go_loopw [63] (fun i wr => ∃ (j : Nat) (E : List En) (clock : Nat), i = .int .i64 j ∧ j ≤ n2 ∧ Hid (Two B C mc (B + 1) B E E5 clock k5 (runA (runA noA l) (other.take j)) (runA (runA noA l) one) (l.length + j) (l.length + n1) W wr)) (fun i wr => n2 - iv i)
      case atStart => exact ⟨0, _, _, rfl, Nat.zero_le _, HS5⟩
      case round =>
        clear HS5
        obtain ⟨j, E7, clock7, rfl, hj, HT⟩ := hrel
        by_cases hlast : j = n2
        · have hlast' := hlast.symm
          subst hlast'
          have HF : Hid (Two B (B + 1) B C mc E5 E7 k5 clock7 (runA (runA noA l) one) (runA (runA noA l) other) (l.length + one.length) (l.length + other.length) W wr) := Lib.hid (by
            have := HT.out.swap
            rw [HN2.out, List.take_length, HN1.out] at this
            exact this)
          clear HT
          go_wp2_with fail
          have hlow : Below W.heap.size W wr := by rw [← HBB.out]; exact HF.out.s.low
          refine (cloneO_any _ l wr (H0.out.below hlow) (by have := HNL.out; omega)).mono ?_
          rintro e W10 ⟨vx, rfl, hx, hbx⟩
          have HX := Lib.hid hx
          have HBX := Lib.hid hbx
          have HO10 := Lib.hid (HO.out.below (hlow.trans (hbx.mono hlow.size)))
          clear hx hbx hlow
          go_wp2_with (at_builtin; refine wpList_app_ops rfl _ _ rfl rfl wr.heap.size _ l one a1 c1 rfl (by rw [← HN1.out]; rfl) HX.out HO10.out HBX.out.size (by have := HNL.out; omega) (by rw [← HN1.out]; omega) ?_; intro vy W11 hy hby)
          have HY := Lib.hid hy
          have HF11 := Lib.hid (HF.out.below (HBX.out.trans hby))
          clear hy hby HF HX HBX HO10
          refine (build_any _ (l ++ one) W11 HY.out.arg (by rw [List.length_append, ← HN1.out]; have := HNL.out; omega)).mono ?_
          rintro e W12 ⟨rfl, E12, c12, hk⟩
          have HK12 := Lib.hid hk
          have HF12 := Lib.hid (HF11.out.below hk.low)
          clear hk HF11 HY
          generalize W11.heap.size = b11 at *
          go_wp2_with fail
          have hlow : Below W.heap.size W W12 := by rw [← HBB.out]; exact HF12.out.s.low
          refine (cloneO_any _ l W12 (H0.out.below hlow) (by have := HNL.out; omega)).mono ?_
          rintro e W13 ⟨vx, rfl, hx, hbx⟩
          have HX := Lib.hid hx
          have HBX := Lib.hid hbx
          have HP13 := Lib.hid (HP.out.below (hlow.trans (hbx.mono hlow.size)))
          clear hx hbx hlow
          go_wp2_with (at_builtin; refine wpList_app_ops rfl _ _ rfl rfl W12.heap.size _ l other a2 c2 rfl (by rw [← HN2.out]; rfl) HX.out HP13.out HBX.out.size (by have := HNL.out; omega) (by rw [← HN2.out]; omega) ?_; intro vy W14 hy hby)
          have HY := Lib.hid hy
          have HF14 := Lib.hid (HF12.out.below (HBX.out.trans hby))
          have HK14 := Lib.hid (HK12.out.below (HBX.out.trans hby))
          clear hy hby HF12 HK12 HX HBX HP13
          refine (build_any _ (l ++ other) W14 HY.out.arg (by rw [List.length_append, ← HN2.out]; have := HNL.out; omega)).mono ?_
          rintro e W15 ⟨rfl, E15, c15, hk⟩
          have HU15 := Lib.hid hk
          have HF15 := Lib.hid (HF14.out.below hk.low)
          have HK15 := Lib.hid (HK14.out.below hk.low)
          have HV1 := Lib.hid (vw_same hk.sto.gd HF15.out.c.sto.gd (by rw [hk.lk, HF15.out.c.lk, runA_app]))
          have HV2 := Lib.hid (vw_same HK15.out.sto.gd HF15.out.s.sto.gd (by rw [HK15.out.lk, HF15.out.s.lk, runA_app]))
          have HLN := Lib.hid (And.intro (show one.length ≤ 60 by rw [← HN1.out]; omega) (show other.length ≤ 60 by rw [← HN2.out]; omega))
          clear hk HF14 HK14 HY
          generalize W14.heap.size = b14 at *
          go_wp2_with fail
          refine (HF15.out.s.all (by have := HNL.out; have := HLN.out; omega)).mono ?_
          rintro e W16 ⟨va, rfl, hra, hb⟩
          have RA16 := Lib.hid hra
          have HF16 := Lib.hid (HF15.out.below hb)
          have HK16 := Lib.hid (HK15.out.below hb)
          have HU16 := Lib.hid (HU15.out.below hb)
          clear hra hb HF15 HK15 HU15
          go_wp2_with fail
          refine (HK16.out.all (by rw [List.length_append]; have := HNL.out; have := HLN.out; omega)).mono ?_
          rintro e W17 ⟨vb, rfl, hrb, hb⟩
          rw [HV2.out] at hrb
          have RA17 := Lib.hid (RA16.out.below hb)
          have RB17 := Lib.hid hrb
          have HF17 := Lib.hid (HF16.out.below hb)
          have HU17 := Lib.hid (HU16.out.below hb)
          clear hrb hb HF16 HK16 HU16 RA16
          go_wp2_with fail
          refine (equalP_any _ _ _ _ W17 RA17.out RB17.out).mono ?_
          rintro e W18 ⟨he, hb⟩
          rw [decide_eq_true rfl] at he
          subst he
          have HF18 := Lib.hid (HF17.out.below hb)
          have HU18 := Lib.hid (HU17.out.below hb)
          clear hb HF17 HU17 RA17 RB17
          go_wp2_with fail
          refine (HF18.out.c.all (by have := HNL.out; have := HLN.out; omega)).mono ?_
          rintro e W19 ⟨vc, rfl, hra, hb⟩
          have RA19 := Lib.hid hra
          have HF19 := Lib.hid (HF18.out.below hb)
          have HU19 := Lib.hid (HU18.out.below hb)
          clear hra hb HF18 HU18
          go_wp2_with fail
          refine (HU19.out.all (by rw [List.length_append]; have := HNL.out; have := HLN.out; omega)).mono ?_
          rintro e W20 ⟨vd, rfl, hrb, hb⟩
          rw [HV1.out] at hrb
          have RA20 := Lib.hid (RA19.out.below hb)
          have RB20 := Lib.hid hrb
          have HF20 := Lib.hid (HF19.out.below hb)
          clear hrb hb HF19 HU19 RA19
          go_wp2_with fail
          refine (equalP_any _ _ _ _ W20 RA20.out RB20.out).mono ?_
          rintro e W21 ⟨he, hb⟩
          rw [decide_eq_true rfl] at he
          subst he
          have HF21 := Lib.hid (HF20.out.below hb)
          clear hb HF20 RA20 RB20
          go_wp2_with fail
          refine (awake_any W21).mono ?_
          rintro e W22 ⟨rfl, hb⟩
          have H22 := Lib.hid (HF21.out.s.low.trans (hb.mono HF21.out.s.bw))
          clear hb HF21
          go_wp2_with fail
          go_ret
          exact ⟨rfl, by rw [← HBB.out]; exact H22.out⟩
        · have hjn : j < n2 := by omega
          have hjl : j < other.length := by rw [← HN2.out]; exact hjn
          obtain ⟨a', c', e', hc⟩ := HP.out
          cases e'
          obtain ⟨g, o, rfl, hg, hc⟩ := hc (by omega)
          have hlow := HT.out.s.low
          have hgB : g < B := by rw [HBB.out]; exact hg
          obtain ⟨c0, c1, c2, c3, c4⟩ := hc j hjl
          have q0 := (hlow.cell (p := ⟨g, o + j * 5, none⟩) hgB).trans c0
          have q1 := (hlow.cell (p := ⟨g, o + j * 5 + 1, none⟩) hgB).trans c1
          have q2 := (hlow.cell (p := ⟨g, o + j * 5 + 2, none⟩) hgB).trans c2
          have q3 := (hlow.cell (p := ⟨g, o + j * 5 + 3, none⟩) hgB).trans c3
          have q4 := (hlow.cell (p := ⟨g, o + j * 5 + 4, none⟩) hgB).trans c4
          have HTK := Lib.hid (show other.take (j + 1) = other.take j ++ [other[j]] from List.take_succ_eq_append_getElem hjl)
          clear hc c0 c1 c2 c3 c4 hlow hlast hg
          generalize other[j] = x at *
          go_wp2_with fail
          refine (play_any B C mc clock7 E7 x wr HT.out.s.sto HT.out.s.bw (by have := HT.out.s.tot; have := HNL.out; omega)).mono ?_
          rintro e W9 ⟨⟨vv, rfl⟩, E8, clock8, ht, hlk⟩
          have HT2 : Hid (Two B C mc (B + 1) B E8 E5 clock8 k5 (runA (runA noA l) (other.take (j + 1))) (runA (runA noA l) one) (l.length + (j + 1)) (l.length + n1) W W9) := Lib.hid (by rw [HTK.out, runA_snoc]; exact HT.out.step ht hlk)
          clear ht hlk HT q0 q1 q2 q3 q4
          have hw1 : IntKind.i64.wrap ((j : Int) + 1) = ((j + 1 : Nat) : Int) := by rw [IntKind.wrap_i64]; omega
          go_wp2_with fail
          go_roundw
          case rel => exact ⟨j + 1, E8, clock8, by first | rfl | (push_cast; rfl), hjn, HT2⟩
          case measure => show n2 - (((j + 1 : Nat) : Int).toNat) < n2 - ((j : Int)).toNat; omega
    · have hjn : j < n1 := by omega
      have hjl : j < one.length := by rw [← HN1.out]; exact hjn
      obtain ⟨a', c', e', hc⟩ := HO.out
      cases e'
      obtain ⟨g, o, rfl, hg, hc⟩ := hc (by omega)
      have hlow := HT.out.s.low
      have hgB : g < B := by rw [HBB.out]; exact hg
      obtain ⟨c0, c1, c2, c3, c4⟩ := hc j hjl
      have q0 := (hlow.cell (p := ⟨g, o + j * 5, none⟩) hgB).trans c0
      have q1 := (hlow.cell (p := ⟨g, o + j * 5 + 1, none⟩) hgB).trans c1
      have q2 := (hlow.cell (p := ⟨g, o + j * 5 + 2, none⟩) hgB).trans c2
      have q3 := (hlow.cell (p := ⟨g, o + j * 5 + 3, none⟩) hgB).trans c3
      have q4 := (hlow.cell (p := ⟨g, o + j * 5 + 4, none⟩) hgB).trans c4
      have HTK := Lib.hid (show one.take (j + 1) = one.take j ++ [one[j]] from List.take_succ_eq_append_getElem hjl)
      clear hc c0 c1 c2 c3 c4 hlow hlast hg
      generalize one[j] = x at *
      go_wp2_with fail
      refine (play_any B (B + 1) B clock7 E7 x wr HT.out.s.sto HT.out.s.bw (by have := HT.out.s.tot; have := HNL.out; omega)).mono ?_
      rintro e W9 ⟨⟨vv, rfl⟩, E8, clock8, ht, hlk⟩
      have HT2 : Hid (Two B (B + 1) B C mc E8 EC clock8 cc (runA (runA noA l) (one.take (j + 1))) (runA noA l) (l.length + (j + 1)) l.length W W9) := Lib.hid (by rw [HTK.out, runA_snoc]; exact HT.out.step ht hlk)
      clear ht hlk HT q0 q1 q2 q3 q4
      have hw1 : IntKind.i64.wrap ((j : Int) + 1) = ((j + 1 : Nat) : Int) := by rw [IntKind.wrap_i64]; omega
      go_wp2_with fail
      go_roundw
      case rel => exact ⟨j + 1, E8, clock8, by first | rfl | (push_cast; rfl), hjn, HT2⟩
      case measure => show n1 - (((j + 1 : Nat) : Int).toNat) < n1 - ((j : Int)).toNat; omega
end Go.Proofs.Ytaecppkkbdbdbaa
