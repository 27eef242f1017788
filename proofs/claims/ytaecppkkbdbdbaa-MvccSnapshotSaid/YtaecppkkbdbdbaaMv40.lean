/- Mvcc: the law Snapshot. -/
import Derived.Test.YtaecppkkbdbdbaaMv39
import Derived.Laws.Cover1
namespace Go.Proofs.Ytaecppkkbdbdbaa
open Go.ChangeShapes Go.WideShapes Go.ChangeAt Go.RowKit Go.Deep Go.ChangeMaps Go.Shelf Go.Sort
set_option linter.unusedVariables false
set_option linter.unusedSimpArgs false
/-- a store that takes later writes, beside a row that was read -/
structure SnA (B B2 : Nat) (t : Int) (A0 : Bs → List Ver) (va : Value) (L : List (Bs × Bs)) (W0 : World) (N : Nat) (E : List En) (clock : Nat) (A : Bs → List Ver) (wr : World) : Prop where
  wk : Wk B (B + 1) B E clock A N W0 wr
  roll : ∀ k, rollF t (A k) = rollF t (A0 k)
  row : SRow B2 wr va L
  off : ∀ k, va.ownBlock = some k → ¬ Foot (B + 1) B E k
theorem SnA.step {B B2 N clock clock' : Nat} {t : Int} {A0 A : Bs → List Ver} {va : Value} {L : List (Bs × Bs)} {W0 wr w1 : World} {E E' : List En} {x : Opv} (h : SnA B B2 t A0 va L W0 N E clock A wr)
    (ht : Turned B (B + 1) B E wr w1 E' clock') (hl : lkL E' = stepA (lkL E) x) (hw : isW x = true) (hs : t < x.stamp) : SnA B B2 t A0 va L W0 (N + 1) E' clock' (stepA A x) w1 := by
  refine ⟨h.wk.step ht hl, fun k => by rw [step_late t A x hw hs k, h.roll k], own_same h.row (fun k hk => ht.2.2.block k (World.ownsRow.lt h.row k hk).2 (h.off k hk)), fun k hk hf => ?_⟩
  rcases ht.2.1 k hf with h1 | h1
  · exact h.off k hk h1
  · have := (World.ownsRow.lt h.row k hk).2
    omega
theorem SnA.more {B B2 N clock : Nat} {t : Int} {A0 A : Bs → List Ver} {va : Value} {L : List (Bs × Bs)} {W0 wr : World} {E : List En} (h : SnA B B2 t A0 va L W0 N E clock A wr) : SnA B B2 t A0 va L W0 (N + 1) E clock A wr :=
  ⟨⟨h.wk.sto, h.wk.lk, Nat.le_trans h.wk.tot (Nat.le_succ _), h.wk.low, h.wk.bw⟩, h.roll, h.row, h.off⟩
theorem srow_push {B : Nat} {w1 : World} {v' : Value} {L : List (Bs × Bs)} (x : Bs × Bs) (hown : w1.ownsRow B 45 2 v' (L.length + 1) (prS L ++ [.string x.1, .string x.2])) : SRow B w1 v' (L ++ [x]) := by
  unfold SRow
  rw [prS_snoc, List.length_append]
  exact hown
theorem below_push {B : Nat} {W W0 w1 : World} {v : Value} {L : List (Bs × Bs)} {o : Obj} (h : SRow B W v L) (hlow : Below B W0 W) (hB : B ≤ W.heap.size) (hg : (W.alloc o).grownBy w1 v.ownBlock) : Below B W0 w1 ∧ B ≤ w1.heap.size := by
  have hle : W.heap.size ≤ w1.heap.size := Nat.le_trans (by simp) hg.size
  refine ⟨hlow.trans ⟨hg.os, hg.tape, hg.output, hle, fun k hk => (hg.block k (by simp; omega) (fun e => ?_)).trans (heap_alloc_old W o (by omega))⟩, Nat.le_trans hB hle⟩
  have := (World.ownsRow.lt h k e.symm).1
  omega
set_option maxRecDepth 100000 in
set_option maxHeartbeats 12800000 in
theorem law_snapshot (v u : Value) (l l2 : List Opv) (t : Int) (lo hi : Bs) (W : World) (h : OpsArg W v l) (h2 : OpsArg W u l2) :
    Calls Try.prog 8 #[v, u, .int .i64 t, .string lo, .string hi] W (AwakeOut W) := by
  obtain ⟨a0, cc0, rfl, h'⟩ := h
  obtain ⟨a1, c1, rfl, h2'⟩ := h2
  obtain ⟨W0, hW0⟩ : ∃ W0, W0 = W.alloc (.cells #[.slice a0 l.length cc0] 22) := ⟨_, rfl⟩
  have hlow0 : Below W.heap.size W W0 := by rw [hW0]; exact (Below.refl _ W).alloc (Nat.le_refl _) _
  have hsz0 : W0.heap.size = W.heap.size + 1 := by rw [hW0]; simp
  have HH : Hid (OpsArg W0 (.slice a0 l.length cc0) l) := Lib.hid (OpsArg.below ⟨a0, cc0, rfl, h'⟩ hlow0)
  have HH2 : Hid (OpsArg W0 (.slice a1 l2.length c1) l2) := Lib.hid (OpsArg.below ⟨a1, c1, rfl, h2'⟩ hlow0)
  have HLOW := Lib.hid (And.intro hlow0 hsz0)
  have hbx : Boxed W0 W.heap.size 22 (.slice a0 l.length cc0) := by rw [hW0]; exact Boxed.new W _ _
  have hcx := hbx.cell
  have HBX := Lib.hid hbx
  have HW0 := Lib.hid hW0
  obtain ⟨i0, hi0, hz0, hz1, hz2⟩ := info_parts infoB
  clear h' h2' hlow0 hsz0
  by_cases h60 : 60 < l.length ∨ 60 < l2.length
  · have hA : (decide (60 < (l.length : Int)) = true) ∨ (decide (60 < (l.length : Int)) = false ∧ decide (60 < (l2.length : Int)) = true) := by
      by_cases h1 : 60 < l.length
      · exact .inl (decide_eq_true (by omega))
      · exact .inr ⟨decide_eq_false (by omega), decide_eq_true (by omega)⟩
    clear h60
    rcases hA with hA | ⟨hA, hA2⟩
    all_goals
      go_enter Try.func8, Try.ntmps8
      go_wp2_with (fail)
      rw [← HW0.out]
      clear hW0
      go_wp2_with (fail)
      refine (awake_any W0).mono ?_
      rintro e W9 ⟨rfl, hb⟩
      have HB9 := Lib.hid (HLOW.out.1.trans (hb.mono HLOW.out.1.size))
      clear hb
      go_wp2_with fail
      go_ret
      exact ⟨rfl, HB9.out⟩
  · obtain ⟨n, hn⟩ : ∃ n, n = l.length := ⟨_, rfl⟩
    obtain ⟨n2, hn2⟩ : ∃ n2, n2 = l2.length := ⟨_, rfl⟩
    have hA1 : n ≤ 60 := by omega
    have hA2 : n2 ≤ 60 := by omega
    have HN := Lib.hid (And.intro hn hn2)
    rw [← hn] at HH hcx HBX HW0 hW0 ⊢
    rw [← hn2] at HH2 ⊢
    clear hn hn2 h60 hbx
    have hd1 : decide (60 < (n : Int)) = false := decide_eq_false (by omega)
    have hd2 : decide (60 < (n2 : Int)) = false := decide_eq_false (by omega)
    go_enter Try.func8, Try.ntmps8
    go_wp2_with fail
    rw [← hW0]
    clear hW0
    refine (show Calls Try.prog 33 #[.slice a0 n cc0] W0 (BuildOut l W0) from by rw [HN.out.1]; exact build_any _ l W0 (HN.out.1 ▸ HH.out) (by have := HN.out; omega)).mono ?_
    rintro e W1 ⟨rfl, E, clock, hwk⟩
    obtain ⟨B, hB⟩ : ∃ B, B = W0.heap.size := ⟨_, rfl⟩
    rw [← hB] at hwk ⊢
    rw [← HN.out.1] at hwk
    have hBW : W.heap.size < B := by rw [hB, HLOW.out.2]; omega
    have H1 := Lib.hid hwk
    have HBB := Lib.hid (And.intro hB hBW)
    clear hwk hB hcx
    go_wp2_with fail
    refine (H1.out.scan (by omega) _ _ _ _).mono ?_
    rintro e W2 ⟨va, rfl, hra, hb⟩
    obtain ⟨L, hL⟩ : ∃ L, L = scanK E t (scanT E ⟨#[]⟩ ⟨#[]⟩ false) := ⟨_, rfl⟩
    rw [← hL] at hra
    obtain ⟨B2, hB2⟩ : ∃ B2, B2 = W1.heap.size := ⟨_, rfl⟩
    rw [← hB2] at hra
    have HS2 : Hid (SnA B B2 t (runA noA l) va L W0 n E clock (runA noA l) W2) := Lib.hid ⟨H1.out.below hb, fun _ => rfl, hra, fun k hk hf => by
      have h1 := (World.ownsRow.lt hra k hk).1
      have h2 := (H1.out.sto.foot hf).2
      omega⟩
    have HL := Lib.hid (And.intro hL (And.intro H1.out.sto.gd H1.out.lk))
    have HLN := Lib.hid (show L.length ≤ 60 by rw [hL]; have := H1.out.len; have := scan_len H1.out.sto.gd t ⟨#[]⟩ ⟨#[]⟩ false; omega)
    clear hra hb hL hB2 H1
    go_wp2_with fail
    go_loopw [45] (fun i wr => ∃ (j : Nat) (E : List En) (clock : Nat) (A : Bs → List Ver), i = .int .i64 j ∧ j ≤ n2 ∧ Hid (SnA B B2 t (runA noA l) va L W0 (n + j) E clock A wr)) (fun i wr => n2 - iv i)
    case atStart => exact ⟨0, E, clock, _, rfl, Nat.zero_le _, HS2⟩
    case round =>
      have HL1 : Hid (∃ E, L = scanK E t (scanT E ⟨#[]⟩ ⟨#[]⟩ false) ∧ Gd E ∧ lkL E = runA noA l) := Lib.hid ⟨E, HL.out⟩
      clear HS2 HL
      clear E clock
      obtain ⟨j, E, clock, A, rfl, hj, HS⟩ := hrel
      by_cases hlast : j = n2
      · subst hlast
        obtain ⟨N, hN⟩ : ∃ N, N = n + j := ⟨_, rfl⟩
        have hN2 : N ≤ 120 := by omega
        rw [← hN] at HS
        clear hN
        have hLE : L = scanK E t (scanT E ⟨#[]⟩ ⟨#[]⟩ false) := by
          obtain ⟨E0, e1, g0, e2⟩ := HL1.out
          rw [e1]
          exact (scan_later g0 HS.out.wk.sto.gd t _ _ (fun k => valAt_same (by rw [HS.out.wk.lk, e2]; exact HS.out.roll k))).symm
        have HK := Lib.hid HS.out.wk
        have HR := Lib.hid HS.out.row
        have HLE := Lib.hid (And.intro hLE HS.out.wk.sto.gd)
        clear HS hLE HL1
        go_wp2_with fail
        refine (HK.out.scan (by omega) _ _ _ _).mono ?_
        rintro e W4 ⟨vb, rfl, hrb, hb⟩
        rw [← HLE.out.1] at hrb
        have HK4 := Lib.hid (HK.out.below hb)
        have HR4 := Lib.hid (HR.out.below hb)
        have HRB := Lib.hid hrb
        clear hrb hb HK HR
        go_wp2_with fail
        refine (equalS_any _ _ _ _ W4 HR4.out.row HRB.out.row).mono ?_
        rintro e W5 ⟨he, hb⟩
        rw [decide_eq_true rfl] at he
        subst he
        have HK5 := Lib.hid (HK4.out.below hb)
        have HR5 := Lib.hid (HR4.out.below hb)
        clear hb HK4 HR4 HRB
        obtain ⟨ra, rc, hva, _, hR3⟩ := HR5.out.row
        subst hva
        have HR3 := Lib.hid hR3
        obtain ⟨p, hp⟩ : ∃ p, p = L.length := ⟨_, rfl⟩
        have HP := Lib.hid hp
        have hp60 : p ≤ 60 := by have := HLN.out; omega
        rw [← hp] at HR5 ⊢
        clear hp hR3
        obtain ⟨B3, hB3⟩ : ∃ B3, B3 = W5.heap.size := ⟨_, rfl⟩
        have HB3 := Lib.hid hB3
        clear hB3
        go_wp2_with fail
        go_loopw [15, 86] (fun wt i wr => ∃ j : Nat, i = .int .i64 j ∧ j ≤ p ∧ Hid (SRow B3 wr wt ((L.take j).filter fun x => inR lo hi x.1) ∧ Below B3 W5 wr ∧ B3 ≤ wr.heap.size)) (fun _ i wr => p - iv i)
        case atStart => exact ⟨0, rfl, Nat.zero_le _, Lib.hid ⟨World.ownsRow_nil _ _ _ _, Below.refl _ _, Nat.le_of_eq HB3.out⟩⟩
        case round =>
          obtain ⟨j, rfl, hj, HS⟩ := hrel
          by_cases hlast : j = p
          · subst hlast
            obtain ⟨M, hM⟩ : ∃ M, M = L.filter fun x => inR lo hi x.1 := ⟨_, rfl⟩
            have HSM : Hid (SRow B3 wr u15 M ∧ Below B3 W5 wr ∧ B3 ≤ wr.heap.size) := Lib.hid (by
              have := HS.out
              rw [HP.out, List.take_length, ← hM] at this
              exact this)
            have HMM := Lib.hid (show M = scanK E t (scanT E lo hi false) by rw [hM, HLE.out.1]; exact (scan_part HLE.out.2 t lo hi).symm)
            have HML := Lib.hid (show M.length ≤ 60 by rw [hM]; have := List.length_filter_le (fun x : Bs × Bs => inR lo hi x.1) L; have := HLN.out; omega)
            have hwr5 : Below W5.heap.size W5 wr := by rw [← HB3.out]; exact HSM.out.2.1
            have HKw := Lib.hid (HK5.out.below hwr5)
            have HRw := Lib.hid (HR5.out.below hwr5)
            have HBw : Hid (Boxed wr W.heap.size 22 (.slice a0 n cc0) ∧ OpsArg wr (.slice a0 n cc0) l) := Lib.hid ⟨(HKw.out.low.block _ HBB.out.2).trans HBX.out, HH.out.below (by rw [← HBB.out.1]; exact HKw.out.low)⟩
            clear HS hM hwr5 HK5 HR5
            go_wp2_with fail
            refine (clone_pairs B3 u15 M wr HSM.out.1 (by have := HML.out; omega)).mono ?_
            rintro e W9 ⟨vc, rfl, hrc, hb⟩
            have HRC := Lib.hid (And.intro hrc hb)
            clear hrc hb
            go_wp2_with fail
            refine (rev_pairs wr.heap.size vc M W9 HRC.out.1 (by have := HML.out; omega)).mono ?_
            rintro e W10 ⟨rfl, hrc, hk⟩
            have hb10 : Below wr.heap.size wr W10 := HRC.out.2.trans (hk.below HRC.out.2.size (fun k hk2 => (World.ownsRow.lt HRC.out.1 k hk2).1))
            have HK10 := Lib.hid (HKw.out.below hb10)
            have HR10 := Lib.hid (HRw.out.below hb10)
            have HM10 := Lib.hid (HSM.out.1.below hb10)
            have HC10 := Lib.hid hrc
            have HB10 : Hid (Boxed W10 W.heap.size 22 (.slice a0 n cc0) ∧ OpsArg W10 (.slice a0 n cc0) l) := Lib.hid ⟨(hb10.block _ HBw.out.1.lt).trans HBw.out.1, HBw.out.2.below hb10⟩
            have hbx10 := HB10.out.1.cell
            clear hrc hk hb10 HKw HRw HSM HRC HBw
            go_wp2_with fail
            go_loopw [147] (fun i wx => ∃ j : Nat, i = .int .i64 j ∧ j ≤ n ∧ Hid (Below W10.heap.size W10 wx)) (fun i _ => n - iv i)
            case atStart => exact ⟨0, rfl, Nat.zero_le _, Lib.hid (Below.refl _ _)⟩
            case round =>
              obtain ⟨j3, rfl, hj3, HX⟩ := hrel
              by_cases hlast3 : j3 = n
              · subst hlast3
                have HKx := Lib.hid (HK10.out.below HX.out)
                have HMx := Lib.hid (HM10.out.below HX.out)
                have HCx := Lib.hid (HC10.out.below HX.out)
                clear HX
                go_wp2_with fail
                refine (HKx.out.scan (by omega) _ _ _ _).mono ?_
                rintro e W11 ⟨vd, rfl, hrd, hb⟩
                rw [← HMM.out] at hrd
                have HK11 := Lib.hid (HKx.out.below hb)
                have HM11 := Lib.hid (HMx.out.below hb)
                have HC11 := Lib.hid (HCx.out.below hb)
                have HD11 := Lib.hid hrd
                clear hrd hb HKx HMx HCx
                go_wp2_with fail
                refine (equalS_any _ _ _ _ W11 HD11.out.row HM11.out.row).mono ?_
                rintro e W12 ⟨he, hb⟩
                rw [decide_eq_true rfl] at he
                subst he
                have HK12 := Lib.hid (HK11.out.below hb)
                have HC12 := Lib.hid (HC11.out.below hb)
                clear hb HK11 HM11 HC11 HD11
                go_wp2_with fail
                refine (HK12.out.scan (by omega) _ _ _ _).mono ?_
                rintro e W13 ⟨vf, rfl, hrf, hb⟩
                rw [scanT_rev, scanK_rev, ← HMM.out] at hrf
                have HK13 := Lib.hid (HK12.out.below hb)
                have HC13 := Lib.hid (HC12.out.below hb)
                have HF13 := Lib.hid hrf
                clear hrf hb HK12 HC12
                go_wp2_with fail
                refine (equalS_any _ _ _ _ W13 HF13.out.row HC13.out.row).mono ?_
                rintro e W14 ⟨he, hb⟩
                rw [decide_eq_true rfl] at he
                subst he
                have HK14 := Lib.hid (HK13.out.below hb)
                clear hb HK13 HC13 HF13
                go_wp2_with fail
                refine (awake_any W14).mono ?_
                rintro e W15 ⟨rfl, hb⟩
                have H15 : Hid (Below W.heap.size W W15) := Lib.hid (HLOW.out.1.trans (((HK14.out.low.mono (Nat.le_of_eq HBB.out.1.symm)).trans (hb.mono (Nat.le_trans (Nat.le_of_eq HBB.out.1.symm) HK14.out.bw))).mono HLOW.out.1.size))
                clear hb HK14
                go_wp2_with fail
                go_ret
                exact ⟨rfl, H15.out⟩
              · have hjn3 : j3 < n := by omega
                have hjl3 : j3 < l.length := by rw [← HN.out.1]; exact hjn3
                obtain ⟨g3, o3, hga3, hg3, hc3⟩ := (show ∃ g o, a0 = some ⟨g, o, none⟩ ∧ g < W10.heap.size ∧ ∀ j (hj : j < l.length), W10.cell? ⟨g, o + j * 5, none⟩ = some (.int .i64 l[j].kind) ∧ W10.cell? ⟨g, o + j * 5 + 1, none⟩ = some (.string l[j].key) ∧ W10.cell? ⟨g, o + j * 5 + 2, none⟩ = some (.string l[j].value) ∧ W10.cell? ⟨g, o + j * 5 + 3, none⟩ = some (.int .i64 l[j].stamp) ∧ W10.cell? ⟨g, o + j * 5 + 4, none⟩ = some (.bool l[j].back) from by
                  obtain ⟨a', c', e', hc⟩ := HB10.out.2
                  cases e'
                  exact hc (by omega))
                subst hga3
                obtain ⟨_, k1, _, _, _⟩ := hc3 j3 hjl3
                have hw3 : IntKind.i64.wrap ((j3 : Int) + 1) = ((j3 + 1 : Nat) : Int) := by rw [IntKind.wrap_i64]; omega
                have hji : (j3 : Int) < (n : Int) := by omega
                have hj0i : (0 : Int) ≤ (j3 : Int) := by omega
                generalize l[j3].key = key at *
                have hbA : Below W10.heap.size W10 (wr.alloc (.cells #[.int .i64 j3] 3)) := HX.out.alloc HX.out.size _
                have c0 : (wr.alloc (.cells #[.int .i64 j3] 3)).cell? ⟨wr.heap.size, 0, none⟩ = some (.int .i64 j3) := (Boxed.new wr 3 (.int .i64 j3)).cell
                have c1 : (wr.alloc (.cells #[.int .i64 j3] 3)).cell? ⟨W.heap.size, 0, none⟩ = some (.slice (some ⟨g3, o3, none⟩) n cc0) := (hbA.cell (p := ⟨W.heap.size, 0, none⟩) HB10.out.1.lt).trans hbx10
                have c2 : (wr.alloc (.cells #[.int .i64 j3] 3)).cell? ⟨g3, o3 + j3 * 5 + 1, none⟩ = some (.string key) := (hbA.cell (p := ⟨g3, o3 + j3 * 5 + 1, none⟩) hg3).trans k1
                have HSZ := Lib.hid (show wr.heap.size < (wr.alloc (.cells #[.int .i64 j3] 3)).heap.size by simp)
                have HBA := Lib.hid hbA
                clear hc3 k1 hbA hlast3
                go_wp2_with fail
                refine (get_any B (B + 1) B clock E key t _ (HK10.out.sto.below HBA.out)).mono ?_
                rintro e W11 ⟨he, hb⟩
                obtain ⟨sv, hsv⟩ : ∃ sv : Bs, sv = (valAt (lkL E key) t).getD ⟨#[]⟩ := ⟨_, rfl⟩
                obtain ⟨bv, hbv⟩ : ∃ bv : Bool, bv = (valAt (lkL E key) t).isSome := ⟨_, rfl⟩
                rw [← hsv, ← hbv] at he
                subst he
                have HBV := Lib.hid (show (L.any fun p => decide (p.1 = key)) = bv by rw [hbv, HLE.out.1]; exact scan_any HLE.out.2 t key)
                have hbX : Below W10.heap.size W10 W11 := HBA.out.trans (hb.mono HBA.out.size)
                have d0 : W11.cell? ⟨wr.heap.size, 0, none⟩ = some (.int .i64 j3) := (hb.cell (p := ⟨wr.heap.size, 0, none⟩) HSZ.out).trans c0
                have d1 : W11.cell? ⟨W.heap.size, 0, none⟩ = some (.slice (some ⟨g3, o3, none⟩) n cc0) := (hbX.cell (p := ⟨W.heap.size, 0, none⟩) HB10.out.1.lt).trans hbx10
                have d2 : W11.cell? ⟨g3, o3 + j3 * 5 + 1, none⟩ = some (.string key) := (hb.cell (p := ⟨g3, o3 + j3 * 5 + 1, none⟩) (by have := HBA.out.size; show g3 < _; omega)).trans c2
                have HW11 := Lib.hid (And.intro hbX (show wr.heap.size < W11.heap.size from Nat.lt_of_lt_of_le HSZ.out hb.size))
                clear hb hbX c0 c1 c2 hsv hbv
                go_wp2_with fail
                refine (contains_any W.heap.size wr.heap.size g3 o3 cc0 n j3 key _ L W11 d1 d0 d2 hjn3 (by omega) (by have := HW11.out.2; have := HX.out.size; have := HB10.out.1.lt; omega) HW11.out.2 (by have := HW11.out.1.size; omega) ((HR10.out.below HW11.out.1).row)).mono ?_
                rintro e W12 ⟨he, hb⟩
                rw [HBV.out] at he
                subst he
                have H12 : Hid (Below W10.heap.size W10 W12) := Lib.hid (HW11.out.1.trans (hb.mono HW11.out.1.size))
                clear hb d0 d1 d2 HW11
                go_wp2_with fail
                go_roundw
                case rel => exact ⟨j3 + 1, by first | rfl | (push_cast; rfl), hjn3, H12⟩
                case measure => show n - (((j3 + 1 : Nat) : Int).toNat) < n - ((j3 : Int)).toNat; omega
          · have hjn : j < p := by omega
            have hjl : j < L.length := by rw [← HP.out]; exact hjn
            obtain ⟨g, rfl, hgc, hgm, hg, hc⟩ := HR3.out (by omega)
            have hwr5 : Below W5.heap.size W5 wr := by rw [← HB3.out]; exact HS.out.2.1
            obtain ⟨q0, q1⟩ := hc j hjl
            have q0 := (hwr5.cell (p := ⟨g, j * 2, none⟩) hg).trans q0
            have q1 := (hwr5.cell (p := ⟨g, j * 2 + 1, none⟩) hg).trans q1
            have hw1 : IntKind.i64.wrap ((j : Int) + 1) = ((j + 1 : Nat) : Int) := by rw [IntKind.wrap_i64]; omega
            have hgw : g < wr.heap.size := Nat.lt_of_lt_of_le hg hwr5.size
            clear hlast
            have hmem : L[j] ∈ L := List.getElem_mem hjl
            have hgen : ∀ x ∈ L, valAt (lkL E x.1) t = some x.2 := fun x hx => by
              rw [HLE.out.1] at hx
              exact ((scan_mem HLE.out.2 t _ _ _).1 hx).2
            have hval := hgen _ hmem
            clear hgen
            have hprev : j ≠ 0 → ∃ y : Bs × Bs, lB y.1 L[j].1 = true ∧ W5.cell? ⟨g, (j - 1) * 2, none⟩ = some (.string y.1) := fun h0 => by
              have hj1 : j - 1 < L.length := by omega
              refine ⟨L[j - 1], ?_, (hc (j - 1) hj1).1⟩
              have hs : SrtP L := by rw [HLE.out.1]; exact scan_srt HLE.out.2 t _ _
              exact List.pairwise_iff_getElem.1 hs (j - 1) j hj1 hjl (by omega)
            have HPV := Lib.hid hprev
            have HTK := Lib.hid (show L.take (j + 1) = L.take j ++ [L[j]] from List.take_succ_eq_append_getElem hjl)
            have HVL := Lib.hid hval
            clear hmem hval hprev hc
            generalize L[j] = x at *
            obtain ⟨k, vl⟩ := x
            go_wp2_with fail
            have hb6 : Below wr.heap.size wr (wr.alloc (.cells #[.string k, .string vl] 45)) := (Below.refl _ wr).alloc (Nat.le_refl _) _
            refine (get_any B (B + 1) B clock E k t _ (HK5.out.sto.below (hwr5.trans (hb6.mono hwr5.size)))).mono ?_
            rintro e W7 ⟨he, hb7⟩
            rw [HVL.out] at he
            have he2 : e = .returned (.tuple #[.string vl, .bool true]) := he
            subst he2
            have hb67 : Below wr.heap.size wr W7 := hb6.trans (hb7.mono hb6.size)
            have p0 : W7.cell? ⟨wr.heap.size, 0, none⟩ = some (.string k) := (hb7.cell (p := ⟨wr.heap.size, 0, none⟩) (by simp)).trans ((Box.new wr [.string k, .string vl] 45).cell 0 _ rfl)
            have p1 : W7.cell? ⟨wr.heap.size, 1, none⟩ = some (.string vl) := (hb7.cell (p := ⟨wr.heap.size, 1, none⟩) (by simp)).trans ((Box.new wr [.string k, .string vl] 45).cell 1 _ rfl)
            have hsz7 : wr.heap.size < W7.heap.size := by have := hb7.size; simp at this; omega
            have HX7 := Lib.hid (And.intro hb67 hsz7)
            clear he q0 q1 hb6 hb7
            by_cases hj0 : j = 0
            · have hjp : ¬ 0 < j := by omega
              clear hj0
              go_wp2_with fail
              go_quiet (fail)
              have HS8 : Hid (SRow B3 (W7.drewN nq) u15 ((L.take j).filter fun x => inR lo hi x.1) ∧ Below B3 W5 (W7.drewN nq) ∧ B3 ≤ (W7.drewN nq).heap.size) := Lib.hid (by
                have hbq : Below wr.heap.size wr (W7.drewN nq) := ⟨HX7.out.1.os, HX7.out.1.tape, HX7.out.1.output, HX7.out.1.size, HX7.out.1.block⟩
                exact ⟨HS.out.1.below hbq, HS.out.2.1.trans (hbq.mono HS.out.2.2), Nat.le_trans HS.out.2.2 hbq.size⟩)
              have p0 : (W7.drewN nq).cell? ⟨wr.heap.size, 0, none⟩ = some (.string k) := p0
              have p1 : (W7.drewN nq).cell? ⟨wr.heap.size, 1, none⟩ = some (.string vl) := p1
              clear HX7
              generalize W7.drewN nq = W8 at *
              rcases (show Op.bytesLess (ByteArray.toList k) (ByteArray.toList lo) = true ∨ Op.bytesLess (ByteArray.toList k) (ByteArray.toList lo) = false from by cases Op.bytesLess (ByteArray.toList k) (ByteArray.toList lo) <;> simp) with hb1 | hb1
              · skip
                have HS9 : Hid (SRow B3 W8 u15 ((L.take (j + 1)).filter fun x => inR lo hi x.1) ∧ Below B3 W5 W8 ∧ B3 ≤ W8.heap.size) := Lib.hid (by
                  have e : inR lo hi k = false := by unfold inR; rw [hb1]; rfl
                  rw [HTK.out, List.filter_append]
                  simpa [e] using HS8.out)
                clear HS8 HS
                go_wp2_with fail
                go_roundw
                case rel => exact ⟨j + 1, by first | rfl | (push_cast; rfl), hjn, HS9⟩
                case measure => show p - (((j + 1 : Nat) : Int).toNat) < p - ((j : Int)).toNat; omega
              by_cases hb2 : ByteArray.toList hi = []
              · skip
                have HF := Lib.hid (show (L.take (j + 1)).filter (fun x => inR lo hi x.1) = (L.take j).filter (fun x => inR lo hi x.1) ++ [(k, vl)] from by
                  rw [HTK.out, List.filter_append]
                  have e : inR lo hi k = true := by unfold inR; rw [hb1, hb2]; rfl
                  simp [e])
                have HFL := Lib.hid (show ((L.take j).filter (fun x => inR lo hi x.1)).length ≤ 100 by
                  have := List.length_filter_le (fun x : Bs × Bs => inR lo hi x.1) (L.take j)
                  rw [List.length_take] at this
                  omega)
                go_wp2_with (at_builtin; refine wpList_append_own_at _ rfl _ _ 44 rfl B3 45 i0 (.agg #[.string ⟨#[]⟩, .string ⟨#[]⟩]) 2 32 Try.underlying44 hi0 hz0 hz1 hz2 rfl (by decide) _ _ _ rfl (World.ownsRow.alloc HS8.out.1 _) ⟨W8.heap.size, 0, none⟩ 1 1 [.string k, .string vl] rfl rfl (two_cells_new _ _ _ _) (by simp [Value.oneCell']) (by unfold maxLen; have := HFL.out; omega) (by have := HFL.out; omega) (by have := HS8.out.2.2; simp; omega) ?_; intro v1 w1 hown hgrow _ hat)
                have HS9 : Hid (SRow B3 w1 v1 ((L.take (j + 1)).filter fun x => inR lo hi x.1) ∧ Below B3 W5 w1 ∧ B3 ≤ w1.heap.size) := Lib.hid (by
                  rw [HF.out]
                  exact ⟨srow_push (k, vl) hown, below_push HS8.out.1 HS8.out.2.1 HS8.out.2.2 hgrow⟩)
                clear hown hgrow hat HS8 HS
                go_roundw
                case rel => exact ⟨j + 1, by first | rfl | (push_cast; rfl), hjn, HS9⟩
                case measure => show p - (((j + 1 : Nat) : Int).toNat) < p - ((j : Int)).toNat; omega
              have hb4 : (ByteArray.toList hi).isEmpty = false := by
                cases hq : ByteArray.toList hi with
                | nil => exact absurd hq hb2
                | cons => rfl
              rcases (show Op.bytesLess (ByteArray.toList k) (ByteArray.toList hi) = true ∨ Op.bytesLess (ByteArray.toList k) (ByteArray.toList hi) = false from by cases Op.bytesLess (ByteArray.toList k) (ByteArray.toList hi) <;> simp) with hb3 | hb3
              · skip
                have HF := Lib.hid (show (L.take (j + 1)).filter (fun x => inR lo hi x.1) = (L.take j).filter (fun x => inR lo hi x.1) ++ [(k, vl)] from by
                  rw [HTK.out, List.filter_append]
                  have e : inR lo hi k = true := by unfold inR; rw [hb1, hb4, hb3]; rfl
                  simp [e])
                have HFL := Lib.hid (show ((L.take j).filter (fun x => inR lo hi x.1)).length ≤ 100 by
                  have := List.length_filter_le (fun x : Bs × Bs => inR lo hi x.1) (L.take j)
                  rw [List.length_take] at this
                  omega)
                go_wp2_with (at_builtin; refine wpList_append_own_at _ rfl _ _ 44 rfl B3 45 i0 (.agg #[.string ⟨#[]⟩, .string ⟨#[]⟩]) 2 32 Try.underlying44 hi0 hz0 hz1 hz2 rfl (by decide) _ _ _ rfl (World.ownsRow.alloc HS8.out.1 _) ⟨W8.heap.size, 0, none⟩ 1 1 [.string k, .string vl] rfl rfl (two_cells_new _ _ _ _) (by simp [Value.oneCell']) (by unfold maxLen; have := HFL.out; omega) (by have := HFL.out; omega) (by have := HS8.out.2.2; simp; omega) ?_; intro v1 w1 hown hgrow _ hat)
                have HS9 : Hid (SRow B3 w1 v1 ((L.take (j + 1)).filter fun x => inR lo hi x.1) ∧ Below B3 W5 w1 ∧ B3 ≤ w1.heap.size) := Lib.hid (by
                  rw [HF.out]
                  exact ⟨srow_push (k, vl) hown, below_push HS8.out.1 HS8.out.2.1 HS8.out.2.2 hgrow⟩)
                clear hown hgrow hat HS8 HS
                go_roundw
                case rel => exact ⟨j + 1, by first | rfl | (push_cast; rfl), hjn, HS9⟩
                case measure => show p - (((j + 1 : Nat) : Int).toNat) < p - ((j : Int)).toNat; omega
              · skip
                have HS9 : Hid (SRow B3 W8 u15 ((L.take (j + 1)).filter fun x => inR lo hi x.1) ∧ Below B3 W5 W8 ∧ B3 ≤ W8.heap.size) := Lib.hid (by
                  have e : inR lo hi k = false := by unfold inR; rw [hb1, hb4, hb3]; rfl
                  rw [HTK.out, List.filter_append]
                  simpa [e] using HS8.out)
                clear HS8 HS
                go_wp2_with fail
                go_roundw
                case rel => exact ⟨j + 1, by first | rfl | (push_cast; rfl), hjn, HS9⟩
                case measure => show p - (((j + 1 : Nat) : Int).toNat) < p - ((j : Int)).toNat; omega
            · obtain ⟨y, hy, hyc⟩ := HPV.out hj0
              have hjp : 0 < j := by omega
              have hw2 : IntKind.i64.wrap ((j : Int) - 1) = ((j - 1 : Nat) : Int) := by rw [IntKind.wrap_i64]; omega
              have hyc7 : W7.cell? ⟨g, (j - 1) * 2, none⟩ = some (.string y.1) := (hb67.cell (p := ⟨g, (j - 1) * 2, none⟩) hgw).trans ((hwr5.cell (p := ⟨g, (j - 1) * 2, none⟩) hg).trans hyc)
              have hlt : ((j - 1 : Nat) : Int) < (p : Int) := by omega
              have hge : (0 : Int) ≤ ((j - 1 : Nat) : Int) := by omega
              have hy' : Op.bytesLess y.1.toList k.toList = true := hy
              clear hyc hy
              go_wp2_with fail
              go_quiet (fail)
              have HS8 : Hid (SRow B3 (W7.drewN nq) u15 ((L.take j).filter fun x => inR lo hi x.1) ∧ Below B3 W5 (W7.drewN nq) ∧ B3 ≤ (W7.drewN nq).heap.size) := Lib.hid (by
                have hbq : Below wr.heap.size wr (W7.drewN nq) := ⟨HX7.out.1.os, HX7.out.1.tape, HX7.out.1.output, HX7.out.1.size, HX7.out.1.block⟩
                exact ⟨HS.out.1.below hbq, HS.out.2.1.trans (hbq.mono HS.out.2.2), Nat.le_trans HS.out.2.2 hbq.size⟩)
              have p0 : (W7.drewN nq).cell? ⟨wr.heap.size, 0, none⟩ = some (.string k) := p0
              have p1 : (W7.drewN nq).cell? ⟨wr.heap.size, 1, none⟩ = some (.string vl) := p1
              clear HX7
              generalize W7.drewN nq = W8 at *
              rcases (show Op.bytesLess (ByteArray.toList k) (ByteArray.toList lo) = true ∨ Op.bytesLess (ByteArray.toList k) (ByteArray.toList lo) = false from by cases Op.bytesLess (ByteArray.toList k) (ByteArray.toList lo) <;> simp) with hb1 | hb1
              · skip
                have HS9 : Hid (SRow B3 W8 u15 ((L.take (j + 1)).filter fun x => inR lo hi x.1) ∧ Below B3 W5 W8 ∧ B3 ≤ W8.heap.size) := Lib.hid (by
                  have e : inR lo hi k = false := by unfold inR; rw [hb1]; rfl
                  rw [HTK.out, List.filter_append]
                  simpa [e] using HS8.out)
                clear HS8 HS
                go_wp2_with fail
                go_roundw
                case rel => exact ⟨j + 1, by first | rfl | (push_cast; rfl), hjn, HS9⟩
                case measure => show p - (((j + 1 : Nat) : Int).toNat) < p - ((j : Int)).toNat; omega
              by_cases hb2 : ByteArray.toList hi = []
              · skip
                have HF := Lib.hid (show (L.take (j + 1)).filter (fun x => inR lo hi x.1) = (L.take j).filter (fun x => inR lo hi x.1) ++ [(k, vl)] from by
                  rw [HTK.out, List.filter_append]
                  have e : inR lo hi k = true := by unfold inR; rw [hb1, hb2]; rfl
                  simp [e])
                have HFL := Lib.hid (show ((L.take j).filter (fun x => inR lo hi x.1)).length ≤ 100 by
                  have := List.length_filter_le (fun x : Bs × Bs => inR lo hi x.1) (L.take j)
                  rw [List.length_take] at this
                  omega)
                go_wp2_with (at_builtin; refine wpList_append_own_at _ rfl _ _ 44 rfl B3 45 i0 (.agg #[.string ⟨#[]⟩, .string ⟨#[]⟩]) 2 32 Try.underlying44 hi0 hz0 hz1 hz2 rfl (by decide) _ _ _ rfl (World.ownsRow.alloc HS8.out.1 _) ⟨W8.heap.size, 0, none⟩ 1 1 [.string k, .string vl] rfl rfl (two_cells_new _ _ _ _) (by simp [Value.oneCell']) (by unfold maxLen; have := HFL.out; omega) (by have := HFL.out; omega) (by have := HS8.out.2.2; simp; omega) ?_; intro v1 w1 hown hgrow _ hat)
                have HS9 : Hid (SRow B3 w1 v1 ((L.take (j + 1)).filter fun x => inR lo hi x.1) ∧ Below B3 W5 w1 ∧ B3 ≤ w1.heap.size) := Lib.hid (by
                  rw [HF.out]
                  exact ⟨srow_push (k, vl) hown, below_push HS8.out.1 HS8.out.2.1 HS8.out.2.2 hgrow⟩)
                clear hown hgrow hat HS8 HS
                go_roundw
                case rel => exact ⟨j + 1, by first | rfl | (push_cast; rfl), hjn, HS9⟩
                case measure => show p - (((j + 1 : Nat) : Int).toNat) < p - ((j : Int)).toNat; omega
              have hb4 : (ByteArray.toList hi).isEmpty = false := by
                cases hq : ByteArray.toList hi with
                | nil => exact absurd hq hb2
                | cons => rfl
              rcases (show Op.bytesLess (ByteArray.toList k) (ByteArray.toList hi) = true ∨ Op.bytesLess (ByteArray.toList k) (ByteArray.toList hi) = false from by cases Op.bytesLess (ByteArray.toList k) (ByteArray.toList hi) <;> simp) with hb3 | hb3
              · skip
                have HF := Lib.hid (show (L.take (j + 1)).filter (fun x => inR lo hi x.1) = (L.take j).filter (fun x => inR lo hi x.1) ++ [(k, vl)] from by
                  rw [HTK.out, List.filter_append]
                  have e : inR lo hi k = true := by unfold inR; rw [hb1, hb4, hb3]; rfl
                  simp [e])
                have HFL := Lib.hid (show ((L.take j).filter (fun x => inR lo hi x.1)).length ≤ 100 by
                  have := List.length_filter_le (fun x : Bs × Bs => inR lo hi x.1) (L.take j)
                  rw [List.length_take] at this
                  omega)
                go_wp2_with (at_builtin; refine wpList_append_own_at _ rfl _ _ 44 rfl B3 45 i0 (.agg #[.string ⟨#[]⟩, .string ⟨#[]⟩]) 2 32 Try.underlying44 hi0 hz0 hz1 hz2 rfl (by decide) _ _ _ rfl (World.ownsRow.alloc HS8.out.1 _) ⟨W8.heap.size, 0, none⟩ 1 1 [.string k, .string vl] rfl rfl (two_cells_new _ _ _ _) (by simp [Value.oneCell']) (by unfold maxLen; have := HFL.out; omega) (by have := HFL.out; omega) (by have := HS8.out.2.2; simp; omega) ?_; intro v1 w1 hown hgrow _ hat)
                have HS9 : Hid (SRow B3 w1 v1 ((L.take (j + 1)).filter fun x => inR lo hi x.1) ∧ Below B3 W5 w1 ∧ B3 ≤ w1.heap.size) := Lib.hid (by
                  rw [HF.out]
                  exact ⟨srow_push (k, vl) hown, below_push HS8.out.1 HS8.out.2.1 HS8.out.2.2 hgrow⟩)
                clear hown hgrow hat HS8 HS
                go_roundw
                case rel => exact ⟨j + 1, by first | rfl | (push_cast; rfl), hjn, HS9⟩
                case measure => show p - (((j + 1 : Nat) : Int).toNat) < p - ((j : Int)).toNat; omega
              · skip
                have HS9 : Hid (SRow B3 W8 u15 ((L.take (j + 1)).filter fun x => inR lo hi x.1) ∧ Below B3 W5 W8 ∧ B3 ≤ W8.heap.size) := Lib.hid (by
                  have e : inR lo hi k = false := by unfold inR; rw [hb1, hb4, hb3]; rfl
                  rw [HTK.out, List.filter_append]
                  simpa [e] using HS8.out)
                clear HS8 HS
                go_wp2_with fail
                go_roundw
                case rel => exact ⟨j + 1, by first | rfl | (push_cast; rfl), hjn, HS9⟩
                case measure => show p - (((j + 1 : Nat) : Int).toNat) < p - ((j : Int)).toNat; omega
      · have hjn : j < n2 := by omega
        have hjl : j < l2.length := by rw [← HN.out.2]; exact hjn
        obtain ⟨g, o, hga, hg, hc⟩ := (show ∃ g o, a1 = some ⟨g, o, none⟩ ∧ g < W0.heap.size ∧ ∀ j (hj : j < l2.length), W0.cell? ⟨g, o + j * 5, none⟩ = some (.int .i64 l2[j].kind) ∧ W0.cell? ⟨g, o + j * 5 + 1, none⟩ = some (.string l2[j].key) ∧ W0.cell? ⟨g, o + j * 5 + 2, none⟩ = some (.string l2[j].value) ∧ W0.cell? ⟨g, o + j * 5 + 3, none⟩ = some (.int .i64 l2[j].stamp) ∧ W0.cell? ⟨g, o + j * 5 + 4, none⟩ = some (.bool l2[j].back) from by
          obtain ⟨a', c', e', hc⟩ := HH2.out
          cases e'
          exact hc (by omega))
        subst hga
        have hgB : g < B := by rw [HBB.out.1]; exact hg
        have hmv : ∀ (k : Nat) (u : Value), W0.cell? ⟨g, k, none⟩ = some u → wr.cell? ⟨g, k, none⟩ = some u := fun k u hu => (HS.out.wk.low.cell (p := ⟨g, k, none⟩) hgB).trans hu
        obtain ⟨k0, k1, k2, k3, k4⟩ := hc j hjl
        have q0 := hmv _ _ k0
        have q1 := hmv _ _ k1
        have q2 := hmv _ _ k2
        have q3 := hmv _ _ k3
        have q4 := hmv _ _ k4
        have hw1 : IntKind.i64.wrap ((j : Int) + 1) = ((j + 1 : Nat) : Int) := by rw [IntKind.wrap_i64]; omega
        clear hc k0 k1 k2 k3 k4 hmv hg hlast hgB
        generalize l2[j] = x at *
        obtain ⟨xk, xa, xv, xs, xb⟩ := x
        by_cases h1 : xk = 1 ∨ xk = 2
        · by_cases h3 : t < xs
          · have d3 : decide (t < xs) = true := decide_eq_true h3
            have HX : Hid (isW ⟨xk, xa, xv, xs, xb⟩ = true ∧ t < xs) := Lib.hid (by refine ⟨?_, h3⟩; unfold isW; rcases h1 with rfl | rfl <;> rfl)
            clear h3
            rcases h1 with rfl | rfl
            all_goals
              go_wp2_with fail
              refine (play_any B (B + 1) B clock E ⟨_, xa, xv, xs, xb⟩ wr HS.out.wk.sto HS.out.wk.bw (by have := HS.out.wk.tot; omega)).mono ?_
              rintro e W3 ⟨⟨vv, rfl⟩, E', clock', ht, hlk⟩
              have HS3 := Lib.hid (HS.out.step ht hlk HX.out.1 HX.out.2)
              clear ht hlk HS q0 q1 q2 q3 q4
              go_wp2_with fail
              go_roundw
              case rel => exact ⟨j + 1, E', clock', _, by first | rfl | (push_cast; rfl), hjn, HS3⟩
              case measure => show n2 - (((j + 1 : Nat) : Int).toNat) < n2 - ((j : Int)).toNat; omega
          · have d3 : decide (t < xs) = false := decide_eq_false h3
            have HS3 := Lib.hid HS.out.more
            clear h3 HS
            rcases h1 with rfl | rfl
            all_goals
              go_wp2_with fail
              go_roundw
              case rel => exact ⟨j + 1, E, clock, A, by first | rfl | (push_cast; rfl), hjn, HS3⟩
              case measure => show n2 - (((j + 1 : Nat) : Int).toNat) < n2 - ((j : Int)).toNat; omega
        · have d1 : (xk == 1) = false := beq_eq_false_iff_ne.2 (fun e => h1 (.inl e))
          have d2 : (xk == 2) = false := beq_eq_false_iff_ne.2 (fun e => h1 (.inr e))
          have HS3 := Lib.hid HS.out.more
          clear h1 HS
          go_wp2_with fail
          go_roundw
          case rel => exact ⟨j + 1, E, clock, A, by first | rfl | (push_cast; rfl), hjn, HS3⟩
          case measure => show n2 - (((j + 1 : Nat) : Int).toNat) < n2 - ((j : Int)).toNat; omega
end Go.Proofs.Ytaecppkkbdbdbaa
