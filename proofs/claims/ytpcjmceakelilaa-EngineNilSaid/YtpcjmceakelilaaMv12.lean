/- Mvcc: Prune. -/
import Derived.Test.YtpcjmceakelilaaMv11
namespace Go.Proofs.Ytpcjmceakelilaa
open Go.ChangeShapes Go.WideShapes Go.ChangeAt Go.RowKit Go.Deep Go.ChangeMaps Go.Shelf
set_option linter.unusedVariables false
set_option linter.unusedSimpArgs false
/-- how many versions Prune removes -/
def pn (L : List Ver) (t : Int) : Nat := match L[upto L t - 1]? with
  | some x => if x.2.2 = true then upto L t else upto L t - 1
  | none => 0
theorem pn_le (L : List Ver) (t : Int) : pn L t ≤ L.length := by
  have := upto_le L t
  unfold pn
  split
  · split <;> omega
  · exact Nat.zero_le _
theorem pn_eq (L : List Ver) (t : Int) : (upto L t = 0 → pn L t = 0) ∧ (¬ upto L t = 0 → ∀ p (hp : p = upto L t - 1) (h : p < L.length), pn L t = if L[p].2.2 = true then upto L t else upto L t - 1) := by
  refine ⟨fun h0 => ?_, fun h0 p hp h => ?_⟩
  · unfold pn
    rw [h0]
    split
    · split <;> rfl
    · rfl
  · unfold pn
    subst hp
    rw [List.getElem?_eq_getElem h]
def pruneF (t : Int) (L : List Ver) : List Ver := L.drop (pn L t)
set_option maxRecDepth 100000 in
set_option maxHeartbeats 3200000 in
theorem prune_any (B S m clock : Nat) (E : List En) (t : Int) (W : World) (h : Sto B W S m E clock) (hB : B ≤ W.heap.size) (ht : total E ≤ 1000000) :
    Calls Try.prog 29 #[.pointer (some ⟨S, 0, none⟩), .int .i64 t] W (SweepOut B S m clock E (pruneF t) (E.map fun e => pn e.vs t).sum W) := by
  have a0 := h.c0
  have hrg := run_range_E h.map
  have HH := Lib.hid h
  have HT := Lib.hid ht
  have H0 := Lib.hid (SW.start h (pruneF t))
  clear h ht
  go_enter Try.func29, Try.ntmps29
  go_wp2_with fail
  obtain ⟨r, hr⟩ : ∃ r, r = W.heap.size := ⟨_, rfl⟩
  rw [← hr] at H0 ⊢
  have HR := Lib.hid hr
  clear hr a0 hrg
  generalize W.alloc (.mapIter (some m) clock #[] clock) = W1 at H0 ⊢
  go_loopw [5] (fun n wr => ∃ seen E', SW B S m r clock E (pruneF t) W seen seen E' wr ∧ n = .int .i64 (seenN E seen (fun e => pn e.vs t))) (fun _ wr => unseen E (wr.iterSeen r))
  case atStart => exact ⟨#[], E, H0.out, by rw [seenN_nil]; rfl⟩
  case round =>
    clear H0
    obtain ⟨seen, E', hsw, rfl⟩ := hrel
    have HS := Lib.hid hsw
    have hms := iterSeen_at hsw.it
    rcases run_next_E hsw.sto.map hsw.it hsw.sto.ok.lt (Nat.le_refl _) 0 with ⟨hall, hrun⟩ | ⟨x', hx', hsx', W2, hW2, hrun⟩
    · have HALL := Lib.hid hall
      have HA := Lib.hid (hsw.out hall (fun e he => (HH.out.rows e he).2.1))
      clear hall hms hsw
      go_wp2_with fail
      go_ret
      obtain ⟨E2, s2, h1, h2⟩ := HA.out
      have e1 : ∀ e ∈ E, seen.contains e.born = true := fun e he => by
        obtain ⟨E3, s3, g1, g2, g3⟩ := HA.out
        cases hs : seen.contains e.born with
        | true => rfl
        | false =>
          obtain ⟨e', he', _, h3, _⟩ := HS.out.swp.forth e he (by unfold sw; rw [hs, if_neg (by simp)]; exact (HH.out.rows e he).2.1)
          have := HALL.out e' he'
          rw [h3, hs] at this
          cases this
      exact ⟨by rw [seenN_all _ seen E e1]; rfl, HA.out⟩
    · obtain ⟨x, hx, hkx, hbx, hvx, hsx⟩ := hsw.left HH.out.ok hx' hsx'
      obtain ⟨W3, hW3⟩ : ∃ W3, W3 = setBlock W2 r (.mapIter (some m) clock (seen.push x'.born) clock) := ⟨_, rfl⟩
      rw [← hW3] at hrun
      have h3 := hsw.step hW2 x'.born
      rw [← hW3] at h3
      have hent := run_entry_E h3.sto.map h3.it hx' h3.sto.ok.borns
      obtain ⟨hrow, hne, hasc, hbd, hlen⟩ := h3.sto.rows x' hx'
      obtain ⟨g, vc, hval, hgc, hcc, hgl, hcell⟩ := hrow.get (by have := List.length_pos_iff.2 hne; exact this)
      have hun := until_any x'.val x'.vs t W3 hrow.at_ hasc (by omega)
      rw [hval] at hrun hent hun
      have HUN := Lib.hid hun
      have H3 := Lib.hid h3
      have HSX := Lib.hid hsx'
      have HX := Lib.hid (And.intro hx' (And.intro hx (And.intro hkx (And.intro hbx (And.intro hvx hsx)))))
      have HQ := Lib.hid (And.intro hne (And.intro hasc (And.intro hbd hlen)))
      have hsn := seenN_push (fun e => pn e.vs t) seen x hsx E HH.out.ok.borns hx
      have hle := seenN_le (fun e => pn e.vs t) (seen.push x.born) E
      have hT2 : (E.map fun e => pn e.vs t).sum ≤ 1000000 := Nat.le_trans (sum_le E (fun e => pn_le _ _)) HT.out
      have hmeas := unseen_push E seen x hsx HH.out.ok.borns hx
      have hms3 := iterSeen_at h3.it
      rw [hbx] at hms3
      have HM := Lib.hid (And.intro hmeas hms)
      have HSN := Lib.hid hsn
      obtain ⟨u, hu⟩ : ∃ u, u = upto x'.vs t := ⟨_, rfl⟩
      obtain ⟨n, hn⟩ : ∃ n, n = pn x'.vs t := ⟨_, rfl⟩
      have hul : u ≤ x'.vs.length := by rw [hu]; exact upto_le _ _
      have hpn := pn_eq x'.vs t
      rw [← hu, ← hn] at hpn
      have HPN := Lib.hid hpn
      have hnl : n ≤ x'.vs.length := by rw [hn]; exact pn_le _ _
      have hb : seenN E seen (fun e => pn e.vs t) + n ≤ 1000000 := by rw [hn, hvx]; omega
      have HCELL := Lib.hid hcell
      have hl0 : 0 < x'.vs.length := List.length_pos_iff.2 hne
      rw [← hu] at HUN
      have HN := Lib.hid hn
      clear hsn hle hT2 hmeas hms hms3 hun hcell hW3 hW2 hx' hx hkx hbx hvx hsx hsx' hne hasc hbd h3 hsw HS hrow hn hu hval hpn
      generalize seenN E seen (fun e => pn e.vs t) = N at *
      obtain ⟨k, hk⟩ : ∃ k, k = x'.key := ⟨_, rfl⟩
      obtain ⟨ln, hln⟩ : ∃ ln, ln = x'.vs.length := ⟨_, rfl⟩
      rw [← hk] at hrun hent
      rw [← hln] at hrun hent HUN hlen hnl hul hl0 hgc
      have HK := Lib.hid (And.intro hk hln)
      clear hk hln
      go_wp2_with fail
      refine HUN.out.mono ?_
      rintro e W4 ⟨rfl, hb4⟩
      have H4 := Lib.hid (H3.out.below hb4)
      have HC4 := Lib.hid (show ∀ j (h : j < x'.vs.length), W4.cell? ⟨g, j * 3, none⟩ = some (.int .i64 x'.vs[j].1) ∧ W4.cell? ⟨g, j * 3 + 1, none⟩ = some (.string x'.vs[j].2.1) ∧ W4.cell? ⟨g, j * 3 + 2, none⟩ = some (.bool x'.vs[j].2.2) from fun j hj => by
        obtain ⟨q0, q1, q2⟩ := HCELL.out j hj
        exact ⟨(hb4.cell (p := ⟨g, j * 3, none⟩) hgl).trans q0, (hb4.cell (p := ⟨g, j * 3 + 1, none⟩) hgl).trans q1, (hb4.cell (p := ⟨g, j * 3 + 2, none⟩) hgl).trans q2⟩)
      clear hb4 hrun hent HUN H3 HCELL
      by_cases h0 : u = 0
      · have hn0 : n = 0 := by have := HPN.out.1 h0; exact this
        have HN0 := Lib.hid hn0
        have d0 : decide ((0 : Int) < (u : Int)) = false := decide_eq_false (by omega)
        have hfx : pruneF t x.vs = x'.vs.drop n := by obtain ⟨_, _, _, _, g5, _⟩ := HX.out; rw [← g5, HN.out]; rfl
        have w2 : IntKind.i64.wrap ((N : Int) + (n : Int)) = ((N + n : Nat) : Int) := by rw [IntKind.wrap_i64]; omega
        have HFX := Lib.hid hfx
        clear hfx
        have hz1 : u = 0 := h0
        clear h0 hn0
        subst hz1
        have hnn : n = 0 := HN0.out
        subst hnn
        go_wp2_with fail
        obtain ⟨g1, g2, g3, g4, g5, g6⟩ := HX.out
        obtain ⟨q1, q2, q3, q4⟩ := HQ.out
        refine (set_same S ln ln k _ vc W4 hl0 (Nat.le_refl _)).mono ?_
        rintro e W5 ⟨rfl, hw5⟩
        have h5 := H4.out.same HH.out.ok g2 g4.symm (by rw [← g4]; exact HSX.out) (by rw [HFX.out, List.drop_zero, g5])
        rw [← hw5] at h5
        clear hw5 g1 g2 g3 g4 g5 g6 q1 q2 q3 q4
        have HE := Lib.hid (show seenN E (seen.push x'.born) (fun e => pn e.vs t) = N + 0 from by
          obtain ⟨g1, g2, g3, g4, g5, g6⟩ := HX.out
          rw [g4, HSN.out, ← g5, ← HN.out])
        have HME := Lib.hid (show unseen E (W5.iterSeen r) < unseen E (wr.iterSeen r) from by
          obtain ⟨g1, g2, g3, g4, g5, g6⟩ := HX.out
          rw [iterSeen_at h5.it, HM.out.2, g4]
          exact HM.out.1)
        have H5 := Lib.hid h5
        clear h5
        go_wp2_with fail
        go_roundw
        case rel => exact ⟨_, _, H5.out, by rw [HE.out]; first | go_num | simp⟩
        case measure => exact HME.out
      · obtain ⟨p, hp⟩ : ∃ p, p = u - 1 := ⟨_, rfl⟩
        have hpl : p < x'.vs.length := by have := HK.out.2; omega
        have d0 : decide ((0 : Int) < (u : Int)) = true := decide_eq_true (by omega)
        have w3 : IntKind.i64.wrap ((u : Int) - 1) = (p : Int) := by rw [IntKind.wrap_i64]; omega
        have hpi : (p : Int) < (ln : Int) := by have := HK.out.2; omega
        have cp := (HC4.out p hpl).2.2
        have hq := HPN.out.2 h0 p hp hpl
        cases hd : x'.vs[p].2.2 with
        | true =>
          rw [hd] at cp
          have hn1 : n = u := by rw [hd, if_pos rfl] at hq; exact hq
          clear hq hd hpl hp
          subst hn1
          have hfx : pruneF t x.vs = x'.vs.drop n := by obtain ⟨_, _, _, _, g5, _⟩ := HX.out; rw [← g5, HN.out]; rfl
          have w2 : IntKind.i64.wrap ((N : Int) + (n : Int)) = ((N + n : Nat) : Int) := by rw [IntKind.wrap_i64]; omega
          have HFX := Lib.hid hfx
          clear hfx
          rcases Nat.lt_or_ge n ln with h1 | h1
          · have hx1 : (n : Int) ≤ (ln : Int) := by omega
            have hx2 : (ln : Int) ≤ (vc : Int) := by omega
            have hx3 : ¬ (vc = n) := by omega
            have hx4 : (0 : Int) ≤ (n : Int) := by omega
            go_wp2_with fail
            clear hx1 hx2 hx3 hx4
            obtain ⟨g1, g2, g3, g4, g5, g6⟩ := HX.out
            obtain ⟨q1, q2, q3, q4⟩ := HQ.out
            have hlv : (x'.vs.drop n).length = ln - n := by rw [List.length_drop, ← HK.out.2]
            have hset := set_put B S m clock ln g (n * 3) (vc - n) E' k (x'.vs.drop n) W4 H4.out.sto (by rw [hlv]; omega) (by rw [hlv]; omega) (by rw [hlv]; omega) (fun j u hj => vr_piece (g := g) (M := x'.vs.drop n) n (fun i hi => by
              rw [hlv] at hi
              exact ⟨by rw [← HK.out.2]; omega, by rw [List.getElem_drop]⟩) HC4.out j u hj)
            rw [hlv] at hset
            refine hset.mono ?_
            rintro e W5 ⟨rfl, v, W6, hr6, hb6, hw5⟩
            have h5 := H4.out.put HH.out.ok g1 g2 g3 g4 g4.symm (v := v) (X1 := W6) (by rw [HFX.out]; exact hr6) hb6 (by rw [HFX.out]; exact fun e => by rw [e] at hlv; simp at hlv; omega) (by rw [HFX.out]; exact List.Pairwise.sublist (List.drop_sublist _ _) q2) (by rw [HFX.out]; exact fun y hy => q3 y (List.mem_of_mem_drop hy)) (by rw [HFX.out, hlv]; have := HK.out.2; omega) (Nat.le_trans hB H4.out.kept.size)
            rw [HFX.out, ← HK.out.1, ← hw5] at h5
            clear hset hr6 hb6 hlv
            clear hw5 g1 g2 g3 g4 g5 g6 q1 q2 q3 q4
            have HE := Lib.hid (show seenN E (seen.push x'.born) (fun e => pn e.vs t) = N + n from by
              obtain ⟨g1, g2, g3, g4, g5, g6⟩ := HX.out
              rw [g4, HSN.out, ← g5, ← HN.out])
            have HME := Lib.hid (show unseen E (W5.iterSeen r) < unseen E (wr.iterSeen r) from by
              obtain ⟨g1, g2, g3, g4, g5, g6⟩ := HX.out
              rw [iterSeen_at h5.it, HM.out.2, g4]
              exact HM.out.1)
            have H5 := Lib.hid h5
            clear h5
            go_wp2_with fail
            go_roundw
            case rel => exact ⟨_, _, H5.out, by rw [HE.out]; first | go_num | simp⟩
            case measure => exact HME.out
          · have hx1 : (n : Int) ≤ (ln : Int) := by omega
            have hx2 : (ln : Int) ≤ (vc : Int) := by omega
            have hx4 : (0 : Int) ≤ (n : Int) := by omega
            have hx5 : ln - n = 0 := by omega
            by_cases hx3 : vc = n
            · go_wp2_with fail
              clear hx1 hx2 hx4 hx5
              obtain ⟨g1, g2, g3, g4, g5, g6⟩ := HX.out
              obtain ⟨q1, q2, q3, q4⟩ := HQ.out
              refine (set_del B S m clock ln E' k _ _ W4 H4.out.sto).mono ?_
              rintro e W5 ⟨rfl, hw5⟩
              have h5 := H4.out.del HH.out.ok g2 g3 g4.symm (by rw [HFX.out]; exact List.drop_eq_nil_of_le (by rw [← HK.out.2]; omega))
              rw [← HK.out.1, ← hw5] at h5
              clear hw5 g1 g2 g3 g4 g5 g6 q1 q2 q3 q4
              have HE := Lib.hid (show seenN E (seen.push x'.born) (fun e => pn e.vs t) = N + n from by
                obtain ⟨g1, g2, g3, g4, g5, g6⟩ := HX.out
                rw [g4, HSN.out, ← g5, ← HN.out])
              have HME := Lib.hid (show unseen E (W5.iterSeen r) < unseen E (wr.iterSeen r) from by
                obtain ⟨g1, g2, g3, g4, g5, g6⟩ := HX.out
                rw [iterSeen_at h5.it, HM.out.2, g4]
                exact HM.out.1)
              have H5 := Lib.hid h5
              clear h5
              go_wp2_with fail
              go_roundw
              case rel => exact ⟨_, _, H5.out, by rw [HE.out]; first | go_num | simp⟩
              case measure => exact HME.out
            · go_wp2_with fail
              clear hx1 hx2 hx4 hx5
              obtain ⟨g1, g2, g3, g4, g5, g6⟩ := HX.out
              obtain ⟨q1, q2, q3, q4⟩ := HQ.out
              refine (set_del B S m clock ln E' k _ _ W4 H4.out.sto).mono ?_
              rintro e W5 ⟨rfl, hw5⟩
              have h5 := H4.out.del HH.out.ok g2 g3 g4.symm (by rw [HFX.out]; exact List.drop_eq_nil_of_le (by rw [← HK.out.2]; omega))
              rw [← HK.out.1, ← hw5] at h5
              clear hw5 g1 g2 g3 g4 g5 g6 q1 q2 q3 q4
              have HE := Lib.hid (show seenN E (seen.push x'.born) (fun e => pn e.vs t) = N + n from by
                obtain ⟨g1, g2, g3, g4, g5, g6⟩ := HX.out
                rw [g4, HSN.out, ← g5, ← HN.out])
              have HME := Lib.hid (show unseen E (W5.iterSeen r) < unseen E (wr.iterSeen r) from by
                obtain ⟨g1, g2, g3, g4, g5, g6⟩ := HX.out
                rw [iterSeen_at h5.it, HM.out.2, g4]
                exact HM.out.1)
              have H5 := Lib.hid h5
              clear h5
              go_wp2_with fail
              go_roundw
              case rel => exact ⟨_, _, H5.out, by rw [HE.out]; first | go_num | simp⟩
              case measure => exact HME.out
        | false =>
          rw [hd] at cp
          have hn1 : n = p := by rw [hd, if_neg (by simp)] at hq; rw [hq, hp]
          have hnlt : n < ln := by omega
          clear hq hd hpl hp
          subst hn1
          have hfx : pruneF t x.vs = x'.vs.drop n := by obtain ⟨_, _, _, _, g5, _⟩ := HX.out; rw [← g5, HN.out]; rfl
          have w2 : IntKind.i64.wrap ((N : Int) + (n : Int)) = ((N + n : Nat) : Int) := by rw [IntKind.wrap_i64]; omega
          have HFX := Lib.hid hfx
          clear hfx
          rcases Nat.eq_zero_or_pos n with h1 | h1
          · have HN0 := Lib.hid h1
            have HNP := Lib.hid (show True from trivial)
            subst h1
            go_wp2_with fail
            obtain ⟨g1, g2, g3, g4, g5, g6⟩ := HX.out
            obtain ⟨q1, q2, q3, q4⟩ := HQ.out
            refine (set_same S ln ln k _ vc W4 hl0 (Nat.le_refl _)).mono ?_
            rintro e W5 ⟨rfl, hw5⟩
            have h5 := H4.out.same HH.out.ok g2 g4.symm (by rw [← g4]; exact HSX.out) (by rw [HFX.out, List.drop_zero, g5])
            rw [← hw5] at h5
            clear hw5 g1 g2 g3 g4 g5 g6 q1 q2 q3 q4
            have HE := Lib.hid (show seenN E (seen.push x'.born) (fun e => pn e.vs t) = N + 0 from by
              obtain ⟨g1, g2, g3, g4, g5, g6⟩ := HX.out
              rw [g4, HSN.out, ← g5, ← HN.out])
            have HME := Lib.hid (show unseen E (W5.iterSeen r) < unseen E (wr.iterSeen r) from by
              obtain ⟨g1, g2, g3, g4, g5, g6⟩ := HX.out
              rw [iterSeen_at h5.it, HM.out.2, g4]
              exact HM.out.1)
            have H5 := Lib.hid h5
            clear h5
            go_wp2_with fail
            go_roundw
            case rel => exact ⟨_, _, H5.out, by rw [HE.out]; first | go_num | simp⟩
            case measure => exact HME.out
          · have hx1 : (n : Int) ≤ (ln : Int) := by omega
            have hx2 : (ln : Int) ≤ (vc : Int) := by omega
            have hx3 : ¬ (vc = n) := by omega
            have hx4 : (0 : Int) ≤ (n : Int) := by omega
            go_wp2_with fail
            clear hx1 hx2 hx3 hx4
            obtain ⟨g1, g2, g3, g4, g5, g6⟩ := HX.out
            obtain ⟨q1, q2, q3, q4⟩ := HQ.out
            have hlv : (x'.vs.drop n).length = ln - n := by rw [List.length_drop, ← HK.out.2]
            have hset := set_put B S m clock ln g (n * 3) (vc - n) E' k (x'.vs.drop n) W4 H4.out.sto (by rw [hlv]; omega) (by rw [hlv]; omega) (by rw [hlv]; omega) (fun j u hj => vr_piece (g := g) (M := x'.vs.drop n) n (fun i hi => by
              rw [hlv] at hi
              exact ⟨by rw [← HK.out.2]; omega, by rw [List.getElem_drop]⟩) HC4.out j u hj)
            rw [hlv] at hset
            refine hset.mono ?_
            rintro e W5 ⟨rfl, v, W6, hr6, hb6, hw5⟩
            have h5 := H4.out.put HH.out.ok g1 g2 g3 g4 g4.symm (v := v) (X1 := W6) (by rw [HFX.out]; exact hr6) hb6 (by rw [HFX.out]; exact fun e => by rw [e] at hlv; simp at hlv; omega) (by rw [HFX.out]; exact List.Pairwise.sublist (List.drop_sublist _ _) q2) (by rw [HFX.out]; exact fun y hy => q3 y (List.mem_of_mem_drop hy)) (by rw [HFX.out, hlv]; have := HK.out.2; omega) (Nat.le_trans hB H4.out.kept.size)
            rw [HFX.out, ← HK.out.1, ← hw5] at h5
            clear hset hr6 hb6 hlv
            clear hw5 g1 g2 g3 g4 g5 g6 q1 q2 q3 q4
            have HE := Lib.hid (show seenN E (seen.push x'.born) (fun e => pn e.vs t) = N + n from by
              obtain ⟨g1, g2, g3, g4, g5, g6⟩ := HX.out
              rw [g4, HSN.out, ← g5, ← HN.out])
            have HME := Lib.hid (show unseen E (W5.iterSeen r) < unseen E (wr.iterSeen r) from by
              obtain ⟨g1, g2, g3, g4, g5, g6⟩ := HX.out
              rw [iterSeen_at h5.it, HM.out.2, g4]
              exact HM.out.1)
            have H5 := Lib.hid h5
            clear h5
            go_wp2_with fail
            go_roundw
            case rel => exact ⟨_, _, H5.out, by rw [HE.out]; first | go_num | simp⟩
            case measure => exact HME.out
end Go.Proofs.Ytpcjmceakelilaa
