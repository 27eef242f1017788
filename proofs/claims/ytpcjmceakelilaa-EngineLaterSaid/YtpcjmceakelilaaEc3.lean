/- Merged texts: Mv12, Mv13, Mv14, Mv15, Ena. -/
import Derived.Test.YtpcjmceakelilaaEc2
import Derived.Sort.OwnSorted
import Derived.Sort.Walk0
import Derived.RangeFuncNested
import Derived.RangeFuncBound
import Derived.RangeFuncLeaves
import Derived.RangeFuncBox
import Derived.Shelf.Abstract
import Derived.OwnWalkIn
import Derived.TacticsInMore
import Derived.LoopNIn
import Derived.LoopIn
import Derived.OrdersIn
import Derived.Sort.QuietIn
/- Mvcc: Prune. -/
namespace Go.Proofs.Ytpcjmceakelilaa
open Go.ChangeShapes Go.WideShapes Go.ChangeAt Go.RowKit Go.Deep Go.ChangeMaps Go.Shelf
set_option linter.unusedVariables false
set_option linter.unusedSimpArgs false
/-- how many versions Prune removes -/
def pn (L : List Ver) (t : Int) : Nat := match L[upto L t - 1]? with
  | some x => if x.2.2 = true then upto L t else upto L t - 1
  | none => 0
theorem pn_le (L : List Ver) (t : Int) : pn L t ≤ L.length := by
  have := upto_le L t
  unfold pn
  split
  · split <;> omega
  · exact Nat.zero_le _
theorem pn_eq (L : List Ver) (t : Int) : (upto L t = 0 → pn L t = 0) ∧ (¬ upto L t = 0 → ∀ p (hp : p = upto L t - 1) (h : p < L.length), pn L t = if L[p].2.2 = true then upto L t else upto L t - 1) := by
  refine ⟨fun h0 => ?_, fun h0 p hp h => ?_⟩
  · unfold pn
    rw [h0]
    split
    · split <;> rfl
    · rfl
  · unfold pn
    subst hp
    rw [List.getElem?_eq_getElem h]
def pruneF (t : Int) (L : List Ver) : List Ver := L.drop (pn L t)
set_option maxRecDepth 100000 in
set_option maxHeartbeats 3200000 in
theorem prune_any (B S m clock : Nat) (E : List En) (t : Int) (W : World) (h : Sto B W S m E clock) (hB : B ≤ W.heap.size) (ht : total E ≤ 1000000) :
    Calls Try.prog 29 #[.pointer (some ⟨S, 0, none⟩), .int .i64 t] W (SweepOut B S m clock E (pruneF t) (E.map fun e => pn e.vs t).sum W) := by
  have a0 := h.c0
  have hrg := run_range_E h.map
  have HH := Lib.hid h
  have HT := Lib.hid ht
  have H0 := Lib.hid (SW.start h (pruneF t))
  clear h ht
  go_enter Try.func29, Try.ntmps29
  go_wp2_with fail
  obtain ⟨r, hr⟩ : ∃ r, r = W.heap.size := ⟨_, rfl⟩
  rw [← hr] at H0 ⊢
  have HR := Lib.hid hr
  clear hr a0 hrg
  generalize W.alloc (.mapIter (some m) clock #[] clock) = W1 at H0 ⊢
  go_loopw [5] (fun n wr => ∃ seen E', SW B S m r clock E (pruneF t) W seen seen E' wr ∧ n = .int .i64 (seenN E seen (fun e => pn e.vs t))) (fun _ wr => unseen E (wr.iterSeen r))
  case atStart => exact ⟨#[], E, H0.out, by rw [seenN_nil]; rfl⟩
  case round =>
    clear H0
    obtain ⟨seen, E', hsw, rfl⟩ := hrel
    have HS := Lib.hid hsw
    have hms := iterSeen_at hsw.it
    rcases run_next_E hsw.sto.map hsw.it hsw.sto.ok.lt (Nat.le_refl _) 0 with ⟨hall, hrun⟩ | ⟨x', hx', hsx', W2, hW2, hrun⟩
    · have HALL := Lib.hid hall
      have HA := Lib.hid (hsw.out hall (fun e he => (HH.out.rows e he).2.1))
      clear hall hms hsw
      go_wp2_with fail
      go_ret
      obtain ⟨E2, s2, h1, h2⟩ := HA.out
      have e1 : ∀ e ∈ E, seen.contains e.born = true := fun e he => by
        obtain ⟨E3, s3, g1, g2, g3⟩ := HA.out
        cases hs : seen.contains e.born with
        | true => rfl
        | false =>
          obtain ⟨e', he', _, h3, _⟩ := HS.out.swp.forth e he (by unfold sw; rw [hs, if_neg (by simp)]; exact (HH.out.rows e he).2.1)
          have := HALL.out e' he'
          rw [h3, hs] at this
          cases this
      exact ⟨by rw [seenN_all _ seen E e1]; rfl, HA.out⟩
    · obtain ⟨x, hx, hkx, hbx, hvx, hsx⟩ := hsw.left HH.out.ok hx' hsx'
      obtain ⟨W3, hW3⟩ : ∃ W3, W3 = setBlock W2 r (.mapIter (some m) clock (seen.push x'.born) clock) := ⟨_, rfl⟩
      rw [← hW3] at hrun
      have h3 := hsw.step hW2 x'.born
      rw [← hW3] at h3
      have hent := run_entry_E h3.sto.map h3.it hx' h3.sto.ok.borns
      obtain ⟨hrow, hne, hasc, hbd, hlen⟩ := h3.sto.rows x' hx'
      obtain ⟨g, vc, hval, hgc, hcc, hgl, hcell⟩ := hrow.get (by have := List.length_pos_iff.2 hne; exact this)
      have hun := until_any x'.val x'.vs t W3 hrow.at_ hasc (by omega)
      rw [hval] at hrun hent hun
      have HUN := Lib.hid hun
      have H3 := Lib.hid h3
      have HSX := Lib.hid hsx'
      have HX := Lib.hid (And.intro hx' (And.intro hx (And.intro hkx (And.intro hbx (And.intro hvx hsx)))))
      have HQ := Lib.hid (And.intro hne (And.intro hasc (And.intro hbd hlen)))
      have hsn := seenN_push (fun e => pn e.vs t) seen x hsx E HH.out.ok.borns hx
      have hle := seenN_le (fun e => pn e.vs t) (seen.push x.born) E
      have hT2 : (E.map fun e => pn e.vs t).sum ≤ 1000000 := Nat.le_trans (sum_le E (fun e => pn_le _ _)) HT.out
      have hmeas := unseen_push E seen x hsx HH.out.ok.borns hx
      have hms3 := iterSeen_at h3.it
      rw [hbx] at hms3
      have HM := Lib.hid (And.intro hmeas hms)
      have HSN := Lib.hid hsn
      obtain ⟨u, hu⟩ : ∃ u, u = upto x'.vs t := ⟨_, rfl⟩
      obtain ⟨n, hn⟩ : ∃ n, n = pn x'.vs t := ⟨_, rfl⟩
      have hul : u ≤ x'.vs.length := by rw [hu]; exact upto_le _ _
      have hpn := pn_eq x'.vs t
      rw [← hu, ← hn] at hpn
      have HPN := Lib.hid hpn
      have hnl : n ≤ x'.vs.length := by rw [hn]; exact pn_le _ _
      have hb : seenN E seen (fun e => pn e.vs t) + n ≤ 1000000 := by rw [hn, hvx]; omega
      have HCELL := Lib.hid hcell
      have hl0 : 0 < x'.vs.length := List.length_pos_iff.2 hne
      rw [← hu] at HUN
      have HN := Lib.hid hn
      clear hsn hle hT2 hmeas hms hms3 hun hcell hW3 hW2 hx' hx hkx hbx hvx hsx hsx' hne hasc hbd h3 hsw HS hrow hn hu hval hpn
      generalize seenN E seen (fun e => pn e.vs t) = N at *
      obtain ⟨k, hk⟩ : ∃ k, k = x'.key := ⟨_, rfl⟩
      obtain ⟨ln, hln⟩ : ∃ ln, ln = x'.vs.length := ⟨_, rfl⟩
      rw [← hk] at hrun hent
      rw [← hln] at hrun hent HUN hlen hnl hul hl0 hgc
      have HK := Lib.hid (And.intro hk hln)
      clear hk hln
      go_wp2_with fail
      refine HUN.out.mono ?_
      rintro e W4 ⟨rfl, hb4⟩
      have H4 := Lib.hid (H3.out.below hb4)
      have HC4 := Lib.hid (show ∀ j (h : j < x'.vs.length), W4.cell? ⟨g, j * 3, none⟩ = some (.int .i64 x'.vs[j].1) ∧ W4.cell? ⟨g, j * 3 + 1, none⟩ = some (.string x'.vs[j].2.1) ∧ W4.cell? ⟨g, j * 3 + 2, none⟩ = some (.bool x'.vs[j].2.2) from fun j hj => by
        obtain ⟨q0, q1, q2⟩ := HCELL.out j hj
        exact ⟨(hb4.cell (p := ⟨g, j * 3, none⟩) hgl).trans q0, (hb4.cell (p := ⟨g, j * 3 + 1, none⟩) hgl).trans q1, (hb4.cell (p := ⟨g, j * 3 + 2, none⟩) hgl).trans q2⟩)
      clear hb4 hrun hent HUN H3 HCELL
      by_cases h0 : u = 0
      · have hn0 : n = 0 := by have := HPN.out.1 h0; exact this
        have HN0 := Lib.hid hn0
        have d0 : decide ((0 : Int) < (u : Int)) = false := decide_eq_false (by omega)
        have hfx : pruneF t x.vs = x'.vs.drop n := by obtain ⟨_, _, _, _, g5, _⟩ := HX.out; rw [← g5, HN.out]; rfl
        have w2 : IntKind.i64.wrap ((N : Int) + (n : Int)) = ((N + n : Nat) : Int) := by rw [IntKind.wrap_i64]; omega
        have HFX := Lib.hid hfx
        clear hfx
        have hz1 : u = 0 := h0
        clear h0 hn0
        subst hz1
        have hnn : n = 0 := HN0.out
        subst hnn
        go_wp2_with fail
        obtain ⟨g1, g2, g3, g4, g5, g6⟩ := HX.out
        obtain ⟨q1, q2, q3, q4⟩ := HQ.out
        refine (set_same S ln ln k _ vc W4 hl0 (Nat.le_refl _)).mono ?_
        rintro e W5 ⟨rfl, hw5⟩
        have h5 := H4.out.same HH.out.ok g2 g4.symm (by rw [← g4]; exact HSX.out) (by rw [HFX.out, List.drop_zero, g5])
        rw [← hw5] at h5
        clear hw5 g1 g2 g3 g4 g5 g6 q1 q2 q3 q4
        have HE := Lib.hid (show seenN E (seen.push x'.born) (fun e => pn e.vs t) = N + 0 from by
          obtain ⟨g1, g2, g3, g4, g5, g6⟩ := HX.out
          rw [g4, HSN.out, ← g5, ← HN.out])
        have HME := Lib.hid (show unseen E (W5.iterSeen r) < unseen E (wr.iterSeen r) from by
          obtain ⟨g1, g2, g3, g4, g5, g6⟩ := HX.out
          rw [iterSeen_at h5.it, HM.out.2, g4]
          exact HM.out.1)
        have H5 := Lib.hid h5
        clear h5
        go_wp2_with fail
        go_roundw
        case rel => exact ⟨_, _, H5.out, by rw [HE.out]; first | go_num | simp⟩
        case measure => exact HME.out
      · obtain ⟨p, hp⟩ : ∃ p, p = u - 1 := ⟨_, rfl⟩
        have hpl : p < x'.vs.length := by have := HK.out.2; omega
        have d0 : decide ((0 : Int) < (u : Int)) = true := decide_eq_true (by omega)
        have w3 : IntKind.i64.wrap ((u : Int) - 1) = (p : Int) := by rw [IntKind.wrap_i64]; omega
        have hpi : (p : Int) < (ln : Int) := by have := HK.out.2; omega
        have cp := (HC4.out p hpl).2.2
        have hq := HPN.out.2 h0 p hp hpl
        cases hd : x'.vs[p].2.2 with
        | true =>
          rw [hd] at cp
          have hn1 : n = u := by rw [hd, if_pos rfl] at hq; exact hq
          clear hq hd hpl hp
          subst hn1
          have hfx : pruneF t x.vs = x'.vs.drop n := by obtain ⟨_, _, _, _, g5, _⟩ := HX.out; rw [← g5, HN.out]; rfl
          have w2 : IntKind.i64.wrap ((N : Int) + (n : Int)) = ((N + n : Nat) : Int) := by rw [IntKind.wrap_i64]; omega
          have HFX := Lib.hid hfx
          clear hfx
          rcases Nat.lt_or_ge n ln with h1 | h1
          · have hx1 : (n : Int) ≤ (ln : Int) := by omega
            have hx2 : (ln : Int) ≤ (vc : Int) := by omega
            have hx3 : ¬ (vc = n) := by omega
            have hx4 : (0 : Int) ≤ (n : Int) := by omega
            go_wp2_with fail
            clear hx1 hx2 hx3 hx4
            obtain ⟨g1, g2, g3, g4, g5, g6⟩ := HX.out
            obtain ⟨q1, q2, q3, q4⟩ := HQ.out
            have hlv : (x'.vs.drop n).length = ln - n := by rw [List.length_drop, ← HK.out.2]
            have hset := set_put B S m clock ln g (n * 3) (vc - n) E' k (x'.vs.drop n) W4 H4.out.sto (by rw [hlv]; omega) (by rw [hlv]; omega) (by rw [hlv]; omega) (fun j u hj => vr_piece (g := g) (M := x'.vs.drop n) n (fun i hi => by
              rw [hlv] at hi
              exact ⟨by rw [← HK.out.2]; omega, by rw [List.getElem_drop]⟩) HC4.out j u hj)
            rw [hlv] at hset
            refine hset.mono ?_
            rintro e W5 ⟨rfl, v, W6, hr6, hb6, hw5⟩
            have h5 := H4.out.put HH.out.ok g1 g2 g3 g4 g4.symm (v := v) (X1 := W6) (by rw [HFX.out]; exact hr6) hb6 (by rw [HFX.out]; exact fun e => by rw [e] at hlv; simp at hlv; omega) (by rw [HFX.out]; exact List.Pairwise.sublist (List.drop_sublist _ _) q2) (by rw [HFX.out]; exact fun y hy => q3 y (List.mem_of_mem_drop hy)) (by rw [HFX.out, hlv]; have := HK.out.2; omega) (Nat.le_trans hB H4.out.kept.size)
            rw [HFX.out, ← HK.out.1, ← hw5] at h5
            clear hset hr6 hb6 hlv
            clear hw5 g1 g2 g3 g4 g5 g6 q1 q2 q3 q4
            have HE := Lib.hid (show seenN E (seen.push x'.born) (fun e => pn e.vs t) = N + n from by
              obtain ⟨g1, g2, g3, g4, g5, g6⟩ := HX.out
              rw [g4, HSN.out, ← g5, ← HN.out])
            have HME := Lib.hid (show unseen E (W5.iterSeen r) < unseen E (wr.iterSeen r) from by
              obtain ⟨g1, g2, g3, g4, g5, g6⟩ := HX.out
              rw [iterSeen_at h5.it, HM.out.2, g4]
              exact HM.out.1)
            have H5 := Lib.hid h5
            clear h5
            go_wp2_with fail
            go_roundw
            case rel => exact ⟨_, _, H5.out, by rw [HE.out]; first | go_num | simp⟩
            case measure => exact HME.out
          · have hx1 : (n : Int) ≤ (ln : Int) := by omega
            have hx2 : (ln : Int) ≤ (vc : Int) := by omega
            have hx4 : (0 : Int) ≤ (n : Int) := by omega
            have hx5 : ln - n = 0 := by omega
            by_cases hx3 : vc = n
            · go_wp2_with fail
              clear hx1 hx2 hx4 hx5
              obtain ⟨g1, g2, g3, g4, g5, g6⟩ := HX.out
              obtain ⟨q1, q2, q3, q4⟩ := HQ.out
              refine (set_del B S m clock ln E' k _ _ W4 H4.out.sto).mono ?_
              rintro e W5 ⟨rfl, hw5⟩
              have h5 := H4.out.del HH.out.ok g2 g3 g4.symm (by rw [HFX.out]; exact List.drop_eq_nil_of_le (by rw [← HK.out.2]; omega))
              rw [← HK.out.1, ← hw5] at h5
              clear hw5 g1 g2 g3 g4 g5 g6 q1 q2 q3 q4
              have HE := Lib.hid (show seenN E (seen.push x'.born) (fun e => pn e.vs t) = N + n from by
                obtain ⟨g1, g2, g3, g4, g5, g6⟩ := HX.out
                rw [g4, HSN.out, ← g5, ← HN.out])
              have HME := Lib.hid (show unseen E (W5.iterSeen r) < unseen E (wr.iterSeen r) from by
                obtain ⟨g1, g2, g3, g4, g5, g6⟩ := HX.out
                rw [iterSeen_at h5.it, HM.out.2, g4]
                exact HM.out.1)
              have H5 := Lib.hid h5
              clear h5
              go_wp2_with fail
              go_roundw
              case rel => exact ⟨_, _, H5.out, by rw [HE.out]; first | go_num | simp⟩
              case measure => exact HME.out
            · go_wp2_with fail
              clear hx1 hx2 hx4 hx5
              obtain ⟨g1, g2, g3, g4, g5, g6⟩ := HX.out
              obtain ⟨q1, q2, q3, q4⟩ := HQ.out
              refine (set_del B S m clock ln E' k _ _ W4 H4.out.sto).mono ?_
              rintro e W5 ⟨rfl, hw5⟩
              have h5 := H4.out.del HH.out.ok g2 g3 g4.symm (by rw [HFX.out]; exact List.drop_eq_nil_of_le (by rw [← HK.out.2]; omega))
              rw [← HK.out.1, ← hw5] at h5
              clear hw5 g1 g2 g3 g4 g5 g6 q1 q2 q3 q4
              have HE := Lib.hid (show seenN E (seen.push x'.born) (fun e => pn e.vs t) = N + n from by
                obtain ⟨g1, g2, g3, g4, g5, g6⟩ := HX.out
                rw [g4, HSN.out, ← g5, ← HN.out])
              have HME := Lib.hid (show unseen E (W5.iterSeen r) < unseen E (wr.iterSeen r) from by
                obtain ⟨g1, g2, g3, g4, g5, g6⟩ := HX.out
                rw [iterSeen_at h5.it, HM.out.2, g4]
                exact HM.out.1)
              have H5 := Lib.hid h5
              clear h5
              go_wp2_with fail
              go_roundw
              case rel => exact ⟨_, _, H5.out, by rw [HE.out]; first | go_num | simp⟩
              case measure => exact HME.out
        | false =>
          rw [hd] at cp
          have hn1 : n = p := by rw [hd, if_neg (by simp)] at hq; rw [hq, hp]
          have hnlt : n < ln := by omega
          clear hq hd hpl hp
          subst hn1
          have hfx : pruneF t x.vs = x'.vs.drop n := by obtain ⟨_, _, _, _, g5, _⟩ := HX.out; rw [← g5, HN.out]; rfl
          have w2 : IntKind.i64.wrap ((N : Int) + (n : Int)) = ((N + n : Nat) : Int) := by rw [IntKind.wrap_i64]; omega
          have HFX := Lib.hid hfx
          clear hfx
          rcases Nat.eq_zero_or_pos n with h1 | h1
          · have HN0 := Lib.hid h1
            have HNP := Lib.hid (show True from trivial)
            subst h1
            go_wp2_with fail
            obtain ⟨g1, g2, g3, g4, g5, g6⟩ := HX.out
            obtain ⟨q1, q2, q3, q4⟩ := HQ.out
            refine (set_same S ln ln k _ vc W4 hl0 (Nat.le_refl _)).mono ?_
            rintro e W5 ⟨rfl, hw5⟩
            have h5 := H4.out.same HH.out.ok g2 g4.symm (by rw [← g4]; exact HSX.out) (by rw [HFX.out, List.drop_zero, g5])
            rw [← hw5] at h5
            clear hw5 g1 g2 g3 g4 g5 g6 q1 q2 q3 q4
            have HE := Lib.hid (show seenN E (seen.push x'.born) (fun e => pn e.vs t) = N + 0 from by
              obtain ⟨g1, g2, g3, g4, g5, g6⟩ := HX.out
              rw [g4, HSN.out, ← g5, ← HN.out])
            have HME := Lib.hid (show unseen E (W5.iterSeen r) < unseen E (wr.iterSeen r) from by
              obtain ⟨g1, g2, g3, g4, g5, g6⟩ := HX.out
              rw [iterSeen_at h5.it, HM.out.2, g4]
              exact HM.out.1)
            have H5 := Lib.hid h5
            clear h5
            go_wp2_with fail
            go_roundw
            case rel => exact ⟨_, _, H5.out, by rw [HE.out]; first | go_num | simp⟩
            case measure => exact HME.out
          · have hx1 : (n : Int) ≤ (ln : Int) := by omega
            have hx2 : (ln : Int) ≤ (vc : Int) := by omega
            have hx3 : ¬ (vc = n) := by omega
            have hx4 : (0 : Int) ≤ (n : Int) := by omega
            go_wp2_with fail
            clear hx1 hx2 hx3 hx4
            obtain ⟨g1, g2, g3, g4, g5, g6⟩ := HX.out
            obtain ⟨q1, q2, q3, q4⟩ := HQ.out
            have hlv : (x'.vs.drop n).length = ln - n := by rw [List.length_drop, ← HK.out.2]
            have hset := set_put B S m clock ln g (n * 3) (vc - n) E' k (x'.vs.drop n) W4 H4.out.sto (by rw [hlv]; omega) (by rw [hlv]; omega) (by rw [hlv]; omega) (fun j u hj => vr_piece (g := g) (M := x'.vs.drop n) n (fun i hi => by
              rw [hlv] at hi
              exact ⟨by rw [← HK.out.2]; omega, by rw [List.getElem_drop]⟩) HC4.out j u hj)
            rw [hlv] at hset
            refine hset.mono ?_
            rintro e W5 ⟨rfl, v, W6, hr6, hb6, hw5⟩
            have h5 := H4.out.put HH.out.ok g1 g2 g3 g4 g4.symm (v := v) (X1 := W6) (by rw [HFX.out]; exact hr6) hb6 (by rw [HFX.out]; exact fun e => by rw [e] at hlv; simp at hlv; omega) (by rw [HFX.out]; exact List.Pairwise.sublist (List.drop_sublist _ _) q2) (by rw [HFX.out]; exact fun y hy => q3 y (List.mem_of_mem_drop hy)) (by rw [HFX.out, hlv]; have := HK.out.2; omega) (Nat.le_trans hB H4.out.kept.size)
            rw [HFX.out, ← HK.out.1, ← hw5] at h5
            clear hset hr6 hb6 hlv
            clear hw5 g1 g2 g3 g4 g5 g6 q1 q2 q3 q4
            have HE := Lib.hid (show seenN E (seen.push x'.born) (fun e => pn e.vs t) = N + n from by
              obtain ⟨g1, g2, g3, g4, g5, g6⟩ := HX.out
              rw [g4, HSN.out, ← g5, ← HN.out])
            have HME := Lib.hid (show unseen E (W5.iterSeen r) < unseen E (wr.iterSeen r) from by
              obtain ⟨g1, g2, g3, g4, g5, g6⟩ := HX.out
              rw [iterSeen_at h5.it, HM.out.2, g4]
              exact HM.out.1)
            have H5 := Lib.hid h5
            clear h5
            go_wp2_with fail
            go_roundw
            case rel => exact ⟨_, _, H5.out, by rw [HE.out]; first | go_num | simp⟩
            case measure => exact HME.out
end Go.Proofs.Ytpcjmceakelilaa
/- Mvcc: Clone. -/
namespace Go.Proofs.Ytpcjmceakelilaa
open Go.ChangeShapes Go.WideShapes Go.ChangeAt Go.RowKit Go.Deep Go.ChangeMaps Go.Shelf
set_option linter.unusedVariables false
set_option linter.unusedSimpArgs false
/-- what a copy holds, of what has been met -/
structure Cpy (E EC : List En) (seen : Array Nat) : Prop where
  back : ∀ e' ∈ EC, ∃ e ∈ E, e'.key = e.key ∧ e'.vs = e.vs ∧ seen.contains e.born = true
  forth : ∀ e ∈ E, seen.contains e.born = true → ∃ e' ∈ EC, e'.key = e.key ∧ e'.vs = e.vs
theorem Cpy.start (E : List En) : Cpy E [] #[] := ⟨fun e he => (by cases he), fun e he h => by simp at h⟩
theorem Cpy.put {E EC : List En} {seen : Array Nat} {c cc : Nat} (h : Cpy E EC seen) (hE : EnOK E c) {x : En} (hx : x ∈ E) (hs : seen.contains x.born = false) (v : Value) :
    Cpy E (putE EC cc x.key v x.vs) (seen.push x.born) := by
  have hl : lkE EC x.key = none := by
    cases hl : lkE EC x.key with
    | none => rfl
    | some y =>
      obtain ⟨h1, h2⟩ := lkE_mem hl
      obtain ⟨e, he, h3, _, h5⟩ := h.back y h1
      have := nodup_inj hE.keys he hx (by rw [← h3, h2])
      subst this
      rw [hs] at h5; cases h5
  have e1 : putE EC cc x.key v x.vs = EC ++ [⟨x.key, x.vs, v, cc⟩] := by unfold putE; rw [hl]
  rw [e1]
  refine ⟨fun e' he' => ?_, fun e he hse => ?_⟩
  · rcases List.mem_append.1 he' with he' | he'
    · obtain ⟨e, he, h1, h2, h3⟩ := h.back e' he'
      exact ⟨e, he, h1, h2, by rw [contains_push, h3, Bool.true_or]⟩
    · rw [List.mem_singleton.1 he']
      exact ⟨x, hx, rfl, rfl, by rw [contains_push, beq_self_eq_true, Bool.or_true]⟩
  · by_cases hex : e = x
    · subst hex; exact ⟨_, List.mem_append_right _ (List.mem_singleton.2 rfl), rfl, rfl⟩
    · have hb : (e.born == x.born) = false := beq_eq_false_iff_ne.2 (fun e2 => hex (nodup_inj hE.borns he hx e2))
      rw [contains_push, hb, Bool.or_false] at hse
      obtain ⟨e', he', h1, h2⟩ := h.forth e he hse
      exact ⟨e', List.mem_append_left _ he', h1, h2⟩
/-- the state in the loop of Clone -/
structure CW (B0 S m r clock C mc : Nat) (E : List En) (W : World) (seen : Array Nat) (EC : List En) (cc : Nat) (X : World) : Prop where
  cpy : Cpy E EC seen
  sto : Sto B0 X C mc EC cc
  it : IterAt X r m clock seen clock
  b : Below W.heap.size W X
  rr : W.heap.size ≤ r
  off : ∀ j, Foot C mc EC j → j ≠ r
def CloneOut (E : List En) (W : World) (e : Ending) (W' : World) : Prop :=
  ∃ C mc EC cc seen, e = .returned (.pointer (some ⟨C, 0, none⟩)) ∧ Sto W.heap.size W' C mc EC cc ∧ Cpy E EC seen ∧ (∀ e ∈ E, seen.contains e.born = true) ∧ Below W.heap.size W W'
set_option maxRecDepth 100000 in
set_option maxHeartbeats 3200000 in
theorem clone_any (B S m clock : Nat) (E : List En) (W : World) (h : Sto B W S m E clock) :
    Calls Try.prog 28 #[.pointer (some ⟨S, 0, none⟩)] W (CloneOut E W) := by
  have HH := Lib.hid h
  clear h
  go_enter Try.func28, Try.ntmps28
  go_wp2_with fail
  refine (new_any W).mono ?_
  rintro e W1 ⟨rfl, hs1, hb1⟩
  have h1 := HH.out.below hb1
  have a0 := h1.c0
  have hrg := run_range_E h1.map
  have hcw : CW W.heap.size S m W1.heap.size clock (W.heap.size + 1) W.heap.size E W #[] [] 0 (W1.alloc (.mapIter (some m) clock #[] clock)) :=
    ⟨Cpy.start E, hs1.below ((Below.refl _ W1).alloc (Nat.le_refl _) _), heap_alloc_new W1 _, hb1.alloc hb1.size _, hb1.size, fun j hj e => by have := (hs1.foot hj).2; omega⟩
  have H0 := Lib.hid hcw
  clear hs1 hb1 h1 hcw
  generalize W.heap.size + 1 = C at *
  generalize hmc : W.heap.size = mc at H0
  have HMC := Lib.hid hmc
  clear hmc
  go_wp2_with fail
  clear a0 hrg
  generalize W1.heap.size = r at H0 ⊢
  generalize W1.alloc (.mapIter (some m) clock #[] clock) = W2 at H0 ⊢
  go_loopw [] (fun wr => ∃ seen EC cc, CW W.heap.size S m r clock C mc E W seen EC cc wr) (fun wr => unseen E (wr.iterSeen r))
  case atStart => exact ⟨#[], [], 0, by rw [HMC.out]; exact H0.out⟩
  case round =>
    clear H0
    obtain ⟨seen, EC, cc, hcw⟩ := hrel
    have HC := Lib.hid hcw
    have hm : MapAt wr m E clock := (HH.out.below hcw.b).map
    have hms := iterSeen_at hcw.it
    rcases run_next_E hm hcw.it HH.out.ok.lt (Nat.le_refl _) 0 with ⟨hall, hrun⟩ | ⟨x, hx, hsx, W2', hW2, hrun⟩
    · have HA := Lib.hid hall
      clear hall hms hcw hm
      go_wp2_with fail
      go_ret
      exact ⟨C, mc, EC, cc, seen, rfl, HC.out.sto, HC.out.cpy, HA.out, HC.out.b⟩
    · obtain ⟨W3, hW3⟩ : ∃ W3, W3 = setBlock W2' r (.mapIter (some m) clock (seen.push x.born) clock) := ⟨_, rfl⟩
      rw [← hW3] at hrun
      have hk3 : Kept (fun j => j = r) wr W3 := by rw [hW3]; exact setBlock_kept (kept_drew' (Kept.refl _ wr) hW2) r _ (.inl rfl)
      have hit3 : IterAt W3 r m clock (seen.push x.born) clock := by rw [hW3]; exact iter_set (iter_drew hcw.it hW2)
      have hb3 : Below W.heap.size W W3 := hcw.b.trans (hk3.below hcw.b.size (fun j e => by rw [e]; exact hcw.rr))
      have hs3 : Sto W.heap.size W3 C mc EC cc := hcw.sto.kept hk3 (fun j hj e => hcw.off j hj e)
      have hSW := HH.out.below hb3
      have hent := run_entry_E hSW.map hit3 hx HH.out.ok.borns
      obtain ⟨hrow, hne, hasc, hbd, hlen⟩ := hSW.rows x hx
      obtain ⟨g, vc, hval, hgc, hcc, hgl, hcell⟩ := hrow.get (List.length_pos_iff.2 hne)
      rw [hval] at hrun hent
      have hmeas := unseen_push E seen x hsx HH.out.ok.borns hx
      have HM := Lib.hid (And.intro hmeas hms)
      have HX := Lib.hid (And.intro hx (And.intro hsx (And.intro hne (And.intro hasc (And.intro hbd hlen)))))
      have H3 := Lib.hid (And.intro hit3 (And.intro hb3 (And.intro hcw.cpy (And.intro hcw.rr hcw.off))))
      have HCS : Hid (Sto W.heap.size W3.drew C mc EC cc) := Lib.hid hs3.drew
      have HCE := Lib.hid (show ∀ j u, (vrv x.vs)[j]? = some u → W3.drew.cell? ⟨g, j, none⟩ = some u from fun j u hj => by
        have := vr_piece (W := W3) (g := g) (M := x.vs) 0 (fun i hi => ⟨by omega, by simp⟩) hcell j u hj
        rw [Nat.zero_mul, Nat.zero_add] at this
        exact this)
      have c0 : W3.drew.cell? ⟨C, 0, none⟩ = some (.map (some mc)) := hs3.c0
      have hm3 : MapAt W3.drew mc EC cc := hs3.map
      obtain ⟨k, hk⟩ : ∃ k, k = x.key := ⟨_, rfl⟩
      obtain ⟨ln, hln⟩ : ∃ ln, ln = x.vs.length := ⟨_, rfl⟩
      rw [← hk] at hrun hent
      rw [← hln] at hrun hent hlen
      have HLN := Lib.hid hln
      have HKK := Lib.hid hk
      have c0' : W3.cell? ⟨C, 0, none⟩ = some (.map (some mc)) := hs3.c0
      clear hcw hm hms hx hsx hW3 hW2 hk3 hit3 hb3 hs3 hSW hrow hne hasc hbd hcell hval hmeas hk hln HC
      go_wp2_with fail
      refine wp_region_ordW 8 7 [(0, 0), (1, 0), (2, 0), (3, 1), (4, 0), (5, 0), (6, 2), (7, 3)] (fun X => X.cell? ⟨C, 0, none⟩ = some (.map (some mc)) ∧ MapAt X mc EC cc) (by kernel_rfl) (by kernel_rfl) ⟨c0, hm3⟩ (fun c a d v w h => by cases d <;> exact h) ?_
      apply wpOrd_read0
      case hi => rfl
      case hw => rfl
      case hy => (intro w; go_simp; try rfl)
      intro K hK; go_simp; refine hK _ _ ?_; clear hK K
      apply wpOrd_read0
      case hi => rfl
      case hw => rfl
      case hy => (intro w; go_simp; try rfl)
      intro K hK; go_simp; refine hK _ _ ?_; clear hK K
      apply wpOrd_read0
      case hi => rfl
      case hw => rfl
      case hy => (intro w; go_simp; try rfl)
      intro K hK; go_simp; refine hK _ _ ?_; clear hK K
      apply wpOrd_read1
      case hi => rfl
      case hw => rfl
      case hy => (intro w hw; obtain ⟨h1, h2⟩ := hw; go_simp; try rfl)
      intro K hK; go_simp; refine hK _ _ ?_; clear hK K
      apply wpOrd_read0
      case hi => rfl
      case hw => rfl
      case hy => (intro w; go_simp; try rfl)
      intro K hK; go_simp; refine hK _ _ ?_; clear hK K
      apply wpOrd_read0
      case hi => rfl
      case hw => rfl
      case hy => (intro w; go_simp; try rfl)
      intro K hK; go_simp; refine hK _ _ ?_; clear hK K
      apply wpOrd_eff2
      case hi => rfl
      case hw => rfl
      intro K hK
      go_simp
      refine (cloneV g 0 ln vc x.vs _ HLN.out.symm (by omega) (fun j u hj => by rw [Nat.zero_add]; exact HCE.out j u hj)).mono ?_
      rintro e W4 ⟨v, rfl, hrow, hb⟩
      have hst4 := HCS.out.below hb
      have hup := run_upd hst4.map hst4.ok.keys k v x.vs
      have b0 := hst4.c0
      have m4 := hst4.map
      have HB := Lib.hid (And.intro hrow (And.intro hb hst4))
      clear hrow hb hst4
      refine hK _ _ ⟨b0, m4⟩ ?_
      clear hK K
      apply wpOrd_eff3
      case hi => rfl
      case hw => rfl
      intro K hK
      go_simp
      refine hK _ _ (wpOrd_nil ?_)
      clear hK K

      try clear c0 hm3 hup b0 m4 hrun hent c0'
      have HF := Lib.hid (show CW W.heap.size S m r clock C mc E W (seen.push x.born) (putE EC cc k v x.vs) (putC EC cc k) (setBlock W4 mc (.map (esOf (putE EC cc k v x.vs)) (putC EC cc k))) from by
        obtain ⟨x1, x2, x3, x4, x5, x6⟩ := HX.out
        obtain ⟨y1, y2, y3, y4, y5⟩ := H3.out
        obtain ⟨hrow, hb, hst4⟩ := HB.out
        have hmc4 := HCS.out.map.lt
        have hkk := HKK.out
        have hput := HCS.out.put (kept_below hb) k v x.vs (fun _ h => h.elim) (fun _ h => h.elim) (hrow.base y2.size) x3 x4 x5 x6 (fun j hj => by
          have h1 := (hrow.lt j hj).1
          exact ⟨fun e => by have := HCS.out.box.lt; omega, fun e => by omega, fun e he _ e2 => by have := ((HCS.out.rows e he).1.lt j e2).2; omega⟩)
        have hks : Kept (fun j => j = mc) W4 (setBlock W4 mc (.map (esOf (putE EC cc k v x.vs)) (putC EC cc k))) := setBlock_kept (Kept.refl _ W4) mc _ (.inl rfl)
        have hmr := y5 mc (.inr (.inl rfl))
        have hbw : Below W.heap.size W W4 := y2.drew.trans (hb.mono y2.size)
        refine ⟨by rw [hkk]; exact y3.put HH.out.ok x1 x2 v, hput, (IterAt.kept (W := W3.drew) y1 (kept_below hb) (fun h => h)).kept hks (fun e => hmr e.symm), hbw.trans (hks.below hbw.size (fun j e => by rw [e]; exact HCS.out.bm)), y4, fun j hj => ?_⟩
        rcases hj with hj | hj | ⟨e, he, hj⟩
        · exact y5 j (.inl hj)
        · exact y5 j (.inr (.inl hj))
        · rcases putE_mem HCS.out.ok.keys he with ⟨he, _⟩ | ⟨_, e2, _⟩
          · exact y5 j (.inr (.inr ⟨e, he, hj⟩))
          · rw [e2] at hj
            have h1 := (hrow.lt j hj).1
            have h2 : r < W3.heap.size := y1.lt
            have h3 : W3.drew.heap.size = W3.heap.size := rfl
            intro e; omega)
      go_wp2_with fail
      go_roundw
      case rel => exact ⟨_, _, _, HF.out⟩
      case measure => rw [iterSeen_at HF.out.it, HM.out.2]; exact HM.out.1
end Go.Proofs.Ytpcjmceakelilaa
/- Mvcc: rows of keys; slices.Sort on them. -/
namespace Go.Proofs.Ytpcjmceakelilaa
open Go.ChangeShapes Go.WideShapes Go.ChangeAt Go.RowKit Go.Deep Go.ChangeMaps Go.Shelf Go.Sort
set_option linter.unusedVariables false
set_option linter.unusedSimpArgs false
/-- a row of keys of one's own -/
def KRow (B : Nat) (W : World) (v : Value) (ks : List Bs) : Prop := W.ownsRow B 9 1 v ks.length (ks.map Value.string)
theorem KRow.nil (B : Nat) (W : World) : KRow B W (.slice none 0 0) [] := World.ownsRow_nil _ _ _ _
theorem KRow.len {B : Nat} {W : World} {v : Value} {ks : List Bs} (h : KRow B W v ks) : ∃ a c, v = .slice a ks.length c := by
  rcases h.2 with ⟨rfl, h1⟩ | ⟨g, c, cur, rfl, _⟩
  · rw [h1]; exact ⟨none, 0, rfl⟩
  · exact ⟨_, _, rfl⟩
theorem KRow.lt {B : Nat} {W : World} {v : Value} {ks : List Bs} (h : KRow B W v ks) : ∀ k, v.ownBlock = some k → B ≤ k ∧ k < W.heap.size := World.ownsRow.lt h
theorem KRow.same {B : Nat} {W W' : World} {v : Value} {ks : List Bs} (h : KRow B W v ks) (hk : ∀ k, v.ownBlock = some k → W'.heap[k]? = W.heap[k]?) : KRow B W' v ks := by
  refine ⟨h.1, ?_⟩
  rcases h.2 with h1 | ⟨g, c, cur, rfl, h1, h2, h3⟩
  · exact .inl h1
  · exact .inr ⟨g, c, cur, rfl, h1, by rw [hk g rfl]; exact h2, h3⟩
theorem KRow.get {B : Nat} {W : World} {v : Value} {ks : List Bs} (h : KRow B W v ks) (h0 : 0 < ks.length) : ∃ g c cur, v = .slice (some ⟨g, 0, none⟩) ks.length c ∧ ks.length ≤ c ∧ c ≤ 9223372036854775807 ∧ W.heap[g]? = some (.cells cur 9 (0, 0)) ∧ B ≤ g ∧ ∀ j (h : j < ks.length), W.cell? ⟨g, j, none⟩ = some (.string ks[j]) := by
  have h0' : W.ownsRow B 9 1 v ks.length (ks.map Value.string) := h
  rcases h.2 with ⟨_, h1⟩ | ⟨g, c, cur, rfl, h1, h2, h3, h4, h5, h6⟩
  · omega
  · refine ⟨g, c, cur, rfl, h3, by unfold maxLen at h4; omega, h2, h1, fun j hj => ?_⟩
    rw [h0'.cellAt j (by omega), List.getElem?_map, List.getElem?_eq_getElem hj]
    rfl
def toL (k : Bs) : List UInt8 := k.data.toList
def ofL (l : List UInt8) : Bs := ⟨l.toArray⟩
theorem ofL_toL (k : Bs) : ofL (toL k) = k := by cases k; simp [ofL, toL]
theorem toL_ofL (l : List UInt8) : toL (ofL l) = l := by simp [ofL, toL]
theorem keys_enc (ks : List Bs) : ks.map Value.string = (ks.map toL).map encStr := by
  rw [List.map_map]
  refine List.map_congr_left (fun k _ => ?_)
  show Value.string k = .string (ofL (toL k))
  rw [ofL_toL]
def sortB (ks : List Bs) : List Bs := ((ks.map toL).mergeSort fun x y => decide (x ≤ y)).map ofL
theorem sortB_perm (ks : List Bs) : (sortB ks).Perm ks := by
  have h := (List.mergeSort_perm (ks.map toL) (fun x y => decide (x ≤ y))).map ofL
  rw [List.map_map] at h
  have e : ks.map (ofL ∘ toL) = ks := by
    rw [show (ofL ∘ toL) = id from funext ofL_toL]; simp
  rwa [e] at h
theorem lB_toL (a b : Bs) : lB a b = decide (toL a < toL b) := by
  unfold lB toL
  rw [bytesLess_eq, ByteArray.toList_eq, ByteArray.toList_eq]
theorem sortB_srt {ks : List Bs} (hn : ks.Nodup) : (sortB ks).Pairwise fun a b => lB a b = true := by
  have h1 := List.pairwise_mergeSort (le := fun x y : List UInt8 => decide (x ≤ y)) (fun a b c h1 h2 => by
    simp only [decide_eq_true_eq] at *
    exact List.le_trans h1 h2) (fun a b => by
    simp only [Bool.or_eq_true, decide_eq_true_eq]
    exact List.le_total a b) (ks.map toL)
  have h2 : (sortB ks).Nodup := (sortB_perm ks).nodup_iff.2 hn
  unfold sortB at h2 ⊢
  generalize (ks.map toL).mergeSort (fun x y => decide (x ≤ y)) = M at h1 h2 ⊢
  have h3 : M.Nodup := by
    unfold List.Nodup at h2 ⊢
    rw [List.pairwise_map] at h2
    exact h2.imp (fun h e => h (by rw [e]))
  rw [List.pairwise_map]
  refine (h1.and h3).imp (fun {a b} hab => ?_)
  have hle : ¬ b < a := by simpa using hab.1
  cases h : lB (ofL a) (ofL b) with
  | true => rfl
  | false =>
    have h5 : lB (ofL b) (ofL a) = false := by rw [lB_toL, toL_ofL, toL_ofL]; exact decide_eq_false hle
    have h6 := congrArg toL (lB_tri h h5)
    rw [toL_ofL, toL_ofL] at h6
    exact absurd h6 hab.2
theorem sort_keys (B : Nat) (v : Value) (ks : List Bs) (w : World) (hv : KRow B w v ks) (hl : ks.length ≤ 1000000) :
    Calls Try.prog 43 #[v] w fun e w' => e = .returned (.tuple #[]) ∧ KRow B w' v (sortB ks) ∧ Kept (fun k => v.ownBlock = some k) w w' := by
  have hsl : (sortB ks).length = ks.length := (sortB_perm ks).length_eq
  have hms : ((ks.map toL).mergeSort fun x y => decide (x ≤ y)).length = (ks.map toL).length := List.length_mergeSort _
  have hnil : ks.length = 0 → sortB ks = ks := fun h => by rw [List.eq_nil_of_length_eq_zero h]; simp [sortB]
  rcases hv.2 with ⟨rfl, h0⟩ | ⟨g, cap, cur, rfl, hbase, hb, h1, h2, h3, h4⟩
  · rw [hnil h0]
    refine (Try.slices_Sort_string_none _ _ _).mono ?_
    rintro e w1 ⟨rfl, rfl⟩
    exact ⟨rfl, hv, Kept.refl _ _⟩
  · by_cases hz : ks.length = 0
    · rw [hnil hz]
      rw [hz] at hv
      have hv' : KRow B w (.slice (some ⟨g, 0, none⟩) 0 cap) ks := hv
      rw [hz]
      refine (Try.slices_Sort_string_none _ _ _).mono ?_
      rintro e w1 ⟨rfl, rfl⟩
      exact ⟨rfl, hv', Kept.refl _ _⟩
    · have hm : (ks.map toL).length = ks.length := List.length_map ..
      have hh : Holds encStr w g 0 (ks.map toL).toArray := holds_of_block hb (by rw [Nat.mul_one] at h4; rw [hm, h4, keys_enc])
      have hc := Try.slices_Sort_string g 0 cap (ks.map toL) w hh (Array.getElem?_eq_some_iff.1 hb).1 (by omega)
      rw [hm] at hc
      refine hc.mono ?_
      rintro e w1 ⟨rfl, n, os, rfl⟩
      have hg : w.grownBy (grow (putRow encStr (Sort.ahead w n) g 0 ((ks.map toL).mergeSort fun x y => decide (x ≤ y)).toArray) os) (some g) := grownBy_sorted _
      have hO := ownsRow_sorted (n := n) (os := os) hms hbase hb (by rw [hm]; exact h1) h2 h3
      refine ⟨rfl, ?_, ⟨hg.os, hg.tape, hg.output, hg.size, fun k hk hs => hg.block k hk (fun e => hs e.symm)⟩⟩
      unfold KRow
      rw [hsl, keys_enc]
      have e : (sortB ks).map toL = (ks.map toL).mergeSort fun x y => decide (x ≤ y) := by
        unfold sortB
        rw [List.map_map, show (toL ∘ ofL) = id from funext toL_ofL]; simp
      rw [e]
      rw [hm] at hO
      exact hO
end Go.Proofs.Ytpcjmceakelilaa
/- Mvcc: the iterator that All returns. -/
namespace Go.Proofs.Ytpcjmceakelilaa
open Go.ChangeShapes Go.WideShapes Go.ChangeAt Go.RowKit Go.Deep Go.ChangeMaps Go.Shelf Go.Sort
set_option linter.unusedVariables false
set_option linter.unusedSimpArgs false
attribute [local go_sem] Oper.semAt_some
theorem wide_fn (k : Nat) : Fence.wide.fn k = True := rfl
attribute [local go_sem, local simp] wide_fn
def iv : Value → Nat
  | .int _ n => n.toNat
  | _ => 0
/-- rows of keys are kept -/
def KeepsStr (W W' : World) : Prop := ∀ (k : Nat) (cs : Array Value) (fr : Nat × Nat), W.heap[k]? = some (Obj.cells cs 9 fr) → W'.heap[k]? = some (Obj.cells cs 9 fr)
/-- what a round keeps: what lies below n₀, rows of keys, the blocks from b to c -/
def KpS (n₀ b c : Nat) (W W' : World) : Prop := Below n₀ W W' ∧ KeepsStr W W' ∧ ∀ k, b ≤ k → k < c → k < W.heap.size → W'.heap[k]? = W.heap[k]?
theorem KeepsStr.trans {A B C : World} (h : KeepsStr A B) (k : KeepsStr B C) : KeepsStr A C := fun i cs fr hi => k i cs fr (h i cs fr hi)
theorem KeepsStr.below {W W' : World} (h : Below W.heap.size W W') : KeepsStr W W' := fun k cs fr hk => (h.block k (Array.getElem?_eq_some_iff.1 hk).1).trans hk
theorem KpS.t {n₀ b c : Nat} {A B C : World} (h : KpS n₀ b c A B) (k : KpS n₀ b c B C) : KpS n₀ b c A C :=
  ⟨h.1.trans k.1, h.2.1.trans k.2.1, fun i h1 h2 h3 => (k.2.2 i h1 h2 (Nat.lt_of_lt_of_le h3 h.1.size)).trans (h.2.2 i h1 h2 h3)⟩
theorem KpS.below {n₀ b c : Nat} {W W' : World} (h : Below W.heap.size W W') (hn : n₀ ≤ W.heap.size) : KpS n₀ b c W W' := ⟨h.mono hn, KeepsStr.below h, fun k _ _ h3 => h.block k h3⟩
theorem KRow.str {B : Nat} {W W' : World} {v : Value} {ks : List Bs} (h : KRow B W v ks) (hk : KeepsStr W W') : KRow B W' v ks := by
  refine ⟨h.1, ?_⟩
  rcases h.2 with h1 | ⟨g, c, cur, rfl, h1, h2, h3⟩
  · exact .inl h1
  · exact .inr ⟨g, c, cur, rfl, h1, hk g cur _ h2, h3⟩
/-- the keys in order -/
def ordE (E : List En) : List Bs := sortB (E.map (·.key))
theorem sortB_congr {a b : List Bs} (h : a.Perm b) (hn : b.Nodup) : sortB a = sortB b := by
  have hna : a.Nodup := h.nodup_iff.2 hn
  refine List.Perm.eq_of_pairwise (le := fun a b => lB a b = true) (fun x y _ _ h1 h2 => ?_) (sortB_srt hna) (sortB_srt hn) ((sortB_perm a).trans (h.trans (sortB_perm b).symm))
  rw [lB_asymm h1] at h2; cases h2
/-- what All yields -/
def allK (E : List En) (ts : List Bs) : List (Bs × Ver) := ts.flatMap fun k => (lkL E k).map fun x => (k, x)
def encA (x : Bs × Ver) : Array Value := #[.string x.1, .agg #[.int .i64 x.2.1, .string x.2.2.1, .bool x.2.2.2]]
theorem allK_snoc (E : List En) (ts : List Bs) (k : Bs) : allK E (ts ++ [k]) = allK E ts ++ (lkL E k).map fun x => (k, x) := by simp [allK]
theorem allK_pre (E : List En) (ts : List Bs) {i j : Nat} (hi : i < ts.length) : allK E (ts.take i) ++ ((lkL E ts[i]).take j).map (fun x => (ts[i], x)) <+: allK E ts := by
  have h1 : allK E ts = allK E (ts.take i) ++ ((lkL E ts[i]).map (fun x => (ts[i], x)) ++ allK E (ts.drop (i + 1))) := by
    have e : ts = ts.take i ++ (ts[i] :: ts.drop (i + 1)) := by rw [List.getElem_cons_drop, List.take_append_drop]
    refine (congrArg (allK E) e).trans ?_
    unfold allK
    rw [List.flatMap_append, List.flatMap_cons]
  rw [h1]
  refine (List.prefix_append_right_inj _).2 ?_
  refine List.IsPrefix.trans ?_ (List.prefix_append _ _)
  exact (List.take_prefix _ _).map _
def SeqOut {α : Type} (ys : List α) (J Jx : List α → World → Prop) (e : Ending) (W' : World) : Prop :=
  (∃ v, e = .returned v) ∧ ((∃ xs, xs = ys ∧ J xs W') ∨ (∃ pre, pre <+: ys ∧ Jx pre W'))
theorem filter_seen_push {E : List En} {seen : Array Nat} {x : En} (hn : (E.map (·.born)).Nodup) (hx : x ∈ E) (hs : seen.contains x.born = false) :
    ((E.filter fun e => (seen.push x.born).contains e.born).map (·.key)).Perm ((E.filter fun e => seen.contains e.born).map (·.key) ++ [x.key]) := by
  have key : (E.filter fun e => (seen.push x.born).contains e.born).Perm ((E.filter fun e => seen.contains e.born) ++ [x]) := by
    induction E with
    | nil => cases hx
    | cons a E ih =>
      have hn' := List.nodup_cons.1 hn
      rcases List.mem_cons.1 hx with rfl | hx'
      · have h1 : (seen.push x.born).contains x.born = true := by rw [contains_push, beq_self_eq_true, Bool.or_true]
        have h2 : (E.filter fun e => (seen.push x.born).contains e.born) = E.filter fun e => seen.contains e.born := by
          refine List.filter_congr (fun e he => ?_)
          have : (e.born == x.born) = false := beq_eq_false_iff_ne.2 (fun e2 => hn'.1 (List.mem_map.2 ⟨e, he, e2⟩))
          rw [contains_push, this, Bool.or_false]
        rw [List.filter_cons, if_pos h1, List.filter_cons, if_neg (by rw [hs]; simp), h2]
        exact (List.perm_append_singleton x _).symm
      · have hne : (a.born == x.born) = false := beq_eq_false_iff_ne.2 (fun e2 => hn'.1 (List.mem_map.2 ⟨x, hx', e2.symm⟩))
        have h1 : (seen.push x.born).contains a.born = seen.contains a.born := by rw [contains_push, hne, Bool.or_false]
        have h2 := ih hn'.2 hx'
        rw [List.filter_cons, List.filter_cons, h1]
        split
        · exact h2.cons a
        · exact h2
  have := key.map (·.key)
  rwa [List.map_append] at this
/-- where an iterator over the keys stands -/
structure AS {α : Type} (n₀ r bt c S : Nat) (ts : List Bs) (v : Value) (J : List α → World → Prop) (W0 : World) (pre : List α) (X : World) : Prop where
  j : J pre X
  b : Below n₀ W0 X
  kr : KRow r X v ts
  cb : X.cell? ⟨bt, 0, none⟩ = some (.pointer (some ⟨S, 0, none⟩))
  bl : bt < X.heap.size
  nX : n₀ ≤ X.heap.size
theorem AS.below {α : Type} {n₀ r bt c S : Nat} {ts : List Bs} {v : Value} {J : List α → World → Prop} {W0 X X' : World} {pre : List α} (h : AS n₀ r bt c S ts v J W0 pre X) (hJ : ∀ pre W W', J pre W → Below W.heap.size W W' → J pre W') (hb : Below X.heap.size X X') : AS n₀ r bt c S ts v J W0 pre X' :=
  ⟨hJ _ _ _ h.j hb, h.b.trans (hb.mono h.nX), h.kr.str (KeepsStr.below hb), (hb.cell (p := ⟨bt, 0, none⟩) h.bl).trans h.cb, Nat.lt_of_lt_of_le h.bl hb.size, Nat.le_trans h.nX hb.size⟩
theorem AS.next {α : Type} {n₀ r bt c S : Nat} {ts : List Bs} {v : Value} {J : List α → World → Prop} {W0 X X' : World} {pre pre' : List α} (h : AS n₀ r bt c S ts v J W0 pre X) (hj : J pre' X') (hk : KpS n₀ bt c X X') (hc : bt < c) : AS n₀ r bt c S ts v J W0 pre' X' :=
  ⟨hj, h.b.trans hk.1, h.kr.str hk.2.1, by rw [World.cell?_of_block (a := ⟨bt, 0, none⟩) (hk.2.2 bt (Nat.le_refl _) hc h.bl)]; exact h.cb, Nat.lt_of_lt_of_le h.bl hk.1.size, Nat.le_trans h.nX hk.1.size⟩
theorem infoS : (Try.prog.info? 9).map (fun i => (i.zero, i.size, i.bytes)) = some (some (.string ⟨#[]⟩), 1, 16) := by kernel_rfl
set_option maxRecDepth 100000 in
set_option maxHeartbeats 3200000 in
theorem all1_any (m l n₀ c N bt B S mp clock : Nat) (E : List En) (J Jx : List (Bs × Ver) → World → Prop)
    (hY : ∀ m pre (x : Bs × Ver) W, J pre W → pre.length < N → YieldAt Fence.wide m Try.prog l (encA x) W fun e W' =>
      (e = .returned (.bool true) ∧ J (pre ++ [x]) W' ∧ KpS n₀ bt c W W') ∨ (e = .returned (.bool false) ∧ Jx (pre ++ [x]) W'))
    (hJ : ∀ pre W W', J pre W → Below W.heap.size W W' → J pre W') (hbc : bt < c)
    (W0 : World) (hst : Sto B W0 S mp E clock) (hfoot : ∀ k, Foot S mp E k → k < n₀) (hn0 : n₀ ≤ W0.heap.size) (hT : E.length ≤ 100000) (c1 : W0.cell? ⟨bt, 0, none⟩ = some (.pointer (some ⟨S, 0, none⟩))) (hbl : bt < W0.heap.size) (hj : J [] W0) (hN : (allK E (ordE E)).length ≤ N) :
    CallsIn Fence.wide m Try.prog 48 #[.func (.yield l) #[] #[], .pointer (some ⟨bt, 0, none⟩)] W0 (SeqOut (allK E (ordE E)) J Jx) := by
  have HH := Lib.hid hst
  have HYJ := Lib.hid (And.intro hY hJ)
  have H1 := Lib.hid (And.intro hfoot (And.intro hn0 (And.intro hj hN)))
  have hrg := run_range_E hst.map
  have a0 := hst.c0
  obtain ⟨i0, hi0, hz0, hz1, hz2⟩ := info_parts infoS
  clear hY hJ hst hfoot hn0 hj hN
  refine callsIn_of_wp Try.func48 rfl trivial ?_ rfl
  simp only [Try.ntmps48, List.size_toArray, List.length_cons, List.length_nil, Nat.reduceAdd, Nat.reduceSub, Array.replicate_succ, Array.replicate_zero, List.push_toArray, List.append_toArray, List.nil_append, List.cons_append]
  gi_wp2
  obtain ⟨r, hr⟩ : ∃ r, r = W0.heap.size := ⟨_, rfl⟩
  have hit : IterAt (W0.alloc (.mapIter (some mp) clock #[] clock)) r mp clock #[] clock := by rw [hr]; exact heap_alloc_new W0 _
  have hb1 : Below W0.heap.size W0 (W0.alloc (.mapIter (some mp) clock #[] clock)) := (Below.refl _ W0).alloc (Nat.le_refl _) _
  have H0 := Lib.hid (And.intro hit hb1)
  rw [← hr]
  have HR := Lib.hid hr
  have hbr : bt < r := by omega
  clear hit hb1 hr a0 hrg
  generalize W0.alloc (.mapIter (some mp) clock #[] clock) = W1 at H0 ⊢
  gi_loopw [3] (fun v wr => ∃ (seen : Array Nat) (ks : List Bs), KRow (r + 1) wr v ks ∧ ks.Perm ((E.filter fun e => seen.contains e.born).map (·.key)) ∧ IterAt wr r mp clock seen clock ∧ Below W0.heap.size W0 wr) (fun v wr => unseen E (wr.iterSeen r))
  case atStart => exact ⟨#[], [], KRow.nil _ _, by simp, H0.out.1, H0.out.2⟩
  case round =>
    clear H0
    obtain ⟨seen, ks, hkr, hperm, hit, hb⟩ := hrel
    have hsW := HH.out.below hb
    have hms := iterSeen_at hit
    obtain ⟨va, vc, rfl⟩ := hkr.len
    have hkl : ks.length ≤ 100000 := by
      rw [hperm.length_eq, List.length_map]
      exact Nat.le_trans (List.length_filter_le _ _) hT
    rcases run_next_E hsW.map hit hsW.ok.lt (Nat.le_refl _) 0 with ⟨hall, hrun⟩ | ⟨x, hx, hsx, W2, hW2, hrun⟩
    · have hperm2 : ks.Perm (E.map (·.key)) := by
        rw [List.filter_eq_self.2 (fun e he => hall e he)] at hperm
        exact hperm
      have HS := Lib.hid (And.intro (sortB_congr hperm2 HH.out.ok.keys) (And.intro hb hkr))
      have hsl : (sortB ks).length = ks.length := (sortB_perm ks).length_eq
      have HSL := Lib.hid hsl
      clear hall hms hperm hit hsW hperm2 hsl hb
      gi_wp2
      refine ⟨fun h => (by cases h), (callsIn_wide.2 (sort_keys (r + 1) (.slice va ks.length vc) ks wr hkr (by omega))).mono ?_⟩
      rintro e W3 ⟨rfl, hkr3, hk3⟩
      have hlt : ks.length = (ordE E).length := by rw [← HSL.out, HS.out.1]; rfl
      have hkr4 : KRow (r + 1) W3 (.slice va ks.length vc) (ordE E) := by
        have := hkr3
        rw [HS.out.1] at this
        exact this
      have hb4 : Below W0.heap.size W0 W3 := HS.out.2.1.trans (hk3.below HS.out.2.1.size (fun j e => by have := (HS.out.2.2.lt j e).1; have := HR.out; omega))
      have has : AS n₀ (r + 1) bt c S (ordE E) (.slice va ks.length vc) J W0 [] W3 :=
        ⟨HYJ.out.2 _ _ _ H1.out.2.2.1 hb4, hb4.mono H1.out.2.1, hkr4, (hb4.cell (p := ⟨bt, 0, none⟩) hbl).trans c1, Nat.lt_of_lt_of_le hbl hb4.size, Nat.le_trans H1.out.2.1 hb4.size⟩
      have HA := Lib.hid has
      clear hkr3 hk3 hkr4 hb4 has hkr HS HSL c1
      generalize ks.length = tn at *
      have htl : tn ≤ 100000 := hkl
      obtain ⟨ts, hts⟩ : ∃ ts, ts = ordE E := ⟨_, rfl⟩
      rw [← hts] at HA hlt
      have HTS := Lib.hid hts
      clear hts hkl
      gi_wp2
      gi_loopw [28] (fun i wr => ∃ n : Nat, i = .int .i64 n ∧ n ≤ tn ∧ Hid (AS n₀ (r + 1) bt c S ts (.slice va tn vc) J W0 (allK E (ts.take n)) wr)) (fun i wr => tn - iv i)
      case atStart => exact ⟨0, rfl, Nat.zero_le _, HA⟩
      case round =>
        clear HA
        obtain ⟨n, rfl, hn, HA⟩ := hrel
        by_cases hlast : n = tn
        · subst hlast
          have e : ts.take n = ts := List.take_of_length_le (by omega)
          gi_wp2
          go_end0
          exact ⟨⟨_, rfl⟩, .inl ⟨_, rfl, by have := HA.out.j; rw [e, HTS.out] at this; exact this⟩⟩
        · have hnl : n < ts.length := by omega
          have hnt : n < tn := by omega
          obtain ⟨kg, kc, cur, hve, _, _, _, _, hkc⟩ := HA.out.kr.get (by omega)
          have hka : va = some ⟨kg, 0, none⟩ := by cases hve; rfl
          subst hka
          have ck := hkc n hnl
          have cb := HA.out.cb
          have hst := HH.out.kept (T := fun k => ¬ k < n₀) ⟨HA.out.b.os, HA.out.b.tape, HA.out.b.output, HA.out.b.size, fun j hj hs => HA.out.b.block j (Decidable.not_not.1 hs)⟩ (fun j hj hs => hs (H1.out.1 j hj))
          have a0 := hst.c0
          have hlk := run_look hst.map ts[n]
          obtain ⟨hrow, hasc, hbd, hlen⟩ := hst.row ts[n]
          obtain ⟨la, lc, hlv⟩ := hrow.len
          rw [hlv] at hlk
          have HL := Lib.hid hlv
          have HPRE := Lib.hid (fun j => allK_pre E ts (i := n) (j := j) hnl)
          have HSN := Lib.hid (show allK E (ts.take (n + 1)) = allK E (ts.take n) ++ (lkL E ts[n]).map (fun x => (ts[n], x)) from by rw [List.take_succ_eq_append_getElem hnl, allK_snoc])
          clear hkc hve hrow hasc hbd hlast hlv hst
          have hw1 : IntKind.i64.wrap ((n : Int) + 1) = ((n + 1 : Nat) : Int) := by rw [IntKind.wrap_i64]; omega
          generalize ts[n] = key at *
          obtain ⟨ln, hln⟩ : ∃ ln, ln = (lkL E key).length := ⟨_, rfl⟩
          rw [← hln] at hlk hlen
          have HLN := Lib.hid hln
          clear hln
          gi_wp2
          clear ck a0 hlk cb
          gi_loopw [39] (fun i wr => ∃ j : Nat, i = .int .i64 j ∧ j ≤ ln ∧ Hid (AS n₀ (r + 1) bt c S ts (.slice (some ⟨kg, 0, none⟩) tn vc) J W0 (allK E (ts.take n) ++ ((lkL E key).take j).map (fun x => (key, x))) wr)) (fun i wr => ln - iv i)
          case atStart => exact ⟨0, rfl, Nat.zero_le _, Lib.hid (by rw [List.take_zero, List.map_nil, List.append_nil]; exact HA.out)⟩
          case round =>
            clear HA
            obtain ⟨j, rfl, hj, HA⟩ := hrel
            by_cases hjl : j = ln
            · subst hjl
              have HA2 : Hid (AS n₀ (r + 1) bt c S ts (.slice (some ⟨kg, 0, none⟩) tn vc) J W0 (allK E (ts.take (n + 1))) wr) := Lib.hid (by
                rw [HSN.out]
                have := HA.out
                rw [HLN.out, List.take_length] at this
                exact this)
              clear HA
              gi_wp2
              go_roundw
              case rel => exact ⟨n + 1, by first | rfl | (push_cast; rfl), hnt, HA2⟩
              case measure => show tn - (((n + 1 : Nat) : Int).toNat) < tn - ((n : Int)).toNat; omega
            · have hjlt : j < ln := by omega
              have hst := HH.out.kept (T := fun k => ¬ k < n₀) ⟨HA.out.b.os, HA.out.b.tape, HA.out.b.output, HA.out.b.size, fun j hj hs => HA.out.b.block j (Decidable.not_not.1 hs)⟩ (fun j hj hs => hs (H1.out.1 j hj))
              have hrow := (hst.row key).1
              have hjL : j < (lkL E key).length := by rw [← HLN.out]; exact hjlt
              obtain ⟨g, gc, hve, _, _, hgl, hcell⟩ := hrow.get (by omega)
              have hla : la = some ⟨g, 0, none⟩ := by have := HL.out; rw [hve] at this; cases this; rfl
              subst hla
              obtain ⟨e0, e1, e2⟩ := hcell j hjL
              have HPJ := Lib.hid (show (allK E (ts.take n) ++ ((lkL E key).take (j + 1)).map (fun x => (key, x))) = (allK E (ts.take n) ++ ((lkL E key).take j).map (fun x => (key, x))) ++ [(key, (lkL E key)[j])] from by
                rw [List.take_succ_eq_append_getElem hjL, List.map_append, List.append_assoc]; rfl)
              have hpl : (allK E (ts.take n) ++ ((lkL E key).take j).map (fun x => (key, x))).length < N := by
                have h1 := (HPRE.out (j + 1)).length_le
                rw [HPJ.out, List.length_append] at h1
                have h2 := H1.out.2.2.2
                rw [← HTS.out] at h2
                simp only [List.length_cons, List.length_nil] at h1
                omega
              have HPL := Lib.hid hpl
              have HXV := Lib.hid (rfl : (lkL E key)[j] = (lkL E key)[j])
              obtain ⟨x, hx⟩ : ∃ x, x = (lkL E key)[j] := ⟨_, rfl⟩
              rw [← hx] at e0 e1 e2 HPJ
              have HST := Lib.hid (And.intro hst hgl)
              clear hcell hve hrow hx hpl hst HXV hgl
              have hw2 : IntKind.i64.wrap ((j : Int) + 1) = ((j + 1 : Nat) : Int) := by rw [IntKind.wrap_i64]; omega
              obtain ⟨xs, xv, xd⟩ := x
              have HB8 := Lib.hid (show Below wr.heap.size wr (wr.alloc (.cells #[.int .i64 xs, .string xv, .bool xd] 72)) from (Below.refl _ _).alloc (Nat.le_refl _) _)
              have HA8 := Lib.hid (HA.out.below HYJ.out.2 HB8.out)
              obtain ⟨f1, t1, a1, b1, hy1, hR1⟩ := HYJ.out.1 (m - 1) _ (key, xs, xv, xd) _ HA8.out.j HPL.out
              have hy : (Instr.yield l #[.string key, .agg #[.int .i64 xs, .string xv, .bool xd]]).run Try.prog _ = .ok (.round l f1 t1 a1 b1) _ := hy1
              have HR1 := Lib.hid hR1
              clear hR1 hy1
              gi_wp2
              refine ⟨fun h => (by cases h), HR1.out.mono ?_⟩
              clear HR1 hy
              rintro e W5 (⟨rfl, hJ2, hk2⟩ | ⟨rfl, hx2⟩)
              · have HA5 : Hid (AS n₀ (r + 1) bt c S ts (.slice (some ⟨kg, 0, none⟩) tn vc) J W0 (allK E (ts.take n) ++ ((lkL E key).take (j + 1)).map (fun x => (key, x))) W5) := Lib.hid (by rw [HPJ.out]; exact HA8.out.next hJ2 hk2 hbc)
                clear hJ2 hk2 HA HA8 HB8
                gi_wp2
                go_roundw
                case rel => exact ⟨j + 1, by first | rfl | (push_cast; rfl), hjlt, HA5⟩
                case measure => show ln - (((j + 1 : Nat) : Int).toNat) < ln - ((j : Int)).toNat; omega
              · gi_wp2
                refine bodyPost_ret (results_none rfl _ _ _) rfl ?_
                exact ⟨⟨_, rfl⟩, .inr ⟨_, by rw [← HTS.out, ← HPJ.out]; exact HPRE.out (j + 1), hx2⟩⟩
    · obtain ⟨W3, hW3⟩ : ∃ W3, W3 = setBlock W2 r (.mapIter (some mp) clock (seen.push x.born) clock) := ⟨_, rfl⟩
      rw [← hW3] at hrun
      have hk3 : Kept (fun j => j = r) wr W3 := by rw [hW3]; exact setBlock_kept (kept_drew' (Kept.refl _ wr) hW2) r _ (.inl rfl)
      have hit3 : IterAt W3 r mp clock (seen.push x.born) clock := by rw [hW3]; exact iter_set (iter_drew hit hW2)
      have hb3 : Below W0.heap.size W0 W3 := hb.trans (hk3.below hb.size (fun j e => by rw [e, HR.out]; exact Nat.le_refl _))
      have hkr3 : KRow (r + 1) W3 (.slice va ks.length vc) ks := hkr.same (fun k hk => hk3.block k (hkr.lt k hk).2 (fun e => by have := (hkr.lt k hk).1; omega))
      have hent := run_entry_E (HH.out.below hb3).map hit3 hx HH.out.ok.borns
      obtain ⟨xa, xc, hval⟩ := (HH.out.rows x hx).1.len
      rw [hval] at hrun hent
      have hmeas := unseen_push E seen x hsx HH.out.ok.borns hx
      have HM := Lib.hid (And.intro hmeas hms)
      have HP := Lib.hid ((hperm.append_right [x.key]).trans (filter_seen_push HH.out.ok.borns hx hsx).symm)
      have H3 := Lib.hid (And.intro hit3 hb3)
      obtain ⟨k, hk⟩ : ∃ k, k = x.key := ⟨_, rfl⟩
      rw [← hk] at hrun hent HP
      clear hms hperm hit hsW hkr hb hmeas hW3 hW2 hk3 hit3 hb3 hval hsx hx hk
      gi_wp2_with (gi_at_builtin; refine wpListIn_append_own _ rfl _ _ 60 rfl (r + 1) 9 i0 (.string ⟨#[]⟩) 1 16 Try.underlying60 hi0 hz0 hz1 hz2 rfl (by decide) _ _ _ rfl (World.ownsRow.alloc hkr3 _) ⟨W3.heap.size, 0, none⟩ 1 1 [.string k] rfl rfl (cell_one_new _ _ _) (by simp [Value.oneCell']) (by unfold maxLen; omega) (by omega) (by have := H3.out.1.lt; simp; omega) ?_; intro v' w4 hown' hgrow _)
      have hk4 : Kept (fun j => (Value.slice va ks.length vc).ownBlock = some j) (W3.alloc (.cells #[.string k] 9)) w4 := ⟨hgrow.os, hgrow.tape, hgrow.output, hgrow.size, fun j hj hs => hgrow.block j hj (fun e => hs e.symm)⟩
      have hnr : ¬ (Value.slice va ks.length vc).ownBlock = some r := fun e => by have := (hkr3.lt r e).1; omega
      have hit4 : IterAt w4 r mp clock (seen.push x.born) clock := (IterAt.kept (W := W3.alloc (.cells #[.string k] 9)) (H3.out.1.kept ((Kept.refl (fun _ => False) W3).alloc _) (fun h => h)) hk4 hnr)
      refine ⟨⟨seen.push x.born, ks ++ [k], ?_, HP.out, hit4, (H3.out.2.alloc H3.out.2.size _).trans (hk4.below (by have := H3.out.2.size; simp; omega) (fun j e => by have := (hkr3.lt j e).1; have := HR.out; omega))⟩, ?_⟩
      · unfold KRow
        rw [List.length_append, List.map_append]
        exact hown'
      · rw [iterSeen_at hit4, HM.out.2]
        exact HM.out.1
end Go.Proofs.Ytpcjmceakelilaa
/- Mvcc: All, apart from a law. -/
namespace Go.Proofs.Ytpcjmceakelilaa
open Go.ChangeShapes Go.WideShapes Go.ChangeAt Go.RowKit Go.Deep Go.ChangeMaps Go.Shelf Go.Sort
set_option linter.unusedVariables false
set_option linter.unusedSimpArgs false
attribute [local go_sem] Oper.semAt_some
attribute [local go_sem, local simp] wide_fn
theorem yieldAt_any {m m' : Nat} {P : Program} {l : Nat} {args : Array Value} {W : World} {R : Ending → World → Prop} (h : YieldAt Fence.wide m P l args W R) : YieldAt Fence.wide m' P l args W R := by
  obtain ⟨fn, tmps, assign, body, hy, hR⟩ := h
  exact ⟨fn, tmps, assign, body, hy, hR.1, fun c cs _ => hR.2 c cs (room_wide _)⟩
theorem abides_below {β : Type} {B : Nat} {J : β → World → Prop} (h : AbidesFrom B J) (s : β) (W W' : World) (hj : J s W) (hb : Below W.heap.size W W') : J s W' :=
  h s W _ none hj ⟨hb.os, hb.tape, hb.output, hb.size, fun k hk _ => hb.block k hk⟩ (fun r e => by cases e)
/-- an append to one's own row, stored in one's own box, keeps what an iterator asks -/
theorem kps_app {n₀ b c B : Nat} {t e : TypeId} {size k : Nat} {v u : Value} {xs : List Value} {W w1 : World} {tmp : Obj} (hv : Boxed W B t v) (hrow : W.ownsRow c e size v k xs) (hg : (W.alloc tmp).grownBy w1 v.ownBlock) (hB : B < b) (ht : t ≠ 9) (he : e ≠ 9) (hn : n₀ ≤ B) (hnc : n₀ ≤ c) :
    KpS n₀ b c W (w1.setCell ⟨B, 0, none⟩ u) := by
  have hlt := hv.lt
  have hal : ∀ i, i < W.heap.size → (W.alloc tmp).heap[i]? = W.heap[i]? := fun i hi => heap_alloc_old W tmp hi
  have hown := hrow.lt
  have key : ∀ i, i < W.heap.size → i ≠ B → v.ownBlock ≠ some i → (w1.setCell ⟨B, 0, none⟩ u).heap[i]? = W.heap[i]? := fun i hi hiB hio => by
    show (w1.heap.modify B _)[i]? = _
    rw [Array.getElem?_modify, if_neg (fun e => hiB e.symm)]
    exact (hg.block i (by rw [World.size_alloc]; omega) (fun e => hio e.symm)).trans (hal i hi)
  have hsz : W.heap.size ≤ w1.heap.size := Nat.le_trans (by rw [World.size_alloc]; omega) hg.size
  refine ⟨⟨hg.os, hg.tape, hg.output, by show W.heap.size ≤ (w1.heap.modify B _).size; rw [Array.size_modify]; exact hsz, fun i hi => key i (by omega) (by omega) (fun e => by have := (hown i e).1; omega)⟩, fun i cs fr hi => ?_, fun i h1 h2 h3 => key i h3 (by omega) (fun e => by have := (hown i e).1; omega)⟩
  have hil := (Array.getElem?_eq_some_iff.1 hi).1
  rw [key i hil (fun e2 => ?_) (fun e2 => ?_)]
  · exact hi
  · rw [e2, show W.heap[B]? = _ from hv] at hi
    cases hi
    exact ht rfl
  · rcases hrow.2 with ⟨rfl, _⟩ | ⟨g, cap, cur, rfl, _, hb2, _⟩
    · simp [Value.ownBlock] at e2
    · have : g = i := by simpa [Value.ownBlock] using e2
      subst this
      rw [hb2] at hi
      cases hi
      exact he rfl
theorem all_in (n : Nat) (S : Nat) (w : World) :
    CallsIn Fence.wide n Try.prog 30 #[.pointer (some ⟨S, 0, none⟩)] w fun e w' => e = .returned (.func (.func 48) #[] #[.pointer (some ⟨w.heap.size, 0, none⟩)]) ∧ w'.cell? ⟨w.heap.size, 0, none⟩ = some (.pointer (some ⟨S, 0, none⟩)) ∧ w'.heap.size = w.heap.size + 1 ∧ Below w.heap.size w w' ∧ KeepsOthers w w' := by
  refine callsIn_of_wp Try.func30 rfl trivial ?_ rfl
  simp only [Try.ntmps30, List.size_toArray, List.length_cons, List.length_nil, Nat.reduceAdd, Nat.reduceSub, Array.replicate_succ, Array.replicate_zero, List.push_toArray, List.append_toArray, List.nil_append, List.cons_append]
  gi_wp2
  go_ret
  have b0 := Boxed.new w 65 (.pointer (some ⟨S, 0, none⟩))
  exact ⟨rfl, b0.cell, by simp, (Below.refl _ w).alloc (Nat.le_refl _) _, KeepsOthers.alloc _ _⟩
theorem und72 : (Try.prog.underlying 69).map (fun d => match d with | .func _ _ _ => true | _ => false) = some true := by kernel_rfl
theorem equalIn_nilFunc {P : Program} (w : World) (d : Nat) (t : TypeId) (f : Fn) (a b : Array Value) (p r : Array TypeId) (v : Bool) (h : P.underlying t = some (.func p r v)) : (Op.equalIn (d + 1) t (.func f a b) .nilFunc).run P w = .ok false w := by
  simp [Op.equalIn, run_underlying h]
theorem equal_nilFunc {P : Program} (w : World) (t : TypeId) (f : Fn) (a b : Array Value) (p r : Array TypeId) (v : Bool) (h : P.underlying t = some (.func p r v)) : (Op.equal t (.func f a b) .nilFunc).run P w = .ok false w := equalIn_nilFunc w 9999 t f a b p r v h
theorem eql_nilFunc {t : TypeId} (h0 : (Try.prog.underlying t).map (fun d => match d with | .func _ _ _ => true | _ => false) = some true) (f : Fn) (a b : Array Value) (w : World) : (binOp .eql t (.func f a b) .nilFunc).run Try.prog w = .ok (.bool false) w := by
  obtain ⟨p, r, v, h⟩ : ∃ p r v, Try.prog.underlying t = some (.func p r v) := by
    cases hu : Try.prog.underlying t with
    | none => rw [hu] at h0; simp at h0
    | some d =>
      rw [hu] at h0
      cases d <;> first | (simp at h0; done) | exact ⟨_, _, _, rfl⟩
  simp only [binOp]
  simp [equal_nilFunc w t f a b p r v h]
theorem eql72 (f : Fn) (a b : Array Value) (w : World) : (binOp .eql 69 (.func f a b) .nilFunc).run Try.prog w = .ok (.bool false) w := eql_nilFunc und72 f a b w
attribute [local go_sem] eql72
theorem own_base {B B' : Nat} {W : World} {T : TypeId} {z n : Nat} {v : Value} {xs : List Value} (h : W.ownsRow B' T z v n xs) (hb : B ≤ B') : W.ownsRow B T z v n xs := by
  refine ⟨h.1, ?_⟩
  rcases h.2 with h1 | ⟨g, c, cur, rfl, h1, h2⟩
  · exact .inl h1
  · exact .inr ⟨g, c, cur, rfl, Nat.le_trans hb h1, h2⟩
theorem stops_all (n n₀ B S mp clock b : Nat) (E : List En) (W : World) (h : Sto B W S mp E clock) (hfoot : ∀ k, Foot S mp E k → k < n₀) (hn0 : n₀ ≤ W.heap.size) (hT : E.length ≤ 100000) (c1 : W.cell? ⟨b, 0, none⟩ = some (.pointer (some ⟨S, 0, none⟩))) (hbl : b < W.heap.size) :
    SeqStopsK Fence.wide n Try.prog 48 #[.pointer (some ⟨b, 0, none⟩)] encA (KpS n₀ b (b + 1)) (fun xs => xs = allK E (ordE E)) (fun pre => pre <+: allK E (ordE E)) (allK E (ordE E)).length W := fun l J Jx W1 hW hJ _ hY h0 =>
  all1_any n l n₀ (b + 1) _ b B S mp clock E J Jx (fun m pre x W hj hl => yieldAt_any (hY pre x W hj hl)) (fun pre W W' hj hb => abides_below hJ pre W W' hj hb) (by omega) W1 (h.below hW) hfoot (Nat.le_trans hn0 hW.size) hT ((hW.cell (p := ⟨b, 0, none⟩) hbl).trans c1) (Nat.lt_of_lt_of_le hbl hW.size) h0 (Nat.le_refl _)
theorem kpS_b {n₀ b c : Nat} {w : World} (hn : n₀ ≤ w.heap.size) (hc : c ≤ w.heap.size) (W : World) (l : Nat) (o o' : Obj) (hl : w.heap.size ≤ l) (h : W.heap[l]? = some o) (ho : o.isCells = false) (hw : o.isWalk = false) : KpS n₀ b c W (W.putObj l o') := by
  refine ⟨belowK_b (w := w) hn W l o o' hl h ho hw, fun k cs fr hk => ?_, fun k h1 h2 h3 => World.putObj_heap_other (by omega)⟩
  rw [World.putObj_heap_other (fun e => by rw [e, h] at hk; cases hk; cases ho)]
  exact hk
theorem four_cells_new (W : World) (a b c d : Value) (t : TypeId) : ∀ j z, [a, b, c, d][j]? = some z → (W.alloc (.cells #[a, b, c, d] t)).cell? ((⟨W.heap.size, 0, none⟩ : Addr).add j) = some z := fun j z hz => by
  rw [addr_add', Nat.zero_add]
  exact (Box.new W [a, b, c, d] t).cell j z hz
end Go.Proofs.Ytpcjmceakelilaa
