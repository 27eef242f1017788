/- Mvcc: Rollback. -/
import Derived.Test.YtpcjmceakelilaaMv10
namespace Go.Proofs.Ytpcjmceakelilaa
open Go.ChangeShapes Go.WideShapes Go.ChangeAt Go.RowKit Go.Deep Go.ChangeMaps Go.Shelf
set_option linter.unusedVariables false
set_option linter.unusedSimpArgs false
theorem vr_get {W : World} {v : Value} {L : List Ver} (h : VrAt W v L) (h0 : 0 < L.length) : ∃ g c, v = .slice (some ⟨g, 0, none⟩) L.length c ∧ L.length ≤ c ∧ c ≤ 9223372036854775807 ∧ g < W.heap.size ∧ ∀ j (h : j < L.length), W.cell? ⟨g, j * 3, none⟩ = some (.int .i64 L[j].1) ∧ W.cell? ⟨g, j * 3 + 1, none⟩ = some (.string L[j].2.1) ∧ W.cell? ⟨g, j * 3 + 2, none⟩ = some (.bool L[j].2.2) := by
  rcases h with ⟨_, rfl⟩ | h
  · simp at h0
  · exact h
/-- the cells of a piece -/
theorem vr_piece {W : World} {g : Nat} {L M : List Ver} (o : Nat) (hM : ∀ j (h : j < M.length), ∃ h2 : o + j < L.length, L[o + j] = M[j]) (hc : ∀ j (h : j < L.length), W.cell? ⟨g, j * 3, none⟩ = some (.int .i64 L[j].1) ∧ W.cell? ⟨g, j * 3 + 1, none⟩ = some (.string L[j].2.1) ∧ W.cell? ⟨g, j * 3 + 2, none⟩ = some (.bool L[j].2.2)) :
    ∀ j u, (vrv M)[j]? = some u → W.cell? ⟨g, o * 3 + j, none⟩ = some u := fun j u hj => by
  have hl := (List.getElem?_eq_some_iff.1 hj).1
  rw [vrv_len] at hl
  obtain ⟨i, k, hk, rfl⟩ : ∃ i k, k < 3 ∧ j = i * 3 + k := ⟨j / 3, j % 3, Nat.mod_lt _ (by omega), by omega⟩
  have hi : i < M.length := by omega
  obtain ⟨h2, he⟩ := hM i hi
  obtain ⟨c0, c1, c2⟩ := hc (o + i) h2
  rw [he] at c0 c1 c2
  obtain ⟨a0, a1, a2⟩ := vrv_at M i hi
  have e : o * 3 + (i * 3 + k) = (o + i) * 3 + k := by omega
  rw [e]
  match k, hk with
  | 0, _ => rw [Nat.add_zero] at hj ⊢; rw [a0] at hj; rw [c0, hj]
  | 1, _ => rw [a1] at hj; rw [c1, hj]
  | 2, _ => rw [a2] at hj; rw [c2, hj]
/-- a store after a sweep -/
def Swept (B S m clock : Nat) (E : List En) (f : List Ver → List Ver) (W W' : World) : Prop :=
  ∃ E' seen, (∀ e ∈ E, seen.contains e.born = true) ∧ Swp E E' f seen ∧ Turned B S m E W W' E' clock
def SweepOut (B S m clock : Nat) (E : List En) (f : List Ver → List Ver) (n : Nat) (W : World) (e : Ending) (W' : World) : Prop :=
  e = .returned (.int .i64 n) ∧ Swept B S m clock E f W W'
theorem SW.out {B S m r clock : Nat} {E E' : List En} {f : List Ver → List Ver} {W X : World} {seen : Array Nat} (h : SW B S m r clock E f W seen seen E' X) (hall' : ∀ e ∈ E', seen.contains e.born = true) (hne : ∀ e ∈ E, e.vs ≠ []) : Swept B S m clock E f W X := by
  refine ⟨E', seen, fun e he => ?_, h.swp, h.sto, fun j hj => (h.foot j hj).1, h.kept⟩
  cases hs : seen.contains e.born with
  | true => rfl
  | false =>
    obtain ⟨e', he', _, h2, _⟩ := h.swp.forth e he (by unfold sw; rw [hs, if_neg (by simp)]; exact hne e he)
    have := hall' e' he'
    rw [h2, hs] at this
    cases this
/-- the stamps of entries that were struck are met -/
theorem SW.left {B S m r clock : Nat} {E E' : List En} {f : List Ver → List Ver} {W X : World} {seen : Array Nat} (h : SW B S m r clock E f W seen seen E' X) (hE : EnOK E clock) {x' : En} (hx : x' ∈ E') (hs : seen.contains x'.born = false) :
    ∃ x ∈ E, x'.key = x.key ∧ x'.born = x.born ∧ x'.vs = x.vs ∧ seen.contains x.born = false := by
  obtain ⟨x, h1, h2, h3, h4⟩ := h.swp.origin hx hs
  exact ⟨x, h1, h2, h3, h4, by rw [← h3]; exact hs⟩
theorem sum_le {f g : En → Nat} : ∀ (E : List En), (∀ e, f e ≤ g e) → (E.map f).sum ≤ (E.map g).sum
  | [], _ => Nat.le_refl _
  | x :: E, h => by
    have := sum_le E h
    have := h x
    simp only [List.map_cons, List.sum_cons]
    omega
def rollF (t : Int) (L : List Ver) : List Ver := L.take (upto L t)
theorem asc_take {L : List Ver} (n : Nat) (h : Asc L) : Asc (L.take n) := List.Pairwise.sublist (List.take_sublist _ _) h
set_option maxRecDepth 100000 in
set_option maxHeartbeats 3200000 in
theorem rollback_any (B S m clock : Nat) (E : List En) (t : Int) (W : World) (h : Sto B W S m E clock) (hB : B ≤ W.heap.size) (ht : total E ≤ 1000000) :
    Calls Try.prog 51 #[.pointer (some ⟨S, 0, none⟩), .int .i64 t] W (SweepOut B S m clock E (rollF t) (E.map fun e => e.vs.length - upto e.vs t).sum W) := by
  have a0 := h.c0
  have hrg := run_range_E h.map
  have HH := Lib.hid h
  have HT := Lib.hid ht
  have H0 := Lib.hid (SW.start h (rollF t))
  clear h ht
  go_enter Try.func51, Try.ntmps51
  go_wp2_with fail
  obtain ⟨r, hr⟩ : ∃ r, r = W.heap.size := ⟨_, rfl⟩
  rw [← hr] at H0 ⊢
  have HR := Lib.hid hr
  clear hr a0 hrg
  generalize W.alloc (.mapIter (some m) clock #[] clock) = W1 at H0 ⊢
  go_loopw [5] (fun n wr => ∃ seen E', SW B S m r clock E (rollF t) W seen seen E' wr ∧ n = .int .i64 (seenN E seen (fun e => e.vs.length - upto e.vs t))) (fun _ wr => unseen E (wr.iterSeen r))
  case atStart => exact ⟨#[], E, H0.out, by rw [seenN_nil]; rfl⟩
  case round =>
    clear H0
    obtain ⟨seen, E', hsw, rfl⟩ := hrel
    have HS := Lib.hid hsw
    have hms := iterSeen_at hsw.it
    rcases run_next_E hsw.sto.map hsw.it hsw.sto.ok.lt (Nat.le_refl _) 0 with ⟨hall, hrun⟩ | ⟨x', hx', hsx', W2, hW2, hrun⟩
    · have HALL := Lib.hid hall
      have HA := Lib.hid (hsw.out hall (fun e he => (HH.out.rows e he).2.1))
      clear hall hms hsw
      go_wp2_with fail
      go_ret
      obtain ⟨E2, s2, h1, h2⟩ := HA.out
      have e1 : ∀ e ∈ E, seen.contains e.born = true := fun e he => by
        obtain ⟨E3, s3, g1, g2, g3⟩ := HA.out
        cases hs : seen.contains e.born with
        | true => rfl
        | false =>
          obtain ⟨e', he', _, h3, _⟩ := HS.out.swp.forth e he (by unfold sw; rw [hs, if_neg (by simp)]; exact (HH.out.rows e he).2.1)
          have := HALL.out e' he'
          rw [h3, hs] at this
          cases this
      exact ⟨by rw [seenN_all _ seen E e1]; rfl, HA.out⟩
    · obtain ⟨x, hx, hkx, hbx, hvx, hsx⟩ := hsw.left HH.out.ok hx' hsx'
      obtain ⟨W3, hW3⟩ : ∃ W3, W3 = setBlock W2 r (.mapIter (some m) clock (seen.push x'.born) clock) := ⟨_, rfl⟩
      rw [← hW3] at hrun
      have h3 := hsw.step hW2 x'.born
      rw [← hW3] at h3
      have hent := run_entry_E h3.sto.map h3.it hx' h3.sto.ok.borns
      obtain ⟨hrow, hne, hasc, hbd, hlen⟩ := h3.sto.rows x' hx'
      obtain ⟨g, vc, hval, hgc, hcc, hgl, hcell⟩ := hrow.get (by have := List.length_pos_iff.2 hne; exact this)
      have hun := until_any x'.val x'.vs t W3 hrow.at_ hasc (by omega)
      rw [hval] at hrun hent hun
      have HUN := Lib.hid hun
      have H3 := Lib.hid h3
      have HSX := Lib.hid hsx'
      have HX := Lib.hid (And.intro hx' (And.intro hx (And.intro hkx (And.intro hbx (And.intro hvx hsx)))))
      have HQ := Lib.hid (And.intro hne (And.intro hasc (And.intro hbd hlen)))
      have hsn := seenN_push (fun e => e.vs.length - upto e.vs t) seen x hsx E HH.out.ok.borns hx
      have hle := seenN_le (fun e => e.vs.length - upto e.vs t) (seen.push x.born) E
      have hT2 : (E.map fun e => e.vs.length - upto e.vs t).sum ≤ 1000000 := Nat.le_trans (sum_le E (fun e => Nat.sub_le _ _)) HT.out
      have hmeas := unseen_push E seen x hsx HH.out.ok.borns hx
      have hms3 := iterSeen_at h3.it
      rw [hbx] at hms3
      have HM := Lib.hid (And.intro hmeas hms)
      have HSN := Lib.hid hsn
      obtain ⟨n, hn⟩ : ∃ n, n = upto x'.vs t := ⟨_, rfl⟩
      have hnl : n ≤ x'.vs.length := by rw [hn]; exact upto_le _ _
      have hb : seenN E seen (fun e => e.vs.length - upto e.vs t) + (x'.vs.length - n) ≤ 1000000 := by rw [hn, hvx]; omega
      have HCELL := Lib.hid hcell
      have hl0 : 0 < x'.vs.length := List.length_pos_iff.2 hne
      rw [← hn] at HUN
      have HN := Lib.hid hn
      clear hsn hle hT2 hmeas hms hms3 hun hcell hW3 hW2 hx' hx hkx hbx hvx hsx hsx' hne hasc hbd h3 hsw HS hrow hn hval
      generalize seenN E seen (fun e => e.vs.length - upto e.vs t) = N at *
      obtain ⟨k, hk⟩ : ∃ k, k = x'.key := ⟨_, rfl⟩
      obtain ⟨ln, hln⟩ : ∃ ln, ln = x'.vs.length := ⟨_, rfl⟩
      rw [← hk] at hrun hent
      rw [← hln] at hrun hent HUN hlen hnl hb hl0 hgc
      have HK := Lib.hid (And.intro hk hln)
      clear hk hln
      have w1 : IntKind.i64.wrap ((ln : Int) - (n : Int)) = ((ln - n : Nat) : Int) := by rw [IntKind.wrap_i64]; omega
      have w2 : IntKind.i64.wrap ((N : Int) + ((ln - n : Nat) : Int)) = ((N + (ln - n) : Nat) : Int) := by rw [IntKind.wrap_i64]; omega
      go_wp2_with fail
      refine HUN.out.mono ?_
      rintro e W4 ⟨rfl, hb4⟩
      have H4 := Lib.hid (H3.out.below hb4)
      have HC4 := Lib.hid (show ∀ j (h : j < x'.vs.length), W4.cell? ⟨g, j * 3, none⟩ = some (.int .i64 x'.vs[j].1) ∧ W4.cell? ⟨g, j * 3 + 1, none⟩ = some (.string x'.vs[j].2.1) ∧ W4.cell? ⟨g, j * 3 + 2, none⟩ = some (.bool x'.vs[j].2.2) from fun j hj => by
        obtain ⟨q0, q1, q2⟩ := HCELL.out j hj
        exact ⟨(hb4.cell (p := ⟨g, j * 3, none⟩) hgl).trans q0, (hb4.cell (p := ⟨g, j * 3 + 1, none⟩) hgl).trans q1, (hb4.cell (p := ⟨g, j * 3 + 2, none⟩) hgl).trans q2⟩)
      clear hb4 hrun hent HUN H3 HCELL
      go_wp2_with fail
      obtain ⟨g1, g2, g3, g4, g5, g6⟩ := HX.out
      obtain ⟨q1, q2, q3, q4⟩ := HQ.out
      have hfx : rollF t x.vs = x'.vs.take n := by rw [← g5, HN.out]; rfl
      rcases Nat.eq_zero_or_pos n with h0 | h0
      · subst h0
        refine (set_del B S m clock ln E' k _ vc W4 H4.out.sto).mono ?_
        rintro e W5 ⟨rfl, hw5⟩
        have h5 := H4.out.del HH.out.ok g2 g3 g4.symm (by rw [hfx]; rfl)
        rw [← HK.out.1, ← hw5] at h5
        clear hw5 hfx g1 g2 g3 g4 g5 g6 q1 q2 q3 q4
        have HE := Lib.hid (show seenN E (seen.push x'.born) (fun e => e.vs.length - upto e.vs t) = N + (ln - 0) from by
          obtain ⟨g1, g2, g3, g4, g5, g6⟩ := HX.out
          rw [g4, HSN.out, ← g5, ← HN.out, ← HK.out.2])
        have HME := Lib.hid (show unseen E (W5.iterSeen r) < unseen E (wr.iterSeen r) from by
          obtain ⟨g1, g2, g3, g4, g5, g6⟩ := HX.out
          rw [iterSeen_at h5.it, HM.out.2, g4]
          exact HM.out.1)
        have H5 := Lib.hid h5
        clear h5
        go_wp2_with fail
        go_roundw
        case rel => exact ⟨_, _, H5.out, by rw [HE.out]; first | go_num | simp⟩
        case measure => exact HME.out
      · rcases Nat.lt_or_ge n ln with h1 | h1
        · have hlv : (x'.vs.take n).length = n := by rw [List.length_take, ← HK.out.2]; omega
          have hset := set_put B S m clock ln g 0 vc E' k (x'.vs.take n) W4 H4.out.sto (by rw [hlv]; exact h0) (by rw [hlv]; exact h1) (by rw [hlv]; omega) (fun j u hj => by
            have := vr_piece (g := g) (M := x'.vs.take n) 0 (fun i hi => by
              rw [hlv] at hi
              exact ⟨by rw [← HK.out.2]; omega, by rw [List.getElem_take]; simp⟩) HC4.out j u hj
            rwa [Nat.zero_mul] at this)
          rw [hlv] at hset
          refine hset.mono ?_
          rintro e W5 ⟨rfl, v, W6, hr6, hb6, hw5⟩
          have h5 := H4.out.put HH.out.ok g1 g2 g3 g4 g4.symm (v := v) (X1 := W6) (by rw [hfx]; exact hr6) hb6 (by rw [hfx]; exact fun e => by rw [e] at hlv; simp at hlv; omega) (by rw [hfx]; exact asc_take n q2) (by rw [hfx]; exact fun y hy => q3 y (List.mem_of_mem_take hy)) (by rw [hfx, hlv]; have := HK.out.2; omega) (Nat.le_trans hB H4.out.kept.size)
          rw [hfx, ← HK.out.1, ← hw5] at h5
          clear hw5 hfx g1 g2 g3 g4 g5 g6 q1 q2 q3 q4 hset hr6 hb6 hlv
          have HE := Lib.hid (show seenN E (seen.push x'.born) (fun e => e.vs.length - upto e.vs t) = N + (ln - n) from by
            obtain ⟨g1, g2, g3, g4, g5, g6⟩ := HX.out
            rw [g4, HSN.out, ← g5, ← HN.out, ← HK.out.2])
          have HME := Lib.hid (show unseen E (W5.iterSeen r) < unseen E (wr.iterSeen r) from by
            obtain ⟨g1, g2, g3, g4, g5, g6⟩ := HX.out
            rw [iterSeen_at h5.it, HM.out.2, g4]
            exact HM.out.1)
          have H5 := Lib.hid h5
          clear h5
          go_wp2_with fail
          go_roundw
          case rel => exact ⟨_, _, H5.out, by rw [HE.out]; first | go_num | simp⟩
          case measure => exact HME.out
        · have hnl2 : n = ln := by omega
          subst hnl2
          refine (set_same S n n k _ vc W4 h0 (Nat.le_refl _)).mono ?_
          rintro e W5 ⟨rfl, hw5⟩
          have h5 := H4.out.same HH.out.ok g2 g4.symm (by rw [← g4]; exact HSX.out) (by rw [hfx, HK.out.2, List.take_length, g5])
          rw [← hw5] at h5
          clear hw5 hfx g1 g2 g3 g4 g5 g6 q1 q2 q3 q4
          have HE := Lib.hid (show seenN E (seen.push x'.born) (fun e => e.vs.length - upto e.vs t) = N + (n - n) from by
            obtain ⟨g1, g2, g3, g4, g5, g6⟩ := HX.out
            rw [g4, HSN.out, ← g5, ← HN.out, ← HK.out.2])
          have HME := Lib.hid (show unseen E (W5.iterSeen r) < unseen E (wr.iterSeen r) from by
            obtain ⟨g1, g2, g3, g4, g5, g6⟩ := HX.out
            rw [iterSeen_at h5.it, HM.out.2, g4]
            exact HM.out.1)
          have H5 := Lib.hid h5
          clear h5
          go_wp2_with fail
          go_roundw
          case rel => exact ⟨_, _, H5.out, by rw [HE.out]; first | go_num | simp⟩
          case measure => exact HME.out
end Go.Proofs.Ytpcjmceakelilaa
