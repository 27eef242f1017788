/- Mvcc: the law Prune. -/
import Derived.Test.YtaecppkkbdbdbaaMv29
namespace Go.Proofs.Ytaecppkkbdbdbaa
open Go.ChangeShapes Go.WideShapes Go.ChangeAt Go.RowKit Go.ChangeMaps Go.Deep Go.Shelf Go.Sort
set_option linter.unusedVariables false
set_option linter.unusedSimpArgs false
theorem own_same {B : Nat} {W W' : World} {T : TypeId} {z n : Nat} {v : Value} {xs : List Value} (h : W.ownsRow B T z v n xs) (hk : ∀ k, v.ownBlock = some k → W'.heap[k]? = W.heap[k]?) : W'.ownsRow B T z v n xs := by
  refine ⟨h.1, ?_⟩
  rcases h.2 with h1 | ⟨g, c, cur, rfl, h1, h2, h3⟩
  · exact .inl h1
  · exact .inr ⟨g, c, cur, rfl, h1, by rw [hk g rfl]; exact h2, h3⟩
/-- a row of what was read, that stands apart -/
def SRow (B : Nat) (W : World) (v : Value) (L : List (Bs × Bs)) : Prop := W.ownsRow B 45 2 v L.length (prS L)
theorem SRow.below {B : Nat} {W W' : World} {v : Value} {L : List (Bs × Bs)} (h : SRow B W v L) (hb : Below W.heap.size W W') : SRow B W' v L :=
  own_same h (fun k hk => hb.block k (World.ownsRow.lt h k hk).2)
theorem SRow.kept {B : Nat} {W W' : World} {v : Value} {L : List (Bs × Bs)} {T : Nat → Prop} (h : SRow B W v L) (hk : Kept T W W') (hT : ∀ k, T k → k < B) : SRow B W' v L :=
  own_same h (fun k hk2 => hk.block k (World.ownsRow.lt h k hk2).2 (fun ht => by have := hT k ht; have := (World.ownsRow.lt h k hk2).1; omega))
theorem SRow.row {B : Nat} {W : World} {v : Value} {L : List (Bs × Bs)} (h : SRow B W v L) : RowS W v L := rowS_of h
theorem Wk.scan {B S m N clock : Nat} {E : List En} {A : Bs → List Ver} {W0 W : World} (h : Wk B S m E clock A N W0 W) (hN : N ≤ 100000) (lo hi : Bs) (t : Int) (back : Bool) :
    Calls Try.prog 21 #[.pointer (some ⟨S, 0, none⟩), .string lo, .string hi, .int .i64 t, .bool back] W fun e W' => ∃ v, e = .returned v ∧ SRow W.heap.size W' v (scanK E t (scanT E lo hi back)) ∧ Below W.heap.size W W' := by
  refine (scan_T B S m clock E lo hi t back W h.sto (by have := h.len; omega) (by have := h.len; have := scan_len h.sto.gd t lo hi back; omega)).mono ?_
  rintro e W' ⟨v, he, hr, hb⟩
  exact ⟨v, he, hr, hb⟩
theorem Wk.versions {B S m N clock : Nat} {E : List En} {A : Bs → List Ver} {W0 W : World} (h : Wk B S m E clock A N W0 W) (hN : N ≤ 100000) :
    Calls Try.prog 30 #[.pointer (some ⟨S, 0, none⟩)] W fun e W' => e = .returned (.int .i64 (total E)) ∧ Below W.heap.size W W' :=
  versions_any B S m clock E W h.sto (by have := h.tot; omega)
theorem Wk.all {B S m N clock : Nat} {E : List En} {A : Bs → List Ver} {W0 W : World} (h : Wk B S m E clock A N W0 W) (hN : N ≤ 100000) :
    Calls Try.prog 28 #[.pointer (some ⟨S, 0, none⟩)] W fun e W' => ∃ v, e = .returned v ∧ RowP W' v (vw E) ∧ Below W.heap.size W W' := by
  have ht := total_vw h.sto.gd
  refine (all_T B S m clock E W h.sto (by have := h.len; omega) (by show (vw E).length ≤ _; have := h.tot; omega)).mono ?_
  rintro e W' ⟨v, he, hr, hb⟩
  exact ⟨v, he, rowP_of hr, hb⟩
set_option maxRecDepth 100000 in
set_option maxHeartbeats 3200000 in
theorem law_prune (v : Value) (l : List Opv) (s m : Int) (W : World) (h : OpsArg W v l) (hs : -9223372036854775808 ≤ s) (hm0 : 0 ≤ m) (hm1 : m ≤ 255) :
    Calls Try.prog 4 #[v, .int .i64 s, .int .u8 m] W (AwakeOut W) := by
  obtain ⟨a, c, rfl, h'⟩ := h
  have HH : Hid (OpsArg W (.slice a l.length c) l) := Lib.hid ⟨a, c, rfl, h'⟩
  clear h'
  by_cases h60 : 60 < l.length
  · go_enter Try.func4, Try.ntmps4
    go_wp2_with fail
    refine (awake_any W).mono ?_
    rintro e W1 ⟨rfl, hb⟩
    have HB := Lib.hid hb
    clear hb
    go_wp2_with fail
    go_ret
    exact ⟨rfl, HB.out⟩
  · by_cases hbig : 1099511627776 < s
    · go_enter Try.func4, Try.ntmps4
      go_wp2_with fail
      refine (awake_any W).mono ?_
      rintro e W1 ⟨rfl, hb⟩
      have HB := Lib.hid hb
      clear hb
      go_wp2_with fail
      go_ret
      exact ⟨rfl, HB.out⟩
    · have hw1 : IntKind.i64.wrap m = m := by rw [IntKind.wrap_i64]; omega
      have hw2 : IntKind.i64.wrap (s + m) = s + m := by rw [IntKind.wrap_i64]; omega
      have HM := Lib.hid (show s ≤ s + m by omega)
      go_enter Try.func4, Try.ntmps4
      go_wp2_with fail
      refine (build_any _ l W HH.out (by omega)).mono ?_
      rintro e W1 ⟨rfl, E, clock, hwk⟩
      obtain ⟨B, hB⟩ : ∃ B, B = W.heap.size := ⟨_, rfl⟩
      rw [← hB] at hwk
      rw [← hB]
      have HBB := Lib.hid hB
      have H1 := Lib.hid hwk
      have HN := Lib.hid (show l.length ≤ 60 by omega)
      clear hwk hB h60
      generalize l.length = N at *
      go_wp2_with fail
      refine (H1.out.versions (by have := HN.out; omega)).mono ?_
      rintro e W2 ⟨he, hb⟩
      obtain ⟨n, hn⟩ : ∃ n, n = total E := ⟨_, rfl⟩
      rw [← hn] at he
      subst he
      have H2 := Lib.hid (H1.out.below hb)
      have HNN := Lib.hid hn
      clear hb H1 hn
      go_wp2_with fail
      refine (H2.out.scan (by have := HN.out; omega) _ _ _ _).mono ?_
      rintro e W3 ⟨va, rfl, hra, hb⟩
      have RA3 := Lib.hid hra
      have H3 := Lib.hid (H2.out.below hb)
      have HSZ := Lib.hid (And.intro (show ∀ k, Foot (B + 1) B E k → k < W2.heap.size from fun k hk => (H2.out.sto.foot hk).2) hb.size)
      clear hb hra H2
      go_wp2_with fail
      refine (H3.out.scan (by have := HN.out; omega) _ _ _ _).mono ?_
      rintro e W4 ⟨vb, rfl, hrb, hb⟩
      have RA4 := Lib.hid (RA3.out.below hb)
      have RB4 := Lib.hid hrb
      have H4 := Lib.hid (H3.out.below hb)
      clear hb hrb H3 RA3
      go_wp2_with fail
      refine (H4.out.prune (by have := HN.out; omega) s).mono ?_
      rintro e W5 ⟨he, E5, c5, h5, ht5⟩
      have hl5 : lkL E5 = fun k => pruneF s (lkL E k) := by rw [h5.lk, H4.out.lk]; rfl
      have HP := Lib.hid (And.intro hl5 (And.intro H4.out.sto.gd h5.sto.gd))
      have htp := total_prune H4.out.sto.gd h5.sto.gd hl5
      rw [← HNN.out] at htp
      obtain ⟨p, hp⟩ : ∃ p, p = (E.map fun e => pn e.vs s).sum := ⟨_, rfl⟩
      obtain ⟨q, hq⟩ : ∃ q, q = total E5 := ⟨_, rfl⟩
      rw [← hp, ← hq] at htp
      rw [← hp] at he
      subst he
      have hnb : n ≤ 60 := by rw [HNN.out]; have := H4.out.tot; have := HN.out; omega
      have hw3 : IntKind.i64.wrap ((n : Int) - (p : Int)) = (q : Int) := by rw [IntKind.wrap_i64]; omega
      have RA5 := Lib.hid (RA4.out.kept ht5.2.2 HSZ.out.1)
      have RB5 := Lib.hid (RB4.out.kept ht5.2.2 (fun k hk => by have := HSZ.out.1 k hk; have := HSZ.out.2; omega))
      have H5 := Lib.hid h5
      have HQ := Lib.hid hq
      clear h5 ht5 hl5 htp hp hq hnb RA4 RB4 H4
      go_wp2_with fail
      refine (H5.out.versions (by have := HN.out; omega)).mono ?_
      rintro e W6 ⟨he, hb⟩
      rw [← HQ.out] at he
      subst he
      have H6 := Lib.hid (H5.out.below hb)
      have RA6 := Lib.hid (RA5.out.below hb)
      have RB6 := Lib.hid (RB5.out.below hb)
      clear hb H5 RA5 RB5
      go_wp2_with fail
      refine (H6.out.scan (by have := HN.out; omega) _ _ _ _).mono ?_
      rintro e W7 ⟨vc, rfl, hrc, hb⟩
      rw [scan_prune HP.out.2.1 HP.out.2.2 HP.out.1 (Int.le_refl s)] at hrc
      have RC7 := Lib.hid hrc
      have H7 := Lib.hid (H6.out.below hb)
      have RA7 := Lib.hid (RA6.out.below hb)
      have RB7 := Lib.hid (RB6.out.below hb)
      clear hb hrc H6 RA6 RB6
      go_wp2_with fail
      refine (equalS_any _ _ _ _ W7 RA7.out.row RC7.out.row).mono ?_
      rintro e W8 ⟨he, hb⟩
      rw [decide_eq_true rfl] at he
      subst he
      have H8 := Lib.hid (H7.out.below hb)
      have RB8 := Lib.hid (RB7.out.below hb)
      clear hb H7 RA7 RB7 RC7
      go_wp2_with fail
      refine (H8.out.scan (by have := HN.out; omega) _ _ _ _).mono ?_
      rintro e W9 ⟨vd, rfl, hrd, hb⟩
      rw [scan_prune HP.out.2.1 HP.out.2.2 HP.out.1 HM.out] at hrd
      have RD9 := Lib.hid hrd
      have H9 := Lib.hid (H8.out.below hb)
      have RB9 := Lib.hid (RB8.out.below hb)
      clear hb hrd H8 RB8
      go_wp2_with fail
      refine (equalS_any _ _ _ _ W9 RB9.out.row RD9.out.row).mono ?_
      rintro e W10 ⟨he, hb⟩
      rw [decide_eq_true rfl] at he
      subst he
      have H10 := Lib.hid (H9.out.below hb)
      clear hb H9 RB9 RD9
      go_wp2_with fail
      refine (H10.out.prune (by have := HN.out; omega) s).mono ?_
      rintro e W11 ⟨he, E11, c11, h11, _⟩
      rw [again_prune HP.out.2.2 HP.out.1] at he
      subst he
      have H11 := Lib.hid h11
      clear h11 H10
      go_wp2_with fail
      refine (H11.out.all (by have := HN.out; omega)).mono ?_
      rintro e W12 ⟨vall, rfl, hrow, hb⟩
      obtain ⟨pa, pc, rfl, _⟩ := hrow
      rw [← total_vw H11.out.sto.gd]
      obtain ⟨z, hz⟩ : ∃ z, z = total E11 := ⟨_, rfl⟩
      rw [← hz]
      have HZ := Lib.hid hz
      have H12 := Lib.hid (H11.out.below hb)
      have hzb : z ≤ 1000 := by rw [hz]; have := H11.out.tot; have := HN.out; omega
      clear hb hz H11
      go_wp2_with fail
      refine (H12.out.versions (by have := HN.out; omega)).mono ?_
      rintro e W13 ⟨he, hb⟩
      rw [← HZ.out] at he
      subst he
      have H13 := Lib.hid (H12.out.below hb)
      clear hb H12
      go_wp2_with fail
      refine (awake_any W13).mono ?_
      rintro e W14 ⟨rfl, hb⟩
      have H14 := Lib.hid (H13.out.low.trans (hb.mono H13.out.bw))
      clear hb H13
      go_wp2_with fail
      go_ret
      exact ⟨rfl, by rw [← HBB.out]; exact H14.out⟩
end Go.Proofs.Ytaecppkkbdbdbaa
