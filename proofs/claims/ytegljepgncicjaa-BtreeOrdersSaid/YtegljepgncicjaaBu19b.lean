/- Btree: node.down at one node. -/
import Derived.Test.YtegljepgncicjaaBu19
namespace Go.Proofs.Ytegljepgncicjaa
open Go.ChangeShapes Go.WideShapes Go.ChangeAt Go.RowKit Go.Deep Go.Shelf
set_option linter.unusedVariables false
set_option linter.unusedSimpArgs false
attribute [local go_sem] Oper.semAt_some
attribute [local go_sem, local simp] wide_fn
set_option maxRecDepth 100000 in
set_option maxHeartbeats 1600000 in
theorem down_inner_false (m l n₀ K N : Nat) (lo hi : Bs) (J Jx : List Pr → World → Prop) (hY : Yields l n₀ K J Jx) (σ : Sig) (ks vs : List Bs) (ns : List Nat) (Cs : List (List Pr)) (L : List Pr)
    (hN : σ N = some ⟨ks, vs, ns⟩) (hl : vs.length = ks.length) (hk : ks.length ≤ 256) (hC : Cs.length = ks.length + 1) (hL : L = inter (ks.zip vs) Cs) (hs : Srt L) (hsk : SrtK ks)
    (hns : ns.length = ks.length + 1) (hkid : ∀ j, j ≤ ks.length → ∃ M, ns[j]? = some M ∧ ∀ m acc W, Hq n₀ W σ → J acc W → acc.length + ((cx Cs j).reverse.filter (inU lo hi false)).length ≤ K →
      CallsIn Fence.wide m Try.prog 40 (upArgs M l lo hi false) W (SOut n₀ J Jx acc ((cx Cs j).reverse.filter (inU lo hi false)) ((cx Cs j).reverse.any (ovD lo hi false)) W))
    (acc0 : List Pr) (W0 : World) (hq : Hq n₀ W0 σ) (hj : J acc0 W0) (hK : acc0.length + (L.reverse.filter (inU lo hi false)).length ≤ K) :
    CallsIn Fence.wide m Try.prog 40 (upArgs N l lo hi false) W0 (SOut n₀ J Jx acc0 (L.reverse.filter (inU lo hi false)) (L.reverse.any (ovD lo hi false)) W0) := by
  obtain ⟨ka, kc, c0, hbs⟩ := hq.hp.bs hN (by omega) hi
  obtain ⟨i0, hi0'⟩ : ∃ i0, i0 = ks.length := ⟨_, rfl⟩
  have HI : Hid (∀ j, j < i0 → j < ks.length → True) := Lib.hid (fun _ _ _ => trivial)
  have hi0 : i0 ≤ ks.length := by omega
  have HS0 : Hid (∀ q, Sc (inU lo hi false) (ovD lo hi false) n₀ K J acc0 L.reverse W0 acc0 (Vd ks vs Cs i0) (W0.drewN q)) := Lib.hid (fun q => by
    rw [hi0', ← Vd_all hl hC hL]
    exact ⟨hY.2 _ _ _ hj, ⟨rfl, rfl, rfl, Nat.le_refl _, fun _ _ => rfl⟩, rfl, rfl, mono_down hs, hK⟩)
  have HI0 := Lib.hid hi0'
  clear hi0'
  have HQ := Lib.hid hq
  have HN := Lib.hid (And.intro hN (And.intro hl hC))
  have HY := Lib.hid hY
  have HNS := Lib.hid (And.intro hns hkid)
  clear hns hkid
  clear hbs hq hj hK hY hs hsk hL hN hl hC
  refine callsIn_of_wp Try.func40 rfl trivial ?_ rfl
  simp only [Try.ntmps40, List.size_toArray, List.length_cons, List.length_nil, Nat.reduceAdd, Nat.reduceSub, Array.replicate_succ, Array.replicate_zero, List.push_toArray, List.append_toArray, List.nil_append, List.cons_append]
  gi_wp2
  clear c0
  gi_loopw [11] (fun i wr => ∃ (j : Nat) (acc : List Pr), i = .int .i64 j ∧ j ≤ ks.length ∧ Hid (j ≤ i0 ∧ Sc (inU lo hi false) (ovD lo hi false) n₀ K J acc0 L.reverse W0 acc (Vd ks vs Cs j) wr)) (fun i wr => iv i)
  case atStart => exact ⟨ks.length, acc0, rfl, Nat.le_refl _, Lib.hid ⟨Nat.le_of_eq HI0.out.symm, by have := HS0.out 0; rw [HI0.out] at this; exact this⟩⟩
  case round =>
    clear HS0
    obtain ⟨j, acc, rfl, hj, HS⟩ := hrel
    have hp := (HQ.out.below HS.out.2.b).hp
    obtain ⟨dg, dc, c2, hd1, hd2, hdg, hdc⟩ := hp.g2 HN.out.1 (by rw [HNS.out.1]; omega)
    obtain ⟨M, hM, hkid⟩ := HNS.out.2 j hj
    have ck := hdc j M hM
    have hn0 : 0 < ns.length := by rw [HNS.out.1]; omega
    have hnj : j < ns.length := by rw [HNS.out.1]; omega
    have HV := Lib.hid HS.out.2
    have hkk := HS.out.2.k
    have hVK := Vd_kid (ks := ks) (vs := vs) (Cs := Cs) (j := j)
    rw [hVK] at hkk HV
    have HC := Lib.hid (hkid (m - 1) acc wr (HQ.out.below HS.out.2.b) HS.out.2.j (by rw [List.filter_append, List.length_append] at hkk; omega))
    clear hkk hdc hkid hM hp hVK
    gi_wp2
    refine ⟨fun h => (by cases h), HC.out.mono ?_⟩
    clear HC
    rintro e W2 (⟨hst, rfl, hj2, hb2⟩ | ⟨hst, rfl, hj2, hb2⟩ | ⟨rfl, pre, hpre, hx⟩)
    · have HH := Lib.hid (And.intro hst (And.intro hj2 hb2))
      clear hst hj2 hb2 HV c2 ck
      by_cases hlast : j = 0
      · have hV := Vd_last (ks := ks) (vs := vs) (Cs := Cs) hlast
        have HF : Hid (Sc (inU lo hi false) (ovD lo hi false) n₀ K J acc0 L.reverse W0 (acc ++ (cx Cs j).reverse.filter (inU lo hi false)) ([]) W2) := Lib.hid (by
          have := HS.out.2
          rw [hV] at this
          exact this.part HH.out.1 HH.out.2.1 HH.out.2.2)
        clear hV
        subst hlast
        gi_wp2
        go_ret
        exact HF.out.done
      · obtain ⟨i, hij⟩ : ∃ i, i = j - 1 := ⟨_, rfl⟩
        have hV := Vd_next (Cs := Cs) HN.out.2.1 HN.out.2.2 (by omega) hj
        rw [← hij] at hV
        have hil : i < ks.length := by omega
        have hd : decide (j = 0) = false := decide_eq_false hlast
        have hd2 : ((j : Int) == 0) = false := by rw [beq_eq_false_iff_ne]; omega
        have hd3 : (j == 0) = false := by rw [beq_eq_false_iff_ne]; omega
        have hw := wrap_less j i (by omega) (by omega) hij
        have HIJ := Lib.hid hij
        clear hij
        have HS1 : Hid (Sc (inU lo hi false) (ovD lo hi false) n₀ K J acc0 L.reverse W0 (acc ++ (cx Cs j).reverse.filter (inU lo hi false)) ([(sx ks i, sx vs i)] ++ Vd ks vs Cs i) W2) := Lib.hid (by
          have := HS.out.2
          rw [hV] at this
          exact this.part HH.out.1 HH.out.2.1 HH.out.2.2)
        clear hV
        obtain ⟨kg, kc, k0, hk1, hk2, hkg, hkc⟩ := (HQ.out.below HS1.out.b).hp.g0 HN.out.1 (by omega)
        obtain ⟨vg, vc, v0, hv1, hv2, hvg, hvc⟩ := (HQ.out.below HS1.out.b).hp.g1 HN.out.1 (by have := HN.out.2.1; omega)
        have ek := hkc i hil
        have ev := hvc i (by have := HN.out.2.1; omega)
        have hvl : i < vs.length := by have := HN.out.2.1; omega
        have HH1 := Lib.hid (HI.out i (by have := HS.out.1; have := HIJ.out; omega) hil)
        clear hkc hvc
        by_cases hov : lB (sx ks i) lo = true
        · have hg : Op.bytesLess (sx ks i).toList lo.toList = true := hov
          have HG := Lib.hid hov
          clear hov
          gi_wp2_with (refine ⟨trivial, ?_⟩)
          gi_quiet (fail)
          gi_wp2
          go_ret
          have e1 : (inU lo hi false) (sx ks i, sx vs i) = false := by unfold inU; rw [show (sx ks i, sx vs i).1 = sx ks i from rfl, HG.out]; rfl
          have e2 : (ovD lo hi false) (sx ks i, sx vs i) = true := by unfold ovD; rw [show (sx ks i, sx vs i).1 = sx ks i from rfl, HG.out]; rfl
          exact HS1.out.stopped (by rw [List.any_cons, e2]; rfl) (by rw [List.filter_cons, e1]; exact HY.out.2 _ _ nq (by simpa using HS1.out.j)) ⟨rfl, rfl, rfl, Nat.le_refl _, fun _ _ => rfl⟩
        · have hov' : lB (sx ks i) lo = false := by simpa using hov
          have hg : Op.bytesLess (sx ks i).toList lo.toList = false := hov'
          have e1 : (inU lo hi false) (sx ks i, sx vs i) = true := by unfold inU; rw [show (sx ks i, sx vs i).1 = sx ks i from rfl, hov']; rfl
          have e2 : (ovD lo hi false) (sx ks i, sx vs i) = false := by unfold ovD; rw [show (sx ks i, sx vs i).1 = sx ks i from rfl, hov']; rfl
          have hf : [(sx ks i, sx vs i)].filter (inU lo hi false) = [(sx ks i, sx vs i)] := by rw [List.filter_cons, e1]; rfl
          have HF := Lib.hid (And.intro hf (show [(sx ks i, sx vs i)].any (ovD lo hi false) = false by rw [List.any_cons, e2]; rfl))
          have hkk := HS1.out.k
          rw [List.filter_append, hf] at hkk
          have hlen : (acc ++ (cx Cs j).reverse.filter (inU lo hi false)).length < K := by simp only [List.length_append, List.length_cons, List.length_nil] at hkk ⊢; omega
          obtain ⟨f1, t1, a1, b1, hy1, hR1⟩ := HY.out.1 (m - 1) (acc ++ (cx Cs j).reverse.filter (inU lo hi false)) (sx ks i, sx vs i) W2.drew (HY.out.2 _ _ 1 HS1.out.j) hlen
          have hy : (Instr.yield l #[.string (sx ks i), .string (sx vs i)]).run Try.prog W2.drew = .ok (.round l f1 t1 a1 b1) W2.drew := hy1
          have HR1 := Lib.hid hR1
          clear hkk hf hR1 hy1 hlen e2 e1 hov hov'
          gi_wp2_with (refine ⟨trivial, ?_⟩)
          refine wpIn_region_stI 28 (by kernel_rfl) (by kernel_rfl) ?_
          simp only [List.take_succ_cons, List.take_zero, List.drop_succ_cons, List.drop_zero]
          refine stI_go (by kernel_rfl) (fun K hK => ?_)
          go_simp
          refine hK _ ?_
          clear hK K
          refine stI_go (by kernel_rfl) (fun K hK => ?_)
          go_simp
          refine hK _ ?_
          clear hK K
          refine stI_go (by kernel_rfl) (fun K hK => ?_)
          go_simp
          refine hK _ ?_
          clear hK K
          refine stI_go (by kernel_rfl) (fun K hK => ?_)
          go_simp
          refine hK _ ?_
          clear hK K
          refine stI_go (by kernel_rfl) (fun K hK => ?_)
          go_simp
          refine hK _ ?_
          clear hK K
          refine stI_go (by kernel_rfl) (fun K hK => ?_)
          go_simp
          refine hK _ ?_
          clear hK K
          refine stI_go (by kernel_rfl) (fun K hK => ?_)
          go_simp
          refine hK _ ?_
          clear hK K
          refine stI_go (by kernel_rfl) (fun K hK => ?_)
          go_simp
          refine hK _ ?_
          clear hK K
          refine stI_go (by kernel_rfl) (fun K hK => ?_)
          go_simp
          refine hK _ ?_
          clear hK K
          refine stI_go (by kernel_rfl) (fun K hK => ?_)
          go_simp
          refine hK _ ?_
          clear hK K
          refine stI_go (by kernel_rfl) (fun K hK => ?_)
          go_simp
          refine hK _ ?_
          clear hK K
          refine stI_go (by kernel_rfl) (fun K hK => ?_)
          go_simp
          refine hK _ ?_
          clear hK K
          refine stI_go (by kernel_rfl) (fun K hK => ?_)
          go_simp
          refine hK _ ?_
          clear hK K
          refine stI_go (by kernel_rfl) (fun K hK => ?_)
          go_simp
          refine hK _ ?_
          clear hK K
          refine stI_go (by kernel_rfl) (fun K hK => ?_)
          go_simp
          refine hK _ ?_
          clear hK K
          refine stI_go (by kernel_rfl) (fun K hK => ?_)
          go_simp
          refine hK _ ?_
          clear hK K
          refine stI_go (by kernel_rfl) (fun K hK => ?_)
          go_simp
          refine hK _ ?_
          clear hK K
          refine stI_go (by kernel_rfl) (fun K hK => ?_)
          go_simp
          refine hK _ ?_
          clear hK K
          refine stI_go (by kernel_rfl) (fun K hK => ?_)
          go_simp
          refine hK _ ?_
          clear hK K
          refine stI_go (by kernel_rfl) (fun K hK => ?_)
          go_simp
          refine hK _ ?_
          clear hK K
          refine stI_go (by kernel_rfl) (fun K hK => ?_)
          go_simp
          refine hK _ ?_
          clear hK K
          refine stI_go (by kernel_rfl) (fun K hK => ?_)
          go_simp
          refine hK _ ?_
          clear hK K
          refine stI_go (by kernel_rfl) (fun K hK => ?_)
          go_simp
          refine hK _ ?_
          clear hK K
          refine stI_go (by kernel_rfl) (fun K hK => ?_)
          go_simp
          refine hK _ ?_
          clear hK K
          refine stI_go (by kernel_rfl) (fun K hK => ?_)
          go_simp
          refine hK _ ?_
          clear hK K
          refine stI_go (by kernel_rfl) (fun K hK => ?_)
          go_simp
          refine hK _ ?_
          clear hK K
          refine stI_go (by kernel_rfl) (fun K hK => ?_)
          go_simp
          refine hK _ ?_
          clear hK K
          refine stI_go (by kernel_rfl) (fun K hK => ?_)
          go_simp
          refine hK _ ?_
          clear hK K
          refine stI_nil ?_
          clear k0 v0 ek ev
          gi_wp2
          refine ⟨fun h => (by cases h), HR1.out.mono ?_⟩
          clear HR1 hy
          rintro e W3 (⟨rfl, hJ2, hk2⟩ | ⟨rfl, hx2⟩)
          · have HS2 := Lib.hid (HS1.out.part HF.out.2 (by rw [HF.out.1]; exact hJ2) ((show Below n₀ W2 W2.drew from ⟨rfl, rfl, rfl, Nat.le_refl _, fun _ _ => rfl⟩).trans hk2))
            clear hJ2 hk2
            gi_wp2
            go_roundw
            case rel => exact ⟨i, _, rfl, Nat.le_of_lt hil, Lib.hid ⟨by have := HS.out.1; have := HIJ.out; omega, HS2.out⟩⟩
            case measure => show ((i : Int).toNat) < ((j : Int).toNat); have := HIJ.out; omega
          · gi_wp2
            go_ret
            exact HS1.out.left (by rw [HF.out.1]; exact List.prefix_rfl) hx2
    · have HH := Lib.hid (HV.out.stopped (Jx := Jx) hst hj2 hb2)
      clear hst hj2 hb2 HV c2 ck
      gi_wp2
      go_ret
      exact HH.out
    · have HH := Lib.hid (HV.out.left hpre hx)
      clear hpre hx HV c2 ck
      gi_wp2
      go_ret
      exact HH.out
set_option maxRecDepth 100000 in
set_option maxHeartbeats 1600000 in
theorem down_inner_true (m l n₀ K N : Nat) (lo hi : Bs) (J Jx : List Pr → World → Prop) (hY : Yields l n₀ K J Jx) (σ : Sig) (ks vs : List Bs) (ns : List Nat) (Cs : List (List Pr)) (L : List Pr)
    (hN : σ N = some ⟨ks, vs, ns⟩) (hl : vs.length = ks.length) (hk : ks.length ≤ 256) (hC : Cs.length = ks.length + 1) (hL : L = inter (ks.zip vs) Cs) (hs : Srt L) (hsk : SrtK ks)
    (hns : ns.length = ks.length + 1) (hkid : ∀ j, j ≤ ks.length → ∃ M, ns[j]? = some M ∧ ∀ m acc W, Hq n₀ W σ → J acc W → acc.length + ((cx Cs j).reverse.filter (inU lo hi true)).length ≤ K →
      CallsIn Fence.wide m Try.prog 40 (upArgs M l lo hi true) W (SOut n₀ J Jx acc ((cx Cs j).reverse.filter (inU lo hi true)) ((cx Cs j).reverse.any (ovD lo hi true)) W))
    (acc0 : List Pr) (W0 : World) (hq : Hq n₀ W0 σ) (hj : J acc0 W0) (hK : acc0.length + (L.reverse.filter (inU lo hi true)).length ≤ K) :
    CallsIn Fence.wide m Try.prog 40 (upArgs N l lo hi true) W0 (SOut n₀ J Jx acc0 (L.reverse.filter (inU lo hi true)) (L.reverse.any (ovD lo hi true)) W0) := by
  obtain ⟨ka, kc, c0, hbs⟩ := hq.hp.bs hN (by omega) hi
  have hb0 := bs_cut ks hi hsk
  have hble : bsI ks hi ≤ ks.length := bsI_le hsk
  obtain ⟨C0, hC0, hC1⟩ := Vd_start (hi := hi) hl hC hL hs hble (fun k hk' => by
    obtain ⟨j, hj', e⟩ := List.mem_drop_iff_getElem.1 hk'
    have := hb0.2 (bsI ks hi + j) (by omega) (by omega)
    rw [sx_get (by omega)] at this
    rw [← e]
    exact this)
  obtain ⟨i0, hi0'⟩ : ∃ i0, i0 = bsI ks hi := ⟨_, rfl⟩
  have HI : Hid (∀ j, j < i0 → j < ks.length → lB (sx ks j) hi = true) := Lib.hid (fun j h1 h2 => hb0.1 j (by omega) h2)
  have hi0 : i0 ≤ ks.length := by omega
  have HS0 : Hid (∀ q, Sc (inU lo hi true) (ovD lo hi true) n₀ K J acc0 L.reverse W0 acc0 (Vd ks vs Cs i0) (W0.drewN q)) := Lib.hid (fun q => by
    have h : Sc (inU lo hi true) (ovD lo hi true) n₀ K J acc0 L.reverse W0 acc0 (C0 ++ Vd ks vs Cs i0) (W0.drewN q) := by
      rw [hi0', ← hC0]
      exact ⟨hY.2 _ _ _ hj, ⟨rfl, rfl, rfl, Nat.le_refl _, fun _ _ => rfl⟩, rfl, rfl, mono_down hs, hK⟩
    exact h.skip (fun x hx => by unfold inU; rw [hC1 x hx]; simp) (fun x hx => by unfold ovD; rw [hC1 x hx]; rfl))
  rw [← hi0'] at hbs
  have HBS := Lib.hid hbs
  clear hb0 hble hC0 hC1 hi0'
  have HQ := Lib.hid hq
  have HN := Lib.hid (And.intro hN (And.intro hl hC))
  have HY := Lib.hid hY
  have HNS := Lib.hid (And.intro hns hkid)
  clear hns hkid
  clear hbs hq hj hK hY hs hsk hL hN hl hC
  refine callsIn_of_wp Try.func40 rfl trivial ?_ rfl
  simp only [Try.ntmps40, List.size_toArray, List.length_cons, List.length_nil, Nat.reduceAdd, Nat.reduceSub, Array.replicate_succ, Array.replicate_zero, List.push_toArray, List.append_toArray, List.nil_append, List.cons_append]
  gi_wp2
  refine ⟨fun h => (by cases h), (callsIn_wide.2 HBS.out).mono ?_⟩
  rintro e W1 ⟨rfl, q0, rfl⟩
  clear c0 HBS
  gi_wp2
  gi_loopw [11] (fun i wr => ∃ (j : Nat) (acc : List Pr), i = .int .i64 j ∧ j ≤ ks.length ∧ Hid (j ≤ i0 ∧ Sc (inU lo hi true) (ovD lo hi true) n₀ K J acc0 L.reverse W0 acc (Vd ks vs Cs j) wr)) (fun i wr => iv i)
  case atStart => exact ⟨i0, acc0, rfl, hi0, Lib.hid ⟨Nat.le_refl _, HS0.out q0⟩⟩
  case round =>
    clear HS0
    obtain ⟨j, acc, rfl, hj, HS⟩ := hrel
    have hp := (HQ.out.below HS.out.2.b).hp
    obtain ⟨dg, dc, c2, hd1, hd2, hdg, hdc⟩ := hp.g2 HN.out.1 (by rw [HNS.out.1]; omega)
    obtain ⟨M, hM, hkid⟩ := HNS.out.2 j hj
    have ck := hdc j M hM
    have hn0 : 0 < ns.length := by rw [HNS.out.1]; omega
    have hnj : j < ns.length := by rw [HNS.out.1]; omega
    have HV := Lib.hid HS.out.2
    have hkk := HS.out.2.k
    have hVK := Vd_kid (ks := ks) (vs := vs) (Cs := Cs) (j := j)
    rw [hVK] at hkk HV
    have HC := Lib.hid (hkid (m - 1) acc wr (HQ.out.below HS.out.2.b) HS.out.2.j (by rw [List.filter_append, List.length_append] at hkk; omega))
    clear hkk hdc hkid hM hp hVK
    gi_wp2
    refine ⟨fun h => (by cases h), HC.out.mono ?_⟩
    clear HC
    rintro e W2 (⟨hst, rfl, hj2, hb2⟩ | ⟨hst, rfl, hj2, hb2⟩ | ⟨rfl, pre, hpre, hx⟩)
    · have HH := Lib.hid (And.intro hst (And.intro hj2 hb2))
      clear hst hj2 hb2 HV c2 ck
      by_cases hlast : j = 0
      · have hV := Vd_last (ks := ks) (vs := vs) (Cs := Cs) hlast
        have HF : Hid (Sc (inU lo hi true) (ovD lo hi true) n₀ K J acc0 L.reverse W0 (acc ++ (cx Cs j).reverse.filter (inU lo hi true)) ([]) W2) := Lib.hid (by
          have := HS.out.2
          rw [hV] at this
          exact this.part HH.out.1 HH.out.2.1 HH.out.2.2)
        clear hV
        subst hlast
        gi_wp2
        go_ret
        exact HF.out.done
      · obtain ⟨i, hij⟩ : ∃ i, i = j - 1 := ⟨_, rfl⟩
        have hV := Vd_next (Cs := Cs) HN.out.2.1 HN.out.2.2 (by omega) hj
        rw [← hij] at hV
        have hil : i < ks.length := by omega
        have hd : decide (j = 0) = false := decide_eq_false hlast
        have hd2 : ((j : Int) == 0) = false := by rw [beq_eq_false_iff_ne]; omega
        have hd3 : (j == 0) = false := by rw [beq_eq_false_iff_ne]; omega
        have hw := wrap_less j i (by omega) (by omega) hij
        have HIJ := Lib.hid hij
        clear hij
        have HS1 : Hid (Sc (inU lo hi true) (ovD lo hi true) n₀ K J acc0 L.reverse W0 (acc ++ (cx Cs j).reverse.filter (inU lo hi true)) ([(sx ks i, sx vs i)] ++ Vd ks vs Cs i) W2) := Lib.hid (by
          have := HS.out.2
          rw [hV] at this
          exact this.part HH.out.1 HH.out.2.1 HH.out.2.2)
        clear hV
        obtain ⟨kg, kc, k0, hk1, hk2, hkg, hkc⟩ := (HQ.out.below HS1.out.b).hp.g0 HN.out.1 (by omega)
        obtain ⟨vg, vc, v0, hv1, hv2, hvg, hvc⟩ := (HQ.out.below HS1.out.b).hp.g1 HN.out.1 (by have := HN.out.2.1; omega)
        have ek := hkc i hil
        have ev := hvc i (by have := HN.out.2.1; omega)
        have hvl : i < vs.length := by have := HN.out.2.1; omega
        have HH1 := Lib.hid (HI.out i (by have := HS.out.1; have := HIJ.out; omega) hil)
        clear hkc hvc
        by_cases hov : lB (sx ks i) lo = true
        · have hg : Op.bytesLess (sx ks i).toList lo.toList = true := hov
          have HG := Lib.hid hov
          clear hov
          gi_wp2_with (refine ⟨trivial, ?_⟩)
          gi_quiet (fail)
          gi_wp2
          go_ret
          have e1 : (inU lo hi true) (sx ks i, sx vs i) = false := by unfold inU; rw [show (sx ks i, sx vs i).1 = sx ks i from rfl, HG.out]; rfl
          have e2 : (ovD lo hi true) (sx ks i, sx vs i) = true := by unfold ovD; rw [show (sx ks i, sx vs i).1 = sx ks i from rfl, HG.out, HH1.out]; rfl
          exact HS1.out.stopped (by rw [List.any_cons, e2]; rfl) (by rw [List.filter_cons, e1]; exact HY.out.2 _ _ nq (by simpa using HS1.out.j)) ⟨rfl, rfl, rfl, Nat.le_refl _, fun _ _ => rfl⟩
        · have hov' : lB (sx ks i) lo = false := by simpa using hov
          have hg : Op.bytesLess (sx ks i).toList lo.toList = false := hov'
          have e1 : (inU lo hi true) (sx ks i, sx vs i) = true := by unfold inU; rw [show (sx ks i, sx vs i).1 = sx ks i from rfl, hov', HH1.out]; rfl
          have e2 : (ovD lo hi true) (sx ks i, sx vs i) = false := by unfold ovD; rw [show (sx ks i, sx vs i).1 = sx ks i from rfl, hov', HH1.out]; rfl
          have hf : [(sx ks i, sx vs i)].filter (inU lo hi true) = [(sx ks i, sx vs i)] := by rw [List.filter_cons, e1]; rfl
          have HF := Lib.hid (And.intro hf (show [(sx ks i, sx vs i)].any (ovD lo hi true) = false by rw [List.any_cons, e2]; rfl))
          have hkk := HS1.out.k
          rw [List.filter_append, hf] at hkk
          have hlen : (acc ++ (cx Cs j).reverse.filter (inU lo hi true)).length < K := by simp only [List.length_append, List.length_cons, List.length_nil] at hkk ⊢; omega
          obtain ⟨f1, t1, a1, b1, hy1, hR1⟩ := HY.out.1 (m - 1) (acc ++ (cx Cs j).reverse.filter (inU lo hi true)) (sx ks i, sx vs i) W2.drew (HY.out.2 _ _ 1 HS1.out.j) hlen
          have hy : (Instr.yield l #[.string (sx ks i), .string (sx vs i)]).run Try.prog W2.drew = .ok (.round l f1 t1 a1 b1) W2.drew := hy1
          have HR1 := Lib.hid hR1
          clear hkk hf hR1 hy1 hlen e2 e1 hov hov'
          gi_wp2_with (refine ⟨trivial, ?_⟩)
          refine wpIn_region_stI 28 (by kernel_rfl) (by kernel_rfl) ?_
          simp only [List.take_succ_cons, List.take_zero, List.drop_succ_cons, List.drop_zero]
          refine stI_go (by kernel_rfl) (fun K hK => ?_)
          go_simp
          refine hK _ ?_
          clear hK K
          refine stI_go (by kernel_rfl) (fun K hK => ?_)
          go_simp
          refine hK _ ?_
          clear hK K
          refine stI_go (by kernel_rfl) (fun K hK => ?_)
          go_simp
          refine hK _ ?_
          clear hK K
          refine stI_go (by kernel_rfl) (fun K hK => ?_)
          go_simp
          refine hK _ ?_
          clear hK K
          refine stI_go (by kernel_rfl) (fun K hK => ?_)
          go_simp
          refine hK _ ?_
          clear hK K
          refine stI_go (by kernel_rfl) (fun K hK => ?_)
          go_simp
          refine hK _ ?_
          clear hK K
          refine stI_go (by kernel_rfl) (fun K hK => ?_)
          go_simp
          refine hK _ ?_
          clear hK K
          refine stI_go (by kernel_rfl) (fun K hK => ?_)
          go_simp
          refine hK _ ?_
          clear hK K
          refine stI_go (by kernel_rfl) (fun K hK => ?_)
          go_simp
          refine hK _ ?_
          clear hK K
          refine stI_go (by kernel_rfl) (fun K hK => ?_)
          go_simp
          refine hK _ ?_
          clear hK K
          refine stI_go (by kernel_rfl) (fun K hK => ?_)
          go_simp
          refine hK _ ?_
          clear hK K
          refine stI_go (by kernel_rfl) (fun K hK => ?_)
          go_simp
          refine hK _ ?_
          clear hK K
          refine stI_go (by kernel_rfl) (fun K hK => ?_)
          go_simp
          refine hK _ ?_
          clear hK K
          refine stI_go (by kernel_rfl) (fun K hK => ?_)
          go_simp
          refine hK _ ?_
          clear hK K
          refine stI_go (by kernel_rfl) (fun K hK => ?_)
          go_simp
          refine hK _ ?_
          clear hK K
          refine stI_go (by kernel_rfl) (fun K hK => ?_)
          go_simp
          refine hK _ ?_
          clear hK K
          refine stI_go (by kernel_rfl) (fun K hK => ?_)
          go_simp
          refine hK _ ?_
          clear hK K
          refine stI_go (by kernel_rfl) (fun K hK => ?_)
          go_simp
          refine hK _ ?_
          clear hK K
          refine stI_go (by kernel_rfl) (fun K hK => ?_)
          go_simp
          refine hK _ ?_
          clear hK K
          refine stI_go (by kernel_rfl) (fun K hK => ?_)
          go_simp
          refine hK _ ?_
          clear hK K
          refine stI_go (by kernel_rfl) (fun K hK => ?_)
          go_simp
          refine hK _ ?_
          clear hK K
          refine stI_go (by kernel_rfl) (fun K hK => ?_)
          go_simp
          refine hK _ ?_
          clear hK K
          refine stI_go (by kernel_rfl) (fun K hK => ?_)
          go_simp
          refine hK _ ?_
          clear hK K
          refine stI_go (by kernel_rfl) (fun K hK => ?_)
          go_simp
          refine hK _ ?_
          clear hK K
          refine stI_go (by kernel_rfl) (fun K hK => ?_)
          go_simp
          refine hK _ ?_
          clear hK K
          refine stI_go (by kernel_rfl) (fun K hK => ?_)
          go_simp
          refine hK _ ?_
          clear hK K
          refine stI_go (by kernel_rfl) (fun K hK => ?_)
          go_simp
          refine hK _ ?_
          clear hK K
          refine stI_go (by kernel_rfl) (fun K hK => ?_)
          go_simp
          refine hK _ ?_
          clear hK K
          refine stI_nil ?_
          clear k0 v0 ek ev
          gi_wp2
          refine ⟨fun h => (by cases h), HR1.out.mono ?_⟩
          clear HR1 hy
          rintro e W3 (⟨rfl, hJ2, hk2⟩ | ⟨rfl, hx2⟩)
          · have HS2 := Lib.hid (HS1.out.part HF.out.2 (by rw [HF.out.1]; exact hJ2) ((show Below n₀ W2 W2.drew from ⟨rfl, rfl, rfl, Nat.le_refl _, fun _ _ => rfl⟩).trans hk2))
            clear hJ2 hk2
            gi_wp2
            go_roundw
            case rel => exact ⟨i, _, rfl, Nat.le_of_lt hil, Lib.hid ⟨by have := HS.out.1; have := HIJ.out; omega, HS2.out⟩⟩
            case measure => show ((i : Int).toNat) < ((j : Int).toNat); have := HIJ.out; omega
          · gi_wp2
            go_ret
            exact HS1.out.left (by rw [HF.out.1]; exact List.prefix_rfl) hx2
    · have HH := Lib.hid (HV.out.stopped (Jx := Jx) hst hj2 hb2)
      clear hst hj2 hb2 HV c2 ck
      gi_wp2
      go_ret
      exact HH.out
    · have HH := Lib.hid (HV.out.left hpre hx)
      clear hpre hx HV c2 ck
      gi_wp2
      go_ret
      exact HH.out
end Go.Proofs.Ytegljepgncicjaa
