/- Btree: node.up at one node. -/
import Derived.Test.YtegljepgncicjaaBu17
namespace Go.Proofs.Ytegljepgncicjaa
open Go.ChangeShapes Go.WideShapes Go.ChangeAt Go.RowKit Go.Deep Go.Shelf
set_option linter.unusedVariables false
set_option linter.unusedSimpArgs false
attribute [local go_sem] Oper.semAt_some
attribute [local go_sem, local simp] wide_fn
abbrev upArgs (N l : Nat) (lo hi : Bs) (bd : Bool) : Array Value := #[.pointer (some ⟨N, 0, none⟩), .string lo, .string hi, .bool bd, .func (.yield l) #[] #[]]
theorem wrap_small (j : Nat) (h : j ≤ 100000) : IntKind.i64.wrap ((j : Int) + 1) = (j : Int) + 1 := by
  rw [IntKind.wrap_i64]; omega
set_option maxRecDepth 100000 in
set_option maxHeartbeats 1600000 in
theorem up_leaf (m l n₀ K N : Nat) (lo hi : Bs) (bd : Bool) (J Jx : List Pr → World → Prop) (hY : Yields l n₀ K J Jx) (σ : Sig) (ks vs : List Bs) (ns : List Nat) (Cs : List (List Pr)) (L : List Pr)
    (hN : σ N = some ⟨ks, vs, ns⟩) (hl : vs.length = ks.length) (hk : ks.length ≤ 256) (hC : Cs.length = ks.length + 1) (hL : L = inter (ks.zip vs) Cs) (hs : Srt L) (hsk : SrtK ks)
    (hns : ns = []) (hCs : Cs = List.replicate (ks.length + 1) [])
    (acc0 : List Pr) (W0 : World) (hq : Hq n₀ W0 σ) (hj : J acc0 W0) (hK : acc0.length + (L.filter (inU lo hi bd)).length ≤ K) :
    CallsIn Fence.wide m Try.prog 41 (upArgs N l lo hi bd) W0 (SOut n₀ J Jx acc0 (L.filter (inU lo hi bd)) (L.any (ovU lo hi bd)) W0) := by
  obtain ⟨ka, kc, c0, hbs⟩ := hq.hp.bs hN (by omega) lo
  have HBS := Lib.hid hbs
  obtain ⟨hi0, C0, hC0, hC1⟩ := Vu_start (lo := lo) hl hC hL hs hsk
  have hb0 := bs_cut ks lo hsk
  have HS0 : Hid (∀ q, Sc (inU lo hi bd) (ovU lo hi bd) n₀ K J acc0 L W0 acc0 (Vu ks vs Cs (bsI ks lo)) (W0.drewN q)) := Lib.hid (fun q => by
    have h : Sc (inU lo hi bd) (ovU lo hi bd) n₀ K J acc0 L W0 acc0 (C0 ++ Vu ks vs Cs (bsI ks lo)) (W0.drewN q) := by
      rw [← hC0]
      exact ⟨hY.2 _ _ _ hj, ⟨rfl, rfl, rfl, Nat.le_refl _, fun _ _ => rfl⟩, rfl, rfl, mono_up hs, hK⟩
    exact h.skip (fun x hx => by unfold inU; rw [hC1 x hx]; rfl) (fun x hx => by unfold ovU; rw [hC1 x hx]; rfl))
  have HQ := Lib.hid hq
  have HN := Lib.hid (And.intro hN (And.intro hl (And.intro hC hb0.2)))
  have HY := Lib.hid hY
  obtain ⟨i0, hi0'⟩ : ∃ i0, i0 = bsI ks lo := ⟨_, rfl⟩
  have HI := Lib.hid hi0'
  rw [← hi0'] at hi0 HS0 hbs
  have HBS := Lib.hid hbs
  have HCs := Lib.hid hCs
  clear hCs
  clear hbs hC0 hC1 hb0 hq hj hK hY hs hsk hL hN hl hC hi0'
  refine callsIn_of_wp Try.func41 rfl trivial ?_ rfl
  simp only [Try.ntmps41, List.size_toArray, List.length_cons, List.length_nil, Nat.reduceAdd, Nat.reduceSub, Array.replicate_succ, Array.replicate_zero, List.push_toArray, List.append_toArray, List.nil_append, List.cons_append]
  gi_wp2
  refine ⟨fun h => (by cases h), (callsIn_wide.2 HBS.out).mono ?_⟩
  rintro e W1 ⟨rfl, q0, rfl⟩
  clear c0 HBS
  gi_wp2
  gi_loopw [11] (fun i wr => ∃ (j : Nat) (acc : List Pr), i = .int .i64 j ∧ j ≤ ks.length ∧ Hid (i0 ≤ j ∧ Sc (inU lo hi bd) (ovU lo hi bd) n₀ K J acc0 L W0 acc (Vu ks vs Cs j) wr)) (fun i wr => ks.length - iv i)
  case atStart => exact ⟨i0, acc0, rfl, hi0, Lib.hid ⟨Nat.le_refl _, HS0.out q0⟩⟩
  case round =>
    clear HS0
    obtain ⟨j, acc, rfl, hj, HS⟩ := hrel
    obtain ⟨da, dc, c2, _, _⟩ := (HQ.out.below HS.out.2.b).hp.f2 HN.out.1
    rw [show ns.length = 0 by rw [hns]; rfl] at c2
    by_cases hlast : j = ks.length
    · have hV := Vu_last HN.out.2.1 HN.out.2.2.1 hlast
      obtain ⟨ka, kc, c0, _, _⟩ := (HQ.out.below HS.out.2.b |>.hp).f0 HN.out.1
      have hd : decide (j = ks.length) = true := decide_eq_true hlast
      have hd2 : ((j : Int) == (ks.length : Int)) = true := by rw [hlast]; exact beq_self_eq_true _
      have HF : Hid (Sc (inU lo hi bd) (ovU lo hi bd) n₀ K J acc0 L W0 acc ([]) wr) := Lib.hid (by
        have := HS.out.2
        have e : cx Cs j = [] := by rw [HCs.out]; exact cx_leaf _ _
        rw [hV, e, List.nil_append] at this
        exact this)
      clear hV
      gi_wp2
      go_ret
      exact HF.out.done
    · have hjl : j < ks.length := by omega
      have hV := Vu_next HN.out.2.1 HN.out.2.2.1 hjl
      have hd : decide (j = ks.length) = false := decide_eq_false hlast
      have hd2 : ((j : Int) == (ks.length : Int)) = false := by rw [beq_eq_false_iff_ne]; omega
      have HS1 : Hid (Sc (inU lo hi bd) (ovU lo hi bd) n₀ K J acc0 L W0 acc ([(sx ks j, sx vs j)] ++ Vu ks vs Cs (j + 1)) wr) := Lib.hid (by
        have := HS.out.2
        have e : cx Cs j = [] := by rw [HCs.out]; exact cx_leaf _ _
        rw [hV, e, List.nil_append] at this
        exact this)
      clear hV
      obtain ⟨kg, kc, k0, hk1, hk2, hkg, hkc⟩ := (HQ.out.below HS1.out.b).hp.g0 HN.out.1 (by omega)
      obtain ⟨vg, vc, v0, hv1, hv2, hvg, hvc⟩ := (HQ.out.below HS1.out.b).hp.g1 HN.out.1 (by have := HN.out.2.1; omega)
      have ek := hkc j hjl
      have ev := hvc j (by have := HN.out.2.1; omega)
      have hvl : j < vs.length := by have := HN.out.2.1; omega
      have hlo : lB (sx ks j) lo = false := HN.out.2.2.2 j (by rw [← HI.out]; exact HS.out.1) hjl
      have hlo2 := Lib.hid hlo
      clear hkc hvc hlast
      by_cases hov : bd = true ∧ lB (sx ks j) hi = false
      · obtain ⟨rfl, hhi⟩ := hov
        have hg : Op.bytesLess (sx ks j).toList hi.toList = false := hhi
        have HG := Lib.hid hhi
        clear hhi hlo
        gi_wp2_with (refine ⟨trivial, ?_⟩)
        gi_quiet (fail)
        gi_wp2
        go_ret
        have e1 : (inU lo hi true) (sx ks j, sx vs j) = false := by unfold inU; rw [show (sx ks j, sx vs j).1 = sx ks j from rfl, HG.out]; simp
        have e2 : (ovU lo hi true) (sx ks j, sx vs j) = true := by unfold ovU; rw [show (sx ks j, sx vs j).1 = sx ks j from rfl, HG.out, hlo2.out]; rfl
        exact HS1.out.stopped (by rw [List.any_cons, e2]; rfl) (by rw [List.filter_cons, e1]; exact HY.out.2 _ _ nq (by simpa using HS1.out.j)) ⟨rfl, rfl, rfl, Nat.le_refl _, fun _ _ => rfl⟩
      · have e1 : (inU lo hi bd) (sx ks j, sx vs j) = true := by
          unfold inU
          rw [show (sx ks j, sx vs j).1 = sx ks j from rfl, hlo]
          cases bd with
          | false => rfl
          | true => cases hh : lB (sx ks j) hi with
            | false => exact absurd ⟨rfl, hh⟩ hov
            | true => rfl
        have e2 : (ovU lo hi bd) (sx ks j, sx vs j) = false := by
          unfold inU at e1
          unfold ovU
          rw [show (sx ks j, sx vs j).1 = sx ks j from rfl] at e1 ⊢
          cases bd with
          | false => simp
          | true => rw [hlo] at e1 ⊢; simpa using e1
        have hf : [(sx ks j, sx vs j)].filter (inU lo hi bd) = [(sx ks j, sx vs j)] := by rw [List.filter_cons, e1]; rfl
        have HF := Lib.hid (And.intro hf (show [(sx ks j, sx vs j)].any (ovU lo hi bd) = false by rw [List.any_cons, e2]; rfl))
        have hkk := HS1.out.k
        rw [List.filter_append, hf] at hkk
        have hlen : acc.length < K := by simp only [List.length_append, List.length_cons, List.length_nil] at hkk ⊢; omega
        obtain ⟨f1, t1, a1, b1, hy1, hR1⟩ := HY.out.1 (m - 1) acc (sx ks j, sx vs j) wr.drew (HY.out.2 _ _ 1 HS1.out.j) hlen
        have hy : (Instr.yield l #[.string (sx ks j), .string (sx vs j)]).run Try.prog wr.drew = .ok (.round l f1 t1 a1 b1) wr.drew := hy1
        have HR1 := Lib.hid hR1
        clear hkk hf hlo hR1 hy1 hlen e2
        gi_wp2_with (refine ⟨trivial, ?_⟩)
        refine wpIn_region_stI 28 (by kernel_rfl) (by kernel_rfl) ?_
        simp only [List.take_succ_cons, List.take_zero, List.drop_succ_cons, List.drop_zero]
        cases bd with
        | false =>
          refine stI_go (by kernel_rfl) (fun K hK => ?_)
          go_simp
          refine hK _ ?_
          clear hK K
          refine stI_go (by kernel_rfl) (fun K hK => ?_)
          go_simp
          refine hK _ ?_
          clear hK K
          refine stI_skip (by kernel_rfl) (fun K hK => ?_)
          go_simp
          refine hK _ ?_
          clear hK K
          refine stI_skip (by kernel_rfl) (fun K hK => ?_)
          go_simp
          refine hK _ ?_
          clear hK K
          refine stI_skip (by kernel_rfl) (fun K hK => ?_)
          go_simp
          refine hK _ ?_
          clear hK K
          refine stI_skip (by kernel_rfl) (fun K hK => ?_)
          go_simp
          refine hK _ ?_
          clear hK K
          refine stI_skip (by kernel_rfl) (fun K hK => ?_)
          go_simp
          refine hK _ ?_
          clear hK K
          refine stI_skip (by kernel_rfl) (fun K hK => ?_)
          go_simp
          refine hK _ ?_
          clear hK K
          refine stI_skip (by kernel_rfl) (fun K hK => ?_)
          go_simp
          refine hK _ ?_
          clear hK K
          refine stI_skip (by kernel_rfl) (fun K hK => ?_)
          go_simp
          refine hK _ ?_
          clear hK K
          refine stI_skip (by kernel_rfl) (fun K hK => ?_)
          go_simp
          refine hK _ ?_
          clear hK K
          refine stI_go (by kernel_rfl) (fun K hK => ?_)
          go_simp
          refine hK _ ?_
          clear hK K
          refine stI_go (by kernel_rfl) (fun K hK => ?_)
          go_simp
          refine hK _ ?_
          clear hK K
          refine stI_go (by kernel_rfl) (fun K hK => ?_)
          go_simp
          refine hK _ ?_
          clear hK K
          refine stI_go (by kernel_rfl) (fun K hK => ?_)
          go_simp
          refine hK _ ?_
          clear hK K
          refine stI_go (by kernel_rfl) (fun K hK => ?_)
          go_simp
          refine hK _ ?_
          clear hK K
          refine stI_go (by kernel_rfl) (fun K hK => ?_)
          go_simp
          refine hK _ ?_
          clear hK K
          refine stI_go (by kernel_rfl) (fun K hK => ?_)
          go_simp
          refine hK _ ?_
          clear hK K
          refine stI_go (by kernel_rfl) (fun K hK => ?_)
          go_simp
          refine hK _ ?_
          clear hK K
          refine stI_go (by kernel_rfl) (fun K hK => ?_)
          go_simp
          refine hK _ ?_
          clear hK K
          refine stI_go (by kernel_rfl) (fun K hK => ?_)
          go_simp
          refine hK _ ?_
          clear hK K
          refine stI_go (by kernel_rfl) (fun K hK => ?_)
          go_simp
          refine hK _ ?_
          clear hK K
          refine stI_go (by kernel_rfl) (fun K hK => ?_)
          go_simp
          refine hK _ ?_
          clear hK K
          refine stI_go (by kernel_rfl) (fun K hK => ?_)
          go_simp
          refine hK _ ?_
          clear hK K
          refine stI_go (by kernel_rfl) (fun K hK => ?_)
          go_simp
          refine hK _ ?_
          clear hK K
          refine stI_go (by kernel_rfl) (fun K hK => ?_)
          go_simp
          refine hK _ ?_
          clear hK K
          refine stI_go (by kernel_rfl) (fun K hK => ?_)
          go_simp
          refine hK _ ?_
          clear hK K
          refine stI_go (by kernel_rfl) (fun K hK => ?_)
          go_simp
          refine hK _ ?_
          clear hK K
          refine stI_nil ?_
          clear k0 v0 ek ev
          gi_wp2
          refine ⟨fun h => (by cases h), HR1.out.mono ?_⟩
          clear HR1 hy
          rintro e W2 (⟨rfl, hJ2, hk2⟩ | ⟨rfl, hx2⟩)
          · have HS2 := Lib.hid (HS1.out.part HF.out.2 (by rw [HF.out.1]; exact hJ2) ((show Below n₀ wr wr.drew from ⟨rfl, rfl, rfl, Nat.le_refl _, fun _ _ => rfl⟩).trans hk2))
            have hw1 : IntKind.i64.wrap ((j : Int) + 1) = (j : Int) + 1 := wrap_small j (by omega)
            clear hJ2 hk2
            gi_wp2
            go_roundw
            case rel => exact ⟨j + 1, _, by push_cast; rfl, hjl, Lib.hid ⟨by have := HS.out.1; omega, HS2.out⟩⟩
            case measure => show ks.length - (((j : Int) + 1).toNat) < ks.length - ((j : Int)).toNat; omega
          · gi_wp2
            go_ret
            exact HS1.out.left (by rw [HF.out.1]; exact List.prefix_rfl) hx2
        | true =>
          have hg : Op.bytesLess (sx ks j).toList hi.toList = true := by
            unfold inU at e1
            rw [show (sx ks j, sx vs j).1 = sx ks j from rfl] at e1
            simp only [Bool.and_eq_true, Bool.not_true, Bool.false_or] at e1
            exact e1.2
          clear e1
          refine stI_go (by kernel_rfl) (fun K hK => ?_)
          go_simp
          refine hK _ ?_
          clear hK K
          refine stI_go (by kernel_rfl) (fun K hK => ?_)
          go_simp
          refine hK _ ?_
          clear hK K
          refine stI_go (by kernel_rfl) (fun K hK => ?_)
          go_simp
          refine hK _ ?_
          clear hK K
          refine stI_go (by kernel_rfl) (fun K hK => ?_)
          go_simp
          refine hK _ ?_
          clear hK K
          refine stI_go (by kernel_rfl) (fun K hK => ?_)
          go_simp
          refine hK _ ?_
          clear hK K
          refine stI_go (by kernel_rfl) (fun K hK => ?_)
          go_simp
          refine hK _ ?_
          clear hK K
          refine stI_go (by kernel_rfl) (fun K hK => ?_)
          go_simp
          refine hK _ ?_
          clear hK K
          refine stI_go (by kernel_rfl) (fun K hK => ?_)
          go_simp
          refine hK _ ?_
          clear hK K
          refine stI_go (by kernel_rfl) (fun K hK => ?_)
          go_simp
          refine hK _ ?_
          clear hK K
          refine stI_go (by kernel_rfl) (fun K hK => ?_)
          go_simp
          refine hK _ ?_
          clear hK K
          refine stI_go (by kernel_rfl) (fun K hK => ?_)
          go_simp
          refine hK _ ?_
          clear hK K
          refine stI_go (by kernel_rfl) (fun K hK => ?_)
          go_simp
          refine hK _ ?_
          clear hK K
          refine stI_go (by kernel_rfl) (fun K hK => ?_)
          go_simp
          refine hK _ ?_
          clear hK K
          refine stI_go (by kernel_rfl) (fun K hK => ?_)
          go_simp
          refine hK _ ?_
          clear hK K
          refine stI_go (by kernel_rfl) (fun K hK => ?_)
          go_simp
          refine hK _ ?_
          clear hK K
          refine stI_go (by kernel_rfl) (fun K hK => ?_)
          go_simp
          refine hK _ ?_
          clear hK K
          refine stI_go (by kernel_rfl) (fun K hK => ?_)
          go_simp
          refine hK _ ?_
          clear hK K
          refine stI_go (by kernel_rfl) (fun K hK => ?_)
          go_simp
          refine hK _ ?_
          clear hK K
          refine stI_go (by kernel_rfl) (fun K hK => ?_)
          go_simp
          refine hK _ ?_
          clear hK K
          refine stI_go (by kernel_rfl) (fun K hK => ?_)
          go_simp
          refine hK _ ?_
          clear hK K
          refine stI_go (by kernel_rfl) (fun K hK => ?_)
          go_simp
          refine hK _ ?_
          clear hK K
          refine stI_go (by kernel_rfl) (fun K hK => ?_)
          go_simp
          refine hK _ ?_
          clear hK K
          refine stI_go (by kernel_rfl) (fun K hK => ?_)
          go_simp
          refine hK _ ?_
          clear hK K
          refine stI_go (by kernel_rfl) (fun K hK => ?_)
          go_simp
          refine hK _ ?_
          clear hK K
          refine stI_go (by kernel_rfl) (fun K hK => ?_)
          go_simp
          refine hK _ ?_
          clear hK K
          refine stI_go (by kernel_rfl) (fun K hK => ?_)
          go_simp
          refine hK _ ?_
          clear hK K
          refine stI_go (by kernel_rfl) (fun K hK => ?_)
          go_simp
          refine hK _ ?_
          clear hK K
          refine stI_go (by kernel_rfl) (fun K hK => ?_)
          go_simp
          refine hK _ ?_
          clear hK K
          refine stI_nil ?_
          clear k0 v0 ek ev
          gi_wp2
          refine ⟨fun h => (by cases h), HR1.out.mono ?_⟩
          clear HR1 hy
          rintro e W2 (⟨rfl, hJ2, hk2⟩ | ⟨rfl, hx2⟩)
          · have HS2 := Lib.hid (HS1.out.part HF.out.2 (by rw [HF.out.1]; exact hJ2) ((show Below n₀ wr wr.drew from ⟨rfl, rfl, rfl, Nat.le_refl _, fun _ _ => rfl⟩).trans hk2))
            have hw1 : IntKind.i64.wrap ((j : Int) + 1) = (j : Int) + 1 := wrap_small j (by omega)
            clear hJ2 hk2
            gi_wp2
            go_roundw
            case rel => exact ⟨j + 1, _, by push_cast; rfl, hjl, Lib.hid ⟨by have := HS.out.1; omega, HS2.out⟩⟩
            case measure => show ks.length - (((j : Int) + 1).toNat) < ks.length - ((j : Int)).toNat; omega
          · gi_wp2
            go_ret
            exact HS1.out.left (by rw [HF.out.1]; exact List.prefix_rfl) hx2

set_option maxRecDepth 100000 in
set_option maxHeartbeats 1600000 in
theorem up_inner (m l n₀ K N : Nat) (lo hi : Bs) (bd : Bool) (J Jx : List Pr → World → Prop) (hY : Yields l n₀ K J Jx) (σ : Sig) (ks vs : List Bs) (ns : List Nat) (Cs : List (List Pr)) (L : List Pr)
    (hN : σ N = some ⟨ks, vs, ns⟩) (hl : vs.length = ks.length) (hk : ks.length ≤ 256) (hC : Cs.length = ks.length + 1) (hL : L = inter (ks.zip vs) Cs) (hs : Srt L) (hsk : SrtK ks)
    (hns : ns.length = ks.length + 1) (hkid : ∀ j, j ≤ ks.length → ∃ M, ns[j]? = some M ∧ ∀ m acc W, Hq n₀ W σ → J acc W → acc.length + ((cx Cs j).filter (inU lo hi bd)).length ≤ K →
      CallsIn Fence.wide m Try.prog 41 (upArgs M l lo hi bd) W (SOut n₀ J Jx acc ((cx Cs j).filter (inU lo hi bd)) ((cx Cs j).any (ovU lo hi bd)) W))
    (acc0 : List Pr) (W0 : World) (hq : Hq n₀ W0 σ) (hj : J acc0 W0) (hK : acc0.length + (L.filter (inU lo hi bd)).length ≤ K) :
    CallsIn Fence.wide m Try.prog 41 (upArgs N l lo hi bd) W0 (SOut n₀ J Jx acc0 (L.filter (inU lo hi bd)) (L.any (ovU lo hi bd)) W0) := by
  obtain ⟨ka, kc, c0, hbs⟩ := hq.hp.bs hN (by omega) lo
  have HBS := Lib.hid hbs
  obtain ⟨hi0, C0, hC0, hC1⟩ := Vu_start (lo := lo) hl hC hL hs hsk
  have hb0 := bs_cut ks lo hsk
  have HS0 : Hid (∀ q, Sc (inU lo hi bd) (ovU lo hi bd) n₀ K J acc0 L W0 acc0 (Vu ks vs Cs (bsI ks lo)) (W0.drewN q)) := Lib.hid (fun q => by
    have h : Sc (inU lo hi bd) (ovU lo hi bd) n₀ K J acc0 L W0 acc0 (C0 ++ Vu ks vs Cs (bsI ks lo)) (W0.drewN q) := by
      rw [← hC0]
      exact ⟨hY.2 _ _ _ hj, ⟨rfl, rfl, rfl, Nat.le_refl _, fun _ _ => rfl⟩, rfl, rfl, mono_up hs, hK⟩
    exact h.skip (fun x hx => by unfold inU; rw [hC1 x hx]; rfl) (fun x hx => by unfold ovU; rw [hC1 x hx]; rfl))
  have HQ := Lib.hid hq
  have HN := Lib.hid (And.intro hN (And.intro hl (And.intro hC hb0.2)))
  have HY := Lib.hid hY
  obtain ⟨i0, hi0'⟩ : ∃ i0, i0 = bsI ks lo := ⟨_, rfl⟩
  have HI := Lib.hid hi0'
  rw [← hi0'] at hi0 HS0 hbs
  have HBS := Lib.hid hbs
  have HNS := Lib.hid (And.intro hns hkid)
  clear hns hkid
  clear hbs hC0 hC1 hb0 hq hj hK hY hs hsk hL hN hl hC hi0'
  refine callsIn_of_wp Try.func41 rfl trivial ?_ rfl
  simp only [Try.ntmps41, List.size_toArray, List.length_cons, List.length_nil, Nat.reduceAdd, Nat.reduceSub, Array.replicate_succ, Array.replicate_zero, List.push_toArray, List.append_toArray, List.nil_append, List.cons_append]
  gi_wp2
  refine ⟨fun h => (by cases h), (callsIn_wide.2 HBS.out).mono ?_⟩
  rintro e W1 ⟨rfl, q0, rfl⟩
  clear c0 HBS
  gi_wp2
  gi_loopw [11] (fun i wr => ∃ (j : Nat) (acc : List Pr), i = .int .i64 j ∧ j ≤ ks.length ∧ Hid (i0 ≤ j ∧ Sc (inU lo hi bd) (ovU lo hi bd) n₀ K J acc0 L W0 acc (Vu ks vs Cs j) wr)) (fun i wr => ks.length - iv i)
  case atStart => exact ⟨i0, acc0, rfl, hi0, Lib.hid ⟨Nat.le_refl _, HS0.out q0⟩⟩
  case round =>
    clear HS0
    obtain ⟨j, acc, rfl, hj, HS⟩ := hrel
    have hp := (HQ.out.below HS.out.2.b).hp
    obtain ⟨dg, dc, c2, hd1, hd2, hdg, hdc⟩ := hp.g2 HN.out.1 (by rw [HNS.out.1]; omega)
    obtain ⟨M, hM, hkid⟩ := HNS.out.2 j hj
    have ck := hdc j M hM
    have hn0 : 0 < ns.length := by rw [HNS.out.1]; omega
    have hnj : j < ns.length := by rw [HNS.out.1]; omega
    have HV := Lib.hid HS.out.2
    have hkk := HS.out.2.k
    have hVK := Vu_kid (vs := vs) HN.out.2.2.1 hj
    rw [hVK] at hkk HV
    have HC := Lib.hid (hkid (m - 1) acc wr (HQ.out.below HS.out.2.b) HS.out.2.j (by rw [List.filter_append, List.length_append] at hkk; omega))
    clear hkk hdc hkid hM hp hVK
    gi_wp2
    refine ⟨fun h => (by cases h), HC.out.mono ?_⟩
    clear HC
    rintro e W2 (⟨hst, rfl, hj2, hb2⟩ | ⟨hst, rfl, hj2, hb2⟩ | ⟨rfl, pre, hpre, hx⟩)
    · have HH := Lib.hid (And.intro hst (And.intro hj2 hb2))
      have HH3 := Lib.hid (HS.out.2.b.trans hb2)
      clear hst hj2 hb2 HV c2 ck
      by_cases hlast : j = ks.length
      · have hV := Vu_last HN.out.2.1 HN.out.2.2.1 hlast
        obtain ⟨ka, kc, c0, _, _⟩ := (HQ.out.below HH3.out |>.hp).f0 HN.out.1
        have hd : decide (j = ks.length) = true := decide_eq_true hlast
        have hd2 : ((j : Int) == (ks.length : Int)) = true := by rw [hlast]; exact beq_self_eq_true _
        have HF : Hid (Sc (inU lo hi bd) (ovU lo hi bd) n₀ K J acc0 L W0 (acc ++ (cx Cs j).filter (inU lo hi bd)) ([]) W2) := Lib.hid (by
          have := HS.out.2
          rw [hV] at this
          exact this.part HH.out.1 HH.out.2.1 HH.out.2.2)
        clear hV
        gi_wp2
        go_ret
        exact HF.out.done
      · have hjl : j < ks.length := by omega
        have hV := Vu_next HN.out.2.1 HN.out.2.2.1 hjl
        have hd : decide (j = ks.length) = false := decide_eq_false hlast
        have hd2 : ((j : Int) == (ks.length : Int)) = false := by rw [beq_eq_false_iff_ne]; omega
        have HS1 : Hid (Sc (inU lo hi bd) (ovU lo hi bd) n₀ K J acc0 L W0 (acc ++ (cx Cs j).filter (inU lo hi bd)) ([(sx ks j, sx vs j)] ++ Vu ks vs Cs (j + 1)) W2) := Lib.hid (by
          have := HS.out.2
          rw [hV] at this
          exact this.part HH.out.1 HH.out.2.1 HH.out.2.2)
        clear hV
        obtain ⟨kg, kc, k0, hk1, hk2, hkg, hkc⟩ := (HQ.out.below HS1.out.b).hp.g0 HN.out.1 (by omega)
        obtain ⟨vg, vc, v0, hv1, hv2, hvg, hvc⟩ := (HQ.out.below HS1.out.b).hp.g1 HN.out.1 (by have := HN.out.2.1; omega)
        have ek := hkc j hjl
        have ev := hvc j (by have := HN.out.2.1; omega)
        have hvl : j < vs.length := by have := HN.out.2.1; omega
        have hlo : lB (sx ks j) lo = false := HN.out.2.2.2 j (by rw [← HI.out]; exact HS.out.1) hjl
        have hlo2 := Lib.hid hlo
        clear hkc hvc hlast
        by_cases hov : bd = true ∧ lB (sx ks j) hi = false
        · obtain ⟨rfl, hhi⟩ := hov
          have hg : Op.bytesLess (sx ks j).toList hi.toList = false := hhi
          have HG := Lib.hid hhi
          clear hhi hlo
          gi_wp2_with (refine ⟨trivial, ?_⟩)
          gi_quiet (fail)
          gi_wp2
          go_ret
          have e1 : (inU lo hi true) (sx ks j, sx vs j) = false := by unfold inU; rw [show (sx ks j, sx vs j).1 = sx ks j from rfl, HG.out]; simp
          have e2 : (ovU lo hi true) (sx ks j, sx vs j) = true := by unfold ovU; rw [show (sx ks j, sx vs j).1 = sx ks j from rfl, HG.out, hlo2.out]; rfl
          exact HS1.out.stopped (by rw [List.any_cons, e2]; rfl) (by rw [List.filter_cons, e1]; exact HY.out.2 _ _ nq (by simpa using HS1.out.j)) ⟨rfl, rfl, rfl, Nat.le_refl _, fun _ _ => rfl⟩
        · have e1 : (inU lo hi bd) (sx ks j, sx vs j) = true := by
            unfold inU
            rw [show (sx ks j, sx vs j).1 = sx ks j from rfl, hlo]
            cases bd with
            | false => rfl
            | true => cases hh : lB (sx ks j) hi with
              | false => exact absurd ⟨rfl, hh⟩ hov
              | true => rfl
          have e2 : (ovU lo hi bd) (sx ks j, sx vs j) = false := by
            unfold inU at e1
            unfold ovU
            rw [show (sx ks j, sx vs j).1 = sx ks j from rfl] at e1 ⊢
            cases bd with
            | false => simp
            | true => rw [hlo] at e1 ⊢; simpa using e1
          have hf : [(sx ks j, sx vs j)].filter (inU lo hi bd) = [(sx ks j, sx vs j)] := by rw [List.filter_cons, e1]; rfl
          have HF := Lib.hid (And.intro hf (show [(sx ks j, sx vs j)].any (ovU lo hi bd) = false by rw [List.any_cons, e2]; rfl))
          have hkk := HS1.out.k
          rw [List.filter_append, hf] at hkk
          have hlen : (acc ++ (cx Cs j).filter (inU lo hi bd)).length < K := by simp only [List.length_append, List.length_cons, List.length_nil] at hkk ⊢; omega
          obtain ⟨f1, t1, a1, b1, hy1, hR1⟩ := HY.out.1 (m - 1) (acc ++ (cx Cs j).filter (inU lo hi bd)) (sx ks j, sx vs j) W2.drew (HY.out.2 _ _ 1 HS1.out.j) hlen
          have hy : (Instr.yield l #[.string (sx ks j), .string (sx vs j)]).run Try.prog W2.drew = .ok (.round l f1 t1 a1 b1) W2.drew := hy1
          have HR1 := Lib.hid hR1
          clear hkk hf hlo hR1 hy1 hlen e2
          gi_wp2_with (refine ⟨trivial, ?_⟩)
          refine wpIn_region_stI 28 (by kernel_rfl) (by kernel_rfl) ?_
          simp only [List.take_succ_cons, List.take_zero, List.drop_succ_cons, List.drop_zero]
          cases bd with
          | false =>
            refine stI_go (by kernel_rfl) (fun K hK => ?_)
            go_simp
            refine hK _ ?_
            clear hK K
            refine stI_go (by kernel_rfl) (fun K hK => ?_)
            go_simp
            refine hK _ ?_
            clear hK K
            refine stI_skip (by kernel_rfl) (fun K hK => ?_)
            go_simp
            refine hK _ ?_
            clear hK K
            refine stI_skip (by kernel_rfl) (fun K hK => ?_)
            go_simp
            refine hK _ ?_
            clear hK K
            refine stI_skip (by kernel_rfl) (fun K hK => ?_)
            go_simp
            refine hK _ ?_
            clear hK K
            refine stI_skip (by kernel_rfl) (fun K hK => ?_)
            go_simp
            refine hK _ ?_
            clear hK K
            refine stI_skip (by kernel_rfl) (fun K hK => ?_)
            go_simp
            refine hK _ ?_
            clear hK K
            refine stI_skip (by kernel_rfl) (fun K hK => ?_)
            go_simp
            refine hK _ ?_
            clear hK K
            refine stI_skip (by kernel_rfl) (fun K hK => ?_)
            go_simp
            refine hK _ ?_
            clear hK K
            refine stI_skip (by kernel_rfl) (fun K hK => ?_)
            go_simp
            refine hK _ ?_
            clear hK K
            refine stI_skip (by kernel_rfl) (fun K hK => ?_)
            go_simp
            refine hK _ ?_
            clear hK K
            refine stI_go (by kernel_rfl) (fun K hK => ?_)
            go_simp
            refine hK _ ?_
            clear hK K
            refine stI_go (by kernel_rfl) (fun K hK => ?_)
            go_simp
            refine hK _ ?_
            clear hK K
            refine stI_go (by kernel_rfl) (fun K hK => ?_)
            go_simp
            refine hK _ ?_
            clear hK K
            refine stI_go (by kernel_rfl) (fun K hK => ?_)
            go_simp
            refine hK _ ?_
            clear hK K
            refine stI_go (by kernel_rfl) (fun K hK => ?_)
            go_simp
            refine hK _ ?_
            clear hK K
            refine stI_go (by kernel_rfl) (fun K hK => ?_)
            go_simp
            refine hK _ ?_
            clear hK K
            refine stI_go (by kernel_rfl) (fun K hK => ?_)
            go_simp
            refine hK _ ?_
            clear hK K
            refine stI_go (by kernel_rfl) (fun K hK => ?_)
            go_simp
            refine hK _ ?_
            clear hK K
            refine stI_go (by kernel_rfl) (fun K hK => ?_)
            go_simp
            refine hK _ ?_
            clear hK K
            refine stI_go (by kernel_rfl) (fun K hK => ?_)
            go_simp
            refine hK _ ?_
            clear hK K
            refine stI_go (by kernel_rfl) (fun K hK => ?_)
            go_simp
            refine hK _ ?_
            clear hK K
            refine stI_go (by kernel_rfl) (fun K hK => ?_)
            go_simp
            refine hK _ ?_
            clear hK K
            refine stI_go (by kernel_rfl) (fun K hK => ?_)
            go_simp
            refine hK _ ?_
            clear hK K
            refine stI_go (by kernel_rfl) (fun K hK => ?_)
            go_simp
            refine hK _ ?_
            clear hK K
            refine stI_go (by kernel_rfl) (fun K hK => ?_)
            go_simp
            refine hK _ ?_
            clear hK K
            refine stI_go (by kernel_rfl) (fun K hK => ?_)
            go_simp
            refine hK _ ?_
            clear hK K
            refine stI_go (by kernel_rfl) (fun K hK => ?_)
            go_simp
            refine hK _ ?_
            clear hK K
            refine stI_nil ?_
            clear k0 v0 ek ev
            gi_wp2
            refine ⟨fun h => (by cases h), HR1.out.mono ?_⟩
            clear HR1 hy
            rintro e W3 (⟨rfl, hJ2, hk2⟩ | ⟨rfl, hx2⟩)
            · have HS2 := Lib.hid (HS1.out.part HF.out.2 (by rw [HF.out.1]; exact hJ2) ((show Below n₀ W2 W2.drew from ⟨rfl, rfl, rfl, Nat.le_refl _, fun _ _ => rfl⟩).trans hk2))
              have hw1 : IntKind.i64.wrap ((j : Int) + 1) = (j : Int) + 1 := wrap_small j (by omega)
              clear hJ2 hk2
              gi_wp2
              go_roundw
              case rel => exact ⟨j + 1, _, by push_cast; rfl, hjl, Lib.hid ⟨by have := HS.out.1; omega, HS2.out⟩⟩
              case measure => show ks.length - (((j : Int) + 1).toNat) < ks.length - ((j : Int)).toNat; omega
            · gi_wp2
              go_ret
              exact HS1.out.left (by rw [HF.out.1]; exact List.prefix_rfl) hx2
          | true =>
            have hg : Op.bytesLess (sx ks j).toList hi.toList = true := by
              unfold inU at e1
              rw [show (sx ks j, sx vs j).1 = sx ks j from rfl] at e1
              simp only [Bool.and_eq_true, Bool.not_true, Bool.false_or] at e1
              exact e1.2
            clear e1
            refine stI_go (by kernel_rfl) (fun K hK => ?_)
            go_simp
            refine hK _ ?_
            clear hK K
            refine stI_go (by kernel_rfl) (fun K hK => ?_)
            go_simp
            refine hK _ ?_
            clear hK K
            refine stI_go (by kernel_rfl) (fun K hK => ?_)
            go_simp
            refine hK _ ?_
            clear hK K
            refine stI_go (by kernel_rfl) (fun K hK => ?_)
            go_simp
            refine hK _ ?_
            clear hK K
            refine stI_go (by kernel_rfl) (fun K hK => ?_)
            go_simp
            refine hK _ ?_
            clear hK K
            refine stI_go (by kernel_rfl) (fun K hK => ?_)
            go_simp
            refine hK _ ?_
            clear hK K
            refine stI_go (by kernel_rfl) (fun K hK => ?_)
            go_simp
            refine hK _ ?_
            clear hK K
            refine stI_go (by kernel_rfl) (fun K hK => ?_)
            go_simp
            refine hK _ ?_
            clear hK K
            refine stI_go (by kernel_rfl) (fun K hK => ?_)
            go_simp
            refine hK _ ?_
            clear hK K
            refine stI_go (by kernel_rfl) (fun K hK => ?_)
            go_simp
            refine hK _ ?_
            clear hK K
            refine stI_go (by kernel_rfl) (fun K hK => ?_)
            go_simp
            refine hK _ ?_
            clear hK K
            refine stI_go (by kernel_rfl) (fun K hK => ?_)
            go_simp
            refine hK _ ?_
            clear hK K
            refine stI_go (by kernel_rfl) (fun K hK => ?_)
            go_simp
            refine hK _ ?_
            clear hK K
            refine stI_go (by kernel_rfl) (fun K hK => ?_)
            go_simp
            refine hK _ ?_
            clear hK K
            refine stI_go (by kernel_rfl) (fun K hK => ?_)
            go_simp
            refine hK _ ?_
            clear hK K
            refine stI_go (by kernel_rfl) (fun K hK => ?_)
            go_simp
            refine hK _ ?_
            clear hK K
            refine stI_go (by kernel_rfl) (fun K hK => ?_)
            go_simp
            refine hK _ ?_
            clear hK K
            refine stI_go (by kernel_rfl) (fun K hK => ?_)
            go_simp
            refine hK _ ?_
            clear hK K
            refine stI_go (by kernel_rfl) (fun K hK => ?_)
            go_simp
            refine hK _ ?_
            clear hK K
            refine stI_go (by kernel_rfl) (fun K hK => ?_)
            go_simp
            refine hK _ ?_
            clear hK K
            refine stI_go (by kernel_rfl) (fun K hK => ?_)
            go_simp
            refine hK _ ?_
            clear hK K
            refine stI_go (by kernel_rfl) (fun K hK => ?_)
            go_simp
            refine hK _ ?_
            clear hK K
            refine stI_go (by kernel_rfl) (fun K hK => ?_)
            go_simp
            refine hK _ ?_
            clear hK K
            refine stI_go (by kernel_rfl) (fun K hK => ?_)
            go_simp
            refine hK _ ?_
            clear hK K
            refine stI_go (by kernel_rfl) (fun K hK => ?_)
            go_simp
            refine hK _ ?_
            clear hK K
            refine stI_go (by kernel_rfl) (fun K hK => ?_)
            go_simp
            refine hK _ ?_
            clear hK K
            refine stI_go (by kernel_rfl) (fun K hK => ?_)
            go_simp
            refine hK _ ?_
            clear hK K
            refine stI_go (by kernel_rfl) (fun K hK => ?_)
            go_simp
            refine hK _ ?_
            clear hK K
            refine stI_nil ?_
            clear k0 v0 ek ev
            gi_wp2
            refine ⟨fun h => (by cases h), HR1.out.mono ?_⟩
            clear HR1 hy
            rintro e W3 (⟨rfl, hJ2, hk2⟩ | ⟨rfl, hx2⟩)
            · have HS2 := Lib.hid (HS1.out.part HF.out.2 (by rw [HF.out.1]; exact hJ2) ((show Below n₀ W2 W2.drew from ⟨rfl, rfl, rfl, Nat.le_refl _, fun _ _ => rfl⟩).trans hk2))
              have hw1 : IntKind.i64.wrap ((j : Int) + 1) = (j : Int) + 1 := wrap_small j (by omega)
              clear hJ2 hk2
              gi_wp2
              go_roundw
              case rel => exact ⟨j + 1, _, by push_cast; rfl, hjl, Lib.hid ⟨by have := HS.out.1; omega, HS2.out⟩⟩
              case measure => show ks.length - (((j : Int) + 1).toNat) < ks.length - ((j : Int)).toNat; omega
            · gi_wp2
              go_ret
              exact HS1.out.left (by rw [HF.out.1]; exact List.prefix_rfl) hx2
    · have HH := Lib.hid (HV.out.stopped (Jx := Jx) hst hj2 hb2)
      clear hst hj2 hb2 HV c2 ck
      gi_wp2
      go_ret
      exact HH.out
    · have HH := Lib.hid (HV.out.left hpre hx)
      clear hpre hx HV c2 ck
      gi_wp2
      go_ret
      exact HH.out
end Go.Proofs.Ytegljepgncicjaa
