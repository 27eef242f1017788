/- Engine: Commit. -/
import Derived.Test.YtpcjmceakelilaaEn12
namespace Go.Proofs.Ytpcjmceakelilaa
open Go.ChangeShapes Go.WideShapes Go.ChangeAt Go.RowKit Go.Deep Go.ChangeMaps Go.Shelf
set_option linter.unusedVariables false
set_option linter.unusedSimpArgs false
theorem refL_small (A : Bs → Bs → List Ver) (s : Int) : ∀ (L : List Chg) (P : List Plc), refL A s L P = 0 → ∀ x ∈ L, x.1.size ≤ 32 ∧ x.2.1.size ≤ 4096 ∧ x.2.2.1.size ≤ 16384
  | [], _, _ => fun x hx => by cases hx
  | y :: L, P, h => fun x hx => by
    unfold refL at h
    by_cases h1 : ref1 A s y P ≠ 0
    · rw [if_pos h1] at h; exact absurd h h1
    · rw [if_neg h1] at h
      rcases List.mem_cons.1 hx with rfl | hx
      · have h2 : ref1 A s x P = 0 := by simpa using h1
        unfold ref1 at h2
        by_cases c1 : isNm x.1 = false
        · rw [if_pos c1] at h2; cases h2
        · rw [if_neg c1] at h2
          by_cases c2 : 4096 < x.2.1.size
          · rw [if_pos c2] at h2; cases h2
          · rw [if_neg c2] at h2
            by_cases c3 : 16384 < x.2.2.1.size
            · rw [if_pos c3] at h2; cases h2
            · refine ⟨?_, by omega, by omega⟩
              unfold isNm at c1
              simp at c1
              omega
      · exact refL_small A s L _ h x hx
theorem refC_zero {A : Bs → Bs → List Ver} {s : Int} {L : List Chg} (h : refC A s L = 0) : 1 ≤ s ∧ s ≤ 1099511627776 ∧ L.length ≤ 256 ∧ Small L ∧ refL A s L [] = 0 := by
  unfold refC at h
  by_cases c1 : s < 1
  · rw [if_pos c1] at h; cases h
  · rw [if_neg c1] at h
    by_cases c2 : 1099511627776 < s
    · rw [if_pos c2] at h; cases h
    · rw [if_neg c2] at h
      by_cases c3 : 256 < L.length
      · rw [if_pos c3] at h; cases h
      · rw [if_neg c3] at h
        refine ⟨by omega, by omega, by omega, ⟨by omega, fun x hx => ?_⟩, h⟩
        have := refL_small A s L [] h x hx
        omega
/-- what Commit returns -/
def comC (A : Bs → Bs → List Ver) (dk : Bs) (s : Int) (L : List Chg) : Int := if refC A s L ≠ 0 then refC A s L else if Fits dk 1 s.toNat L then 0 else 2
def ComOut (B b mt : Nat) (T : List Tb) (st : Int) (dk : Bs) (sy : Int) (s : Int) (L : List Chg) (N : Nat) (W W' : World) : Prop :=
  (comC (cont T) dk s L ≠ 0 ∧ Below W.heap.size W W') ∨ (comC (cont T) dk s L = 0 ∧ refC (cont T) s L = 0 ∧ Fits dk 1 s.toNat L ∧ ∃ T' tc', ETurn B b (FootE b mt T) W W' mt T' tc' (stOf st s L.length) (addD dk 1 s.toNat L) sy ∧ cont T' = addsA (cont T) s L ∧ Bud T' (N + L.length))
set_option maxRecDepth 100000 in
set_option maxHeartbeats 2000000 in
theorem commit_any {B b mt tc : Nat} {T : List Tb} {st sy : Int} {dk : Bs} (s : Int) (v : Value) (L : List Chg) (N : Nat) (W : World) (h : Egs B W b mt T tc st dk sy) (hv : ChAt W v L) (hvF : ∀ k, v.ownBlock = some k → ¬ FootE b mt T k) (hN : Bud T N) (hNL : L.length ≤ 256 → N + L.length < 5000) (hB : B ≤ W.heap.size) (hd : dk.size ≤ 1000000000) :
    Calls Try.prog 12 #[.pointer (some ⟨b, 0, none⟩), v, .int .i64 s] W fun e W' => e = .returned (.int .i64 (comC (cont T) dk s L)) ∧ ComOut B b mt T st dk sy s L N W W' := by
  have HC := Lib.hid (refusal_any s v L W h hv)
  have HE := Lib.hid h
  obtain ⟨va, vc, hve⟩ := hv.len
  by_cases h0 : refC (cont T) s L = 0
  · obtain ⟨s1, s2, s3, s4, s5⟩ := refC_zero h0
    obtain ⟨n, rfl⟩ : ∃ n : Nat, s = (n : Int) := ⟨s.toNat, by omega⟩
    rw [h0] at HC
    have HV := Lib.hid (And.intro hv (And.intro hvF (And.intro hN (And.intro (hNL s3) (And.intro hB hd)))))
    have HS := Lib.hid (And.intro s1 (And.intro s2 (And.intro s3 s4)))
    have H0 := Lib.hid h0
    subst hve
    clear h hv hvF hN hNL hB hd s1 s2 s3 s4 s5 h0
    by_cases hf : Fits dk 1 n L
    · have HF := Lib.hid hf
      have hcc : comC (cont T) dk n L = 0 := by unfold comC; rw [if_neg (by simp [H0.out]), Int.toNat_natCast, if_pos hf]
      rw [hcc]
      have HCC := Lib.hid hcc
      clear hf hcc
      go_enter Try.func12, Try.ntmps12
      go_wp2_with fail
      refine HC.out.mono ?_
      rintro e w1 ⟨rfl, hb1⟩
      have HE1 := Lib.hid (HE.out.below hb1)
      have HV1 := Lib.hid (HV.out.1.below hb1 (fun k hk => HV.out.1.lt k hk))
      have HB1 := Lib.hid hb1
      clear hb1
      go_wp2_with fail
      refine (append_any (k := 1) (s := n) (L := L) HE1.out ⟨by have := HS.out.2.1; omega, .inr ⟨.inl rfl, HV1.out, HS.out.2.2.2⟩⟩ HV.out.2.2.2.2.2).mono ?_
      rintro e w2 h2
      obtain ⟨_, rfl, ht2⟩ := h2.resolve_right (fun h => h.1 HF.out)
      have HT2 := Lib.hid ((ETurn.same HE.out HB1.out).trans ht2)
      have HV2 := Lib.hid (show ChAt w2 (.slice va L.length vc) L from by
        have hk := ht2.kept
        rcases HV1.out with ⟨h1, h2⟩ | ⟨g, c, h1, h2, h3, h4, h5⟩
        · exact .inl ⟨h1, h2⟩
        · have hg : ¬ FootE b mt T g := HV.out.2.1 g (by rw [h1]; rfl)
          refine .inr ⟨g, c, h1, h2, h3, Nat.lt_of_lt_of_le h4 hk.size, fun j hj => ?_⟩
          obtain ⟨a0, a1, a2, a3⟩ := h5 j hj
          exact ⟨cell_kept2 hk h4 hg a0, cell_kept2 hk h4 hg a1, cell_kept2 hk h4 hg a2, cell_kept2 hk h4 hg a3⟩)
      clear ht2 h2
      go_wp2_with fail
      refine (add_walk n _ L N w2 HT2.out.egs HV2.out (fun k hk hf => (HT2.out.foot k hf).elim (HV.out.2.1 k hk) (fun h3 => by have := HV.out.1.lt k hk; omega)) HV.out.2.2.1 HV.out.2.2.2.1 (Nat.le_trans HV.out.2.2.2.2.1 HT2.out.kept.size)).mono ?_
      rintro e w3 ⟨rfl, h3⟩
      have H3 := Lib.hid h3
      clear h3
      go_wp2_with fail
      go_ret
      obtain ⟨T', tc', q1, q2, q3⟩ := H3.out
      exact ⟨rfl, .inr ⟨HCC.out, H0.out, by rw [Int.toNat_natCast]; exact HF.out, T', tc', by rw [Int.toNat_natCast]; exact HT2.out.trans q1, q2, q3⟩⟩
    · have HF := Lib.hid hf
      have hcc : comC (cont T) dk n L = 2 := by unfold comC; rw [if_neg (by simp [H0.out]), Int.toNat_natCast, if_neg hf]
      rw [hcc]
      have HCC := Lib.hid hcc
      clear hf hcc
      go_enter Try.func12, Try.ntmps12
      go_wp2_with fail
      refine HC.out.mono ?_
      rintro e w1 ⟨rfl, hb1⟩
      have HE1 := Lib.hid (HE.out.below hb1)
      have HV1 := Lib.hid (HV.out.1.below hb1 (fun k hk => HV.out.1.lt k hk))
      have HB1 := Lib.hid hb1
      clear hb1
      go_wp2_with fail
      refine (append_any (k := 1) (s := n) (L := L) HE1.out ⟨by have := HS.out.2.1; omega, .inr ⟨.inl rfl, HV1.out, HS.out.2.2.2⟩⟩ HV.out.2.2.2.2.2).mono ?_
      rintro e w2 h2
      obtain ⟨_, rfl, hb2⟩ := h2.resolve_left (fun h => HF.out h.1)
      have HB2 := Lib.hid (HB1.out.trans (hb2.mono HB1.out.size))
      clear hb2 h2
      go_wp2_with fail
      go_ret
      exact ⟨rfl, .inl ⟨by rw [HCC.out]; decide, HB2.out⟩⟩
  · have hcc : comC (cont T) dk s L = refC (cont T) s L := by unfold comC; rw [if_pos h0]
    have HCC := Lib.hid hcc
    rw [hcc]
    generalize hr : refC (cont T) s L = r at *
    have hne : (r != 0) = true := by simpa using h0
    have H0 := Lib.hid h0
    subst hve
    clear h hv hvF hN hNL hB hd h0 hr hcc
    go_enter Try.func12, Try.ntmps12
    go_wp2_with fail
    refine HC.out.mono ?_
    rintro e w1 ⟨rfl, hb1⟩
    have HB1 := Lib.hid hb1
    clear hb1
    go_wp2_with fail
    go_ret
    exact ⟨rfl, .inl ⟨by rw [HCC.out]; exact H0.out, HB1.out⟩⟩
end Go.Proofs.Ytpcjmceakelilaa
