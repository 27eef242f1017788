/- Balance: the law about ends. -/
import Derived.Test.YtimhokilicogdaaBal36
namespace Go.Proofs.Ytimhokilicogdaa
open Go.ChangeShapes Go.WideShapes Go.ChangeAt Go.RowKit Go.Deep
set_option linter.unusedVariables false
set_option linter.unusedSimpArgs false
/-- the state of the law's first loop -/
def ES (w : World) (sp : ByteArray) (ks : Value) (hs : Bool) (ep vr : Int) (cs0 : List Ch) (xs : List Int) (m k : Nat) (W : World) : Prop :=
  ∃ (B o cap : Nat) (cs : List Ch), EE w sp ks hs ep (vr + k) B o cap cs W ∧ After cs0 cs ∧ cs.length ≤ cap ∧ Lim cs xs m (cs.length - k)
theorem OwnC.rows {w : World} {b0 g cap : Nat} {cs : List Ch} (h : OwnC w b0 g cap cs) : ∀ j (hj : j < cs.length), w.rangeAt g (0 + j * 5) cs[j].cells := fun j hj i u hu => by
  have hi : i < 5 := (List.getElem?_eq_some_iff.1 hu).1
  have := h.cellAt (j * 5 + i) (by omega)
  rw [Nat.zero_add, this, chv_get cs j i hj hi, hu]
theorem mem_snoc (q : Int) (xs : List Int) (j : Nat) (h : j < xs.length) : decide (q ∈ xs.take (j + 1)) = (decide (q ∈ xs.take j) || decide (xs[j] = q)) := by
  rw [List.take_succ_eq_append_getElem h, Bool.eq_iff_iff]
  simp only [List.mem_append, List.mem_singleton, decide_eq_true_eq, Bool.or_eq_true]
  exact ⟨fun h => h.imp id Eq.symm, fun h => h.imp id Eq.symm⟩
theorem way_of_none {cs : List Ch} {xs : List Int} {m : Nat} (h : way cs xs m = none) (h1 : 1 ≤ m) (h8 : m ≤ 8) : wayOf cs xs m = none := by
  unfold way at h
  rw [if_pos (by omega)] at h
  simpa using h
set_option maxRecDepth 100000 in
set_option maxHeartbeats 4000000 in
theorem ends_in (sp : ByteArray) (ka : Option Addr) (kl kc : Nat) (hs : Bool) (ep vr : Int) (ch : Value) (cs0 : List Ch) (os : List Ord) (n : Int) (dr : Value) (xs : List Int) (w : World) (hsp : sp.size ≤ maxLen) (hf : cs0.length ≤ 80 ∧ xs.length ≤ 20) (hcap : ∀ a len cap, ch = .slice a len cap → len ≤ cap)
    (hc : ChsIn w ch cs0) (hk : OrdIn w (.slice ka kl kc) os) (hd : IntsIn w dr xs) :
    Calls Try.prog 6 #[rts sp (.slice ka kl kc) hs ep vr ch, .int .i64 n, dr] w fun e w' => e = .returned (.bool true) ∧ Below w.heap.size w w' := by
  obtain ⟨a, cap, rfl⟩ := hc.slice
  obtain ⟨a2, cap2, rfl⟩ := hd.slice
  have hcap' := hcap _ _ _ rfl
  have HC := Lib.hid hc
  have HD := Lib.hid hd
  have HK := Lib.hid hk
  clear hc hd hk hcap
  have HS := Lib.hid (RB.start w sp (.slice ka kl kc) hs ep vr (.slice a cs0.length cap))
  have HFR : Hid (∀ o, (w.alloc (.cells #[.string sp, .slice ka kl kc, .bool hs, .int .i64 ep, .int .i64 vr, .slice a cs0.length cap] 27)).frozen? ⟨w.heap.size, o, none⟩ = false) := Lib.hid fun o => by simp [go_sem]
  have HFW := Lib.hid (few_any sp (.slice ka kl kc) hs ep vr a cs0.length cap a2 xs.length cap2)
  go_enter Try.func6, Try.ntmps6
  go_wp2_with fail
  refine (HS.out.nextG (G := fun e w' => e = _ ∧ ∀ o, w'.frozen? ⟨w.heap.size, o, none⟩ = false) ((HFW.out _).mono fun e w' ⟨h1, h2⟩ => ⟨⟨h1, fun o => (h2.frozen (p := ⟨w.heap.size, o, none⟩) (by simp)).trans (HFR.out o)⟩, h2⟩)).mono ?_
  rintro e w1 ⟨⟨he1, hfr⟩, _, hR1⟩
  have HF1 := Lib.hid hfr
  clear hfr
  rw [decide_eq_true hf] at he1
  subst he1
  have HF := Lib.hid hf
  clear hf HFW HS HFR
  have HR1 := Lib.hid hR1
  obtain ⟨a0, a1, a2', a3, a4, a5, hz1, hb1⟩ := hR1
  have hb1' := Lib.hid hb1
  clear hb1
  go_wp2_with fail
  refine (HR1.out.nextG (G := fun e w' => (∃ n : Int, e = .returned (.int .i64 n) ∧ (n = 0 → Good cs0 ∧ 1 ≤ vr)) ∧ ∀ o, w'.frozen? ⟨w.heap.size, o, none⟩ = false) ((valid_any sp _ hs ep vr _ cs0 os _ hsp (HC.out.below hb1'.out) (HK.out.below hb1'.out)).mono fun e w' ⟨n, h1, h2, h3⟩ => ⟨⟨⟨n, h1, h2⟩, fun o => (h3.frozen (p := ⟨w.heap.size, o, none⟩) hz1).trans (HF1.out o)⟩, h3⟩)).mono ?_
  rintro e w2 ⟨⟨⟨vn, rfl, hgood⟩, hfr⟩, _, hR2⟩
  have HF2 := Lib.hid hfr
  have HGD := Lib.hid hgood
  clear hgood hfr HF1 HR1 a0 a1 a2' a3 a4 a5 hz1 hb1'
  have HR2 := Lib.hid hR2
  obtain ⟨a0, a1, a2', a3, a4, a5, hz1, hb1⟩ := hR2
  have HB2 := Lib.hid hb1
  have hs2 := hb1.size
  clear hb1
  have hbad : ∀ (w3 : World) (e : Ending), True → True := fun _ _ _ => trivial
  clear hbad
  by_cases hvn : vn = 0
  · subst hvn
    have hv1 := (HGD.out rfl).2
    have HG := Lib.hid (HGD.out rfl).1
    clear HGD
    by_cases hvr : 1152921504606846976 < vr
    · go_wp2_with fail
      refine (awake_any _).mono ?_
      rintro e w3 ⟨rfl, hb3⟩
      go_wp2_with fail
      go_ret
      exact ⟨rfl, HB2.out.trans (hb3.mono hs2)⟩
    · by_cases hn : 1 ≤ n ∧ n ≤ 8
      · obtain ⟨m, rfl⟩ := Int.eq_ofNat_of_zero_le (a := n) (by omega)
        have hm1 : 1 ≤ m := by omega
        have hm8 : m ≤ 8 := by omega
        clear hn
        have hne0 := HG.out.1
        have hl0 : 0 < cs0.length := List.length_pos_iff.2 hne0
        clear hne0
        obtain ⟨B0, o0, rfl, hB0, hl9, hcc⟩ := HC.out.at hl0
        have HES : Hid (ES w sp (.slice ka kl kc) hs ep vr cs0 xs m 0 w2) := Lib.hid ⟨B0, o0, cap, cs0, ⟨by simpa using rcs_of HR2.out, HF2.out, Nat.lt_of_lt_of_le hB0 hs2, fun j h => rangeAt5_below (hcc j h) HB2.out hB0, HB2.out⟩, After.refl _, hcap', Lim.start _ _ _⟩
        clear hcc HC HK HF2 HR2 HB2
        have hvb : decide (1152921504606846976 < vr) = false := decide_eq_false hvr
        have hmb1 : decide ((m : Int) < 1) = false := decide_eq_false (by omega)
        have hmb2 : decide (8 < (m : Int)) = false := decide_eq_false (by omega)
        go_wp2_with fail
        clear hvb
        go_loopw [7] (fun v W => ∃ k : Nat, v = .int .i64 k ∧ k ≤ cs0.length ∧ ES w sp (.slice ka kl kc) hs ep vr cs0 xs m k W) (fun v _ => cs0.length - (intOf v).toNat)
        case atStart => exact ⟨0, rfl, Nat.zero_le _, HES.out⟩
        case round =>
          clear HES a0 a1 a2' a3 a4 a5 hz1 hs2
          obtain ⟨k, rfl, hk, B, o, cap1, cs, hE, hA, hcp, hL⟩ := hrel
          have HLN := Lib.hid hA.len
          have hle1 : cs.length ≤ cs0.length := by rw [HLN.out]; exact Nat.le_refl _
          have hle2 : cs0.length ≤ cs.length := by rw [HLN.out]; exact Nat.le_refl _
          have HE := Lib.hid hE
          have HA := Lib.hid hA
          have HL := Lib.hid hL
          have hlen80 : cs.length ≤ 80 := by have := HF.out.1; omega
          have hlc : 0 < cs.length := by omega
          obtain ⟨⟨⟨a0, hz1⟩, ⟨a1, _⟩, ⟨a2', _⟩, ⟨a3, _⟩, ⟨a4, _⟩, ⟨a5, _⟩, _⟩, _⟩ := hE
          dsimp only at hz1
          clear hA hL
          by_cases hlt : k < cs.length
          · have hkl : (k : Int) < (cs.length : Int) := by omega
            go_wp2_with fail
            refine (even_any sp _ hs ep (vr + k) _ cs m _ xs _ (by omega) (HE.out.chs hlc (by omega)) (HD.out.below HE.out.below)).mono ?_
            rintro e w3 ⟨he3, hb3⟩
            have HE3 := Lib.hid (HE.out.keep hb3)
            clear HE a0 a1 a2' a3 a4 a5 hz1 hb3
            obtain ⟨⟨⟨a0, hz1⟩, ⟨a1, _⟩, ⟨a2', _⟩, ⟨a3, _⟩, ⟨a4, _⟩, ⟨a5, _⟩, _⟩, _⟩ := HE3.out
            dsimp only at hz1
            cases hw : way cs xs m with
            | none =>
              rw [hw] at he3
              simp only [Option.isNone_none] at he3
              subst he3
              have HW := Lib.hid hw
              clear hw
              go_wp2_with fail
              clear a0 a1 a2' a3 a4 a5 hz1 HL HA
              have HWO := Lib.hid (way_of_none HW.out hm1 hm8)
              refine (even_any sp _ hs ep (vr + k) _ cs m _ xs _ (by omega) (HE3.out.chs hlc (by omega)) (HD.out.below HE3.out.below)).mono ?_
              rintro e w4 ⟨he4, hb4⟩
              rw [HW.out] at he4
              simp only [Option.isNone_none] at he4
              subst he4
              have HE4 := Lib.hid (HE3.out.keep hb4)
              clear HE3 hb4
              obtain ⟨⟨⟨a0, hz1⟩, ⟨a1, _⟩, ⟨a2', _⟩, ⟨a3, _⟩, ⟨a4, _⟩, ⟨a5, _⟩, _⟩, _⟩ := HE4.out
              dsimp only at hz1
              have hl80 : (cs.length : Int) ≤ 80 := by omega
              go_wp2_with fail
              clear a0 a1 a2' a3 a4 a5 hz1
              go_loopw [12, 13, 14, 15] (fun l mo fu v W => ∃ (q : Nat) (L M : Int) (F : Bool), q ≤ m ∧ v = .int .i64 q ∧ l = .int .i64 L ∧ mo = .int .i64 M ∧ fu = .bool F ∧ Seen cs xs q L M F ∧ EE w sp (.slice ka kl kc) hs ep (vr + k) B o cap1 cs W) (fun _ _ _ v _ => m - (intOf v).toNat)
              case atStart => exact ⟨0, -1, -1, false, Nat.zero_le _, rfl, rfl, rfl, rfl, Seen.start _ _, HE4.out⟩
              case round =>
                clear HE4
                obtain ⟨q, L, M, F, hq, rfl, rfl, rfl, rfl, hS, hE5⟩ := hrel
                have HS5 := Lib.hid hS
                have HE5 := Lib.hid hE5
                obtain ⟨hlo1, hlo2, hlo3, hlo4, hlo5⟩ := hS.low
                obtain ⟨⟨⟨a0, hz1⟩, ⟨a1, _⟩, ⟨a2', _⟩, ⟨a3, _⟩, ⟨a4, _⟩, ⟨a5, _⟩, _⟩, _⟩ := hE5
                dsimp only at hz1
                clear hS
                by_cases hqm : q < m
                · go_wp2_with fail
                  refine (lload_in sp _ hs ep (vr + k) B o cap1 cs q _ (by omega) HE5.out.2.2.1 HE5.out.2.2.2.1).mono ?_
                  rintro e w5 ⟨rfl, hb5⟩
                  have HE6 := Lib.hid (HE5.out.keep hb5)
                  clear HE5 hb5 a0 a1 a2' a3 a4 a5 hz1
                  have hk0 := ldf_nonneg cs q
                  have HKQ : Hid (((loadOf cs (q : Int) : Nat) : Int) = ldf cs q) := Lib.hid (ldf_load cs q).symm
                  have hk80 : ldf cs q ≤ 80 := by have := loadOf_le cs (q : Int); have := HKQ.out; omega
                  rw [HKQ.out]
                  generalize hKG : ldf cs q = K at hk0 hk80 ⊢
                  have HKG := Lib.hid hKG
                  clear hKG HKQ
                  go_wp2_with fail
                  go_loop [17, 18] (fun d v => ∃ j : Nat, j ≤ xs.length ∧ v = .int .i64 j ∧ d = .bool (decide ((q : Int) ∈ xs.take j))) (fun _ v => xs.length - (intOf v).toNat)
                  case atStart => exact ⟨0, Nat.zero_le _, rfl, by simp⟩
                  case round =>
                    obtain ⟨j, hj, rfl, rfl⟩ := hrel
                    have hx20 := HF.out.2
                    by_cases hlj : j < xs.length
                    · obtain ⟨B2, o2, rfl, hB2, hx2⟩ := HD.out.at (by omega)
                      have hxc := (HE6.out.below.cell (p := ⟨B2, o2 + j, none⟩) hB2).trans (hx2 j hlj)
                      clear hx2
                      have HTK : Hid (decide ((q : Int) ∈ xs.take (j + 1)) = (decide ((q : Int) ∈ xs.take j) || decide (xs[j] = (q : Int)))) := Lib.hid (by
                        exact mem_snoc _ _ _ hlj)
                      generalize xs[j] = x at hxc HTK
                      generalize hb1 : decide ((q : Int) ∈ xs.take j) = b1 at HTK ⊢
                      have HB1 := Lib.hid hb1
                      clear hb1
                      have hjl : (j : Int) < (xs.length : Int) := by omega
                      cases b1
                      · by_cases hxq : x = (q : Int)
                        · have hxe : (x == (q : Int)) = true := by rw [hxq]; simp
                          have HT2 : Hid (decide ((q : Int) ∈ xs.take (j + 1)) = true) := Lib.hid (by rw [HTK.out, decide_eq_true hxq]; rfl)
                          clear hxq HTK
                          go_wp2_with fail
                          go_round
                          case rel => exact ⟨j + 1, by omega, by go_num, by rw [HT2.out]⟩
                          case measure => simp [intOf]; omega
                        · have hxe : (x == (q : Int)) = false := by rw [beq_eq_false_iff_ne]; exact hxq
                          have HT2 : Hid (decide ((q : Int) ∈ xs.take (j + 1)) = false) := Lib.hid (by rw [HTK.out, decide_eq_false hxq]; rfl)
                          clear hxq HTK
                          go_wp2_with fail
                          go_round
                          case rel => exact ⟨j + 1, by omega, by go_num, by rw [HT2.out]⟩
                          case measure => simp [intOf]; omega
                      · have HT2 : Hid (decide ((q : Int) ∈ xs.take (j + 1)) = true) := Lib.hid (by rw [HTK.out]; rfl)
                        clear HTK
                        go_wp2_with fail
                        go_round
                        case rel => exact ⟨j + 1, by omega, by go_num, by rw [HT2.out]⟩
                        case measure => simp [intOf]; omega
                    · have HDQ : Hid (decide ((q : Int) ∈ xs.take j) = drn xs q) := Lib.hid (by rw [List.take_of_length_le (by omega)]; rfl)
                      have hjl : ¬ (j : Int) < (xs.length : Int) := by omega
                      rw [HDQ.out]
                      clear HDQ
                      generalize hbd : drn xs q = bd
                      have HBD := Lib.hid hbd
                      clear hbd
                      cases bd
                      · by_cases hL0 : L < 0
                        · by_cases hMK : M < K
                          · go_wp2_with fail
                            go_roundw
                            case rel => exact ⟨q + 1, K, K, F, by omega, by go_num, rfl, rfl, rfl, HS5.out.other HBD.out K K (.inl HKG.out.symm) (.inl HKG.out.symm), HE6.out⟩
                            case measure => simp [intOf]; omega
                          · omega
                        · by_cases hKL : K < L
                          · by_cases hMK : M < K
                            · go_wp2_with fail
                              go_roundw
                              case rel => exact ⟨q + 1, K, K, F, by omega, by go_num, rfl, rfl, rfl, HS5.out.other HBD.out K K (.inl HKG.out.symm) (.inl HKG.out.symm), HE6.out⟩
                              case measure => simp [intOf]; omega
                            · go_wp2_with fail
                              go_roundw
                              case rel => exact ⟨q + 1, K, M, F, by omega, by go_num, rfl, rfl, rfl, HS5.out.other HBD.out K M (.inl HKG.out.symm) (.inr ⟨by omega, rfl⟩), HE6.out⟩
                              case measure => simp [intOf]; omega
                          · by_cases hMK : M < K
                            · go_wp2_with fail
                              go_roundw
                              case rel => exact ⟨q + 1, L, K, F, by omega, by go_num, rfl, rfl, rfl, HS5.out.other HBD.out L K (.inr ⟨by omega, rfl⟩) (.inl HKG.out.symm), HE6.out⟩
                              case measure => simp [intOf]; omega
                            · go_wp2_with fail
                              go_roundw
                              case rel => exact ⟨q + 1, L, M, F, by omega, by go_num, rfl, rfl, rfl, HS5.out.other HBD.out L M (.inr ⟨by omega, rfl⟩) (.inr ⟨by omega, rfl⟩), HE6.out⟩
                              case measure => simp [intOf]; omega
                      · cases F
                        · by_cases hK0 : 0 < K
                          · go_wp2_with fail
                            go_roundw
                            case rel => exact ⟨q + 1, L, M, true, by omega, by go_num, rfl, rfl, by first | rfl | simp [hK0], HS5.out.drained HBD.out true (fun _ => .inr (by rw [HKG.out]; exact hK0)), HE6.out⟩
                            case measure => simp [intOf]; omega
                          · go_wp2_with fail
                            go_roundw
                            case rel => exact ⟨q + 1, L, M, false, by omega, by go_num, rfl, rfl, by first | rfl | simp; omega, HS5.out.drained HBD.out false (fun h => by cases h), HE6.out⟩
                            case measure => simp [intOf]; omega
                        · go_wp2_with fail
                          go_roundw
                          case rel => exact ⟨q + 1, L, M, true, by omega, by go_num, rfl, rfl, rfl, HS5.out.drained HBD.out true (fun _ => .inl rfl), HE6.out⟩
                          case measure => simp [intOf]; omega
                · have hqe : q = m := by omega
                  subst hqe
                  have hdn := HS5.out.done HWO.out
                  have hqq : ¬ (q : Int) < (q : Int) := by omega
                  have HB5 := Lib.hid HE5.out.below
                  have hs5 := HB5.out.size
                  clear HE5 a0 a1 a2' a3 a4 a5 hz1
                  rcases hdn with hd | ⟨hd1, hd2, hd3, hd4⟩
                  · subst hd
                    go_wp2_with fail
                    refine (awake_any _).mono ?_
                    rintro e w6 ⟨rfl, hb6⟩
                    go_wp2_with fail
                    go_ret
                    exact ⟨rfl, HB5.out.trans (hb6.mono hs5)⟩
                  · subst hd1
                    have hL0 : ¬ L < 0 := by omega
                    have hML : M - L ≤ 1 := by omega
                    go_wp2_with fail
                    refine (awake_any _).mono ?_
                    rintro e w6 ⟨rfl, hb6⟩
                    go_wp2_with fail
                    go_ret
                    exact ⟨rfl, HB5.out.trans (hb6.mono hs5)⟩
            | some ft =>
              obtain ⟨f, t⟩ := ft
              obtain ⟨m', hmm, _, _, hwo, i, hi, hfit, hpv⟩ := way_facts hw
              obtain rfl : m = m' := by omega
              rw [hw] at he3
              simp only [Option.isNone_some] at he3
              subst he3
              go_wp2_with fail
              refine (next_any sp _ hs ep (vr + k) _ cs m _ xs _ (by omega) (HE3.out.chs hlc (by omega)) (HD.out.below HE3.out.below)).mono ?_
              rintro e w4 ⟨he4, hb4⟩
              rw [hw, hpv] at he4
              subst he4
              have HE4 := Lib.hid (HE3.out.keep hb4)
              clear HE3 a0 a1 a2' a3 a4 a5 hz1 hb4 hpv hmm
              obtain ⟨⟨⟨a0, hz1⟩, ⟨a1, _⟩, ⟨a2', _⟩, ⟨a3, _⟩, ⟨a4, _⟩, ⟨a5, _⟩, _⟩, _⟩ := HE4.out
              dsimp only at hz1
              obtain ⟨htm, hfm, hdt, hpos, hmin, hor⟩ := way_some hwo
              have hft := way_ne hwo
              have hfs : cs[i].sh = (f : Int) ∧ cs[i].jb = false := by simpa [fit] using hfit
              have hnt : cs[i].sh ≠ (t : Int) := by rw [hfs.1]; omega
              have hjb := hfs.2
              have HLO : Hid (∀ j (h : j < i), (cs[j]'(by omega)).lo ≠ cs[i].lo) := Lib.hid (HA.out.distinct HG.out i hi)
              have HST : Hid (∃ k', cs.length - k = k' + 1 ∧ Lim (given cs i t (vr + k + 1)) xs m k') := Lib.hid (HL.out.step hwo hi hfit (vr + k + 1))
              have HAG := Lib.hid (HA.out.given i t (vr + k + 1))
              have HGL := Lib.hid (given_length cs i t (vr + k + 1))
              clear hfs hmin hor hpos hfit hw hwo hdt HL
              generalize hlo : cs[i].lo = lo at HLO ⊢
              have HLE := Lib.hid hlo
              clear hlo
              go_wp2_with fail
              refine calls_named (fun W => EE w sp (.slice ka kl kc) hs ep (vr + k) B o cap1 cs W ∧ KP W (pcs w4.heap.size lo f t)) ⟨HE4.out.new _, pcs_new _ _ _ _ _⟩ ?_
              rintro w5 ⟨hE5, hP5⟩
              have HE5 := Lib.hid hE5
              clear hE5 hP5 HE4 a0 a1 a2' a3 a4 a5 hz1
              refine (give_at sp ka kl kc hs ep (vr + k) B o cap1 cs lo t i _ (by omega) hcp (by omega) (by omega) HE5.out.2.2.1 HE5.out.2.2.2.1 hi HLE.out HLO.out (by omega) (by omega) hnt hjb).mono ?_
              rintro e w6 ⟨g, cap3, rfl, hown, hb6⟩
              have HE6 := Lib.hid (HE5.out.keep hb6)
              have HO6 := Lib.hid hown
              have hgl := hown.lt g rfl
              have hgw : w.heap.size < g := by have h1 := HE5.out.1.1.2; have h2 : w.heap.size < w5.heap.size := h1; omega
              clear HE5 hown hb6
              obtain ⟨⟨⟨a0, hz1⟩, ⟨a1, _⟩, ⟨a2', _⟩, ⟨a3, _⟩, ⟨a4, _⟩, ⟨a5, _⟩, _⟩, hfz, _⟩ := HE6.out
              dsimp only at hz1
              have z0 := hfz 0
              have z1 := hfz 1
              have z2 := hfz 2
              have z3 := hfz 3
              have z4 := hfz 4
              have z5 := hfz 5
              have hzn : w.heap.size ≠ w6.heap.size := by omega
              clear hfz
              go_wp2_with fail
              go_roundw
              case rel =>
                obtain ⟨k', hk', hlim⟩ := HST.out
                refine ⟨k + 1, by go_num, by omega, g, 0, cap3, given cs i t (vr + k + 1), ?_, HAG.out, HO6.out.le, ?_⟩
                · have e : vr + ((k + 1 : Nat) : Int) = vr + k + 1 := by omega
                  rw [e]
                  exact (HE6.out.store hgl.2 hgw HO6.out.rows).new _
                · rw [HGL.out, show cs.length - (k + 1) = k' from by omega]
                  exact hlim
              case measure => simp [intOf]; omega
          · have HKE : Hid (k = cs.length) := Lib.hid (by omega)
            have HW : Hid (way cs xs m = none) := Lib.hid (by
              cases hw : way cs xs m with
              | none => rfl
              | some ft =>
                obtain ⟨f, t⟩ := ft
                obtain ⟨m', hmm, _, _, hwo, _⟩ := way_facts hw
                obtain rfl : m = m' := by omega
                have := HL.out
                rw [HKE.out, Nat.sub_self] at this
                exact (this.done hwo).elim)
            have hkl : ¬ (k : Int) < (cs.length : Int) := by omega
            go_wp2_with fail
            clear a0 a1 a2' a3 a4 a5 hz1 HL HA HKE
            have HWO := Lib.hid (way_of_none HW.out hm1 hm8)
            refine (even_any sp _ hs ep (vr + k) _ cs m _ xs _ (by omega) (HE.out.chs hlc (by omega)) (HD.out.below HE.out.below)).mono ?_
            rintro e w4 ⟨he4, hb4⟩
            rw [HW.out] at he4
            simp only [Option.isNone_none] at he4
            subst he4
            have HE4 := Lib.hid (HE.out.keep hb4)
            clear HE hb4
            obtain ⟨⟨⟨a0, hz1⟩, ⟨a1, _⟩, ⟨a2', _⟩, ⟨a3, _⟩, ⟨a4, _⟩, ⟨a5, _⟩, _⟩, _⟩ := HE4.out
            dsimp only at hz1
            have hl80 : (cs.length : Int) ≤ 80 := by omega
            go_wp2_with fail
            clear a0 a1 a2' a3 a4 a5 hz1
            go_loopw [12, 13, 14, 15] (fun l mo fu v W => ∃ (q : Nat) (L M : Int) (F : Bool), q ≤ m ∧ v = .int .i64 q ∧ l = .int .i64 L ∧ mo = .int .i64 M ∧ fu = .bool F ∧ Seen cs xs q L M F ∧ EE w sp (.slice ka kl kc) hs ep (vr + k) B o cap1 cs W) (fun _ _ _ v _ => m - (intOf v).toNat)
            case atStart => exact ⟨0, -1, -1, false, Nat.zero_le _, rfl, rfl, rfl, rfl, Seen.start _ _, HE4.out⟩
            case round =>
              clear HE4
              obtain ⟨q, L, M, F, hq, rfl, rfl, rfl, rfl, hS, hE5⟩ := hrel
              have HS5 := Lib.hid hS
              have HE5 := Lib.hid hE5
              obtain ⟨hlo1, hlo2, hlo3, hlo4, hlo5⟩ := hS.low
              obtain ⟨⟨⟨a0, hz1⟩, ⟨a1, _⟩, ⟨a2', _⟩, ⟨a3, _⟩, ⟨a4, _⟩, ⟨a5, _⟩, _⟩, _⟩ := hE5
              dsimp only at hz1
              clear hS
              by_cases hqm : q < m
              · go_wp2_with fail
                refine (lload_in sp _ hs ep (vr + k) B o cap1 cs q _ (by omega) HE5.out.2.2.1 HE5.out.2.2.2.1).mono ?_
                rintro e w5 ⟨rfl, hb5⟩
                have HE6 := Lib.hid (HE5.out.keep hb5)
                clear HE5 hb5 a0 a1 a2' a3 a4 a5 hz1
                have hk0 := ldf_nonneg cs q
                have HKQ : Hid (((loadOf cs (q : Int) : Nat) : Int) = ldf cs q) := Lib.hid (ldf_load cs q).symm
                have hk80 : ldf cs q ≤ 80 := by have := loadOf_le cs (q : Int); have := HKQ.out; omega
                rw [HKQ.out]
                generalize hKG : ldf cs q = K at hk0 hk80 ⊢
                have HKG := Lib.hid hKG
                clear hKG HKQ
                go_wp2_with fail
                go_loop [17, 18] (fun d v => ∃ j : Nat, j ≤ xs.length ∧ v = .int .i64 j ∧ d = .bool (decide ((q : Int) ∈ xs.take j))) (fun _ v => xs.length - (intOf v).toNat)
                case atStart => exact ⟨0, Nat.zero_le _, rfl, by simp⟩
                case round =>
                  obtain ⟨j, hj, rfl, rfl⟩ := hrel
                  have hx20 := HF.out.2
                  by_cases hlj : j < xs.length
                  · obtain ⟨B2, o2, rfl, hB2, hx2⟩ := HD.out.at (by omega)
                    have hxc := (HE6.out.below.cell (p := ⟨B2, o2 + j, none⟩) hB2).trans (hx2 j hlj)
                    clear hx2
                    have HTK : Hid (decide ((q : Int) ∈ xs.take (j + 1)) = (decide ((q : Int) ∈ xs.take j) || decide (xs[j] = (q : Int)))) := Lib.hid (by
                      exact mem_snoc _ _ _ hlj)
                    generalize xs[j] = x at hxc HTK
                    generalize hb1 : decide ((q : Int) ∈ xs.take j) = b1 at HTK ⊢
                    have HB1 := Lib.hid hb1
                    clear hb1
                    have hjl : (j : Int) < (xs.length : Int) := by omega
                    cases b1
                    · by_cases hxq : x = (q : Int)
                      · have hxe : (x == (q : Int)) = true := by rw [hxq]; simp
                        have HT2 : Hid (decide ((q : Int) ∈ xs.take (j + 1)) = true) := Lib.hid (by rw [HTK.out, decide_eq_true hxq]; rfl)
                        clear hxq HTK
                        go_wp2_with fail
                        go_round
                        case rel => exact ⟨j + 1, by omega, by go_num, by rw [HT2.out]⟩
                        case measure => simp [intOf]; omega
                      · have hxe : (x == (q : Int)) = false := by rw [beq_eq_false_iff_ne]; exact hxq
                        have HT2 : Hid (decide ((q : Int) ∈ xs.take (j + 1)) = false) := Lib.hid (by rw [HTK.out, decide_eq_false hxq]; rfl)
                        clear hxq HTK
                        go_wp2_with fail
                        go_round
                        case rel => exact ⟨j + 1, by omega, by go_num, by rw [HT2.out]⟩
                        case measure => simp [intOf]; omega
                    · have HT2 : Hid (decide ((q : Int) ∈ xs.take (j + 1)) = true) := Lib.hid (by rw [HTK.out]; rfl)
                      clear HTK
                      go_wp2_with fail
                      go_round
                      case rel => exact ⟨j + 1, by omega, by go_num, by rw [HT2.out]⟩
                      case measure => simp [intOf]; omega
                  · have HDQ : Hid (decide ((q : Int) ∈ xs.take j) = drn xs q) := Lib.hid (by rw [List.take_of_length_le (by omega)]; rfl)
                    have hjl : ¬ (j : Int) < (xs.length : Int) := by omega
                    rw [HDQ.out]
                    clear HDQ
                    generalize hbd : drn xs q = bd
                    have HBD := Lib.hid hbd
                    clear hbd
                    cases bd
                    · by_cases hL0 : L < 0
                      · by_cases hMK : M < K
                        · go_wp2_with fail
                          go_roundw
                          case rel => exact ⟨q + 1, K, K, F, by omega, by go_num, rfl, rfl, rfl, HS5.out.other HBD.out K K (.inl HKG.out.symm) (.inl HKG.out.symm), HE6.out⟩
                          case measure => simp [intOf]; omega
                        · omega
                      · by_cases hKL : K < L
                        · by_cases hMK : M < K
                          · go_wp2_with fail
                            go_roundw
                            case rel => exact ⟨q + 1, K, K, F, by omega, by go_num, rfl, rfl, rfl, HS5.out.other HBD.out K K (.inl HKG.out.symm) (.inl HKG.out.symm), HE6.out⟩
                            case measure => simp [intOf]; omega
                          · go_wp2_with fail
                            go_roundw
                            case rel => exact ⟨q + 1, K, M, F, by omega, by go_num, rfl, rfl, rfl, HS5.out.other HBD.out K M (.inl HKG.out.symm) (.inr ⟨by omega, rfl⟩), HE6.out⟩
                            case measure => simp [intOf]; omega
                        · by_cases hMK : M < K
                          · go_wp2_with fail
                            go_roundw
                            case rel => exact ⟨q + 1, L, K, F, by omega, by go_num, rfl, rfl, rfl, HS5.out.other HBD.out L K (.inr ⟨by omega, rfl⟩) (.inl HKG.out.symm), HE6.out⟩
                            case measure => simp [intOf]; omega
                          · go_wp2_with fail
                            go_roundw
                            case rel => exact ⟨q + 1, L, M, F, by omega, by go_num, rfl, rfl, rfl, HS5.out.other HBD.out L M (.inr ⟨by omega, rfl⟩) (.inr ⟨by omega, rfl⟩), HE6.out⟩
                            case measure => simp [intOf]; omega
                    · cases F
                      · by_cases hK0 : 0 < K
                        · go_wp2_with fail
                          go_roundw
                          case rel => exact ⟨q + 1, L, M, true, by omega, by go_num, rfl, rfl, by first | rfl | simp [hK0], HS5.out.drained HBD.out true (fun _ => .inr (by rw [HKG.out]; exact hK0)), HE6.out⟩
                          case measure => simp [intOf]; omega
                        · go_wp2_with fail
                          go_roundw
                          case rel => exact ⟨q + 1, L, M, false, by omega, by go_num, rfl, rfl, by first | rfl | simp; omega, HS5.out.drained HBD.out false (fun h => by cases h), HE6.out⟩
                          case measure => simp [intOf]; omega
                      · go_wp2_with fail
                        go_roundw
                        case rel => exact ⟨q + 1, L, M, true, by omega, by go_num, rfl, rfl, rfl, HS5.out.drained HBD.out true (fun _ => .inl rfl), HE6.out⟩
                        case measure => simp [intOf]; omega
              · have hqe : q = m := by omega
                subst hqe
                have hdn := HS5.out.done HWO.out
                have hqq : ¬ (q : Int) < (q : Int) := by omega
                have HB5 := Lib.hid HE5.out.below
                have hs5 := HB5.out.size
                clear HE5 a0 a1 a2' a3 a4 a5 hz1
                rcases hdn with hd | ⟨hd1, hd2, hd3, hd4⟩
                · subst hd
                  go_wp2_with fail
                  refine (awake_any _).mono ?_
                  rintro e w6 ⟨rfl, hb6⟩
                  go_wp2_with fail
                  go_ret
                  exact ⟨rfl, HB5.out.trans (hb6.mono hs5)⟩
                · subst hd1
                  have hL0 : ¬ L < 0 := by omega
                  have hML : M - L ≤ 1 := by omega
                  go_wp2_with fail
                  refine (awake_any _).mono ?_
                  rintro e w6 ⟨rfl, hb6⟩
                  go_wp2_with fail
                  go_ret
                  exact ⟨rfl, HB5.out.trans (hb6.mono hs5)⟩
      · by_cases hn1 : n < 1
        · go_wp2_with fail
          refine (awake_any _).mono ?_
          rintro e w3 ⟨rfl, hb3⟩
          go_wp2_with fail
          go_ret
          exact ⟨rfl, HB2.out.trans (hb3.mono hs2)⟩
        · have hn2 : 8 < n := by omega
          clear hn
          go_wp2_with fail
          refine (awake_any _).mono ?_
          rintro e w3 ⟨rfl, hb3⟩
          go_wp2_with fail
          go_ret
          exact ⟨rfl, HB2.out.trans (hb3.mono hs2)⟩
  · have hvn2 : (vn == 0) = false := by simpa using hvn
    go_wp2_with fail
    refine (awake_any _).mono ?_
    rintro e w3 ⟨rfl, hb3⟩
    go_wp2_with fail
    go_ret
    exact ⟨rfl, HB2.out.trans (hb3.mono hs2)⟩
end Go.Proofs.Ytimhokilicogdaa
