/- Mvcc: awake. -/
import Derived.Test.YtaecppkkbdbdbaaMv27
namespace Go.Proofs.Ytaecppkkbdbdbaa
open Go.ChangeShapes Go.WideShapes Go.ChangeAt Go.RowKit Go.ChangeMaps Go.Deep Go.Shelf Go.Sort
set_option linter.unusedVariables false
set_option linter.unusedSimpArgs false
attribute [local go_sem] eq45
theorem scan_T (B S mp clock : Nat) (E : List En) (lo hi : Bs) (t : Int) (back : Bool) (w : World) (h : Sto B w S mp E clock) (hT : E.length ≤ 100000) (hL : (scanK E t (scanT E lo hi back)).length ≤ 100000) :
    Calls Try.prog 21 #[.pointer (some ⟨S, 0, none⟩), .string lo, .string hi, .int .i64 t, .bool back] w (ScanOut (scanK E t (scanT E lo hi back)) w) :=
  callsIn_wide.1 (scan_law_in 1 B S mp clock E lo hi t back w h hT (Nat.le_refl _) hL)
theorem all_T (B S mp clock : Nat) (E : List En) (w : World) (h : Sto B w S mp E clock) (hT : E.length ≤ 100000) (hL : (allK E (ordE E)).length ≤ 100000) :
    Calls Try.prog 28 #[.pointer (some ⟨S, 0, none⟩)] w (AllOut (allK E (ordE E)) w) :=
  callsIn_wide.1 (all_law_in 1 B S mp clock E w h hT hL (Nat.le_refl _))
theorem Wk.len {B S m N clock : Nat} {E : List En} {A : Bs → List Ver} {W0 W : World} (h : Wk B S m E clock A N W0 W) : E.length ≤ N := Nat.le_trans (len_total (fun e he => h.sto.gd.ne e he)) h.tot
def AwakeOut (w0 : World) (e : Ending) (W' : World) : Prop := e = .returned (.bool true) ∧ Below w0.heap.size w0 W'
set_option maxRecDepth 100000 in
set_option maxHeartbeats 3200000 in
theorem awake_any (w0 : World) : Calls Try.prog 9 #[] w0 (AwakeOut w0) := by
  go_enter Try.func9, Try.ntmps9
  go_wp2_with fail
  refine (new_any w0).mono ?_
  rintro e W1 ⟨rfl, hs1, hb1⟩
  obtain ⟨B, hB⟩ : ∃ B, B = w0.heap.size := ⟨_, rfl⟩
  have H1 : Hid (Wk B (B + 1) B [] 0 noA 0 w0 W1) := Lib.hid (by
    rw [hB]
    exact ⟨hs1, rfl, Nat.zero_le _, hb1, hb1.size⟩)
  have HB := Lib.hid hB
  rw [← hB]
  clear hs1 hb1 hB
  go_wp2_with fail
  refine (H1.out.put (by decide) kk vv 5 0 ok1).mono ?_
  rintro e W2 ⟨rfl, E2, c2, h2, _⟩
  have H2 := Lib.hid h2
  clear h2 H1
  go_wp2_with fail
  refine (H2.out.put (by decide) kk ww 5 1 ok2).mono ?_
  rintro e W3 ⟨rfl, E3, c3, h3, _⟩
  have H3 := Lib.hid h3
  clear h3 H2
  go_wp2_with fail
  refine (H3.out.del (by decide) kk 6 0 ok3).mono ?_
  rintro e W4 ⟨rfl, E4, c4, h4, _⟩
  have H4 := Lib.hid h4
  clear h4 H3
  go_wp2_with fail
  refine (H4.out.put (by decide) aa oo 1 0 ok4).mono ?_
  rintro e W5 ⟨rfl, E5, c5, h5, _⟩
  have H5 := Lib.hid h5
  clear h5 H4
  go_wp2_with fail
  have hlk : lkL E5 = A4 := H5.out.lk
  have hg := H5.out.sto.gd
  have HLK := Lib.hid (And.intro hlk hg)
  have hv5 : valAt (lkL E5 kk) 5 = some vv := by rw [hlk]; exact val5
  have hv6 : valAt (lkL E5 kk) 6 = none := by rw [hlk]; exact val6
  have hl4 : lastT (lkL E5 kk) = 6 := by rw [hlk]; exact last4
  have HV := Lib.hid (And.intro hv5 (And.intro hv6 hl4))
  clear hlk hg hv5 hv6 hl4
  refine (get_any _ _ _ _ E5 kk 5 W5 H5.out.sto).mono ?_
  rintro e W6 ⟨he, hb6⟩
  have he2 : e = .returned (.tuple #[.string ⟨#[118]⟩, .bool true]) := by rw [he, HV.out.1]; rfl
  clear he
  subst he2
  have H6 := Lib.hid (H5.out.below hb6)
  clear hb6 H5
  go_wp2_with fail
  refine (get_any _ _ _ _ E5 kk 6 W6 H6.out.sto).mono ?_
  rintro e W7 ⟨he, hb7⟩
  have he2 : e = .returned (.tuple #[.string ⟨#[]⟩, .bool false]) := by rw [he, HV.out.2.1]; rfl
  clear he
  subst he2
  have H7 := Lib.hid (H6.out.below hb7)
  clear hb7 H6
  go_wp2_with fail
  refine (scan_T _ _ _ _ E5 ⟨#[]⟩ ⟨#[]⟩ 5 true W7 H7.out.sto (by have := H7.out.len; omega) (by rw [scan4 HLK.out.2 HLK.out.1]; decide)).mono ?_
  rintro e W8 ⟨v, rfl, hrow, hb8⟩
  rw [scan4 HLK.out.2 HLK.out.1] at hrow
  obtain ⟨la, lc, hve, _, hrs⟩ := rowS_of hrow
  obtain ⟨g, hga, _, _, hgl, hcell⟩ := hrs (by decide)
  subst hga
  have hve2 : v = .slice (some ⟨g, 0, none⟩) 2 lc := hve
  subst hve2
  obtain ⟨q0, q1⟩ := hcell 0 (by decide)
  have q0 : W8.cell? ⟨g, 0, none⟩ = some (.string ⟨#[107]⟩) := q0
  have q1 : W8.cell? ⟨g, 1, none⟩ = some (.string ⟨#[118]⟩) := q1
  have H8 := Lib.hid (H7.out.below hb8)
  clear hb8 H7 hrow hve hrs hcell
  go_wp2_with fail
  refine H8.out.clone.mono ?_
  rintro e W9 ⟨C, mc, EC, cc, rfl, hc9, hb9⟩
  have q0 : W9.cell? ⟨g, 0, none⟩ = some (.string ⟨#[107]⟩) := (hb9.cell (p := ⟨g, 0, none⟩) hgl).trans q0
  have q1 : W9.cell? ⟨g, 1, none⟩ = some (.string ⟨#[118]⟩) := (hb9.cell (p := ⟨g, 1, none⟩) hgl).trans q1
  have H9 := Lib.hid (H8.out.below hb9)
  have HC9 : Hid (Wk B C mc EC cc A4 (0 + 1 + 1 + 1 + 1) w0 W9) := Lib.hid ⟨hc9.sto.base H8.out.bw, hc9.lk, hc9.tot, H9.out.low, H9.out.bw⟩
  have HCF := Lib.hid (show ∀ k, Foot C mc EC k → W8.heap.size ≤ k from fun k hk => (hc9.sto.foot hk).1)
  have HF := Lib.hid (show ∀ k, Foot (B + 1) B E5 k → k < W8.heap.size from fun k hk => (H8.out.sto.foot hk).2)
  have HL8 := Lib.hid (And.intro H8.out.low H8.out.bw)
  have HCL := Lib.hid (And.intro (show lkL EC = A4 from hc9.lk) hc9.sto.gd)
  clear hc9 hb9 H8 hgl
  go_wp2_with fail
  refine (last_any _ _ _ _ E5 kk W9 H9.out.sto).mono ?_
  rintro e w1 ⟨he, hw⟩
  obtain rfl := hw.symm
  rw [HV.out.2.2] at he
  subst he
  go_wp2_with fail
  refine (H9.out.prune (by decide) 6).mono ?_
  rintro e W10 ⟨he, E10, c10, h10, ht10⟩
  rw [prune4 HLK.out.2 HLK.out.1] at he
  subst he
  have HC10 : Hid (Wk B C mc EC cc A4 (0 + 1 + 1 + 1 + 1) w0 W10) := Lib.hid ⟨HC9.out.sto.kept ht10.2.2 (fun k hk hf => by have := HF.out k hf; have := HCF.out k hk; omega), HC9.out.lk, HC9.out.tot, h10.low, h10.bw⟩
  have H10 := Lib.hid h10
  clear h10 ht10 H9 HC9 q0 q1
  go_wp2_with fail
  refine (versions_any _ _ _ _ E10 W10 H10.out.sto (by have := H10.out.tot; omega)).mono ?_
  rintro e W11 ⟨he, hb11⟩
  rw [total5 H10.out.sto.gd H10.out.lk] at he
  subst he
  have HC11 := Lib.hid (HC10.out.below hb11)
  clear HC10 H10 hb11
  go_wp2_with fail
  refine (versions_any _ _ _ _ EC W11 HC11.out.sto (by have := HC11.out.tot; omega)).mono ?_
  rintro e W12 ⟨he, hb12⟩
  rw [total4 HCL.out.2 HCL.out.1] at he
  subst he
  have HC12 := Lib.hid (HC11.out.below hb12)
  clear HC11 hb12
  go_wp2_with fail
  refine (HC12.out.roll (by decide) 5).mono ?_
  rintro e W13 ⟨he, E13, c13, h13, _⟩
  rw [roll4 HCL.out.2 HCL.out.1] at he
  subst he
  have H13 := Lib.hid h13
  clear h13 HC12
  go_wp2_with fail
  refine (all_T _ _ _ _ E13 W13 H13.out.sto (by have := H13.out.len; omega) (by rw [vw6 H13.out.sto.gd H13.out.lk]; decide)).mono ?_
  rintro e W14 ⟨v, rfl, hrow, hb14⟩
  obtain ⟨pa, pc, hve, _⟩ := rowP_of hrow
  rw [vw6 H13.out.sto.gd H13.out.lk] at hve
  subst hve
  have H14 := Lib.hid (H13.out.below hb14)
  clear hrow hb14 H13
  go_wp2_with fail
  refine (nil_put _ _ _ _).mono ?_
  rintro e W15 ⟨rfl, hb15⟩
  have H15 := Lib.hid (H14.out.below hb15)
  clear hb15 H14
  go_wp2_with fail
  refine (nil_last _ _).mono ?_
  rintro e w1 ⟨rfl, hw⟩
  obtain rfl := hw.symm
  go_wp2_with fail
  go_ret
  exact ⟨rfl, by rw [← HB.out]; exact H15.out.low⟩
end Go.Proofs.Ytaecppkkbdbdbaa
