/- Balance: the reference's Give. -/
import Derived.Test.YtimhokilicogdaaBal33
namespace Go.Proofs.Ytimhokilicogdaa
open Go.ChangeShapes Go.WideShapes Go.ChangeAt Go.RowKit Go.Deep
set_option linter.unusedVariables false
set_option linter.unusedSimpArgs false
theorem bump_at (f v : Int) : ∀ (ds : List Ch) (k : Nat) (hk : k < ds.length), (∀ j (h : j < k), (ds[j]'(by omega)).sh ≠ f) → ds[k].sh = f → bump f v ds = ds.set k { ds[k] with vr := v }
  | c :: l, 0, hk, _, hf => by simp at hf; simp [bump, hf]
  | c :: l, k + 1, hk, hn, hf => by
    have h0 : c.sh ≠ f := hn 0 (by omega)
    unfold bump
    rw [if_neg h0, List.set_cons_succ]
    congr 1
    exact bump_at f v l k (by simpa using hk) (fun j h => by have := hn (j + 1) (by omega); simpa using this) (by simpa using hf)
theorem bump_none (f v : Int) : ∀ (ds : List Ch), (∀ j (h : j < ds.length), ds[j].sh ≠ f) → bump f v ds = ds
  | [], _ => rfl
  | c :: l, hn => by
    have h0 : c.sh ≠ f := hn 0 (by simp)
    unfold bump
    rw [if_neg h0, bump_none f v l (fun j h => by have := hn (j + 1) (by simpa using h); simpa using this)]
theorem given_eq (cs : List Ch) (i : Nat) (h : i < cs.length) (t v : Int) : given cs i t v = bump cs[i].sh v (cs.set i ⟨cs[i].lo, cs[i].hi, t, v, cs[i].jb⟩) := by
  unfold given
  rw [List.getElem?_eq_getElem h]
theorem chv_set : ∀ (ds : List Ch) (k : Nat) (hk : k < ds.length) (v : Int), (chv ds).set (k * 5 + 3) (.int .i64 v) = chv (ds.set k { ds[k] with vr := v })
  | c :: l, 0, hk, v => rfl
  | c :: l, k + 1, hk, v => by
    have hk' : k < l.length := by simpa using hk
    show (c.cells ++ chv l).set ((k + 1) * 5 + 3) _ = c.cells ++ chv (l.set k { l[k] with vr := v })
    rw [List.set_append_right _ _ (by show 5 ≤ _; omega), show (k + 1) * 5 + 3 - c.cells.length = k * 5 + 3 from by show _ - 5 = _; omega, chv_set l k hk' v]
def GiveOut (sp : ByteArray) (ks : Value) (hs : Bool) (ep vr : Int) (cs : List Ch) (w : World) (e : Ending) (w' : World) : Prop :=
  ∃ g cap, e = .returned (.tuple #[rts sp ks hs ep vr (.slice (some ⟨g, 0, none⟩) cs.length cap), .int .i64 0]) ∧ OwnC w' w.heap.size g cap cs ∧ Below w.heap.size w w'
theorem RP.start (w : World) (sp : ByteArray) (ks : Value) (hs : Bool) (ep vr : Int) (ch : Value) : RP w sp ks hs ep vr ch ((w.alloc (.cells #[.string sp, ks, .bool hs, .int .i64 ep, .int .i64 vr, ch] 27)).alloc (.cells #[.string ⟨#[]⟩, .slice none 0 0, .bool false, .int .i64 0, .int .i64 0, .slice none 0 0] 27)) := by
  refine ⟨by simp [go_sem], by simp [go_sem], by simp [go_sem], by simp [go_sem], by simp [go_sem], by simp [go_sem], by simp [go_sem], by simp [go_sem], by simp [go_sem], by simp [go_sem], by simp [go_sem], by simp [go_sem], ?_, by simp, ((Below.refl _ _).alloc (Nat.le_refl _) _).alloc (by simp) _⟩
  intro b o h1 h2
  have hbb : b = w.heap.size ∨ b = w.heap.size + 1 := by omega
  rcases hbb with rfl | rfl <;> simp [go_sem]
set_option maxRecDepth 100000 in
set_option maxHeartbeats 2000000 in
theorem give_at (sp : ByteArray) (ka : Option Addr) (kl kc : Nat) (hs : Bool) (ep vr : Int) (B o cap : Nat) (cs : List Ch) (lo : ByteArray) (to : Int) (i : Nat) (w : World) (hl : cs.length ≤ 1000) (hcap : cs.length ≤ cap) (hv0 : 0 ≤ vr) (hv1 : vr ≤ 2305843009213693952)
    (hB : B < w.heap.size) (hc : ∀ j (h : j < cs.length), w.rangeAt B (o + j * 5) cs[j].cells) (hi : i < cs.length) (hlo : cs[i].lo = lo) (hno : ∀ j (h : j < i), (cs[j]'(by omega)).lo ≠ lo) (ht0 : 0 ≤ to) (ht8 : to < 8) (hne : cs[i].sh ≠ to) (hjb : cs[i].jb = false) :
    Calls Try.prog 15 #[rts sp (.slice ka kl kc) hs ep vr (.slice (some ⟨B, o, none⟩) cs.length cap), .string lo, .int .i64 to] w
      (GiveOut sp (.slice ka kl kc) hs ep (vr + 1) (given cs i to (vr + 1)) w) := by
  have HBT : Hid (∀ W : World, Below w.heap.size w W → ∀ j (h : j < cs.length), W.rangeAt B (o + j * 5) cs[j].cells) := Lib.hid fun W hW j h => rangeAt5_below (hc j h) hW hB
  have HCW : Hid (∀ W : World, Below w.heap.size w W → ChsIn W (.slice (some ⟨B, o, none⟩) cs.length cap) cs) := Lib.hid fun W hW => .inr ⟨B, o, cap, rfl, Nat.lt_of_lt_of_le hB hW.size, by omega, by omega, HBT.out W hW⟩
  have HG := Lib.hid (given_eq cs i hi to (vr + 1))
  have HLO := Lib.hid hlo
  have HNO := Lib.hid hno
  clear hc hlo hno
  have HS := Lib.hid (RP.start w sp (.slice ka kl kc) hs ep vr (.slice (some ⟨B, o, none⟩) cs.length cap))
  go_enter Try.func15, Try.ntmps15
  go_wp2_with fail
  refine (begin_at sp _ hs ep vr _ cs lo i _ (HCW.out _ HS.out.2.2.2.2.2.2.2.2.2.2.2.2.2.2) hi HLO.out HNO.out).mono ?_
  rintro e w1 ⟨rfl, hb1⟩
  have HR := Lib.hid (HS.out.keep (hb1.mono (by simp)))
  clear hb1 HS
  obtain ⟨a0, a1, a2, a3, a4, a5, r0, r1, r2, r3, r4, r5, fz, hz, hB0⟩ := HR.out
  have HB0 := Lib.hid hB0
  obtain ⟨g0, g1, g2, g3, g4⟩ := rangeAt5 (HBT.out w1 hB0 i hi)
  have hBw : B < w1.heap.size := Nat.lt_of_lt_of_le hB hB0.size
  clear fz hB0
  have hii : (i : Int) < (cs.length : Int) := by omega
  generalize hcc : cs[i] = c at *
  obtain ⟨clo, chi, csh, cv, cj⟩ := c
  dsimp only at g0 g1 g2 g3 g4 hne hjb
  subst hjb
  have hne2 : (csh == to) = false := by rw [beq_eq_false_iff_ne]; exact hne
  have hzl : w.heap.size < w1.heap.size := by omega
  have hzn : w.heap.size ≠ w1.heap.size := by omega
  go_wp2_with fail
  refine calls_named (fun W => Below w1.heap.size w1 W ∧ W.rangeAt (w1.heap.size + 1) 0 (Ch.cells ⟨clo, chi, to, cv, false⟩) ∧ w1.heap.size + 1 < W.heap.size) ⟨?_, ?_, ?_⟩ ?_
  · exact ((Below.refl _ _).alloc (Nat.le_refl _) _).alloc (by simp) _
  · intro j u hu
    match j, hu with
    | 0, hu => simp [Ch.cells] at hu; subst hu; simp [go_sem]
    | 1, hu => simp [Ch.cells] at hu; subst hu; simp [go_sem]
    | 2, hu => simp [Ch.cells] at hu; subst hu; simp [go_sem]
    | 3, hu => simp [Ch.cells] at hu; subst hu; simp [go_sem]
    | 4, hu => simp [Ch.cells] at hu; subst hu; simp [go_sem]
    | j + 5, hu => simp [Ch.cells] at hu
  · simp
  rintro W2 ⟨hb2, hd2, hz2⟩
  have hB2 : Below w.heap.size w W2 := HB0.out.trans (hb2.mono (by omega))
  refine (repl_in sp ka kl kc hs ep vr B o cap cs i (w1.heap.size + 1) 1 clo chi to cv false W2 hl hcap hv0 hv1 (Nat.lt_of_lt_of_le hB hB2.size) (HBT.out W2 hB2) hi hz2 hd2).mono ?_
  rintro e w3 ⟨g, cap3, rfl, hown, hb3⟩
  have hR3 := (HR.out.keep (hb2.mono (by omega))).keep (hb3.mono (by have := hb2.size; omega))
  have hown2 := own_mono (base' := w.heap.size + 2) hown (by have := hb2.size; omega)
  have hgl := hown.lt g rfl
  have hgw : w.heap.size + 2 ≤ g := by have := hb2.size; omega
  generalize hds : cs.set i ⟨clo, chi, to, vr + 1, false⟩ = ds at hown hown2 ⊢
  have HDS := Lib.hid hds
  have HO := Lib.hid hown2
  have HR3 := Lib.hid hR3
  clear hb2 hd2 hb3 hown hown2 HR a0 a1 a2 a3 a4 a5 r0 r1 r2 r3 r4 r5 g0 g1 g2 g3 g4 hB2 HBT HCW hds hR3
  obtain ⟨a0, a1, a2, a3, a4, a5, r0, r1, r2, r3, r4, r5, fz, hz3, hB3⟩ := HR3.out
  have z0 := fz w.heap.size 0 (by omega) (by omega)
  have z1 := fz w.heap.size 1 (by omega) (by omega)
  have z2 := fz w.heap.size 2 (by omega) (by omega)
  have z3 := fz w.heap.size 3 (by omega) (by omega)
  have z4 := fz w.heap.size 4 (by omega) (by omega)
  have z5 := fz w.heap.size 5 (by omega) (by omega)
  clear fz hB3
  go_wp2_with fail
  refine wp_named (fun W => RP w sp (.slice ka kl kc) hs ep (vr + 1) (.slice (some ⟨g, 0, none⟩) ds.length cap3) W ∧ W.ownsRow (w.heap.size + 2) 47 5 (.slice (some ⟨g, 0, none⟩) ds.length cap3) ds.length (chv ds)) ⟨?_, ?_⟩ ?_
  · obtain ⟨_, _, _, _, _, _, _, _, _, _, _, _, fz, hz3', hB3'⟩ := HR3.out
    refine ⟨by simp [go_sem, a0, a1, a2, a3, a4, a5], by simp [go_sem, a0, a1, a2, a3, a4, a5], by simp [go_sem, a0, a1, a2, a3, a4, a5], by simp [go_sem, a0, a1, a2, a3, a4, a5], by simp [go_sem, a0, a1, a2, a3, a4, a5], by simp [go_sem, a0, a1, a2, a3, a4, a5], by simp [go_sem, r0, r1, r2, r3, r4, r5], by simp [go_sem, r0, r1, r2, r3, r4, r5], by simp [go_sem, r0, r1, r2, r3, r4, r5], by simp [go_sem, r0, r1, r2, r3, r4, r5], by simp [go_sem, r0, r1, r2, r3, r4, r5], by simp [go_sem, r0, r1, r2, r3, r4, r5], ?_, by simp; omega, ?_⟩
    · intro b o h1 h2
      simpa using fz b o h1 h2
    · exact (((((hB3'.setCell (by simp) _).setCell (by simp) _).setCell (by simp) _).setCell (by simp) _).setCell (by simp) _).setCell (by simp) _
  · exact own_setCell (own_setCell (own_setCell (own_setCell (own_setCell (own_setCell HO.out (by omega)) (by omega)) (by omega)) (by omega)) (by omega)) (by omega)
  clear HR3 HO a0 a1 a2 a3 a4 a5 r0 r1 r2 r3 r4 r5 z0 z1 z2 z3 z4 z5 hz3 HB0
  rintro w4 ⟨hR4, hO4⟩
  have HR4 := Lib.hid hR4
  have HO4 := Lib.hid hO4
  clear hR4 hO4 hgl hz hzl hzn hz2
  have hdl : ds.length ≤ 1000 := by rw [← HDS.out, List.length_set]; exact hl
  go_loop [11] (fun t => ∃ k : Nat, k ≤ ds.length ∧ t = .int .i64 k ∧ ∀ j (h : j < k) (h2 : j < ds.length), ds[j].sh ≠ csh) (fun t => ds.length - (intOf t).toNat)
  case atStart => exact ⟨0, Nat.zero_le _, rfl, fun j h => absurd h (by omega)⟩
  case round =>
    obtain ⟨k, hk, rfl, hnk⟩ := hrel
    have HNK := Lib.hid hnk
    clear hnk
    obtain ⟨a0, a1, a2, a3, a4, a5, r0, r1, r2, r3, r4, r5, fz, hz4, hB4⟩ := HR4.out
    have HB4 := Lib.hid hB4
    have y0 := fz (w.heap.size + 1) 0 (by omega) (by omega)
    have y1 := fz (w.heap.size + 1) 1 (by omega) (by omega)
    have y2 := fz (w.heap.size + 1) 2 (by omega) (by omega)
    have y3 := fz (w.heap.size + 1) 3 (by omega) (by omega)
    have y4 := fz (w.heap.size + 1) 4 (by omega) (by omega)
    have y5 := fz (w.heap.size + 1) 5 (by omega) (by omega)
    clear fz hB4
    by_cases hlt : k < ds.length
    · have d2 := HO4.out.cellAt (k * 5 + 2) (by omega)
      rw [chv_get ds k 2 hlt (by omega)] at d2
      have d3 := HO4.out.cellAt (k * 5 + 3) (by omega)
      rw [chv_get ds k 3 hlt (by omega)] at d3
      have f3 := HO4.out.frozenAt (k * 5 + 3)
      simp only [Ch.cells, List.getElem?_cons_succ, List.getElem?_cons_zero] at d2 d3
      by_cases hsh : ds[k].sh = csh
      · have HBU : Hid (bump csh (vr + 1) ds = ds.set k { ds[k] with vr := vr + 1 }) := Lib.hid (bump_at csh (vr + 1) ds k hlt (fun j h => HNK.out j h (by omega)) hsh)
        have HST := Lib.hid (HO4.out.stored (k * 5 + 3) (.int .i64 (vr + 1))).1
        have HCS := Lib.hid (chv_set ds k hlt (vr + 1))
        rw [hsh] at d2
        generalize ds[k].vr = vk at d3
        clear hsh
        go_wp2_with fail
        refine bodyPost_ret (v := .tuple #[rts sp (.slice ka kl kc) hs ep (vr + 1) (.slice (some ⟨g, 0, none⟩) ds.length cap3), .int .i64 0]) (by simp [results, Try.results15, go_sem, r0, r1, r2, r3, r4, r5]) rfl ?_
        rw [HG.out, HDS.out, HBU.out]
        have h0 := HST.out
        rw [HCS.out] at h0
        refine ⟨g, cap3, by rw [List.length_set], ?_, ?_⟩
        · unfold OwnC
          rw [List.length_set]
          exact own_setCell (own_setCell (own_setCell (own_setCell (own_setCell (own_setCell (own_mono h0 (by omega)) (by omega)) (by omega)) (by omega)) (by omega)) (by omega)) (by omega)
        · exact ((((((HB4.out.setCell (by show w.heap.size ≤ g; omega) _).setCell (by simp) _).setCell (by simp) _).setCell (by simp) _).setCell (by simp) _).setCell (by simp) _).setCell (by simp) _
      · have hq := hsh
        have HNX : Hid (∀ j (h : j < k + 1) (h2 : j < ds.length), ds[j].sh ≠ csh) := Lib.hid fun j h h2 => by
          by_cases e : j = k
          · subst e; exact hq
          · exact HNK.out j (by omega) h2
        clear hq
        generalize ds[k].sh = sk at d2 hsh
        have hsn : (sk == csh) = false := by rw [beq_eq_false_iff_ne]; exact hsh
        clear hsh d3 f3
        go_wp2_with fail
        go_round
        case rel => exact ⟨k + 1, by omega, by go_num, HNX.out⟩
        case measure => simp [intOf]; omega
    · have HBU : Hid (bump csh (vr + 1) ds = ds) := Lib.hid (bump_none csh (vr + 1) ds (fun j h => HNK.out j (by omega) h))
      go_wp2_with fail
      refine bodyPost_ret (v := .tuple #[rts sp (.slice ka kl kc) hs ep (vr + 1) (.slice (some ⟨g, 0, none⟩) ds.length cap3), .int .i64 0]) (by simp [results, Try.results15, go_sem, r0, r1, r2, r3, r4, r5]) rfl ?_
      rw [HG.out, HDS.out, HBU.out]
      refine ⟨g, cap3, rfl, ?_, ?_⟩
      · exact own_setCell (own_setCell (own_setCell (own_setCell (own_setCell (own_setCell (own_mono HO4.out (by omega)) (by omega)) (by omega)) (by omega)) (by omega)) (by omega)) (by omega)
      · exact (((((HB4.out.setCell (by simp) _).setCell (by simp) _).setCell (by simp) _).setCell (by simp) _).setCell (by simp) _).setCell (by simp) _
end Go.Proofs.Ytimhokilicogdaa
