/- Btree: split. -/
import Derived.Test.YtegljepgncicjaaBu9b
namespace Go.Proofs.Ytegljepgncicjaa
open Go.ChangeShapes Go.WideShapes Go.ChangeAt Go.RowKit Go.Deep
set_option linter.unusedVariables false
set_option linter.unusedSimpArgs false
theorem RowV.base {T B B' : Nat} {W : World} {v : Value} {us : List Value} (h : RowV T B' W v us) (hb : B ≤ B') : RowV T B W v us := by
  rcases h with h | ⟨g, c, h1, h2, h3⟩
  · exact .inl h
  · exact .inr ⟨g, c, h1, Nat.le_trans hb h2, h3⟩
theorem strv_drop (xs : List Bs) (m : Nat) : (strv xs).drop m = strv (xs.drop m) := (List.map_drop ..).symm
theorem ptrv_drop (xs : List Nat) (m : Nat) : (ptrv xs).drop m = ptrv (xs.drop m) := (List.map_drop ..).symm
def SplitOut (B N l i : Nat) (σ : Sig) (ks vs : List Bs) (ns : List Nat) (lk lv : List Bs) (ln : List Nat) (w0 : World) (e : Ending) (W' : World) : Prop :=
  e = .returned (.tuple #[]) ∧ ∃ R σ', Hp B W' σ' ∧ Below B w0 W' ∧ σ R = none ∧ R ≠ N ∧ R ≠ l ∧
    σ' = upd (upd (upd σ R ⟨lk.drop (lk.length / 2 + 1), lv.drop (lk.length / 2 + 1), ln.drop (lk.length / 2 + 1)⟩)
      N ⟨ks.take i ++ sx lk (lk.length / 2) :: ks.drop i, vs.take i ++ sx lv (lk.length / 2) :: vs.drop i, ns.take (i + 1) ++ R :: ns.drop (i + 1)⟩)
      l ⟨lk.take (lk.length / 2), lv.take (lk.length / 2), ln.take (lk.length / 2 + 1)⟩
theorem Hp.f0 {B : Nat} {W : World} {σ : Sig} (h : Hp B W σ) {N : Nat} {ks vs : List Bs} {ns : List Nat} (hN : σ N = some ⟨ks, vs, ns⟩) : ∃ a c, W.cell? ⟨N, 0, none⟩ = some (.slice a ks.length c) ∧ (∀ g, (Value.slice a ks.length c).ownBlock = some g → g < W.heap.size) ∧ N < W.heap.size := by
  obtain ⟨kv, vv, dv, hnd⟩ := h.node hN
  have hr : RowV 9 B W kv (strv ks) := hnd.r0
  have hc := hnd.c0
  obtain ⟨a, c, rfl⟩ := hr.len
  have hl := hr.lt
  rw [strv_len] at hc hl
  exact ⟨a, c, hc, fun g e => (hl g e).2, (h.lt hN).2⟩
theorem Hp.f1 {B : Nat} {W : World} {σ : Sig} (h : Hp B W σ) {N : Nat} {ks vs : List Bs} {ns : List Nat} (hN : σ N = some ⟨ks, vs, ns⟩) : ∃ a c, W.cell? ⟨N, 1, none⟩ = some (.slice a vs.length c) ∧ (∀ g, (Value.slice a vs.length c).ownBlock = some g → g < W.heap.size) ∧ N < W.heap.size := by
  obtain ⟨kv, vv, dv, hnd⟩ := h.node hN
  have hr : RowV 9 B W vv (strv vs) := hnd.r1
  have hc := hnd.c1
  obtain ⟨a, c, rfl⟩ := hr.len
  have hl := hr.lt
  rw [strv_len] at hc hl
  exact ⟨a, c, hc, fun g e => (hl g e).2, (h.lt hN).2⟩
theorem Hp.f2 {B : Nat} {W : World} {σ : Sig} (h : Hp B W σ) {N : Nat} {ks vs : List Bs} {ns : List Nat} (hN : σ N = some ⟨ks, vs, ns⟩) : ∃ a c, W.cell? ⟨N, 2, none⟩ = some (.slice a ns.length c) ∧ (∀ g, (Value.slice a ns.length c).ownBlock = some g → g < W.heap.size) ∧ N < W.heap.size := by
  obtain ⟨kv, vv, dv, hnd⟩ := h.node hN
  have hr : RowV 64 B W dv (ptrv ns) := hnd.r2
  have hc := hnd.c2
  obtain ⟨a, c, rfl⟩ := hr.len
  have hl := hr.lt
  rw [ptrv_len] at hc hl
  exact ⟨a, c, hc, fun g e => (hl g e).2, (h.lt hN).2⟩
theorem Hp.g0 {B : Nat} {W : World} {σ : Sig} (h : Hp B W σ) {N : Nat} {ks vs : List Bs} {ns : List Nat} (hN : σ N = some ⟨ks, vs, ns⟩) (h0 : 0 < ks.length) : ∃ g c, W.cell? ⟨N, 0, none⟩ = some (.slice (some ⟨g, 0, none⟩) ks.length c) ∧ ks.length ≤ c ∧ c ≤ 9223372036854775807 ∧ g < W.heap.size ∧ ∀ j, j < ks.length → W.cell? ⟨g, j, none⟩ = some (.string (sx ks j)) := by
  obtain ⟨kv, vv, dv, hnd⟩ := h.node hN
  have hc := hnd.c0
  obtain ⟨g, c, rfl, h1, h2, h3, h4⟩ := rowk (show RowV 9 B W kv (strv ks) from hnd.r0) h0
  exact ⟨g, c, hc, h1, h2, h3, h4⟩
theorem Hp.g1 {B : Nat} {W : World} {σ : Sig} (h : Hp B W σ) {N : Nat} {ks vs : List Bs} {ns : List Nat} (hN : σ N = some ⟨ks, vs, ns⟩) (h0 : 0 < vs.length) : ∃ g c, W.cell? ⟨N, 1, none⟩ = some (.slice (some ⟨g, 0, none⟩) vs.length c) ∧ vs.length ≤ c ∧ c ≤ 9223372036854775807 ∧ g < W.heap.size ∧ ∀ j, j < vs.length → W.cell? ⟨g, j, none⟩ = some (.string (sx vs j)) := by
  obtain ⟨kv, vv, dv, hnd⟩ := h.node hN
  have hc := hnd.c1
  obtain ⟨g, c, rfl, h1, h2, h3, h4⟩ := rowk (show RowV 9 B W vv (strv vs) from hnd.r1) h0
  exact ⟨g, c, hc, h1, h2, h3, h4⟩
theorem Hp.g2 {B : Nat} {W : World} {σ : Sig} (h : Hp B W σ) {N : Nat} {ks vs : List Bs} {ns : List Nat} (hN : σ N = some ⟨ks, vs, ns⟩) (h0 : 0 < ns.length) : ∃ g c, W.cell? ⟨N, 2, none⟩ = some (.slice (some ⟨g, 0, none⟩) ns.length c) ∧ ns.length ≤ c ∧ c ≤ 9223372036854775807 ∧ g < W.heap.size ∧ ∀ j n, ns[j]? = some n → W.cell? ⟨g, j, none⟩ = some (.pointer (some ⟨n, 0, none⟩)) := by
  obtain ⟨kv, vv, dv, hnd⟩ := h.node hN
  have hc := hnd.c2
  obtain ⟨g, c, rfl, h1, h2, h3, h4⟩ := rown (show RowV 64 B W dv (ptrv ns) from hnd.r2) h0
  exact ⟨g, c, hc, h1, h2, h3, h4⟩
theorem hclone2 {B : Nat} {W : World} {σ : Sig} {R l m g c n : Nat} {rk rv lk lv : List Bs} {rn ln : List Nat} {v : Value} (hp : Hp B W σ) (hB : B ≤ W.heap.size) (hR : σ R = some ⟨rk, rv, rn⟩) (hv : W.cell? ⟨R, 2, none⟩ = some v)
    (hl : σ l = some ⟨lk, lv, ln⟩) (hc2 : W.cell? ⟨l, 2, none⟩ = some (.slice (some ⟨g, 0, none⟩) ln.length c)) (hm : m ≤ ln.length) (hs : ln.length ≤ 1000) (hn : n = ln.length - m) :
    Calls Try.prog 50 #[.slice (some ⟨g, m, none⟩) (ln.length - m) (c - m)] W (FieldOut B W (upd σ R ⟨rk, rv, ln.drop m⟩) R 2 n) := by
  obtain ⟨kv, vv, dv, hnd⟩ := hp.node hl
  have := hnd.c2
  rw [hc2] at this
  cases this
  have hpc : Piece W g m ((ptrv ln).drop m) := piece_of (show RowV 64 B W _ (ptrv ln) from hnd.r2) (by rw [ptrv_len]; exact hm)
  refine hp_row (nd' := ⟨rk, rv, ln.drop m⟩) hp hB hR (by decide) hv (fun k h1 h2 => by match k, h1 with | 0, _ => rfl | 1, _ => rfl | 2, _ => exact absurd rfl h2) (by show n = (ptrv _).length; rw [ptrv_len, List.length_drop, hn]) ?_
  refine (clone_ptr g m (ln.length - m) (c - m) ((ptrv ln).drop m) W (by rw [List.length_drop, ptrv_len]) (by omega) hpc.2 (fun u hu => ptrv_one _ u (List.mem_of_mem_drop hu))).mono ?_
  rintro e W' ⟨v', rfl, hr, hk⟩
  rw [ptrv_drop] at hr
  exact ⟨v', rfl, hr.base hB, ⟨hk.os, hk.tape, hk.output, hk.size, fun k h1 _ => hk.block k h1 (fun h => h)⟩, fun g e => .inr (hr.lt g e).1⟩
set_option maxRecDepth 100000 in
set_option maxHeartbeats 3200000 in
theorem split_any (B N l i : Nat) (σ : Sig) (ks vs : List Bs) (ns : List Nat) (lk lv : List Bs) (ln : List Nat) (w0 : World) (hp : Hp B w0 σ) (hB : B ≤ w0.heap.size) (hN : σ N = some ⟨ks, vs, ns⟩) (hl : σ l = some ⟨lk, lv, ln⟩) (hne : l ≠ N)
    (hi : ns[i]? = some l) (hik : i ≤ ks.length) (hvs : vs.length = ks.length) (hns : ns.length = ks.length + 1) (hlv : lv.length = lk.length) (h3 : 3 ≤ lk.length) (hm : lk.length ≤ 260) (hks : ks.length ≤ 260) (hln : ln = [] ∨ ln.length = lk.length + 1) :
    Calls Try.prog 43 #[.pointer (some ⟨N, 0, none⟩), .int .i64 i] w0 (SplitOut B N l i σ ks vs ns lk lv ln w0) := by
  have HP := Lib.hid hp
  obtain ⟨nk, nv, nn, hNa⟩ := hp.node hN
  obtain ⟨kv, vv, dv, hla⟩ := hp.node hl
  obtain ⟨ng, nc, rfl, hd1, hd2, hng, hdc⟩ := rown (show RowV 64 B w0 nn (ptrv ns) from hNa.r2) (by omega)
  obtain ⟨kg, kc, rfl, hk1, hk2, hkg, hkc⟩ := rowk (show RowV 9 B w0 kv (strv lk) from hla.r0) (by omega)
  obtain ⟨vg, vc, rfl, hv1, hv2, hvg, hvc⟩ := rowk (show RowV 9 B w0 vv (strv lv) from hla.r1) (by omega)
  have c2 : w0.cell? ⟨N, 2, none⟩ = _ := hNa.c2
  have l0 : w0.cell? ⟨l, 0, none⟩ = _ := hla.c0
  have l1 : w0.cell? ⟨l, 1, none⟩ = _ := hla.c1
  have hil : i < ns.length := (List.getElem?_eq_some_iff.1 hi).1
  have ci : w0.cell? ⟨ng, i, none⟩ = some (.pointer (some ⟨l, 0, none⟩)) := hdc i l hi
  have hns2 : ns.length ≤ 300 := by omega
  obtain ⟨m, hmm⟩ : ∃ m, m = lk.length / 2 := ⟨_, rfl⟩
  have hm1 : m + 1 < lk.length := by omega
  have hm0 : 0 < m := by omega
  have hlB := (hp.lt hl).2
  have HK := Lib.hid (piece_of (m := m + 1) (show RowV 9 B w0 _ (strv lk) from hla.r0) (by rw [strv_len]; omega))
  have HV := Lib.hid (piece_of (m := m + 1) (show RowV 9 B w0 _ (strv lv) from hla.r1) (by rw [strv_len]; omega))
  clear hNa hla hdc hkc hvc hp
  rw [hlv] at l1 hv1
  go_enter Try.func43, Try.ntmps43
  go_wp2_with fail
  rw [show (lk.length : Int) / 2 = (m : Int) by omega]
  have hmm0 := Lib.hid hmm
  have hk0 : Kept (fun _ => False) w0 w0.drew := (Kept.refl _ w0).drew
  have b0 : w0.drew.cell? ⟨l, 0, none⟩ = _ := l0
  have b1 : w0.drew.cell? ⟨l, 1, none⟩ = _ := l1
  have HKt := Lib.hid (show ((strv lk).drop (m + 1)).length = lk.length - (m + 1) by rw [List.length_drop, strv_len])
  have HVt := Lib.hid (show ((strv lv).drop (m + 1)).length = lk.length - (m + 1) by rw [List.length_drop, strv_len, hlv])
  clear c2 ci hmm
  have hw1 : IntKind.i64.wrap ((m : Int) + 1) = (m : Int) + 1 := by rw [IntKind.wrap_i64]; omega
  have hx1 : (0 : Int) ≤ (m : Int) + 1 := by omega
  have htn : ((m : Int) + 1).toNat = m + 1 := by omega
  have hx3 : (m : Int) + 1 ≤ (lk.length : Int) := by omega
  have hx4 : (lk.length : Int) ≤ (kc : Int) := by omega
  have hx5 : (lk.length : Int) ≤ (vc : Int) := by omega
  have hx6 : m + 1 ≤ lk.length := by omega
  have hn1 : ¬ (kc = m + 1) := by omega
  have hn2 : ¬ (vc = m + 1) := by omega
  go_region_held3 (fun X => X.cell? ⟨l, 0, none⟩ = some (.slice (some ⟨kg, 0, none⟩) lk.length kc) ∧ X.cell? ⟨l, 1, none⟩ = some (.slice (some ⟨vg, 0, none⟩) lk.length vc) ∧ Kept (fun _ => False) w0 X) (refine ⟨?_, ?_, ?_⟩ <;> first | assumption | exact Kept.alloc (by assumption) _ | (refine ca ?_ ?_ <;> assumption))
    (first
      | (go_at_call_of 46 (kg); refine (clone_str kg (m + 1) (lk.length - (m + 1)) (kc - (m + 1)) _ _ HKt.out (by omega) (HK.out.kept (by assumption)).2 (fun u hu => strv_one _ u (List.mem_of_mem_drop hu))).mono ?_; rintro e w1 ⟨v1, rfl, hr1, hk1⟩; obtain ⟨x1, y1, rfl⟩ := hr1.len; rw [HKt.out] at hr1 ⊢; have d0 := cell_kept' (Kept.both hk0 hk1) hlB l0; have d1 := cell_kept' (Kept.both hk0 hk1) hlB l1; have dk := Kept.both hk0 hk1)
      | (go_at_call_of 46 (vg); refine (clone_str vg (m + 1) (lk.length - (m + 1)) (vc - (m + 1)) _ _ HVt.out (by omega) (HV.out.kept (by assumption)).2 (fun u hu => strv_one _ u (List.mem_of_mem_drop hu))).mono ?_; rintro e w2 ⟨v2, rfl, hr2, hk2⟩; obtain ⟨x2, y2, rfl⟩ := hr2.len; rw [HVt.out] at hr2 ⊢; have d2 := cell_kept' (Kept.both dk hk2) hlB l0; have d3 := cell_kept' (Kept.both dk hk2) hlB l1; have dk2 := Kept.both dk hk2; have hlB2 := Nat.lt_of_lt_of_le hlB dk2.size))
  have hs1 : w0.heap.size ≤ w1.heap.size := hk1.size
  obtain ⟨R, hR⟩ : ∃ R, R = w2.heap.size := ⟨_, rfl⟩
  have HN := (HP.out.drewN 1).new (W2 := w2) hB (Kept.both hk1 hk2) ⟨lk.drop (m + 1), lv.drop (m + 1), []⟩ (.slice x1 (lk.length - (m + 1)) y1) (.slice x2 (lk.length - (m + 1)) y2) (.slice none 0 0) 85
    (by rw [strv_drop] at hr1; exact (hr1.kept hk2 (fun _ _ h => h)).base hB) (by rw [strv_drop] at hr2; exact hr2.base (Nat.le_trans hB hs1)) (.inl ⟨rfl, rfl⟩)
    (fun g e => (hr1.lt g e).1) (fun g e => Nat.le_trans hs1 (hr2.lt g e).1) (fun g e => by simp [Value.ownBlock] at e) (fun g e e2 => by have := (hr1.lt g e).2; have := (hr2.lt g e2).1; omega) (fun g e e2 => by simp [Value.ownBlock] at e2) (fun g e e2 => by simp [Value.ownBlock] at e2)
  rw [← hR] at HN ⊢
  have HF := Lib.hid (And.intro HN.1 (HN.2.2.below (S := fun _ => False) hB (fun _ h => h.elim)))
  have hRn := HN.2.1
  clear HN hR hr1 hr2 hk1 hk2 dk dk2 d0 d1 d2 d3 b0 b1 l0 l1 HK HV HKt HVt
  have hRN : N ≠ R := fun e => by rw [e, hRn] at hN; cases hN
  have hRl : l ≠ R := fun e => by rw [e, hRn] at hl; cases hl
  clear hw1 hx1 htn hx3 hx4 hx5 hx6 hn1 hn2 hk0
  go_wp2_with fail
  refine wp_named (fun W => Hp B W (upd σ R ⟨lk.drop (m + 1), lv.drop (m + 1), []⟩) ∧ Below B w0 W) ⟨HF.out.1, Below.trans (Below.drew (Below.refl B w0)) HF.out.2⟩ ?_
  rintro W3 ⟨hp, hb⟩
  have HPW := Lib.hid (And.intro hp hb)
  clear HF
  have hNk : (upd σ R ⟨lk.drop (m + 1), lv.drop (m + 1), []⟩) N = some ⟨ks, vs, ns⟩ := (upd_other _ _ hRN).trans hN
  have hlk : (upd σ R ⟨lk.drop (m + 1), lv.drop (m + 1), []⟩) l = some ⟨lk, lv, ln⟩ := (upd_other _ _ hRl).trans hl
  obtain ⟨na, nb, c0, hown, hNlt⟩ := HPW.out.1.f0 hNk
  obtain ⟨kg, kc, l0, hk1, hk2, hkg, hkc⟩ := HPW.out.1.g0 hlk (by omega)
  have hllt := (HPW.out.1.lt hlk).2
  have cm := hkc m (by omega)
  have hsz3 := HPW.out.2.size
  have hml : m < lk.length := by omega
  have hiF : i ≤ ks.length := by omega
  have hsF : ks.length ≤ 1000 := by omega
  have HLV := Lib.hid (And.intro hlv (And.intro hvs hns))
  clear hlv hvs hns
  clear hkc
  refine wp_region_ord 15 14 [(0, 0), (1, 0), (2, 0), (3, 0), (4, 1), (5, 0), (6, 0), (7, 0), (8, 0), (9, 1), (10, 0), (11, 0), (12, 1), (13, 2), (14, 3)] (fun X => X.cell? ⟨N, 0, none⟩ = some (.slice na ks.length nb) ∧ X.cell? ⟨l, 0, none⟩ = some (.slice (some ⟨kg, 0, none⟩) lk.length kc) ∧ X.cell? ⟨kg, m, none⟩ = some (.string (sx lk m))) (by kernel_rfl) (by kernel_rfl) ⟨c0, l0, cm⟩ (fun c a d v w h => by cases d <;> exact h) ?_
  apply wpOrd_read0
  case hi => rfl
  case hw => rfl
  case hy => (intro w; go_simp; try rfl)
  intro K hK; go_simp; refine hK _ _ ?_; clear hK K
  apply wpOrd_read0
  case hi => rfl
  case hw => rfl
  case hy => (intro w; go_simp; try rfl)
  intro K hK; go_simp; refine hK _ _ ?_; clear hK K
  apply wpOrd_read0
  case hi => rfl
  case hw => rfl
  case hy => (intro w; go_simp; try rfl)
  intro K hK; go_simp; refine hK _ _ ?_; clear hK K
  apply wpOrd_read0
  case hi => rfl
  case hw => rfl
  case hy => (intro w; go_simp; try rfl)
  intro K hK; go_simp; refine hK _ _ ?_; clear hK K
  apply wpOrd_read1
  case hi => rfl
  case hw => rfl
  case hy => (intro w hw; obtain ⟨h1, h2, h3⟩ := hw; go_simp; try rfl)
  intro K hK; go_simp; refine hK _ _ ?_; clear hK K
  apply wpOrd_read0
  case hi => rfl
  case hw => rfl
  case hy => (intro w; go_simp; try rfl)
  intro K hK; go_simp; refine hK _ _ ?_; clear hK K
  apply wpOrd_read0
  case hi => rfl
  case hw => rfl
  case hy => (intro w; go_simp; try rfl)
  intro K hK; go_simp; refine hK _ _ ?_; clear hK K
  apply wpOrd_read0
  case hi => rfl
  case hw => rfl
  case hy => (intro w; go_simp; try rfl)
  intro K hK; go_simp; refine hK _ _ ?_; clear hK K
  apply wpOrd_read0
  case hi => rfl
  case hw => rfl
  case hy => (intro w; go_simp; try rfl)
  intro K hK; go_simp; refine hK _ _ ?_; clear hK K
  apply wpOrd_read1
  case hi => rfl
  case hw => rfl
  case hy => (intro w hw; obtain ⟨h1, h2, h3⟩ := hw; go_simp; try rfl)
  intro K hK; go_simp; refine hK _ _ ?_; clear hK K
  apply wpOrd_read0
  case hi => rfl
  case hw => rfl
  case hy => (intro w; go_simp; try rfl)
  intro K hK; go_simp; refine hK _ _ ?_; clear hK K
  apply wpOrd_read0
  case hi => rfl
  case hw => rfl
  case hy => (intro w; go_simp; try rfl)
  intro K hK; go_simp; refine hK _ _ ?_; clear hK K
  apply wpOrd_read1
  case hi => rfl
  case hw => rfl
  case hy => (intro w hw; obtain ⟨h1, h2, h3⟩ := hw; go_simp; try rfl)
  intro K hK; go_simp; refine hK _ _ ?_; clear hK K
  apply wpOrd_eff2
  case hi => rfl
  case hw => rfl
  intro K hK
  go_simp
  refine hK _ _ ⟨ca (W := W3.drew) hNlt c0, ca (W := W3.drew) hllt l0, ca (W := W3.drew) hkg cm⟩ ?_
  clear hK K
  apply wpOrd_eff3
  case hi => rfl
  case hw => rfl
  intro K hK
  go_simp
  refine (hins0 (B := B) (σ := upd σ R ⟨lk.drop (m + 1), lv.drop (m + 1), []⟩) (N := N) (i := i) (n := ks.length + 1) (HPW.out.1.kept ((Kept.refl (fun _ => False) W3).drew.alloc _)) (Nat.le_trans hB (Nat.le_trans hsz3 (by simp))) hNk (ca (W := W3.drew) hNlt c0) hiF hsF rfl (heap_new W3.drew _) (fun g e e2 => absurd (hown g e) (by rw [e2]; exact Nat.lt_irrefl _))).mono ?_
  rintro e w4 ⟨a4, c4, rfl, ⟨u4, hu4⟩, hf4, HH4, HB4⟩
  refine hK _ _ (wpOrd_nil ?_)
  clear hK K
  simp only [List.drop_succ_cons, List.drop_zero]
  have HX := Lib.hid (And.intro HH4 ((((HPW.out.2).drew.alloc (Nat.le_trans hB hsz3) _)).trans HB4))
  clear HH4 HB4 HPW hp hb c0 hown hNlt l0 hk1 hk2 cm hNk hlk hkg hllt hml hiF hsF
  obtain ⟨hlv, hvs, hns⟩ := HLV.out
  clear HLV
  go_wp2_with fail
  clear hu4 hf4
  refine wp_named (fun W => Hp B W (upd (upd σ R ⟨lk.drop (m + 1), lv.drop (m + 1), []⟩) N ⟨ks.take i ++ sx lk m :: ks.drop i, vs, ns⟩) ∧ Below B w0 W) HX.out ?_
  clear HX
  rintro W4 ⟨hp, hb⟩
  have HPW := Lib.hid (And.intro hp hb)
  have hNk : (upd (upd σ R ⟨lk.drop (m + 1), lv.drop (m + 1), []⟩) N ⟨ks.take i ++ sx lk m :: ks.drop i, vs, ns⟩) N = some ⟨ks.take i ++ sx lk m :: ks.drop i, vs, ns⟩ := upd_same _ _ _
  have hlk : (upd (upd σ R ⟨lk.drop (m + 1), lv.drop (m + 1), []⟩) N ⟨ks.take i ++ sx lk m :: ks.drop i, vs, ns⟩) l = some ⟨lk, lv, ln⟩ := (upd_other _ _ hne).trans ((upd_other _ _ hRl).trans hl)
  obtain ⟨na, nb, c0, hown, hNlt⟩ := HPW.out.1.f1 hNk
  obtain ⟨kg, kc, l0, hk1, hk2, hkg, hkc⟩ := HPW.out.1.g1 hlk (by omega)
  have hllt := (HPW.out.1.lt hlk).2
  have cm := hkc m (by omega)
  have hsz4 := HPW.out.2.size
  have hml : m < lv.length := by omega
  have hiF : i ≤ vs.length := by omega
  have hsF : vs.length ≤ 1000 := by omega
  have HLV := Lib.hid (And.intro hlv (And.intro hvs hns))
  clear hlv hvs hns
  clear hkc
  refine wp_region_ord 15 14 [(0, 0), (1, 0), (2, 0), (3, 0), (4, 1), (5, 0), (6, 0), (7, 0), (8, 0), (9, 1), (10, 0), (11, 0), (12, 1), (13, 2), (14, 3)] (fun X => X.cell? ⟨N, 1, none⟩ = some (.slice na vs.length nb) ∧ X.cell? ⟨l, 1, none⟩ = some (.slice (some ⟨kg, 0, none⟩) lv.length kc) ∧ X.cell? ⟨kg, m, none⟩ = some (.string (sx lv m))) (by kernel_rfl) (by kernel_rfl) ⟨c0, l0, cm⟩ (fun c a d v w h => by cases d <;> exact h) ?_
  apply wpOrd_read0
  case hi => rfl
  case hw => rfl
  case hy => (intro w; go_simp; try rfl)
  intro K hK; go_simp; refine hK _ _ ?_; clear hK K
  apply wpOrd_read0
  case hi => rfl
  case hw => rfl
  case hy => (intro w; go_simp; try rfl)
  intro K hK; go_simp; refine hK _ _ ?_; clear hK K
  apply wpOrd_read0
  case hi => rfl
  case hw => rfl
  case hy => (intro w; go_simp; try rfl)
  intro K hK; go_simp; refine hK _ _ ?_; clear hK K
  apply wpOrd_read0
  case hi => rfl
  case hw => rfl
  case hy => (intro w; go_simp; try rfl)
  intro K hK; go_simp; refine hK _ _ ?_; clear hK K
  apply wpOrd_read1
  case hi => rfl
  case hw => rfl
  case hy => (intro w hw; obtain ⟨h1, h2, h3⟩ := hw; go_simp; try rfl)
  intro K hK; go_simp; refine hK _ _ ?_; clear hK K
  apply wpOrd_read0
  case hi => rfl
  case hw => rfl
  case hy => (intro w; go_simp; try rfl)
  intro K hK; go_simp; refine hK _ _ ?_; clear hK K
  apply wpOrd_read0
  case hi => rfl
  case hw => rfl
  case hy => (intro w; go_simp; try rfl)
  intro K hK; go_simp; refine hK _ _ ?_; clear hK K
  apply wpOrd_read0
  case hi => rfl
  case hw => rfl
  case hy => (intro w; go_simp; try rfl)
  intro K hK; go_simp; refine hK _ _ ?_; clear hK K
  apply wpOrd_read0
  case hi => rfl
  case hw => rfl
  case hy => (intro w; go_simp; try rfl)
  intro K hK; go_simp; refine hK _ _ ?_; clear hK K
  apply wpOrd_read1
  case hi => rfl
  case hw => rfl
  case hy => (intro w hw; obtain ⟨h1, h2, h3⟩ := hw; go_simp; try rfl)
  intro K hK; go_simp; refine hK _ _ ?_; clear hK K
  apply wpOrd_read0
  case hi => rfl
  case hw => rfl
  case hy => (intro w; go_simp; try rfl)
  intro K hK; go_simp; refine hK _ _ ?_; clear hK K
  apply wpOrd_read0
  case hi => rfl
  case hw => rfl
  case hy => (intro w; go_simp; try rfl)
  intro K hK; go_simp; refine hK _ _ ?_; clear hK K
  apply wpOrd_read1
  case hi => rfl
  case hw => rfl
  case hy => (intro w hw; obtain ⟨h1, h2, h3⟩ := hw; go_simp; try rfl)
  intro K hK; go_simp; refine hK _ _ ?_; clear hK K
  apply wpOrd_eff2
  case hi => rfl
  case hw => rfl
  intro K hK
  go_simp
  refine hK _ _ ⟨ca (W := W4.drew) hNlt c0, ca (W := W4.drew) hllt l0, ca (W := W4.drew) hkg cm⟩ ?_
  clear hK K
  apply wpOrd_eff3
  case hi => rfl
  case hw => rfl
  intro K hK
  go_simp
  refine (hins1 (B := B) (σ := upd (upd σ R ⟨lk.drop (m + 1), lv.drop (m + 1), []⟩) N ⟨ks.take i ++ sx lk m :: ks.drop i, vs, ns⟩) (N := N) (i := i) (n := vs.length + 1) (HPW.out.1.kept ((Kept.refl (fun _ => False) W4).drew.alloc _)) (Nat.le_trans hB (Nat.le_trans hsz4 (by simp))) hNk (ca (W := W4.drew) hNlt c0) hiF hsF rfl (heap_new W4.drew _) (fun g e e2 => absurd (hown g e) (by rw [e2]; exact Nat.lt_irrefl _))).mono ?_
  rintro e w4 ⟨a4, c4, rfl, ⟨u4, hu4⟩, hf4, HH4, HB4⟩
  refine hK _ _ (wpOrd_nil ?_)
  clear hK K
  simp only [List.drop_succ_cons, List.drop_zero]
  have HX := Lib.hid (And.intro HH4 ((((HPW.out.2).drew.alloc (Nat.le_trans hB hsz4) _)).trans HB4))
  clear HH4 HB4 HPW hp hb c0 hown hNlt l0 hk1 hk2 cm hNk hlk hkg hllt hml hiF hsF
  obtain ⟨hlv, hvs, hns⟩ := HLV.out
  clear HLV
  obtain ⟨na, nb, c2', hown, hNlt⟩ := HX.out.1.f2 (upd_same _ _ _)
  have c2 : w4.cell? ⟨N, 2, none⟩ = some (.slice na ns.length nb) := by simpa [go_sem] using c2'
  have HEQ := Lib.hid (And.intro hlv (And.intro hvs hns))
  have hi1 : i + 1 ≤ ns.length := by omega
  have hns3 : ns.length ≤ 1000 := by omega
  have hw1 : IntKind.i64.wrap ((i : Int) + 1) = (i : Int) + 1 := by rw [IntKind.wrap_i64]; omega
  clear hlv hvs hns
  go_wp2_with fail
  have hk5 : Kept (fun _ => False) (w4.setCell ⟨N, 1, none⟩ (.slice a4 (vs.length + 1) c4)) ((w4.setCell ⟨N, 1, none⟩ (.slice a4 (vs.length + 1) c4)).alloc (.cells #[.pointer (some ⟨R, 0, none⟩)] 64)) := (Kept.refl _ _).alloc _
  have hvb5 : ((w4.setCell ⟨N, 1, none⟩ (.slice a4 (vs.length + 1) c4)).alloc (.cells #[.pointer (some ⟨R, 0, none⟩)] 64)).heap[w4.heap.size]? = some (.cells #[.pointer (some ⟨R, 0, none⟩)] 64 (0, 0)) := by
    rw [← show (w4.setCell ⟨N, 1, none⟩ (.slice a4 (vs.length + 1) c4)).heap.size = w4.heap.size from size_setCells' N [.slice a4 (vs.length + 1) c4] 1 w4]
    exact heap_new _ _
  have hsz5 : B ≤ (w4.setCell ⟨N, 1, none⟩ (.slice a4 (vs.length + 1) c4)).heap.size := Nat.le_trans hB HX.out.2.size
  rw [show (i : Int) + 1 = ((i + 1 : Nat) : Int) by omega]
  refine (hins2 (B := B) (N := N) (i := i + 1) (x := R) (n := ns.length + 1) (HX.out.1.kept hk5) (Nat.le_trans hsz5 hk5.size) (upd_same _ _ _) (cell_kept' hk5 hNlt c2') hi1 hns3 rfl hvb5 (fun g e e2 => absurd (hown g e) (by rw [e2, show (w4.setCell ⟨N, 1, none⟩ (.slice a4 (vs.length + 1) c4)).heap.size = w4.heap.size from size_setCells' N [.slice a4 (vs.length + 1) c4] 1 w4]; exact Nat.lt_irrefl _))).mono ?_
  rintro e w5 ⟨a5, c5, rfl, ⟨u5, hu5⟩, hf5, HH5, HB5⟩
  have HX5 := Lib.hid (And.intro HH5 ((HX.out.2.trans (hk5.below (S := fun _ => False) hsz5 (fun _ h => h.elim))).trans HB5))
  clear HH5 HB5 HX c2 c2' hown hNlt hk5 hvb5 hsz5 hi1 hns3 hw1
  go_wp2_with fail
  clear hu5 hf5
  refine wp_named (fun W => Hp B W (upd (upd (upd (upd σ R ⟨lk.drop (m + 1), lv.drop (m + 1), []⟩) N ⟨ks.take i ++ sx lk m :: ks.drop i, vs, ns⟩) N ⟨ks.take i ++ sx lk m :: ks.drop i, vs.take i ++ sx lv m :: vs.drop i, ns⟩) N ⟨ks.take i ++ sx lk m :: ks.drop i, vs.take i ++ sx lv m :: vs.drop i, ns.take (i + 1) ++ R :: ns.drop (i + 1)⟩) ∧ Below B w0 W) HX5.out ?_
  clear HX5
  rintro W6 ⟨hp, hb⟩
  have HPW := Lib.hid (And.intro hp hb)
  obtain ⟨hlv, hvs, hns⟩ := HEQ.out
  clear HEQ
  have hlk : (upd (upd (upd (upd σ R ⟨lk.drop (m + 1), lv.drop (m + 1), []⟩) N ⟨ks.take i ++ sx lk m :: ks.drop i, vs, ns⟩) N ⟨ks.take i ++ sx lk m :: ks.drop i, vs.take i ++ sx lv m :: vs.drop i, ns⟩) N ⟨ks.take i ++ sx lk m :: ks.drop i, vs.take i ++ sx lv m :: vs.drop i, ns.take (i + 1) ++ R :: ns.drop (i + 1)⟩) l = some ⟨lk, lv, ln⟩ := (upd_other _ _ hne).trans ((upd_other _ _ hne).trans ((upd_other _ _ hne).trans ((upd_other _ _ hRl).trans hl)))
  obtain ⟨na, nb, l0, hown, hllt⟩ := HPW.out.1.f0 hlk
  have hsz6 := HPW.out.2.size
  have hlo : m < lk.length := by omega
  have hn : Hid (m = lk.length - (lk.length - (m))) := Lib.hid (by omega)
  have hFs : lk.length ≤ 300 := by omega
  have HEQ := Lib.hid (And.intro hlv (And.intro hvs hns))
  clear hlv hvs hns
  refine wp_region_ord 12 11 [(0, 0), (1, 0), (2, 0), (3, 0), (4, 1), (5, 0), (6, 0), (7, 0), (8, 0), (9, 1), (10, 0), (11, 3)] (fun X => X.cell? ⟨l, 0, none⟩ = some (.slice na lk.length nb)) (by kernel_rfl) (by kernel_rfl) l0 (fun c a d v w h => by cases d <;> exact h) ?_
  apply wpOrd_read0
  case hi => rfl
  case hw => rfl
  case hy => (intro w; go_simp; try rfl)
  intro K hK; go_simp; refine hK _ _ ?_; clear hK K
  apply wpOrd_read0
  case hi => rfl
  case hw => rfl
  case hy => (intro w; go_simp; try rfl)
  intro K hK; go_simp; refine hK _ _ ?_; clear hK K
  apply wpOrd_read0
  case hi => rfl
  case hw => rfl
  case hy => (intro w; go_simp; try rfl)
  intro K hK; go_simp; refine hK _ _ ?_; clear hK K
  apply wpOrd_read0
  case hi => rfl
  case hw => rfl
  case hy => (intro w; go_simp; try rfl)
  intro K hK; go_simp; refine hK _ _ ?_; clear hK K
  apply wpOrd_read1
  case hi => rfl
  case hw => rfl
  case hy => (intro w hw; have h1 := hw; go_simp; try rfl)
  intro K hK; go_simp; refine hK _ _ ?_; clear hK K
  apply wpOrd_read0
  case hi => rfl
  case hw => rfl
  case hy => (intro w; go_simp; try rfl)
  intro K hK; go_simp; refine hK _ _ ?_; clear hK K
  apply wpOrd_read0
  case hi => rfl
  case hw => rfl
  case hy => (intro w; go_simp; try rfl)
  intro K hK; go_simp; refine hK _ _ ?_; clear hK K
  apply wpOrd_read0
  case hi => rfl
  case hw => rfl
  case hy => (intro w; go_simp; try rfl)
  intro K hK; go_simp; refine hK _ _ ?_; clear hK K
  apply wpOrd_read0
  case hi => rfl
  case hw => rfl
  case hy => (intro w; go_simp; try rfl)
  intro K hK; go_simp; refine hK _ _ ?_; clear hK K
  apply wpOrd_read1
  case hi => rfl
  case hw => rfl
  case hy => (intro w hw; have h1 := hw; go_simp; try rfl)
  intro K hK; go_simp; refine hK _ _ ?_; clear hK K
  apply wpOrd_read0
  case hi => rfl
  case hw => rfl
  case hy => (intro w; go_simp; try rfl)
  intro K hK; go_simp; refine hK _ _ ?_; clear hK K
  apply wpOrd_eff3
  case hi => rfl
  case hw => rfl
  intro K hK
  go_simp
  try rw [show (m : Int) + 1 = ((m + 1 : Nat) : Int) by omega]
  refine (hdel0 (B := B) (σ := upd (upd (upd (upd σ R ⟨lk.drop (m + 1), lv.drop (m + 1), []⟩) N ⟨ks.take i ++ sx lk m :: ks.drop i, vs, ns⟩) N ⟨ks.take i ++ sx lk m :: ks.drop i, vs.take i ++ sx lv m :: vs.drop i, ns⟩) N ⟨ks.take i ++ sx lk m :: ks.drop i, vs.take i ++ sx lv m :: vs.drop i, ns.take (i + 1) ++ R :: ns.drop (i + 1)⟩) (N := l) (i := m) (j := lk.length) (n := m) (HPW.out.1.drewN 1) (Nat.le_trans hB hsz6) hlk l0 hlo (Nat.le_refl _) hn.out).mono ?_
  rintro e w4 ⟨a4, c4, rfl, ⟨u4, hu4⟩, hf4, HH4, HB4⟩
  refine hK _ _ (wpOrd_nil ?_)
  clear hK K
  simp only [List.drop_succ_cons, List.drop_zero]
  have HX := Lib.hid (And.intro HH4 ((HPW.out.2).drew.trans HB4))
  clear HH4 HB4 HPW hp hb l0 hown hllt hlk hlo hn hFs
  obtain ⟨hlv, hvs, hns⟩ := HEQ.out
  clear HEQ
  go_wp2_with fail
  clear hu4 hf4
  refine wp_named (fun W => Hp B W (upd (upd (upd (upd (upd σ R ⟨lk.drop (m + 1), lv.drop (m + 1), []⟩) N ⟨ks.take i ++ sx lk m :: ks.drop i, vs, ns⟩) N ⟨ks.take i ++ sx lk m :: ks.drop i, vs.take i ++ sx lv m :: vs.drop i, ns⟩) N ⟨ks.take i ++ sx lk m :: ks.drop i, vs.take i ++ sx lv m :: vs.drop i, ns.take (i + 1) ++ R :: ns.drop (i + 1)⟩) l ⟨lk.take m ++ lk.drop lk.length, lv, ln⟩) ∧ Below B w0 W) HX.out ?_
  clear HX
  rintro W7 ⟨hp, hb⟩
  have HPW := Lib.hid (And.intro hp hb)
  have hmv : m < lv.length := by omega
  have hlk : (upd (upd (upd (upd (upd σ R ⟨lk.drop (m + 1), lv.drop (m + 1), []⟩) N ⟨ks.take i ++ sx lk m :: ks.drop i, vs, ns⟩) N ⟨ks.take i ++ sx lk m :: ks.drop i, vs.take i ++ sx lv m :: vs.drop i, ns⟩) N ⟨ks.take i ++ sx lk m :: ks.drop i, vs.take i ++ sx lv m :: vs.drop i, ns.take (i + 1) ++ R :: ns.drop (i + 1)⟩) l ⟨lk.take m ++ lk.drop lk.length, lv, ln⟩) l = some ⟨lk.take m ++ lk.drop lk.length, lv, ln⟩ := upd_same _ _ _
  obtain ⟨na, nb, l0, hown, hllt⟩ := HPW.out.1.f1 hlk
  have hsz7 := HPW.out.2.size
  have hlo : m < lv.length := by omega
  have hn : Hid (m = lv.length - (lv.length - (m))) := Lib.hid (by omega)
  have hFs : lv.length ≤ 300 := by omega
  have HEQ := Lib.hid (And.intro hlv (And.intro hvs hns))
  clear hlv hvs hns
  refine wp_region_ord 12 11 [(0, 0), (1, 0), (2, 0), (3, 0), (4, 1), (5, 0), (6, 0), (7, 0), (8, 0), (9, 1), (10, 0), (11, 3)] (fun X => X.cell? ⟨l, 1, none⟩ = some (.slice na lv.length nb)) (by kernel_rfl) (by kernel_rfl) l0 (fun c a d v w h => by cases d <;> exact h) ?_
  apply wpOrd_read0
  case hi => rfl
  case hw => rfl
  case hy => (intro w; go_simp; try rfl)
  intro K hK; go_simp; refine hK _ _ ?_; clear hK K
  apply wpOrd_read0
  case hi => rfl
  case hw => rfl
  case hy => (intro w; go_simp; try rfl)
  intro K hK; go_simp; refine hK _ _ ?_; clear hK K
  apply wpOrd_read0
  case hi => rfl
  case hw => rfl
  case hy => (intro w; go_simp; try rfl)
  intro K hK; go_simp; refine hK _ _ ?_; clear hK K
  apply wpOrd_read0
  case hi => rfl
  case hw => rfl
  case hy => (intro w; go_simp; try rfl)
  intro K hK; go_simp; refine hK _ _ ?_; clear hK K
  apply wpOrd_read1
  case hi => rfl
  case hw => rfl
  case hy => (intro w hw; have h1 := hw; go_simp; try rfl)
  intro K hK; go_simp; refine hK _ _ ?_; clear hK K
  apply wpOrd_read0
  case hi => rfl
  case hw => rfl
  case hy => (intro w; go_simp; try rfl)
  intro K hK; go_simp; refine hK _ _ ?_; clear hK K
  apply wpOrd_read0
  case hi => rfl
  case hw => rfl
  case hy => (intro w; go_simp; try rfl)
  intro K hK; go_simp; refine hK _ _ ?_; clear hK K
  apply wpOrd_read0
  case hi => rfl
  case hw => rfl
  case hy => (intro w; go_simp; try rfl)
  intro K hK; go_simp; refine hK _ _ ?_; clear hK K
  apply wpOrd_read0
  case hi => rfl
  case hw => rfl
  case hy => (intro w; go_simp; try rfl)
  intro K hK; go_simp; refine hK _ _ ?_; clear hK K
  apply wpOrd_read1
  case hi => rfl
  case hw => rfl
  case hy => (intro w hw; have h1 := hw; go_simp; try rfl)
  intro K hK; go_simp; refine hK _ _ ?_; clear hK K
  apply wpOrd_read0
  case hi => rfl
  case hw => rfl
  case hy => (intro w; go_simp; try rfl)
  intro K hK; go_simp; refine hK _ _ ?_; clear hK K
  apply wpOrd_eff3
  case hi => rfl
  case hw => rfl
  intro K hK
  go_simp
  try rw [show (m : Int) + 1 = ((m + 1 : Nat) : Int) by omega]
  refine (hdel1 (B := B) (σ := upd (upd (upd (upd (upd σ R ⟨lk.drop (m + 1), lv.drop (m + 1), []⟩) N ⟨ks.take i ++ sx lk m :: ks.drop i, vs, ns⟩) N ⟨ks.take i ++ sx lk m :: ks.drop i, vs.take i ++ sx lv m :: vs.drop i, ns⟩) N ⟨ks.take i ++ sx lk m :: ks.drop i, vs.take i ++ sx lv m :: vs.drop i, ns.take (i + 1) ++ R :: ns.drop (i + 1)⟩) l ⟨lk.take m ++ lk.drop lk.length, lv, ln⟩) (N := l) (i := m) (j := lv.length) (n := m) (HPW.out.1.drewN 1) (Nat.le_trans hB hsz7) hlk l0 hlo (Nat.le_refl _) hn.out).mono ?_
  rintro e w4 ⟨a4, c4, rfl, ⟨u4, hu4⟩, hf4, HH4, HB4⟩
  refine hK _ _ (wpOrd_nil ?_)
  clear hK K
  simp only [List.drop_succ_cons, List.drop_zero]
  have HX := Lib.hid (And.intro HH4 ((HPW.out.2).drew.trans HB4))
  clear HH4 HB4 HPW hp hb l0 hown hllt hlk hlo hn hFs
  obtain ⟨hlv, hvs, hns⟩ := HEQ.out
  clear HEQ
  have HM := hmm0
  rcases hln with hln | hll
  · subst hln
    obtain ⟨na, nb, c2', hown, hNlt⟩ := HX.out.1.f2 (upd_same _ _ _)
    have c2 : w4.cell? ⟨l, 2, none⟩ = some (.slice na 0 nb) := by simpa [go_sem] using c2'
    clear c2' hlv hvs hns
    go_wp2_with fail
    refine bodyPost_end (v := .tuple #[]) (by simp [results, Try.results43, go_sem]) rfl ⟨rfl, R, _, HX.out.1, HX.out.2, hRn, hRN.symm, hRl.symm, ?_⟩
    rw [← HM.out]
    simp only [List.drop_length, List.append_nil, List.drop_nil, List.take_nil]
    refine sig_ext (fun k => ?_) rfl
    simp only [upd_k]
    by_cases h1 : k = l
    · simp [h1]
    · by_cases h2 : k = N
      · simp [h1, h2, hne.symm, hRN]
      · simp [h1, h2]
  · obtain ⟨dg, dc, c2', hd1, hd2, hdg, hdc⟩ := HX.out.1.g2 (upd_same _ _ _) (by omega)
    have c2 : w4.cell? ⟨l, 2, none⟩ = some (.slice (some ⟨dg, 0, none⟩) ln.length dc) := by simpa [go_sem] using c2'
    have hR6 : (upd (upd (upd (upd (upd (upd σ R ⟨lk.drop (m + 1), lv.drop (m + 1), []⟩) N ⟨ks.take i ++ sx lk m :: ks.drop i, vs, ns⟩) N ⟨ks.take i ++ sx lk m :: ks.drop i, vs.take i ++ sx lv m :: vs.drop i, ns⟩) N ⟨ks.take i ++ sx lk m :: ks.drop i, vs.take i ++ sx lv m :: vs.drop i, ns.take (i + 1) ++ R :: ns.drop (i + 1)⟩) l ⟨lk.take m ++ lk.drop lk.length, lv, ln⟩) l ⟨lk.take m ++ lk.drop lk.length, lv.take m ++ lv.drop lv.length, ln⟩) R = some ⟨lk.drop (m + 1), lv.drop (m + 1), []⟩ := (upd_other _ _ hRl.symm).trans ((upd_other _ _ hRl.symm).trans ((upd_other _ _ hRN.symm).trans ((upd_other _ _ hRN.symm).trans ((upd_other _ _ hRN.symm).trans (upd_same _ _ _)))))
    obtain ⟨ra, rb, r2, _, _⟩ := HX.out.1.f2 hR6
    have hml2 : m + 1 < ln.length := by omega
    have hln3 : ln.length ≤ 300 := by omega
    have hw1 : IntKind.i64.wrap ((m : Int) + 1) = (m : Int) + 1 := by rw [IntKind.wrap_i64]; omega
    have hx1 : (0 : Int) ≤ (m : Int) + 1 := by omega
    have htn : ((m : Int) + 1).toNat = m + 1 := by omega
    have hx3 : (m : Int) + 1 ≤ (ln.length : Int) := by omega
    have hx4 : (ln.length : Int) ≤ (dc : Int) := by omega
    have hx6 : m + 1 ≤ ln.length := by omega
    have hn1 : ¬ (dc = m + 1) := by omega
    have hln0 : 0 < ln.length := by omega
    have hsz9 : B ≤ (w4.setCell ⟨l, 1, none⟩ (.slice a4 m c4)).heap.size := Nat.le_trans hB HX.out.2.size
    have HEQ := Lib.hid (And.intro hlv (And.intro hvs (And.intro hns hll)))
    clear hlv hvs hns hll hdc hR6
    go_wp2_with fail
    refine (hclone2 (B := B) (R := R) (l := l) (m := m + 1) (g := dg) (n := ln.length - (m + 1)) HX.out.1 hsz9 ((upd_other _ _ hRl.symm).trans ((upd_other _ _ hRl.symm).trans ((upd_other _ _ hRN.symm).trans ((upd_other _ _ hRN.symm).trans ((upd_other _ _ hRN.symm).trans (upd_same _ _ _)))))) r2 (upd_same _ _ _) c2' hx6 (by omega) rfl).mono ?_
    rintro e w9 ⟨a9, c9, rfl, ⟨u9, hu9⟩, hf9, HH9, HB9⟩
    have HX9 := Lib.hid (And.intro HH9 (HX.out.2.trans HB9))
    clear HH9 HB9 HX c2 c2' r2 hsz9 hd1 hd2 hdg hx1 htn hx3 hx4 hx6 hn1
    go_wp2_with fail
    clear hu9 hf9
    refine wp_named (fun W => Hp B W (upd (upd (upd (upd (upd (upd (upd σ R ⟨lk.drop (m + 1), lv.drop (m + 1), []⟩) N ⟨ks.take i ++ sx lk m :: ks.drop i, vs, ns⟩) N ⟨ks.take i ++ sx lk m :: ks.drop i, vs.take i ++ sx lv m :: vs.drop i, ns⟩) N ⟨ks.take i ++ sx lk m :: ks.drop i, vs.take i ++ sx lv m :: vs.drop i, ns.take (i + 1) ++ R :: ns.drop (i + 1)⟩) l ⟨lk.take m ++ lk.drop lk.length, lv, ln⟩) l ⟨lk.take m ++ lk.drop lk.length, lv.take m ++ lv.drop lv.length, ln⟩) R ⟨lk.drop (m + 1), lv.drop (m + 1), ln.drop (m + 1)⟩) ∧ Below B w0 W) HX9.out ?_
    clear HX9
    rintro W9 ⟨hp, hb⟩
    have HPW := Lib.hid (And.intro hp hb)
    obtain ⟨hlv, hvs, hns, hll⟩ := HEQ.out
    clear HEQ
    have HLL := Lib.hid hll
    clear hll
    have hlk : (upd (upd (upd (upd (upd (upd (upd σ R ⟨lk.drop (m + 1), lv.drop (m + 1), []⟩) N ⟨ks.take i ++ sx lk m :: ks.drop i, vs, ns⟩) N ⟨ks.take i ++ sx lk m :: ks.drop i, vs.take i ++ sx lv m :: vs.drop i, ns⟩) N ⟨ks.take i ++ sx lk m :: ks.drop i, vs.take i ++ sx lv m :: vs.drop i, ns.take (i + 1) ++ R :: ns.drop (i + 1)⟩) l ⟨lk.take m ++ lk.drop lk.length, lv, ln⟩) l ⟨lk.take m ++ lk.drop lk.length, lv.take m ++ lv.drop lv.length, ln⟩) R ⟨lk.drop (m + 1), lv.drop (m + 1), ln.drop (m + 1)⟩) l = some ⟨lk.take m ++ lk.drop lk.length, lv.take m ++ lv.drop lv.length, ln⟩ := (upd_other _ _ hRl).trans (upd_same _ _ _)
    obtain ⟨na, nb, l0, hown, hllt⟩ := HPW.out.1.f2 hlk
    have hsz9 := HPW.out.2.size
    have hlo : m + 1 < ln.length := by omega
    have hn : Hid (m + 1 = ln.length - (ln.length - (m + 1))) := Lib.hid (by omega)
    have hFs : ln.length ≤ 300 := by omega
    have HEQ := Lib.hid (And.intro hlv (And.intro hvs hns))
    clear hlv hvs hns
    refine wp_region_ord 13 12 [(0, 0), (1, 0), (2, 0), (3, 0), (4, 1), (5, 0), (6, 0), (7, 0), (8, 0), (9, 0), (10, 1), (11, 0), (12, 3)] (fun X => X.cell? ⟨l, 2, none⟩ = some (.slice na ln.length nb)) (by kernel_rfl) (by kernel_rfl) l0 (fun c a d v w h => by cases d <;> exact h) ?_
    apply wpOrd_read0
    case hi => rfl
    case hw => rfl
    case hy => (intro w; go_simp; try rfl)
    intro K hK; go_simp; refine hK _ _ ?_; clear hK K
    apply wpOrd_read0
    case hi => rfl
    case hw => rfl
    case hy => (intro w; go_simp; try rfl)
    intro K hK; go_simp; refine hK _ _ ?_; clear hK K
    apply wpOrd_read0
    case hi => rfl
    case hw => rfl
    case hy => (intro w; go_simp; try rfl)
    intro K hK; go_simp; refine hK _ _ ?_; clear hK K
    apply wpOrd_read0
    case hi => rfl
    case hw => rfl
    case hy => (intro w; go_simp; try rfl)
    intro K hK; go_simp; refine hK _ _ ?_; clear hK K
    apply wpOrd_read1
    case hi => rfl
    case hw => rfl
    case hy => (intro w hw; have h1 := hw; go_simp; try rfl)
    intro K hK; go_simp; refine hK _ _ ?_; clear hK K
    apply wpOrd_read0
    case hi => rfl
    case hw => rfl
    case hy => (intro w; go_simp; try rfl)
    intro K hK; go_simp; refine hK _ _ ?_; clear hK K
    apply wpOrd_read0
    case hi => rfl
    case hw => rfl
    case hy => (intro w; go_simp; try rfl)
    intro K hK; go_simp; refine hK _ _ ?_; clear hK K
    apply wpOrd_read0
    case hi => rfl
    case hw => rfl
    case hy => (intro w; go_simp; try rfl)
    intro K hK; go_simp; refine hK _ _ ?_; clear hK K
    apply wpOrd_read0
    case hi => rfl
    case hw => rfl
    case hy => (intro w; go_simp; try rfl)
    intro K hK; go_simp; refine hK _ _ ?_; clear hK K
    apply wpOrd_read0
    case hi => rfl
    case hw => rfl
    case hy => (intro w; go_simp; try rfl)
    intro K hK; go_simp; refine hK _ _ ?_; clear hK K
    apply wpOrd_read1
    case hi => rfl
    case hw => rfl
    case hy => (intro w hw; have h1 := hw; go_simp; try rfl)
    intro K hK; go_simp; refine hK _ _ ?_; clear hK K
    apply wpOrd_read0
    case hi => rfl
    case hw => rfl
    case hy => (intro w; go_simp; try rfl)
    intro K hK; go_simp; refine hK _ _ ?_; clear hK K
    apply wpOrd_eff3
    case hi => rfl
    case hw => rfl
    intro K hK
    go_simp
    try rw [show (m : Int) + 1 = ((m + 1 : Nat) : Int) by omega]
    refine (hdel2 (B := B) (σ := upd (upd (upd (upd (upd (upd (upd σ R ⟨lk.drop (m + 1), lv.drop (m + 1), []⟩) N ⟨ks.take i ++ sx lk m :: ks.drop i, vs, ns⟩) N ⟨ks.take i ++ sx lk m :: ks.drop i, vs.take i ++ sx lv m :: vs.drop i, ns⟩) N ⟨ks.take i ++ sx lk m :: ks.drop i, vs.take i ++ sx lv m :: vs.drop i, ns.take (i + 1) ++ R :: ns.drop (i + 1)⟩) l ⟨lk.take m ++ lk.drop lk.length, lv, ln⟩) l ⟨lk.take m ++ lk.drop lk.length, lv.take m ++ lv.drop lv.length, ln⟩) R ⟨lk.drop (m + 1), lv.drop (m + 1), ln.drop (m + 1)⟩) (N := l) (i := m + 1) (j := ln.length) (n := m + 1) (HPW.out.1.drewN 1) (Nat.le_trans hB hsz9) hlk l0 hlo (Nat.le_refl _) hn.out).mono ?_
    rintro e w4 ⟨a4, c4, rfl, ⟨u4, hu4⟩, hf4, HH4, HB4⟩
    refine hK _ _ (wpOrd_nil ?_)
    clear hK K
    simp only [List.drop_succ_cons, List.drop_zero]
    have HX := Lib.hid (And.intro HH4 ((HPW.out.2).drew.trans HB4))
    clear HH4 HB4 HPW hp hb l0 hown hllt hlk hlo hn hFs
    obtain ⟨hlv, hvs, hns⟩ := HEQ.out
    clear HEQ
    clear hlv hvs hns
    go_wp2_with fail
    refine bodyPost_end (v := .tuple #[]) (by simp [results, Try.results43, go_sem]) rfl ⟨rfl, R, _, HX.out.1, HX.out.2, hRn, hRN.symm, hRl.symm, ?_⟩
    rw [← HM.out]
    simp only [List.drop_length, List.append_nil]
    refine sig_ext (fun k => ?_) rfl
    simp only [upd_k]
    by_cases h1 : k = l
    · simp [h1]
    · by_cases h2 : k = N
      · simp [h1, h2, hne.symm, hRN]
      · by_cases h3 : k = R
        · simp [h1, h2, h3, hRN.symm, hRl.symm]
        · simp [h1, h2, h3]
end Go.Proofs.Ytegljepgncicjaa
