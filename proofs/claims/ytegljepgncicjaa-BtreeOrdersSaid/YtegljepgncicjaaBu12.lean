/- Btree: the walks of node.put. -/
import Derived.Test.YtegljepgncicjaaBu8
import Derived.Test.YtegljepgncicjaaBu10
namespace Go.Proofs.Ytegljepgncicjaa
open Go.ChangeShapes Go.WideShapes Go.ChangeAt Go.RowKit Go.Deep
set_option linter.unusedVariables false
set_option linter.unusedSimpArgs false
theorem Hp.bs {B : Nat} {W : World} {σ : Sig} (h : Hp B W σ) {N : Nat} {ks vs : List Bs} {ns : List Nat} (hN : σ N = some ⟨ks, vs, ns⟩) (hs : ks.length ≤ 1000) (key : Bs) :
    ∃ a c, W.cell? ⟨N, 0, none⟩ = some (.slice a ks.length c) ∧ Calls Try.prog 45 #[.slice a ks.length c, .string key] W fun e W' => e = .returned (.tuple #[.int .i64 (bsI ks key : Nat), .bool (bsF ks key)]) ∧ ∃ q, W' = W.drewN q := by
  obtain ⟨kv, vv, dv, hnd⟩ := h.node hN
  have hr : RowV 9 B W kv (strv ks) := hnd.r0
  have hc := hnd.c0
  obtain ⟨a, c, rfl⟩ := hr.len
  rw [strv_len] at hc hr
  exact ⟨a, c, hc, bs_str B _ ks key W hr hs⟩
def Out (B : Nat) (r : Value) (σ' : Sig) (W : World) (e : Ending) (W' : World) : Prop := e = .returned r ∧ Hp B W' σ' ∧ Below B W W'
set_option maxRecDepth 100000 in
set_option maxHeartbeats 1600000 in
theorem put_found (B N i : Nat) (o : Int) (σ : Sig) (ks vs : List Bs) (ns : List Nat) (key val : Bs) (W : World) (hp : Hp B W σ) (hB : B ≤ W.heap.size) (hN : σ N = some ⟨ks, vs, ns⟩) (hs : ks.length ≤ 260) (hv : vs.length = ks.length) (hi : i = bsI ks key) (hil : i < ks.length) (hf : bsF ks key = true) :
    Calls Try.prog 42 #[.pointer (some ⟨N, 0, none⟩), .int .i64 o, .string key, .string val] W (Out B (.bool false) (upd σ N ⟨ks, vs.set i val, ns⟩) W) := by
  obtain ⟨ka, kc, c0, hbs⟩ := hp.bs hN (by omega) key
  rw [← hi, hf] at hbs
  have HBS := Lib.hid hbs
  obtain ⟨va, vc, c1, _, _⟩ := hp.f1 hN
  obtain ⟨g, c, e1, hth, hfr, hnc, hc63, HH, hk, hBg, hgN⟩ := hp.elem (nd' := ⟨ks, vs.set i val, ns⟩) hN 1 (by decide) _ c1 i (.string val) (by show i < (strv vs).length; rw [strv_len]; omega)
    (by show strv (vs.set i val) = (strv vs).set i (.string val); simp [strv, List.map_set]) (fun k h1 h2 => by match k, h1 with | 0, _ => rfl | 1, _ => exact absurd rfl h2 | 2, _ => rfl)
  rw [show (Nd.row ⟨ks, vs, ns⟩ 1).length = vs.length from strv_len vs] at e1 hnc
  cases e1
  obtain ⟨u, hu⟩ := Option.isSome_iff_exists.1 hth
  have hbk : ∀ k, (Value.slice (some ⟨g, 0, none⟩) vs.length vc).ownBlock = some k → B ≤ k := fun k h => by
    have e : g = k := by simpa [Value.ownBlock] using h
    rw [← e]
    exact hBg
  have HO := Lib.hid (And.intro (fun q => (HH.kept ((Kept.refl (fun _ => False) _).drewN q))) (hk.below hB hbk))
  have hvl : i < vs.length := by omega
  have hvs : vs.length ≤ 260 := by omega
  clear hbs HH hk hth hi hf hp hv hN
  go_enter Try.func42, Try.ntmps42
  go_wp2_with fail
  refine HBS.out.mono ?_
  rintro e W1 ⟨rfl, q, rfl⟩
  clear HBS c0
  go_wp2_with fail
  go_ret
  exact ⟨rfl, HO.out.1 q, ⟨HO.out.2.os, HO.out.2.tape, HO.out.2.output, HO.out.2.size, HO.out.2.block⟩⟩
set_option maxRecDepth 100000 in
set_option maxHeartbeats 1600000 in
theorem put_leaf (B N i : Nat) (o : Int) (σ : Sig) (ks vs : List Bs) (key val : Bs) (W : World) (hp : Hp B W σ) (hB : B ≤ W.heap.size) (hN : σ N = some ⟨ks, vs, []⟩) (hs : ks.length ≤ 260) (hv : vs.length = ks.length) (hi : i = bsI ks key) (hil : i ≤ ks.length) (hf : bsF ks key = false) :
    Calls Try.prog 42 #[.pointer (some ⟨N, 0, none⟩), .int .i64 o, .string key, .string val] W (Out B (.bool true) (upd σ N ⟨ks.take i ++ key :: ks.drop i, vs.take i ++ val :: vs.drop i, []⟩) W) := by
  obtain ⟨ka, kc, c0, hbs⟩ := hp.bs hN (by omega) key
  rw [← hi, hf] at hbs
  have HBS := Lib.hid hbs
  obtain ⟨ka', kc', c0', hown, hNlt⟩ := hp.f0 hN
  rw [c0] at c0'
  cases c0'
  obtain ⟨da, dc, c2, _, _⟩ := hp.f2 hN
  change W.cell? _ = some (.slice da 0 dc) at c2
  have HP := Lib.hid hp
  have hsk : ks.length ≤ 1000 := by omega
  have hsv : vs.length ≤ 1000 := by omega
  have hiv : i ≤ vs.length := by omega
  clear hbs hi hf hp hv
  go_enter Try.func42, Try.ntmps42
  go_wp2_with fail
  refine HBS.out.mono ?_
  rintro e W1 ⟨rfl, q, rfl⟩
  clear HBS
  go_wp2_with fail
  have hk1 : Kept (fun _ => False) W ((W.drewN q).alloc (.cells #[.string key] 9)) := ((Kept.refl _ W).drewN q).alloc _
  refine (hins0 (B := B) (N := N) (i := i) (n := ks.length + 1) (HP.out.kept hk1) (Nat.le_trans hB hk1.size) hN (cell_kept' hk1 hNlt c0) hil hsk rfl (heap_new (W.drewN q) _) (fun g e e2 => absurd (hown g e) (by rw [e2]; exact Nat.lt_irrefl _))).mono ?_
  rintro e w4 ⟨a4, c4, rfl, ⟨u4, hu4⟩, hf4, HH4, HB4⟩
  obtain ⟨va, vc, c1', hown1, hNlt1⟩ := HH4.f1 (upd_same _ _ _)
  have c1 : w4.cell? ⟨N, 1, none⟩ = some (.slice va vs.length vc) := by simpa [go_sem] using c1'
  have HX := Lib.hid (And.intro HH4 ((hk1.below (S := fun _ => False) hB (fun _ h => h.elim)).trans HB4))
  clear HH4 HB4 hk1 c0 c2 hown hNlt
  go_wp2_with fail
  have hq : (w4.setCell ⟨N, 0, none⟩ (.slice a4 (ks.length + 1) c4)).heap.size = w4.heap.size := size_setCells' N [.slice a4 (ks.length + 1) c4] 0 w4
  have hk5 : Kept (fun _ => False) (w4.setCell ⟨N, 0, none⟩ (.slice a4 (ks.length + 1) c4)) ((w4.setCell ⟨N, 0, none⟩ (.slice a4 (ks.length + 1) c4)).alloc (.cells #[.string val] 9)) := (Kept.refl _ _).alloc _
  have hvb5 : ((w4.setCell ⟨N, 0, none⟩ (.slice a4 (ks.length + 1) c4)).alloc (.cells #[.string val] 9)).heap[w4.heap.size]? = some (.cells #[.string val] 9 (0, 0)) := by
    rw [← hq]
    exact heap_new _ _
  have hsz5 : B ≤ (w4.setCell ⟨N, 0, none⟩ (.slice a4 (ks.length + 1) c4)).heap.size := Nat.le_trans hB HX.out.2.size
  have HQ := Lib.hid hq
  clear hq
  refine (hins1 (B := B) (N := N) (i := i) (n := vs.length + 1) (HX.out.1.kept hk5) (Nat.le_trans hsz5 hk5.size) (upd_same _ _ _) (cell_kept' hk5 hNlt1 c1') hiv hsv rfl hvb5 (fun g e e2 => absurd (hown1 g e) (by rw [e2, HQ.out]; exact Nat.lt_irrefl _))).mono ?_
  rintro e w5 ⟨a5, c5, rfl, ⟨u5, hu5⟩, hf5, HH5, HB5⟩
  have HX5 := Lib.hid (And.intro HH5 ((HX.out.2.trans (hk5.below (S := fun _ => False) hsz5 (fun _ h => h.elim))).trans HB5))
  clear HH5 HB5 HX c1 c1' hown1 hNlt1 hk5 hvb5 hsz5 HQ
  go_wp2_with fail
  go_ret
  refine ⟨rfl, ?_, HX5.out.2⟩
  have := HX5.out.1
  rw [upd_upd] at this
  exact this
/-- what stands behind the recursive call -/
def PutIn (B N M i : Nat) (o : Nat) (r : Bool) (ks vs : List Bs) (ns : List Nat) (F : Sig → Prop) (W : World) (e : Ending) (W' : World) : Prop :=
  e = .returned (.bool r) ∧ Below B W W' ∧ ∃ σ1 lk lv ln, F σ1 ∧ σ1 M = some ⟨lk, lv, ln⟩ ∧ ((lk.length ≤ o ∧ Hp B W' σ1) ∨ (o < lk.length ∧ ∃ R σ', Hp B W' σ' ∧ σ1 R = none ∧ R ≠ N ∧ R ≠ M ∧
    σ' = upd (upd (upd σ1 R ⟨lk.drop (lk.length / 2 + 1), lv.drop (lk.length / 2 + 1), ln.drop (lk.length / 2 + 1)⟩)
      N ⟨ks.take i ++ sx lk (lk.length / 2) :: ks.drop i, vs.take i ++ sx lv (lk.length / 2) :: vs.drop i, ns.take (i + 1) ++ R :: ns.drop (i + 1)⟩)
      M ⟨lk.take (lk.length / 2), lv.take (lk.length / 2), ln.take (lk.length / 2 + 1)⟩))
set_option maxRecDepth 100000 in
set_option maxHeartbeats 1600000 in
theorem put_inner (B N M i o : Nat) (r : Bool) (σ : Sig) (ks vs : List Bs) (ns : List Nat) (key val : Bs) (F : Sig → Prop) (W : World) (hp : Hp B W σ) (hB : B ≤ W.heap.size) (hN : σ N = some ⟨ks, vs, ns⟩) (hs : ks.length ≤ 256) (hv : vs.length = ks.length) (hns : ns.length = ks.length + 1) (hi : i = bsI ks key) (hil : i ≤ ks.length) (hf : bsF ks key = false) (hM : ns[i]? = some M) (ho : 4 ≤ o) (ho2 : o ≤ 256)
    (hrec : ∀ q, Calls Try.prog 42 #[.pointer (some ⟨M, 0, none⟩), .int .i64 o, .string key, .string val] (W.drewN q) fun e W' => e = .returned (.bool r) ∧ ∃ σ1, Hp B W' σ1 ∧ Below B (W.drewN q) W' ∧ F σ1)
    (hF : ∀ σ1, F σ1 → σ1 N = some ⟨ks, vs, ns⟩ ∧ ∃ lk lv ln, σ1 M = some ⟨lk, lv, ln⟩ ∧ M ≠ N ∧ lk.length ≤ o + 1 ∧ 1 ≤ lk.length ∧ lv.length = lk.length ∧ (ln = [] ∨ ln.length = lk.length + 1)) :
    Calls Try.prog 42 #[.pointer (some ⟨N, 0, none⟩), .int .i64 o, .string key, .string val] W (PutIn B N M i o r ks vs ns F W) := by
  obtain ⟨ka, kc, c0, hbs⟩ := hp.bs hN (by omega) key
  rw [← hi, hf] at hbs
  have HBS := Lib.hid hbs
  obtain ⟨ng, nc, c2, hd1, hd2, _, hdc⟩ := hp.g2 hN (by omega)
  have ci := hdc i M hM
  have hil2 : i < ns.length := (List.getElem?_eq_some_iff.1 hM).1
  have hns2 : ns.length ≤ 300 := by omega
  have hns3 : 0 < ns.length := by omega
  have HE := Lib.hid (And.intro hv hns)
  clear hbs hi hf hdc hp hv hns
  go_enter Try.func42, Try.ntmps42
  go_wp2_with fail
  refine HBS.out.mono ?_
  rintro e W1 ⟨rfl, q, rfl⟩
  clear HBS c0
  go_wp2_with fail
  refine (hrec q).mono ?_
  rintro e W1 ⟨rfl, σ1, hp1, hb1, hf1⟩
  obtain ⟨hN1, lk, lv, ln, hM1, hMN, hle, hge, hlv, hln⟩ := hF σ1 hf1
  obtain ⟨ng1, nc1, d2, hd3, hd4, _, hdc1⟩ := hp1.g2 hN1 (by omega)
  obtain ⟨ka1, kc1, d0, _, _⟩ := hp1.f0 hM1
  have di := hdc1 i M hM
  have HP1 := Lib.hid (And.intro hp1 (And.intro (show Below B W W1 from ⟨hb1.os, hb1.tape, hb1.output, hb1.size, hb1.block⟩) hf1))
  have hle2 : lk.length ≤ 300 := by omega
  have HLV := Lib.hid (And.intro hlv hln)
  clear hp1 hb1 hf1 hdc1 c2 ci hd1 hd2 hlv hln
  by_cases hgt : o < lk.length
  · have hd : decide ((o : Int) < (lk.length : Int)) = true := decide_eq_true (by omega)
    go_wp2_with fail
    refine (split_any B N M i σ1 ks vs ns lk lv ln W1 HP1.out.1 (Nat.le_trans hB HP1.out.2.1.size) hN1 hM1 hMN hM hil HE.out.1 HE.out.2 HLV.out.1 (by omega) (by omega) (by omega) HLV.out.2).mono ?_
    rintro e W2 ⟨rfl, R, σ', h1, h2, h3, h4, h5, h6⟩
    have HR := Lib.hid (And.intro h1 (And.intro h2 (And.intro h3 (And.intro h4 (And.intro h5 h6)))))
    clear h1 h2 h3 h4 h5 h6 d2 d0 di
    go_wp2_with fail
    have HG := Lib.hid (show PutIn B N M i o r ks vs ns F W (.returned (.bool r)) W2 from ⟨rfl, HP1.out.2.1.trans HR.out.2.1, σ1, lk, lv, ln, HP1.out.2.2, hM1, .inr ⟨hgt, R, σ', HR.out.1, HR.out.2.2.1, HR.out.2.2.2.1, HR.out.2.2.2.2.1, HR.out.2.2.2.2.2⟩⟩)
    apply bodyPost_ret (v := .bool r)
    case hd => rfl
    case hR => exact HG.out
    case hr => simp [results, Try.results42, go_sem]
  · have hd : decide ((o : Int) < (lk.length : Int)) = false := decide_eq_false (by omega)
    have hgt2 := Lib.hid (Nat.le_of_not_lt hgt)
    have hgt3 : lk.length ≤ o := hgt2.out
    go_wp2_with fail
    go_ret
    exact ⟨rfl, HP1.out.2.1, σ1, lk, lv, ln, HP1.out.2.2, hM1, .inl ⟨hgt2.out, HP1.out.1⟩⟩
end Go.Proofs.Ytegljepgncicjaa
