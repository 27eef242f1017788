/- Mvcc: the reference's Rollback and Prune. -/
import Derived.Test.YtaecppkkbdbdbaaMv45
namespace Go.Proofs.Ytaecppkkbdbdbaa
open Go.ChangeShapes Go.WideShapes Go.ChangeAt Go.RowKit Go.Deep Go.ChangeMaps Go.Shelf Go.Sort
set_option linter.unusedVariables false
set_option linter.unusedSimpArgs false
def kv (Z : List Itm) : List (Bs × List Ver) := Z.map fun z => (z.key, z.vs)
def sweepL (f : List Ver → List Ver) (M : List (Bs × List Ver)) : List (Bs × List Ver) := (M.map fun p => (p.1, f p.2)).filter fun p => !p.2.isEmpty
theorem sweepL_app (f : List Ver → List Ver) (M N : List (Bs × List Ver)) : sweepL f (M ++ N) = sweepL f M ++ sweepL f N := by simp [sweepL]
theorem kv_app (M N : List Itm) : kv (M ++ N) = kv M ++ kv N := by simp [kv]
def cntL (g : List Ver → Nat) (Z : List Itm) : Nat := (Z.map fun z => g z.vs).sum
theorem cntL_app (g : List Ver → Nat) (M N : List Itm) : cntL g (M ++ N) = cntL g M + cntL g N := by simp [cntL]
/-- a sweep of the reference at work -/
structure RS (B1 : Nat) (f : List Ver → List Ver) (Z Z1 : List Itm) (j : Nat) (ot : Value) (W1 wr : World) : Prop where
  own : OR KI B1 wr ot Z1
  vs : ∀ z ∈ Z1, RR KV wr z.sl z.vs
  kv : kv Z1 = sweepL f (kv (Z.take j))
  low : Below B1 W1 wr
  sz : B1 ≤ wr.heap.size
theorem RS.below {B1 j : Nat} {f : List Ver → List Ver} {Z Z1 : List Itm} {ot : Value} {W1 wr w2 : World} (h : RS B1 f Z Z1 j ot W1 wr) (hb : Below wr.heap.size wr w2) : RS B1 f Z Z1 j ot W1 w2 :=
  ⟨h.own.below hb, fun z hz => (h.vs z hz).below hb, h.kv, h.low.trans (hb.mono h.sz), Nat.le_trans h.sz hb.size⟩
theorem RS.skip {B1 j : Nat} {f : List Ver → List Ver} {Z Z1 : List Itm} {ot : Value} {W1 wr : World} (h : RS B1 f Z Z1 j ot W1 wr) (hj : j < Z.length) (hf : f Z[j].vs = []) : RS B1 f Z Z1 (j + 1) ot W1 wr := by
  refine ⟨h.own, h.vs, ?_, h.low, h.sz⟩
  rw [List.take_succ_eq_append_getElem hj, kv_app, sweepL_app, ← h.kv]
  have : sweepL f (Go.Proofs.Ytaecppkkbdbdbaa.kv [Z[j]]) = [] := by
    unfold sweepL Go.Proofs.Ytaecppkkbdbdbaa.kv
    simp [hf]
  rw [this, List.append_nil]
theorem RS.push {B1 j : Nat} {f : List Ver → List Ver} {Z Z1 : List Itm} {ot ot' : Value} {W1 wr w2 : World} {o : Obj} {w : Itm} (h : RS B1 f Z Z1 j ot W1 wr) (hj : j < Z.length) (hw : w.key = Z[j].key) (hv : w.vs = f Z[j].vs) (hne : f Z[j].vs ≠ [])
    (hr : RR KV wr w.sl w.vs) (hown : OR KI B1 w2 ot' (Z1 ++ [w])) (hb : Below B1 (wr.alloc o) w2) (hg : (wr.alloc o).grownBy w2 ot.ownBlock) : RS B1 f Z (Z1 ++ [w]) (j + 1) ot' W1 w2 := by
  have ha : Below wr.heap.size wr (wr.alloc o) := (Below.refl _ wr).alloc (Nat.le_refl _) _
  have key : ∀ z : Itm, RR KV wr z.sl z.vs → RR KV w2 z.sl z.vs := fun z hz => (hz.below ha).apart (h.own.alloc o) (by decide) hg
  refine ⟨hown, fun z hz => ?_, ?_, h.low.trans (((Below.refl _ wr).alloc h.sz _).trans hb), Nat.le_trans h.sz (Nat.le_trans (by simp) hb.size)⟩
  · rcases List.mem_append.1 hz with hz | hz
    · exact key z (h.vs z hz)
    · obtain rfl := List.mem_singleton.1 hz
      exact key z hr
  · rw [List.take_succ_eq_append_getElem hj, kv_app, kv_app, sweepL_app, ← h.kv]
    congr 1
    unfold sweepL Go.Proofs.Ytaecppkkbdbdbaa.kv
    simp [hw, hv, hne]
/-- what a sweep of the reference returns -/
def SweepRef (f : List Ver → List Ver) (g : List Ver → Nat) (Z : List Itm) (W : World) (e : Ending) (w' : World) : Prop :=
  ∃ v' Z', e = .returned (.tuple #[.agg #[v'], .int .i64 (cntL g Z : Nat)]) ∧ RIt w' v' Z' ∧ kv Z' = sweepL f (kv Z) ∧ Below W.heap.size W w'
theorem roll_test {L : List Ver} {t : Int} (ha : Asc L) {k : Nat} (hk : k < L.length) : L[k].1 ≤ t ↔ k < upto L t := by
  constructor
  · intro h
    refine Decidable.byContradiction fun h2 => ?_
    have := upto_ge ha (i := k) (t := t) (by omega) hk
    omega
  · intro h
    exact upto_lt h hk
set_option maxRecDepth 100000 in
set_option maxHeartbeats 3200000 in
theorem roll_ref (v : Value) (Z : List Itm) (t : Int) (W : World) (h : RIt W v Z) (hl : Z.length ≤ 500) (ha : ∀ z ∈ Z, Asc z.vs) (hL : ∀ z ∈ Z, z.vs.length ≤ 5000) (hC : cntL (fun L => L.length - upto L t) Z ≤ 5000) :
    Calls Try.prog 24 #[.agg #[v], .int .i64 t] W (SweepRef (rollF t) (fun L => L.length - upto L t) Z W) := by
  obtain ⟨a, c, rfl, _⟩ := h.1
  have hP := PW.new _ Z W h
  obtain ⟨n, hn⟩ : ∃ n, n = Z.length := ⟨_, rfl⟩
  have HN := Lib.hid hn
  have HA := Lib.hid (And.intro ha hL)
  rw [← hn] at hP hl ⊢
  have HC := Lib.hid hC
  clear h hn ha hL hC
  go_enter Try.func24, Try.ntmps24
  go_wp2_with fail
  generalize ((W.alloc (.cells #[.slice a n c] 28)).alloc (.cells #[.slice none 0 0] 28)) = W1 at *
  have HP := Lib.hid hP
  obtain ⟨B1, hB1⟩ : ∃ B1, B1 = W1.heap.size := ⟨_, rfl⟩
  have HB1 := Lib.hid hB1
  clear hP hB1
  go_loopw [6, 7, 8] (fun ot nv i wr => ∃ (j : Nat) (Z1 : List Itm) (cn : Nat), nv = .int .i64 cn ∧ i = .int .i64 j ∧ j ≤ n ∧ Hid (cn = cntL (fun L => L.length - upto L t) (Z.take j)) ∧ Hid (RS B1 (rollF t) Z Z1 j ot W1 wr)) (fun _ _ i _ => n - iv i)
  case atStart => exact ⟨0, [], 0, rfl, rfl, Nat.zero_le _, Lib.hid rfl, Lib.hid ⟨OR.nil _ _ _, fun z hz => (by cases hz), rfl, Below.refl _ _, Nat.le_of_eq HB1.out⟩⟩
  case round =>
    obtain ⟨j, Z1, cn, rfl, rfl, hj, HCN, HS⟩ := hrel
    have hlow : Below W1.heap.size W1 wr := by rw [← HB1.out]; exact HS.out.low
    have c0 := (hlow.block _ HP.out.b0.lt).trans HP.out.b0
    have c0 : wr.cell? ⟨W.heap.size, 0, none⟩ = some (.slice a n c) := Boxed.cell c0
    by_cases hlast : j = n
    · subst hlast
      have HIT : Hid (RIt wr u6 Z1) := Lib.hid ⟨HS.out.own.rr okI, HS.out.vs⟩
      have HKV : Hid (kv Z1 = sweepL (rollF t) (kv Z) ∧ cn = cntL (fun L => L.length - upto L t) Z) := Lib.hid (by
        have h1 := HS.out.kv
        have h2 := HCN.out
        rw [HN.out, List.take_length] at h1 h2
        exact ⟨h1, h2⟩)
      obtain ⟨d1, d2, d3, d4, d5⟩ := HP.out.fin hlow HIT.out
      obtain ⟨oa, oc, ho⟩ := HS.out.own.form
      obtain ⟨m, hm⟩ : ∃ m, m = Z1.length := ⟨_, rfl⟩
      rw [← hm] at ho
      subst ho
      have HD := Lib.hid (And.intro d4 d5)
      clear hm d4 d5 HS HIT hlow
      go_wp2_with fail
      exact bodyPost_ret (v := .tuple #[.agg #[.slice oa m oc], .int .i64 cn]) (by simp [results, Try.results24, go_sem, d3]) rfl ⟨_, _, by rw [HKV.out.2], HD.out.1, HKV.out.1, HD.out.2⟩
    · have hjn : j < n := by omega
      have hjl : j < Z.length := by rw [← HN.out]; exact hjn
      have hIt := HP.out.it.below hlow
      obtain ⟨g, o, rfl, hg, hc⟩ := RR.cellE okI (HN.out ▸ hIt.1) (by omega)
      have q0 : wr.cell? ⟨g, o + j * 2, none⟩ = some (.string Z[j].key) := hc j hjl 0 _ rfl
      have q1 : wr.cell? ⟨g, o + j * 2 + 1, none⟩ = some (.slice Z[j].at_ Z[j].vs.length Z[j].cap) := hc j hjl 1 _ rfl
      have HV := Lib.hid (hIt.2 _ (List.getElem_mem hjl))
      have HAL := Lib.hid (And.intro (HA.out.1 _ (List.getElem_mem hjl)) (HA.out.2 _ (List.getElem_mem hjl)))
      obtain ⟨z, hz⟩ : ∃ z, z = Z[j] := ⟨_, rfl⟩
      have HZ := Lib.hid hz
      rw [← hz] at q0 q1 HV HAL
      obtain ⟨zk, za, zc, L⟩ := z
      obtain ⟨q, hq⟩ : ∃ q, q = L.length := ⟨_, rfl⟩
      have HQ := Lib.hid hq
      have q1 : wr.cell? ⟨g, o + j * 2 + 1, none⟩ = some (.slice za q zc) := by rw [hq]; exact q1
      have hq5 : q ≤ 5000 := by rw [hq]; exact HAL.out.2
      have HVV : Hid (RR KV wr (.slice za q zc) L) := Lib.hid (by rw [hq]; exact HV.out)
      obtain ⟨u, hu⟩ : ∃ u, u = upto L t := ⟨_, rfl⟩
      have HU := Lib.hid hu
      have huq : u ≤ q := by rw [hu, hq]; exact upto_le L t
      have HCL := Lib.hid (show cn + (q - u) = cntL (fun L => L.length - upto L t) (Z.take (j + 1)) from by
        rw [List.take_succ_eq_append_getElem hjl, cntL_app, ← HCN.out, ← hz, hq, hu]
        simp [cntL])
      have hcn : cn ≤ 5000 := by
        have h1 := HC.out
        have h2 : cntL (fun L => L.length - upto L t) (Z.take j ++ Z.drop j) = _ := cntL_app _ _ _
        rw [List.take_append_drop, ← HCN.out] at h2
        omega
      have hw1 : IntKind.i64.wrap ((j : Int) + 1) = ((j + 1 : Nat) : Int) := by rw [IntKind.wrap_i64]; omega
      obtain ⟨B2, hB2⟩ : ∃ B2, B2 = wr.heap.size := ⟨_, rfl⟩
      have HB2 := Lib.hid (And.intro hB2 hg)
      clear hc hIt hlow hz hq hu hlast hB2
      go_wp2_with fail
      generalize wr = W2 at *
      go_loopw [7, 9, 10] (fun nv lv i wx => ∃ k cc : Nat, nv = .int .i64 cc ∧ i = .int .i64 k ∧ k ≤ q ∧ Hid (cc = cn + (k - u)) ∧ Hid (OR KV B2 wx lv (L.take (min k u)) ∧ Below B2 W2 wx ∧ B2 ≤ wx.heap.size)) (fun _ _ i _ => q - iv i)
      case atStart => exact ⟨0, cn, rfl, rfl, Nat.zero_le _, Lib.hid (by omega), Lib.hid ⟨by simpa using OR.nil KV B2 W2, Below.refl _ _, Nat.le_of_eq HB2.out.1⟩⟩
      case round =>
        obtain ⟨k, cc, rfl, rfl, hk, HKC, HI⟩ := hrel
        have hbx : Below W2.heap.size W2 wr := by rw [← HB2.out.1]; exact HI.out.2.1
        have c0 : wr.cell? ⟨W.heap.size, 0, none⟩ = some (.slice (some ⟨g, o, none⟩) n c) := (hbx.cell (p := ⟨W.heap.size, 0, none⟩) (by have := HP.out.b0.lt; have := HS.out.low.size; have := HB1.out; show W.heap.size < _; omega)).trans c0
        have q0 : wr.cell? ⟨g, o + j * 2, none⟩ = some (.string zk) := (hbx.cell (p := ⟨g, o + j * 2, none⟩) HB2.out.2).trans q0
        have q1 : wr.cell? ⟨g, o + j * 2 + 1, none⟩ = some (.slice za q zc) := (hbx.cell (p := ⟨g, o + j * 2 + 1, none⟩) HB2.out.2).trans q1
        by_cases hkq : k = q
        · have hkq' := hkq.symm
          subst hkq'
          have HCL2 := Lib.hid (HKC.out.trans HCL.out)
          have HS2 := Lib.hid (HS.out.below hbx)
          have HI2 : Hid (OR KV B2 wr u9 (L.take u)) := Lib.hid (by have := HI.out.1; rwa [Nat.min_eq_right huq] at this)
          clear HI HS hbx
          obtain ⟨la, lc, hlv⟩ := HI2.out.form
          have hul : (L.take u).length = u := by rw [List.length_take, ← HQ.out]; omega
          rw [hul] at hlv
          subst hlv
          have HUL := Lib.hid hul
          clear hul
          by_cases hu0 : u = 0
          · have hu1 : ¬ 0 < u := by omega
            have HS3 := Lib.hid (HS2.out.skip hjl (by rw [← HZ.out]; show rollF t L = []; unfold rollF; rw [← HU.out, hu0, List.take_zero]))
            clear HS2 HI2 hu0
            go_wp2_with fail
            go_roundw
            case rel => exact ⟨j + 1, Z1, cc, rfl, by first | rfl | (push_cast; rfl), hjn, HCL2, HS3⟩
            case measure => show n - (((j + 1 : Nat) : Int).toNat) < n - ((j : Int)).toNat; omega
          · have hu1 : 0 < u := by omega
            clear hu0
            obtain ⟨w, hw⟩ : ∃ w : Itm, w = ⟨zk, la, lc, L.take u⟩ := ⟨_, rfl⟩
            have HW : Hid (w.key = Z[j].key ∧ w.vs = rollF t Z[j].vs ∧ rollF t Z[j].vs ≠ [] ∧ RR KV wr w.sl w.vs) := Lib.hid (by
              rw [← HZ.out, hw]
              refine ⟨rfl, by show L.take u = L.take (upto L t); rw [HU.out], fun e => ?_, ?_⟩
              · have e2 : (L.take (upto L t)).length = 0 := by show (rollF t L).length = 0; rw [e]; rfl
                rw [← HU.out, HUL.out] at e2
                omega
              · show RR KV wr (.slice la (L.take u).length lc) (L.take u)
                rw [HUL.out]
                exact HI2.out.rr okV)
            have HWR : Hid (RR KI (wr.alloc (.cells #[.string zk, .slice la u lc] 95)) (.slice (some ⟨wr.heap.size, 0, none⟩) 1 1) [w]) := Lib.hid (by
              have := RR.new okI wr w
              have e : KI.enc w = [.string zk, .slice la u lc] := by rw [hw]; show [_, Value.slice la (L.take u).length lc] = _; rw [HUL.out]
              rw [e] at this
              exact this)
            have HZ1 := Lib.hid (show Z1.length ≤ 500 from by
              have h1 := congrArg List.length HS2.out.kv
              have h2 : (sweepL (rollF t) (kv (Z.take j))).length ≤ (kv (Z.take j)).length := by unfold sweepL; exact Nat.le_trans (List.length_filter_le _ _) (by rw [List.length_map]; exact Nat.le_refl _)
              unfold kv at h1 h2
              simp only [List.length_map, List.length_take] at h1 h2
              have := HN.out
              omega)
            obtain ⟨m, hm⟩ : ∃ m, m = Z1.length + 1 := ⟨_, rfl⟩
            have HM := Lib.hid hm
            clear hw hm
            go_wp2_with (at_builtin; refine wpList_appG okI rfl _ _ rfl rfl B1 _ Z1 [w] _ 1 1 m rfl rfl ?_ ?_)
            · exact ⟨rfl, HS2.out.own.alloc _, HWR.out, by have := HS2.out.sz; simp; omega, by have := HZ1.out; omega, by simp, by rw [List.length_append]; exact HM.out⟩
            intro a5 c5 W5 h5 hb5 hg5 _
            have HS3 := Lib.hid (HS2.out.push hjl HW.out.1 HW.out.2.1 HW.out.2.2.1 HW.out.2.2.2 h5 hb5 hg5)
            clear h5 hb5 hg5 HS2 HI2
            go_wp2_with fail
            go_roundw
            case rel => exact ⟨j + 1, Z1 ++ [w], cc, rfl, by first | rfl | (push_cast; rfl), hjn, HCL2, HS3⟩
            case measure => show n - (((j + 1 : Nat) : Int).toNat) < n - ((j : Int)).toNat; omega
        · have hkn : k < q := by omega
          have hkl : k < L.length := by rw [← HQ.out]; exact hkn
          have HVX := HVV.out.below hbx
          obtain ⟨g2, o2, rfl, hg2, hc2⟩ := RR.cellE okV (HQ.out ▸ HVX) (by omega)
          have r0 : wr.cell? ⟨g2, o2 + k * 3, none⟩ = some (.int .i64 L[k].1) := hc2 k hkl 0 _ rfl
          have r1 : wr.cell? ⟨g2, o2 + k * 3 + 1, none⟩ = some (.string L[k].2.1) := hc2 k hkl 1 _ rfl
          have r2 : wr.cell? ⟨g2, o2 + k * 3 + 2, none⟩ = some (.bool L[k].2.2) := hc2 k hkl 2 _ rfl
          have ht := roll_test (t := t) HAL.out.1 hkl
          rw [← HU.out] at ht
          have hw3 : IntKind.i64.wrap ((k : Int) + 1) = ((k + 1 : Nat) : Int) := by rw [IntKind.wrap_i64]; omega
          have HTK := Lib.hid (show L.take (k + 1) = L.take k ++ [L[k]] from List.take_succ_eq_append_getElem hkl)
          clear hc2 hkq HVX
          generalize L[k] = x at *
          obtain ⟨xs, xv, xd⟩ := x
          by_cases hku : k < u
          · have hd : decide (xs ≤ t) = true := decide_eq_true (ht.2 hku)
            have HKC2 := Lib.hid (show cc = cn + (k + 1 - u) by have := HKC.out; omega)
            have HI2 : Hid (OR KV B2 wr u9 (L.take k) ∧ Below B2 W2 wr ∧ B2 ≤ wr.heap.size) := Lib.hid (by have := HI.out; rwa [Nat.min_eq_left (Nat.le_of_lt hku)] at this)
            have HKU := Lib.hid (show min (k + 1) u = k + 1 from Nat.min_eq_left hku)
            have HLK := Lib.hid (show (L.take k).length = k by rw [List.length_take, ← HQ.out]; omega)
            clear ht hku HI hbx
            go_wp2_with (at_builtin; refine wpList_appG okV rfl _ _ rfl rfl B2 _ (L.take k) [(xs, xv, xd)] _ 1 1 (k + 1) rfl rfl ?_ ?_)
            · exact ⟨rfl, HI2.out.1.alloc _, RR.new okV wr (xs, xv, xd), by have := HI2.out.2.2; simp; omega, by rw [HLK.out]; omega, by simp, by rw [List.length_append, HLK.out]; rfl⟩
            intro a5 c5 W5 h5 hb5 hg5 _
            have HI3 : Hid (OR KV B2 W5 (.slice a5 (k + 1) c5) (L.take (min (k + 1) u)) ∧ Below B2 W2 W5 ∧ B2 ≤ W5.heap.size) := Lib.hid ⟨by rw [HKU.out, HTK.out]; exact h5, HI2.out.2.1.trans (((Below.refl B2 wr).alloc HI2.out.2.2 _).trans hb5), by have := hb5.size; have := HI2.out.2.2; simp at *; omega⟩
            clear h5 hb5 hg5 HI2
            go_wp2_with fail
            go_roundw
            case rel => exact ⟨k + 1, cc, rfl, by first | rfl | (push_cast; rfl), hkn, HKC2, HI3⟩
            case measure => show q - (((k + 1 : Nat) : Int).toNat) < q - ((k : Int)).toNat; omega
          · have hd : decide (xs ≤ t) = false := decide_eq_false (fun e => hku (ht.1 e))
            have HKC2 := Lib.hid (show cc + 1 = cn + (k + 1 - u) by have := HKC.out; omega)
            have hw4 : IntKind.i64.wrap ((cc : Int) + 1) = ((cc + 1 : Nat) : Int) := by rw [IntKind.wrap_i64]; have := HKC.out; omega
            have HI3 : Hid (OR KV B2 wr u9 (L.take (min (k + 1) u)) ∧ Below B2 W2 wr ∧ B2 ≤ wr.heap.size) := Lib.hid (by
              have h1 : min (k + 1) u = min k u := by omega
              rw [h1]
              exact HI.out)
            clear ht hku HI hbx
            go_wp2_with fail
            go_roundw
            case rel => exact ⟨k + 1, cc + 1, by first | rfl | (push_cast; rfl), by first | rfl | (push_cast; rfl), hkn, HKC2, HI3⟩
            case measure => show q - (((k + 1 : Nat) : Int).toNat) < q - ((k : Int)).toNat; omega
end Go.Proofs.Ytaecppkkbdbdbaa
