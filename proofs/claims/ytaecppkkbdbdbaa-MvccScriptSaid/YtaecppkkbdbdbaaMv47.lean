/- Mvcc: the reference's Prune. -/
import Derived.Test.YtaecppkkbdbdbaaMv46
namespace Go.Proofs.Ytaecppkkbdbdbaa
open Go.ChangeShapes Go.WideShapes Go.ChangeAt Go.RowKit Go.Deep Go.ChangeMaps Go.Shelf Go.Sort
set_option linter.unusedVariables false
set_option linter.unusedSimpArgs false
theorem pn_zero {L : List Ver} {t : Int} (h : upto L t = 0) : pn L t = 0 := by
  unfold pn
  rw [h]
  cases L[0 - 1]? with
  | none => rfl
  | some x => simp
theorem pn_pos {L : List Ver} {t : Int} (h : 0 < upto L t) : pn L t = if (L[upto L t - 1]'(by have := upto_le L t; omega)).2.2 = true then upto L t else upto L t - 1 := by
  unfold pn
  rw [List.getElem?_eq_getElem (by have := upto_le L t; omega)]
theorem prune_test {L : List Ver} {t : Int} (ha : Asc L) {k : Nat} (hk : k < L.length) :
    ((∃ h : k + 1 < L.length, (L[k + 1]'h).1 ≤ t) ∨ (k ≤ pn L t ∧ L[k].2.2 = true ∧ L[k].1 ≤ t)) ↔ k < pn L t := by
  have h0 := roll_test (t := t) ha hk
  have hul := upto_le L t
  rcases Nat.eq_zero_or_pos (upto L t) with hu | hu
  · rw [pn_zero hu]
    constructor
    · rintro (⟨h, h1⟩ | ⟨_, _, h1⟩)
      · have := (roll_test (t := t) ha h).1 h1
        omega
      · have := h0.1 h1
        omega
    · intro h; omega
  · have hp := pn_pos hu
    constructor
    · rintro (⟨h, h1⟩ | ⟨h1, h2, h3⟩)
      · have := (roll_test (t := t) ha h).1 h1
        rw [hp]
        split <;> omega
      · have h4 := h0.1 h3
        by_cases e : k = upto L t - 1
        · have e2 : L[upto L t - 1] = L[k] := by congr 1; exact e.symm
          rw [hp, e2, if_pos h2]
          exact h4
        · rw [hp]
          split <;> omega
    · intro h
      by_cases e : k + 1 < upto L t
      · exact .inl ⟨by omega, (roll_test ha (by omega)).2 e⟩
      · have h5 : k = upto L t - 1 := by rw [hp] at h; split at h <;> omega
        have e2 : L[upto L t - 1] = L[k] := by congr 1; exact h5.symm
        rw [e2] at hp
        by_cases hd : L[k].2.2 = true
        · exact .inr ⟨Nat.le_of_lt h, hd, h0.2 (by omega)⟩
        · rw [if_neg hd] at hp
          omega
set_option maxRecDepth 100000 in
set_option maxHeartbeats 3200000 in
theorem prune_ref (v : Value) (Z : List Itm) (t : Int) (W : World) (h : RIt W v Z) (hl : Z.length ≤ 500) (ha : ∀ z ∈ Z, Asc z.vs) (hL : ∀ z ∈ Z, z.vs.length ≤ 5000) (hC : cntL (fun L => pn L t) Z ≤ 5000) :
    Calls Try.prog 26 #[.agg #[v], .int .i64 t] W (SweepRef (pruneF t) (fun L => pn L t) Z W) := by
  obtain ⟨a, c, rfl, _⟩ := h.1
  have hP := PW.new _ Z W h
  obtain ⟨n, hn⟩ : ∃ n, n = Z.length := ⟨_, rfl⟩
  have HN := Lib.hid hn
  have HA := Lib.hid (And.intro ha hL)
  rw [← hn] at hP hl ⊢
  have HC := Lib.hid hC
  clear h hn ha hL hC
  go_enter Try.func26, Try.ntmps26
  go_wp2_with fail
  generalize ((W.alloc (.cells #[.slice a n c] 28)).alloc (.cells #[.slice none 0 0] 28)) = W1 at *
  have HP := Lib.hid hP
  obtain ⟨B1, hB1⟩ : ∃ B1, B1 = W1.heap.size := ⟨_, rfl⟩
  have HB1 := Lib.hid hB1
  clear hP hB1
  go_loopw [6, 7, 8] (fun ot nv i wr => ∃ (j : Nat) (Z1 : List Itm) (cn : Nat), nv = .int .i64 cn ∧ i = .int .i64 j ∧ j ≤ n ∧ Hid (cn = cntL (fun L => pn L t) (Z.take j)) ∧ Hid (RS B1 (pruneF t) Z Z1 j ot W1 wr)) (fun _ _ i _ => n - iv i)
  case atStart => exact ⟨0, [], 0, rfl, rfl, Nat.zero_le _, Lib.hid rfl, Lib.hid ⟨OR.nil _ _ _, fun z hz => (by cases hz), rfl, Below.refl _ _, Nat.le_of_eq HB1.out⟩⟩
  case round =>
    obtain ⟨j, Z1, cn, rfl, rfl, hj, HCN, HS⟩ := hrel
    have hlow : Below W1.heap.size W1 wr := by rw [← HB1.out]; exact HS.out.low
    have c0 := (hlow.block _ HP.out.b0.lt).trans HP.out.b0
    have c0 : wr.cell? ⟨W.heap.size, 0, none⟩ = some (.slice a n c) := Boxed.cell c0
    by_cases hlast : j = n
    · subst hlast
      have HIT : Hid (RIt wr u6 Z1) := Lib.hid ⟨HS.out.own.rr okI, HS.out.vs⟩
      have HKV : Hid (kv Z1 = sweepL (pruneF t) (kv Z) ∧ cn = cntL (fun L => pn L t) Z) := Lib.hid (by
        have h1 := HS.out.kv
        have h2 := HCN.out
        rw [HN.out, List.take_length] at h1 h2
        exact ⟨h1, h2⟩)
      obtain ⟨d1, d2, d3, d4, d5⟩ := HP.out.fin hlow HIT.out
      obtain ⟨oa, oc, ho⟩ := HS.out.own.form
      obtain ⟨m, hm⟩ : ∃ m, m = Z1.length := ⟨_, rfl⟩
      rw [← hm] at ho
      subst ho
      have HD := Lib.hid (And.intro d4 d5)
      clear hm d4 d5 HS HIT hlow
      go_wp2_with fail
      exact bodyPost_ret (v := .tuple #[.agg #[.slice oa m oc], .int .i64 cn]) (by simp [results, Try.results26, go_sem, d3]) rfl ⟨_, _, by rw [HKV.out.2], HD.out.1, HKV.out.1, HD.out.2⟩
    · have hjn : j < n := by omega
      have hjl : j < Z.length := by rw [← HN.out]; exact hjn
      have hIt := HP.out.it.below hlow
      obtain ⟨g, o, rfl, hg, hc⟩ := RR.cellE okI (HN.out ▸ hIt.1) (by omega)
      have q0 : wr.cell? ⟨g, o + j * 2, none⟩ = some (.string Z[j].key) := hc j hjl 0 _ rfl
      have q1a : wr.cell? ⟨g, o + j * 2 + 1, none⟩ = some (.slice Z[j].at_ Z[j].vs.length Z[j].cap) := hc j hjl 1 _ rfl
      have HV := Lib.hid (hIt.2 _ (List.getElem_mem hjl))
      have HAL := Lib.hid (And.intro (HA.out.1 _ (List.getElem_mem hjl)) (HA.out.2 _ (List.getElem_mem hjl)))
      obtain ⟨z, hz⟩ : ∃ z, z = Z[j] := ⟨_, rfl⟩
      have HZ := Lib.hid hz
      rw [← hz] at q0 q1a HV HAL
      obtain ⟨zk, za, zc, L⟩ := z
      obtain ⟨q, hq⟩ : ∃ q, q = L.length := ⟨_, rfl⟩
      have HQ := Lib.hid hq
      have q1 : wr.cell? ⟨g, o + j * 2 + 1, none⟩ = some (.slice za q zc) := by rw [hq]; exact q1a
      clear q1a
      have hq5 : q ≤ 5000 := by rw [hq]; exact HAL.out.2
      have HVV : Hid (RR KV wr (.slice za q zc) L) := Lib.hid (by rw [hq]; exact HV.out)
      obtain ⟨u, hu⟩ : ∃ u, u = pn L t := ⟨_, rfl⟩
      have HU := Lib.hid hu
      have huq : u ≤ q := by rw [hu, hq]; exact pn_le L t
      have HCL := Lib.hid (show cn + u = cntL (fun L => pn L t) (Z.take (j + 1)) from by
        rw [List.take_succ_eq_append_getElem hjl, cntL_app, ← HCN.out, ← hz, hu]
        simp [cntL])
      have hcn : cn ≤ 5000 := by
        have h1 := HC.out
        have h2 : cntL (fun L => pn L t) (Z.take j ++ Z.drop j) = _ := cntL_app _ _ _
        rw [List.take_append_drop, ← HCN.out] at h2
        omega
      have hw1 : IntKind.i64.wrap ((j : Int) + 1) = ((j + 1 : Nat) : Int) := by rw [IntKind.wrap_i64]; omega
      obtain ⟨B2, hB2⟩ : ∃ B2, B2 = wr.heap.size := ⟨_, rfl⟩
      have HB2 := Lib.hid (And.intro hB2 hg)
      clear hc hIt hlow hz hq hu hlast hB2
      go_wp2_with fail
      generalize wr = W2 at *
      go_loopw [7, 9, 11] (fun nv lv i wx => ∃ k cc : Nat, nv = .int .i64 cc ∧ i = .int .i64 k ∧ k ≤ q ∧ Hid (cc = cn + min k u) ∧ Hid (OR KV B2 wx lv ((L.take k).drop u) ∧ Below B2 W2 wx ∧ B2 ≤ wx.heap.size)) (fun _ _ i _ => q - iv i)
      case atStart => exact ⟨0, cn, rfl, rfl, Nat.zero_le _, Lib.hid (by omega), Lib.hid ⟨by simpa using OR.nil KV B2 W2, Below.refl _ _, Nat.le_of_eq HB2.out.1⟩⟩
      case round =>
        obtain ⟨k, cc, rfl, rfl, hk, HKC, HI⟩ := hrel
        have hbx : Below W2.heap.size W2 wr := by rw [← HB2.out.1]; exact HI.out.2.1
        have c0 : wr.cell? ⟨W.heap.size, 0, none⟩ = some (.slice (some ⟨g, o, none⟩) n c) := (hbx.cell (p := ⟨W.heap.size, 0, none⟩) (by have := HP.out.b0.lt; have := HS.out.low.size; have := HB1.out; show W.heap.size < _; omega)).trans c0
        have q0 : wr.cell? ⟨g, o + j * 2, none⟩ = some (.string zk) := (hbx.cell (p := ⟨g, o + j * 2, none⟩) HB2.out.2).trans q0
        by_cases hkq : k = q
        · have hkq' := hkq.symm
          subst hkq'
          have HCL2 := Lib.hid (show cc = cntL (fun L => pn L t) (Z.take (j + 1)) by have := HKC.out; rw [Nat.min_eq_right huq] at this; exact this.trans HCL.out)
          have HS2 := Lib.hid (HS.out.below hbx)
          have HI2 : Hid (OR KV B2 wr u9 (L.drop u)) := Lib.hid (by have := HI.out.1; rwa [HQ.out, List.take_length] at this)
          clear HI HS hbx
          obtain ⟨la, lc, hlv⟩ := HI2.out.form
          have hul : (L.drop u).length = q - u := by rw [List.length_drop, ← HQ.out]
          rw [hul] at hlv
          subst hlv
          have HUL := Lib.hid hul
          clear hul
          by_cases hu0 : q ≤ u
          · have hu1 : ¬ 0 < q - u := by omega
            have hu2 : ¬ u < q := by omega
            have HS3 := Lib.hid (HS2.out.skip hjl (by rw [← HZ.out]; show pruneF t L = []; unfold pruneF; rw [← HU.out, List.drop_of_length_le (by rw [← HQ.out]; exact hu0)]))
            clear HS2 HI2 hu0
            go_wp2_with fail
            go_roundw
            case rel => exact ⟨j + 1, Z1, cc, rfl, by first | rfl | (push_cast; rfl), hjn, HCL2, HS3⟩
            case measure => show n - (((j + 1 : Nat) : Int).toNat) < n - ((j : Int)).toNat; omega
          · have hu1 : 0 < q - u := by omega
            have hu2 : u < q := by omega
            clear hu0
            obtain ⟨w, hw⟩ : ∃ w : Itm, w = ⟨zk, la, lc, L.drop u⟩ := ⟨_, rfl⟩
            have HW : Hid (w.key = Z[j].key ∧ w.vs = pruneF t Z[j].vs ∧ pruneF t Z[j].vs ≠ [] ∧ RR KV wr w.sl w.vs) := Lib.hid (by
              rw [← HZ.out, hw]
              refine ⟨rfl, by show L.drop u = L.drop (pn L t); rw [HU.out], fun e => ?_, ?_⟩
              · have e2 : (L.drop (pn L t)).length = 0 := by show (pruneF t L).length = 0; rw [e]; rfl
                rw [← HU.out, HUL.out] at e2
                omega
              · show RR KV wr (.slice la (L.drop u).length lc) (L.drop u)
                rw [HUL.out]
                exact HI2.out.rr okV)
            have HWR : Hid (RR KI (wr.alloc (.cells #[.string zk, .slice la (q - u) lc] 95)) (.slice (some ⟨wr.heap.size, 0, none⟩) 1 1) [w]) := Lib.hid (by
              have := RR.new okI wr w
              have e : KI.enc w = [.string zk, .slice la (q - u) lc] := by rw [hw]; show [_, Value.slice la (L.drop u).length lc] = _; rw [HUL.out]
              rw [e] at this
              exact this)
            have HZ1 := Lib.hid (show Z1.length ≤ 500 from by
              have h1 := congrArg List.length HS2.out.kv
              have h2 : (sweepL (pruneF t) (kv (Z.take j))).length ≤ (kv (Z.take j)).length := by unfold sweepL; exact Nat.le_trans (List.length_filter_le _ _) (by rw [List.length_map]; exact Nat.le_refl _)
              unfold kv at h1 h2
              simp only [List.length_map, List.length_take] at h1 h2
              have := HN.out
              omega)
            obtain ⟨m, hm⟩ : ∃ m, m = Z1.length + 1 := ⟨_, rfl⟩
            have HM := Lib.hid hm
            clear hw hm
            go_wp2_with (at_builtin; refine wpList_appG okI rfl _ _ rfl rfl B1 _ Z1 [w] _ 1 1 m rfl rfl ?_ ?_)
            · exact ⟨rfl, HS2.out.own.alloc _, HWR.out, by have := HS2.out.sz; simp; omega, by have := HZ1.out; omega, by simp, by rw [List.length_append]; exact HM.out⟩
            intro a5 c5 W5 h5 hb5 hg5 _
            have HS3 := Lib.hid (HS2.out.push hjl HW.out.1 HW.out.2.1 HW.out.2.2.1 HW.out.2.2.2 h5 hb5 hg5)
            clear h5 hb5 hg5 HS2 HI2
            go_wp2_with fail
            go_roundw
            case rel => exact ⟨j + 1, Z1 ++ [w], cc, rfl, by first | rfl | (push_cast; rfl), hjn, HCL2, HS3⟩
            case measure => show n - (((j + 1 : Nat) : Int).toNat) < n - ((j : Int)).toNat; omega
        · have hkn : k < q := by omega
          have hkl : k < L.length := by rw [← HQ.out]; exact hkn
          have HVX := HVV.out.below hbx
          obtain ⟨g2, o2, rfl, hg2, hc2⟩ := RR.cellE okV (HQ.out ▸ HVX) (by omega)
          have r0 : wr.cell? ⟨g2, o2 + k * 3, none⟩ = some (.int .i64 L[k].1) := hc2 k hkl 0 _ rfl
          have r1 : wr.cell? ⟨g2, o2 + k * 3 + 1, none⟩ = some (.string L[k].2.1) := hc2 k hkl 1 _ rfl
          have r2 : wr.cell? ⟨g2, o2 + k * 3 + 2, none⟩ = some (.bool L[k].2.2) := hc2 k hkl 2 _ rfl
          have HNX := Lib.hid (show ∀ h : k + 1 < L.length, wr.cell? ⟨g2, o2 + (k + 1) * 3, none⟩ = some (.int .i64 (L[k + 1]'h).1) from fun h => hc2 (k + 1) h 0 _ rfl)
          have ht := prune_test (t := t) HAL.out.1 hkl
          rw [← HU.out] at ht
          have hw3 : IntKind.i64.wrap ((k : Int) + 1) = ((k + 1 : Nat) : Int) := by rw [IntKind.wrap_i64]; omega
          have HTK := Lib.hid (show L.take (k + 1) = L.take k ++ [L[k]] from List.take_succ_eq_append_getElem hkl)
          have HT := Lib.hid ht
          clear hc2 hkq HVX ht
          generalize L[k] = x at *
          obtain ⟨xs, xv, xd⟩ := x
          obtain ⟨la, lc, hlv⟩ := HI.out.1.form
          have hul : ((L.take k).drop u).length = k - u := by rw [List.length_drop, List.length_take, ← HQ.out]; omega
          obtain ⟨e, he⟩ : ∃ e, e = k - u := ⟨_, rfl⟩
          rw [hul, ← he] at hlv
          subst hlv
          have HE := Lib.hid he
          clear hul he
          by_cases hkx : k + 1 < q
          · have hkxl : k + 1 < L.length := by rw [← HQ.out]; exact hkx
            have r3 := HNX.out hkxl
            have hkxi : ((k + 1 : Nat) : Int) < (q : Int) := by omega
            have hkx0 : (0 : Int) ≤ ((k + 1 : Nat) : Int) := by omega
            by_cases hys : (L[k + 1]'hkxl).1 ≤ t
            · have hku : k < u := HT.out.1 (.inl ⟨hkxl, hys⟩)
              have hdy : decide ((L[k + 1]'hkxl).1 ≤ t) = true := decide_eq_true hys
              generalize (L[k + 1]'hkxl).1 = ys at *
              clear hys
              have HKC2 := Lib.hid (show cc + 1 = cn + min (k + 1) u by have := HKC.out; omega)
              have hw4 : IntKind.i64.wrap ((cc : Int) + 1) = ((cc + 1 : Nat) : Int) := by rw [IntKind.wrap_i64]; have := HKC.out; omega
              have HI3 : Hid (OR KV B2 wr (.slice la e lc) ((L.take (k + 1)).drop u) ∧ Below B2 W2 wr ∧ B2 ≤ wr.heap.size) := Lib.hid (by
                have h1 : (L.take (k + 1)).drop u = (L.take k).drop u := by
                  rw [List.drop_of_length_le (by rw [List.length_take]; omega), List.drop_of_length_le (by rw [List.length_take]; omega)]
                rw [h1]
                exact HI.out)
              clear hku HI hbx
              go_wp2_with fail
              go_roundw
              case rel => exact ⟨k + 1, cc + 1, by first | rfl | (push_cast; rfl), by first | rfl | (push_cast; rfl), hkn, HKC2, HI3⟩
              case measure => show q - (((k + 1 : Nat) : Int).toNat) < q - ((k : Int)).toNat; omega
            · have hdy : decide ((L[k + 1]'hkxl).1 ≤ t) = false := decide_eq_false hys
              have HF := Lib.hid (show ¬ ∃ h : k + 1 < L.length, (L[k + 1]'h).1 ≤ t from fun ⟨h, h2⟩ => hys h2)
              generalize (L[k + 1]'hkxl).1 = ys at *
              clear hys
              by_cases hz0 : e = 0
              · subst hz0
                rcases (show xd = false ∨ xd = true from by cases xd <;> simp) with hxd | hxd
                · have hku : ¬ k < u := fun h => (HT.out.2 h).elim (fun h3 => HF.out h3) (fun h3 => by have := h3.2.1; rw [hxd] at this; cases this)
                  subst hxd
                  have HKC2 := Lib.hid (show cc = cn + min (k + 1) u by have := HKC.out; omega)
                  have HLK := Lib.hid (show ((L.take k).drop u).length = k - u by rw [List.length_drop, List.length_take, ← HQ.out]; omega)
                  have HDR := Lib.hid (show (L.take (k + 1)).drop u = (L.take k).drop u ++ [(xs, xv, false)] by rw [HTK.out, List.drop_append_of_le_length (by rw [List.length_take, ← HQ.out]; omega)])
                  have HKU := Lib.hid hku
                  clear hku hbx
                  go_wp2_with (at_builtin; refine wpList_appG okV rfl _ _ rfl rfl B2 _ ((L.take k).drop u) [(xs, xv, false)] _ 1 1 1 rfl rfl ?_ ?_)
                  · exact ⟨rfl, HI.out.1.alloc _, RR.new okV wr (xs, xv, false), by have := HI.out.2.2; simp; omega, by rw [HLK.out]; omega, by simp, by rw [List.length_append, HLK.out, ← HE.out]; rfl⟩
                  intro a5 c5 W5 h5 hb5 hg5 _
                  have HI3 : Hid (OR KV B2 W5 (.slice a5 1 c5) ((L.take (k + 1)).drop u) ∧ Below B2 W2 W5 ∧ B2 ≤ W5.heap.size) := Lib.hid ⟨by rw [HDR.out]; exact h5, HI.out.2.1.trans (((Below.refl B2 wr).alloc HI.out.2.2 _).trans hb5), by have := hb5.size; have := HI.out.2.2; simp at *; omega⟩
                  clear h5 hb5 hg5 HI
                  go_wp2_with fail
                  go_roundw
                  case rel => exact ⟨k + 1, cc, rfl, by first | rfl | (push_cast; rfl), hkn, HKC2, HI3⟩
                  case measure => show q - (((k + 1 : Nat) : Int).toNat) < q - ((k : Int)).toNat; omega
                · by_cases hxs : xs ≤ t
                  · have hds : decide (xs ≤ t) = true := decide_eq_true hxs
                    have hku : k < u := HT.out.1 (.inr ⟨by have := HE.out; omega, hxd, hxs⟩)
                    subst hxd
                    clear hxs
                    have HKC2 := Lib.hid (show cc + 1 = cn + min (k + 1) u by have := HKC.out; omega)
                    have hw4 : IntKind.i64.wrap ((cc : Int) + 1) = ((cc + 1 : Nat) : Int) := by rw [IntKind.wrap_i64]; have := HKC.out; omega
                    have HI3 : Hid (OR KV B2 wr (.slice la 0 lc) ((L.take (k + 1)).drop u) ∧ Below B2 W2 wr ∧ B2 ≤ wr.heap.size) := Lib.hid (by
                      have h1 : (L.take (k + 1)).drop u = (L.take k).drop u := by
                        rw [List.drop_of_length_le (by rw [List.length_take]; omega), List.drop_of_length_le (by rw [List.length_take]; omega)]
                      rw [h1]
                      exact HI.out)
                    clear hku HI hbx
                    go_wp2_with fail
                    go_roundw
                    case rel => exact ⟨k + 1, cc + 1, by first | rfl | (push_cast; rfl), by first | rfl | (push_cast; rfl), hkn, HKC2, HI3⟩
                    case measure => show q - (((k + 1 : Nat) : Int).toNat) < q - ((k : Int)).toNat; omega
                  · have hds : decide (xs ≤ t) = false := decide_eq_false hxs
                    have hku : ¬ k < u := fun h => (HT.out.2 h).elim (fun h3 => HF.out h3) (fun h3 => hxs h3.2.2)
                    subst hxd
                    clear hxs
                    have HKC2 := Lib.hid (show cc = cn + min (k + 1) u by have := HKC.out; omega)
                    have HLK := Lib.hid (show ((L.take k).drop u).length = k - u by rw [List.length_drop, List.length_take, ← HQ.out]; omega)
                    have HDR := Lib.hid (show (L.take (k + 1)).drop u = (L.take k).drop u ++ [(xs, xv, true)] by rw [HTK.out, List.drop_append_of_le_length (by rw [List.length_take, ← HQ.out]; omega)])
                    have HKU := Lib.hid hku
                    clear hku hbx
                    go_wp2_with (at_builtin; refine wpList_appG okV rfl _ _ rfl rfl B2 _ ((L.take k).drop u) [(xs, xv, true)] _ 1 1 1 rfl rfl ?_ ?_)
                    · exact ⟨rfl, HI.out.1.alloc _, RR.new okV wr (xs, xv, true), by have := HI.out.2.2; simp; omega, by rw [HLK.out]; omega, by simp, by rw [List.length_append, HLK.out, ← HE.out]; rfl⟩
                    intro a5 c5 W5 h5 hb5 hg5 _
                    have HI3 : Hid (OR KV B2 W5 (.slice a5 1 c5) ((L.take (k + 1)).drop u) ∧ Below B2 W2 W5 ∧ B2 ≤ W5.heap.size) := Lib.hid ⟨by rw [HDR.out]; exact h5, HI.out.2.1.trans (((Below.refl B2 wr).alloc HI.out.2.2 _).trans hb5), by have := hb5.size; have := HI.out.2.2; simp at *; omega⟩
                    clear h5 hb5 hg5 HI
                    go_wp2_with fail
                    go_roundw
                    case rel => exact ⟨k + 1, cc, rfl, by first | rfl | (push_cast; rfl), hkn, HKC2, HI3⟩
                    case measure => show q - (((k + 1 : Nat) : Int).toNat) < q - ((k : Int)).toNat; omega
              · have hzb : ((e : Int) == 0) = false := beq_eq_false_iff_ne.2 (by omega)
                have hku : ¬ k < u := by have := HE.out; omega
                have HKC2 := Lib.hid (show cc = cn + min (k + 1) u by have := HKC.out; omega)
                have HLK := Lib.hid (show ((L.take k).drop u).length = k - u by rw [List.length_drop, List.length_take, ← HQ.out]; omega)
                have HDR := Lib.hid (show (L.take (k + 1)).drop u = (L.take k).drop u ++ [(xs, xv, xd)] by rw [HTK.out, List.drop_append_of_le_length (by rw [List.length_take, ← HQ.out]; omega)])
                have HKU := Lib.hid hku
                clear hku hbx
                go_wp2_with (at_builtin; refine wpList_appG okV rfl _ _ rfl rfl B2 _ ((L.take k).drop u) [(xs, xv, xd)] _ 1 1 (e + 1) rfl rfl ?_ ?_)
                · exact ⟨rfl, HI.out.1.alloc _, RR.new okV wr (xs, xv, xd), by have := HI.out.2.2; simp; omega, by rw [HLK.out]; omega, by simp, by rw [List.length_append, HLK.out, ← HE.out]; rfl⟩
                intro a5 c5 W5 h5 hb5 hg5 _
                have HI3 : Hid (OR KV B2 W5 (.slice a5 (e + 1) c5) ((L.take (k + 1)).drop u) ∧ Below B2 W2 W5 ∧ B2 ≤ W5.heap.size) := Lib.hid ⟨by rw [HDR.out]; exact h5, HI.out.2.1.trans (((Below.refl B2 wr).alloc HI.out.2.2 _).trans hb5), by have := hb5.size; have := HI.out.2.2; simp at *; omega⟩
                clear h5 hb5 hg5 HI
                go_wp2_with fail
                go_roundw
                case rel => exact ⟨k + 1, cc, rfl, by first | rfl | (push_cast; rfl), hkn, HKC2, HI3⟩
                case measure => show q - (((k + 1 : Nat) : Int).toNat) < q - ((k : Int)).toNat; omega
          · have HF := Lib.hid (show ¬ ∃ h : k + 1 < L.length, (L[k + 1]'h).1 ≤ t from fun ⟨h, _⟩ => hkx (by rw [HQ.out]; exact h))
            by_cases hz0 : e = 0
            · subst hz0
              rcases (show xd = false ∨ xd = true from by cases xd <;> simp) with hxd | hxd
              · have hku : ¬ k < u := fun h => (HT.out.2 h).elim (fun h3 => HF.out h3) (fun h3 => by have := h3.2.1; rw [hxd] at this; cases this)
                subst hxd
                have HKC2 := Lib.hid (show cc = cn + min (k + 1) u by have := HKC.out; omega)
                have HLK := Lib.hid (show ((L.take k).drop u).length = k - u by rw [List.length_drop, List.length_take, ← HQ.out]; omega)
                have HDR := Lib.hid (show (L.take (k + 1)).drop u = (L.take k).drop u ++ [(xs, xv, false)] by rw [HTK.out, List.drop_append_of_le_length (by rw [List.length_take, ← HQ.out]; omega)])
                have HKU := Lib.hid hku
                clear hku hbx
                go_wp2_with (at_builtin; refine wpList_appG okV rfl _ _ rfl rfl B2 _ ((L.take k).drop u) [(xs, xv, false)] _ 1 1 1 rfl rfl ?_ ?_)
                · exact ⟨rfl, HI.out.1.alloc _, RR.new okV wr (xs, xv, false), by have := HI.out.2.2; simp; omega, by rw [HLK.out]; omega, by simp, by rw [List.length_append, HLK.out, ← HE.out]; rfl⟩
                intro a5 c5 W5 h5 hb5 hg5 _
                have HI3 : Hid (OR KV B2 W5 (.slice a5 1 c5) ((L.take (k + 1)).drop u) ∧ Below B2 W2 W5 ∧ B2 ≤ W5.heap.size) := Lib.hid ⟨by rw [HDR.out]; exact h5, HI.out.2.1.trans (((Below.refl B2 wr).alloc HI.out.2.2 _).trans hb5), by have := hb5.size; have := HI.out.2.2; simp at *; omega⟩
                clear h5 hb5 hg5 HI
                go_wp2_with fail
                go_roundw
                case rel => exact ⟨k + 1, cc, rfl, by first | rfl | (push_cast; rfl), hkn, HKC2, HI3⟩
                case measure => show q - (((k + 1 : Nat) : Int).toNat) < q - ((k : Int)).toNat; omega
              · by_cases hxs : xs ≤ t
                · have hds : decide (xs ≤ t) = true := decide_eq_true hxs
                  have hku : k < u := HT.out.1 (.inr ⟨by have := HE.out; omega, hxd, hxs⟩)
                  subst hxd
                  clear hxs
                  have HKC2 := Lib.hid (show cc + 1 = cn + min (k + 1) u by have := HKC.out; omega)
                  have hw4 : IntKind.i64.wrap ((cc : Int) + 1) = ((cc + 1 : Nat) : Int) := by rw [IntKind.wrap_i64]; have := HKC.out; omega
                  have HI3 : Hid (OR KV B2 wr (.slice la 0 lc) ((L.take (k + 1)).drop u) ∧ Below B2 W2 wr ∧ B2 ≤ wr.heap.size) := Lib.hid (by
                    have h1 : (L.take (k + 1)).drop u = (L.take k).drop u := by
                      rw [List.drop_of_length_le (by rw [List.length_take]; omega), List.drop_of_length_le (by rw [List.length_take]; omega)]
                    rw [h1]
                    exact HI.out)
                  clear hku HI hbx
                  go_wp2_with fail
                  go_roundw
                  case rel => exact ⟨k + 1, cc + 1, by first | rfl | (push_cast; rfl), by first | rfl | (push_cast; rfl), hkn, HKC2, HI3⟩
                  case measure => show q - (((k + 1 : Nat) : Int).toNat) < q - ((k : Int)).toNat; omega
                · have hds : decide (xs ≤ t) = false := decide_eq_false hxs
                  have hku : ¬ k < u := fun h => (HT.out.2 h).elim (fun h3 => HF.out h3) (fun h3 => hxs h3.2.2)
                  subst hxd
                  clear hxs
                  have HKC2 := Lib.hid (show cc = cn + min (k + 1) u by have := HKC.out; omega)
                  have HLK := Lib.hid (show ((L.take k).drop u).length = k - u by rw [List.length_drop, List.length_take, ← HQ.out]; omega)
                  have HDR := Lib.hid (show (L.take (k + 1)).drop u = (L.take k).drop u ++ [(xs, xv, true)] by rw [HTK.out, List.drop_append_of_le_length (by rw [List.length_take, ← HQ.out]; omega)])
                  have HKU := Lib.hid hku
                  clear hku hbx
                  go_wp2_with (at_builtin; refine wpList_appG okV rfl _ _ rfl rfl B2 _ ((L.take k).drop u) [(xs, xv, true)] _ 1 1 1 rfl rfl ?_ ?_)
                  · exact ⟨rfl, HI.out.1.alloc _, RR.new okV wr (xs, xv, true), by have := HI.out.2.2; simp; omega, by rw [HLK.out]; omega, by simp, by rw [List.length_append, HLK.out, ← HE.out]; rfl⟩
                  intro a5 c5 W5 h5 hb5 hg5 _
                  have HI3 : Hid (OR KV B2 W5 (.slice a5 1 c5) ((L.take (k + 1)).drop u) ∧ Below B2 W2 W5 ∧ B2 ≤ W5.heap.size) := Lib.hid ⟨by rw [HDR.out]; exact h5, HI.out.2.1.trans (((Below.refl B2 wr).alloc HI.out.2.2 _).trans hb5), by have := hb5.size; have := HI.out.2.2; simp at *; omega⟩
                  clear h5 hb5 hg5 HI
                  go_wp2_with fail
                  go_roundw
                  case rel => exact ⟨k + 1, cc, rfl, by first | rfl | (push_cast; rfl), hkn, HKC2, HI3⟩
                  case measure => show q - (((k + 1 : Nat) : Int).toNat) < q - ((k : Int)).toNat; omega
            · have hzb : ((e : Int) == 0) = false := beq_eq_false_iff_ne.2 (by omega)
              have hku : ¬ k < u := by have := HE.out; omega
              have HKC2 := Lib.hid (show cc = cn + min (k + 1) u by have := HKC.out; omega)
              have HLK := Lib.hid (show ((L.take k).drop u).length = k - u by rw [List.length_drop, List.length_take, ← HQ.out]; omega)
              have HDR := Lib.hid (show (L.take (k + 1)).drop u = (L.take k).drop u ++ [(xs, xv, xd)] by rw [HTK.out, List.drop_append_of_le_length (by rw [List.length_take, ← HQ.out]; omega)])
              have HKU := Lib.hid hku
              clear hku hbx
              go_wp2_with (at_builtin; refine wpList_appG okV rfl _ _ rfl rfl B2 _ ((L.take k).drop u) [(xs, xv, xd)] _ 1 1 (e + 1) rfl rfl ?_ ?_)
              · exact ⟨rfl, HI.out.1.alloc _, RR.new okV wr (xs, xv, xd), by have := HI.out.2.2; simp; omega, by rw [HLK.out]; omega, by simp, by rw [List.length_append, HLK.out, ← HE.out]; rfl⟩
              intro a5 c5 W5 h5 hb5 hg5 _
              have HI3 : Hid (OR KV B2 W5 (.slice a5 (e + 1) c5) ((L.take (k + 1)).drop u) ∧ Below B2 W2 W5 ∧ B2 ≤ W5.heap.size) := Lib.hid ⟨by rw [HDR.out]; exact h5, HI.out.2.1.trans (((Below.refl B2 wr).alloc HI.out.2.2 _).trans hb5), by have := hb5.size; have := HI.out.2.2; simp at *; omega⟩
              clear h5 hb5 hg5 HI
              go_wp2_with fail
              go_roundw
              case rel => exact ⟨k + 1, cc, rfl, by first | rfl | (push_cast; rfl), hkn, HKC2, HI3⟩
              case measure => show q - (((k + 1 : Nat) : Int).toNat) < q - ((k : Int)).toNat; omega
end Go.Proofs.Ytaecppkkbdbdbaa
