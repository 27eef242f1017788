/- Mvcc: the reference's Versions, All, Scan. -/
import Derived.Test.YtaecppkkbdbdbaaMv47
import Derived.Deep.RegionHeld3
import Derived.Laws.Cover1
namespace Go.Proofs.Ytaecppkkbdbdbaa
open Go.ChangeShapes Go.WideShapes Go.ChangeAt Go.RowKit Go.Deep Go.ChangeMaps Go.Shelf Go.Sort
set_option linter.unusedVariables false
set_option linter.unusedSimpArgs false
theorem cntL_take (g : List Ver → Nat) {Z : List Itm} {j : Nat} (hj : j < Z.length) : cntL g (Z.take (j + 1)) = cntL g (Z.take j) + g Z[j].vs := by
  rw [List.take_succ_eq_append_getElem hj, cntL_app]
  simp [cntL]
theorem cntL_le (g : List Ver → Nat) (Z : List Itm) (j : Nat) : cntL g (Z.take j) ≤ cntL g Z := by
  have h2 : cntL g (Z.take j ++ Z.drop j) = _ := cntL_app _ _ _
  rw [List.take_append_drop] at h2
  omega
set_option maxRecDepth 100000 in
set_option maxHeartbeats 1600000 in
theorem versionsn_ref (v : Value) (Z : List Itm) (W : World) (h : RIt W v Z) (hl : Z.length ≤ 500) (hC : cntL List.length Z ≤ 100000) :
    Calls Try.prog 31 #[.agg #[v]] W fun e w' => e = .returned (.int .i64 (cntL List.length Z : Nat)) ∧ Below W.heap.size W w' := by
  obtain ⟨a, c, rfl, _⟩ := h.1
  have hb0 := box_below W (.slice a Z.length c) 28
  have hcb := (Boxed.new W 28 (.slice a Z.length c)).cell
  have HH := Lib.hid (h.below hb0)
  have HB := Lib.hid hb0
  clear h hb0
  obtain ⟨n, hn⟩ : ∃ n, n = Z.length := ⟨_, rfl⟩
  have HN := Lib.hid hn
  have HC := Lib.hid hC
  rw [← hn] at HH HB hcb hl ⊢
  clear hn hC
  go_enter Try.func31, Try.ntmps31
  go_wp2_with fail
  generalize W.alloc (.cells #[.slice a n c] 28) = W1 at *
  go_loopw [3, 4] (fun nv i wr => ∃ j cn : Nat, nv = .int .i64 cn ∧ i = .int .i64 j ∧ j ≤ n ∧ Hid (cn = cntL List.length (Z.take j)) ∧ wr = W1) (fun _ i _ => n - iv i)
  case atStart => exact ⟨0, 0, rfl, rfl, Nat.zero_le _, Lib.hid rfl, rfl⟩
  case round =>
    obtain ⟨j, cn, rfl, rfl, hj, HCN, rfl⟩ := hrel
    by_cases hlast : j = n
    · subst hlast
      have HR := Lib.hid (show cn = cntL List.length Z by have := HCN.out; rwa [HN.out, List.take_length] at this)
      go_wp2_with fail
      go_ret
      exact ⟨by rw [← HR.out]; rfl, HB.out⟩
    · have hjn : j < n := by omega
      have hjl : j < Z.length := by rw [← HN.out]; exact hjn
      obtain ⟨g, o, rfl, hg, hc⟩ := RR.cellE okI (HN.out ▸ HH.out.1) (by omega)
      obtain ⟨m, hm⟩ : ∃ m, m = Z[j].vs.length := ⟨_, rfl⟩
      have q1 : wr.cell? ⟨g, o + j * 2 + 1, none⟩ = some (.slice Z[j].at_ m Z[j].cap) := by rw [hm]; exact hc j hjl 1 _ rfl
      have hcn2 : cn + m = cntL List.length (Z.take (j + 1)) := by rw [cntL_take _ hjl, ← HCN.out, hm]
      have hcb2 : cn + m ≤ 100000 := by rw [hcn2]; exact Nat.le_trans (cntL_le _ _ _) HC.out
      have HCN2 := Lib.hid hcn2
      have hw1 : IntKind.i64.wrap ((j : Int) + 1) = ((j + 1 : Nat) : Int) := by rw [IntKind.wrap_i64]; omega
      have hw2 : IntKind.i64.wrap ((cn : Int) + (m : Int)) = ((cn + m : Nat) : Int) := by rw [IntKind.wrap_i64]; omega
      clear hc hm hcn2 hlast
      generalize Z[j].at_ = za at *
      generalize Z[j].cap = zc at *
      go_wp2_with fail
      go_roundw
      case rel => exact ⟨j + 1, cn + m, by first | rfl | (push_cast; rfl), by first | rfl | (push_cast; rfl), hjn, HCN2, by first | rfl | trivial⟩
      case measure => show n - (((j + 1 : Nat) : Int).toNat) < n - ((j : Int)).toNat; omega
def allZ (Z : List Itm) : List (Bs × Ver) := Z.flatMap fun z => z.vs.map fun x => (z.key, x)
theorem allZ_app (M N : List Itm) : allZ (M ++ N) = allZ M ++ allZ N := by simp [allZ]
theorem allZ_len : ∀ Z : List Itm, (allZ Z).length = cntL List.length Z
  | [] => rfl
  | z :: Z => by
    show ((z.vs.map fun x => (z.key, x)) ++ allZ Z).length = _
    rw [List.length_append, List.length_map, allZ_len Z]
    simp [cntL]
set_option maxRecDepth 100000 in
set_option maxHeartbeats 1600000 in
theorem all_ref (v : Value) (Z : List Itm) (W : World) (h : RIt W v Z) (hl : Z.length ≤ 500) (hC : cntL List.length Z ≤ 50000) :
    Calls Try.prog 29 #[.agg #[v]] W fun e w' => ∃ r, e = .returned r ∧ OR KP4 W.heap.size w' r (allZ Z) ∧ Below W.heap.size W w' := by
  obtain ⟨a, c, rfl, _⟩ := h.1
  have hb0 := box_below W (.slice a Z.length c) 28
  have hcb := (Boxed.new W 28 (.slice a Z.length c)).cell
  have HH := Lib.hid (h.below hb0)
  have HB := Lib.hid (And.intro hb0 (Boxed.new W 28 (.slice a Z.length c)).lt)
  clear h hb0
  obtain ⟨n, hn⟩ : ∃ n, n = Z.length := ⟨_, rfl⟩
  have HN := Lib.hid hn
  have HC := Lib.hid hC
  rw [← hn] at HH HB hcb hl ⊢
  clear hn hC
  go_enter Try.func29, Try.ntmps29
  go_wp2_with fail
  generalize W.alloc (.cells #[.slice a n c] 28) = W1 at *
  obtain ⟨B1, hB1⟩ : ∃ B1, B1 = W1.heap.size := ⟨_, rfl⟩
  have HB1 := Lib.hid hB1
  clear hB1
  go_loopw [3, 4] (fun ot i wr => ∃ j : Nat, i = .int .i64 j ∧ j ≤ n ∧ Hid (OR KP4 B1 wr ot (allZ (Z.take j)) ∧ Below B1 W1 wr ∧ B1 ≤ wr.heap.size)) (fun _ i _ => n - iv i)
  case atStart => exact ⟨0, rfl, Nat.zero_le _, Lib.hid ⟨OR.nil _ _ _, Below.refl _ _, Nat.le_of_eq HB1.out⟩⟩
  case round =>
    obtain ⟨j, rfl, hj, HS⟩ := hrel
    have hlow : Below W1.heap.size W1 wr := by rw [← HB1.out]; exact HS.out.2.1
    have c0 : wr.cell? ⟨W.heap.size, 0, none⟩ = some (.slice a n c) := (hlow.cell (p := ⟨W.heap.size, 0, none⟩) HB.out.2).trans hcb
    by_cases hlast : j = n
    · subst hlast
      have HR : Hid (OR KP4 B1 wr u3 (allZ Z)) := Lib.hid (by have := HS.out.1; rwa [HN.out, List.take_length] at this)
      have HL := Lib.hid (show Below W.heap.size W wr from HB.out.1.trans (hlow.mono HB.out.1.size))
      clear hlow HS
      go_wp2_with fail
      go_ret
      exact ⟨_, rfl, own_base HR.out (by have := HB1.out; have := HB.out.2; omega), HL.out⟩
    · have hjn : j < n := by omega
      have hjl : j < Z.length := by rw [← HN.out]; exact hjn
      have hIt := HH.out.below hlow
      obtain ⟨g, o, rfl, hg, hc⟩ := RR.cellE okI (HN.out ▸ hIt.1) (by omega)
      obtain ⟨z, hz⟩ : ∃ z, z = Z[j] := ⟨_, rfl⟩
      have hV := hIt.2 _ (List.getElem_mem hjl)
      rw [← hz] at hV
      obtain ⟨zk, za, zc, L⟩ := z
      obtain ⟨q, hq⟩ : ∃ q, q = L.length := ⟨_, rfl⟩
      have q0 : wr.cell? ⟨g, o + j * 2, none⟩ = some (.string zk) := by have := hc j hjl 0 _ rfl; rw [← hz] at this; exact this
      have q1 : wr.cell? ⟨g, o + j * 2 + 1, none⟩ = some (.slice za q zc) := by have := hc j hjl 1 _ rfl; rw [← hz] at this; rw [hq]; exact this
      have HVV : Hid (RR KV wr (.slice za q zc) L) := Lib.hid (by rw [hq]; exact hV)
      have HQ := Lib.hid hq
      have hq5 : (allZ (Z.take j)).length + q ≤ 50000 := by
        rw [allZ_len]
        have h1 := cntL_take List.length hjl
        rw [← hz] at h1
        have h2 := cntL_le List.length Z (j + 1)
        have h3 := HC.out
        have h4 : ({ key := zk, at_ := za, cap := zc, vs := L } : Itm).vs.length = q := hq.symm
        rw [h4] at h1
        omega
      have HZJ : Hid (Z[j] = ⟨zk, za, zc, L⟩) := Lib.hid hz.symm
      have HZ := Lib.hid (show allZ (Z.take (j + 1)) = allZ (Z.take j) ++ L.map fun x => (zk, x) by rw [List.take_succ_eq_append_getElem hjl, allZ_app, ← hz]; simp [allZ])
      have hw1 : IntKind.i64.wrap ((j : Int) + 1) = ((j + 1 : Nat) : Int) := by rw [IntKind.wrap_i64]; omega
      have HG := Lib.hid hg
      have HQ5 := Lib.hid hq5
      have hq6 : q ≤ 50000 := by omega
      have HA0 : Hid (OR KP4 B1 wr u3 (allZ (Z.take j) ++ (L.take 0).map fun x => (zk, x)) ∧ Below B1 W1 wr ∧ B1 ≤ wr.heap.size) := Lib.hid (by simpa using HS.out)
      clear hc hIt hlow hz hq hlast hV hq5 HS
      have HJI := Lib.hid (And.intro (show (j : Int) < (n : Int) by omega) (show (0 : Int) ≤ (j : Int) by omega))
      obtain ⟨A, hA⟩ : ∃ A, A = allZ (Z.take j) := ⟨_, rfl⟩
      rw [← hA] at HQ5 HZ HA0
      clear hA
      have hw2 : Below wr.heap.size wr wr := Below.refl _ _
      go_wp2_with fail
      generalize wr = W2 at *
      have HLOW2 := Lib.hid (And.intro HA0.out.2.1 HA0.out.2.2)
      go_loopw [3, 5] (fun ot i wx => ∃ k : Nat, i = .int .i64 k ∧ k ≤ q ∧ Hid (OR KP4 B1 wx ot (A ++ (L.take k).map fun x => (zk, x)) ∧ Below B1 W1 wx ∧ B1 ≤ wx.heap.size)) (fun _ i _ => q - iv i)
      case atStart => exact ⟨0, rfl, Nat.zero_le _, HA0⟩
      case round =>
        obtain ⟨k, rfl, hk, HI⟩ := hrel
        have hlow : Below W1.heap.size W1 wr := by rw [← HB1.out]; exact HI.out.2.1
        have hIt := HH.out.below hlow
        obtain ⟨g', o', e, hg', hc'⟩ := RR.cellE okI (HN.out ▸ HH.out.1) (by omega)
        cases e
        have c0 : wr.cell? ⟨W.heap.size, 0, none⟩ = some (.slice (some ⟨g, o, none⟩) n c) := (hlow.cell (p := ⟨W.heap.size, 0, none⟩) HB.out.2).trans hcb
        have q0a : W1.cell? ⟨g, o + j * 2, none⟩ = some (.string zk) := by have := hc' j hjl 0 _ rfl; rw [HZJ.out] at this; exact this
        have q1a : W1.cell? ⟨g, o + j * 2 + 1, none⟩ = some (.slice za q zc) := by have := hc' j hjl 1 _ rfl; rw [HZJ.out] at this; rw [HQ.out]; exact this
        have q0 := (hlow.cell (p := ⟨g, o + j * 2, none⟩) hg').trans q0a
        have q1 := (hlow.cell (p := ⟨g, o + j * 2 + 1, none⟩) hg').trans q1a
        have HQA := Lib.hid (And.intro q0a q1a)
        have hV : RR KV W1 (.slice za q zc) L := by
          have := HH.out.2 _ (List.getElem_mem hjl)
          rw [HZJ.out] at this
          rw [HQ.out]
          exact this
        clear q0a q1a
        obtain ⟨hji, hj0⟩ := HJI.out
        by_cases hkq : k = q
        · have hkq' := hkq.symm
          subst hkq'
          have HS2 : Hid (OR KP4 B1 wr u3 (allZ (Z.take (j + 1))) ∧ Below B1 W1 wr ∧ B1 ≤ wr.heap.size) := Lib.hid (by
            have := HI.out
            rw [HQ.out, List.take_length, ← HZ.out] at this
            exact this)
          clear hc' hIt hlow HI hV
          go_wp2_with fail
          go_roundw
          case rel => exact ⟨j + 1, by first | rfl | (push_cast; rfl), hjn, HS2⟩
          case measure => show n - (((j + 1 : Nat) : Int).toNat) < n - ((j : Int)).toNat; omega
        · have hkn : k < q := by omega
          have hkl : k < L.length := by rw [← HQ.out]; exact hkn
          obtain ⟨g2, o2, rfl, hg2, hc2⟩ := RR.cellE okV (HQ.out ▸ hV) (by omega)
          have R0 : Hid (W1.cell? ⟨g2, o2 + k * 3, none⟩ = some (.int .i64 L[k].1)) := Lib.hid (hc2 k hkl 0 _ rfl)
          have R1 : Hid (W1.cell? ⟨g2, o2 + k * 3 + 1, none⟩ = some (.string L[k].2.1)) := Lib.hid (hc2 k hkl 1 _ rfl)
          have R2 : Hid (W1.cell? ⟨g2, o2 + k * 3 + 2, none⟩ = some (.bool L[k].2.2)) := Lib.hid (hc2 k hkl 2 _ rfl)
          have hw3 : IntKind.i64.wrap ((k : Int) + 1) = ((k + 1 : Nat) : Int) := by rw [IntKind.wrap_i64]; omega
          have HTK := Lib.hid (show (L.take (k + 1)).map (fun x => (zk, x)) = (L.take k).map (fun x => (zk, x)) ++ [(zk, L[k])] by rw [List.take_succ_eq_append_getElem hkl, List.map_append]; rfl)
          have HLK := Lib.hid (show (A ++ (L.take k).map fun x => (zk, x)).length = A.length + k by rw [List.length_append, List.length_map, List.length_take, ← HQ.out]; omega)
          have hki : (k : Int) < (q : Int) := by omega
          have hk0 : (0 : Int) ≤ (k : Int) := by omega
          clear hc2 hc' hkq hV hIt hlow
          generalize L[k] = x at *
          obtain ⟨xs, xv, xd⟩ := x
          obtain ⟨al, hal⟩ : ∃ al, al = A.length + k := ⟨_, rfl⟩
          have HAL := Lib.hid hal
          clear hal
          go_wp2_with fail
          obtain ⟨M, hM⟩ : ∃ M, M = A ++ (L.take k).map fun x => (zk, x) := ⟨_, rfl⟩
          rw [← hM] at HI HLK
          have HTM := Lib.hid (show A ++ (L.take (k + 1)).map (fun x => (zk, x)) = M ++ [(zk, xs, xv, xd)] by rw [HTK.out, hM, List.append_assoc])
          obtain ⟨FF, hFF⟩ : ∃ FF : World → Prop, FF = fun X => Below B1 W1 X ∧ B1 ≤ X.heap.size := ⟨_, rfl⟩
          have f0 : ∀ X, FF X → X.cell? ⟨W.heap.size, 0, none⟩ = some (.slice (some ⟨g, o, none⟩) n c) := by rw [hFF, HB1.out]; exact fun X h => (h.1.cell (p := ⟨W.heap.size, 0, none⟩) HB.out.2).trans hcb
          have f1 : ∀ X, FF X → X.cell? ⟨g, o + j * 2, none⟩ = some (.string zk) := by rw [hFF, HB1.out]; exact fun X h => (h.1.cell (p := ⟨g, o + j * 2, none⟩) hg').trans HQA.out.1
          have f2 : ∀ X, FF X → X.cell? ⟨g, o + j * 2 + 1, none⟩ = some (.slice (some ⟨g2, o2, none⟩) q zc) := by rw [hFF, HB1.out]; exact fun X h => (h.1.cell (p := ⟨g, o + j * 2 + 1, none⟩) hg').trans HQA.out.2
          have f3 : ∀ X, FF X → X.cell? ⟨g2, o2 + k * 3, none⟩ = some (.int .i64 xs) := by rw [hFF, HB1.out]; exact fun X h => (h.1.cell (p := ⟨g2, o2 + k * 3, none⟩) hg2).trans R0.out
          have f4 : ∀ X, FF X → X.cell? ⟨g2, o2 + k * 3 + 1, none⟩ = some (.string xv) := by rw [hFF, HB1.out]; exact fun X h => (h.1.cell (p := ⟨g2, o2 + k * 3 + 1, none⟩) hg2).trans R1.out
          have f5 : ∀ X, FF X → X.cell? ⟨g2, o2 + k * 3 + 2, none⟩ = some (.bool xd) := by rw [hFF, HB1.out]; exact fun X h => (h.1.cell (p := ⟨g2, o2 + k * 3 + 2, none⟩) hg2).trans R2.out
          have fa : ∀ (X : World) (ob : Obj), FF X → FF (X.alloc ob) := by
            rw [hFF]
            exact fun X ob h => ⟨h.1.alloc h.2 ob, Nat.le_trans h.2 (by simp)⟩
          have fb : ∀ (X : World) (ob : Obj), FF X.drew → FF ((X.alloc ob).drew) := fun X ob h => fa X.drew ob h
          have fw : FF wr.drew := by rw [hFF]; exact ⟨HI.out.2.1.drew, HI.out.2.2⟩
          have FO := Lib.hid (show ∀ X Y, FF X → Below B1 X Y → FF Y from by rw [hFF]; exact fun X Y h hb => ⟨h.1.trans hb, Nat.le_trans h.2 hb.size⟩)
          have FN := Lib.hid (show ∀ X, FF X → Below B1 W1 X ∧ B1 ≤ X.heap.size from by rw [hFF]; exact fun X h => h)
          have sw := f0 _ fw
          have sw1 := f1 _ fw
          have sw2 := f2 _ fw
          have sw3 := f3 _ fw
          have sw4 := f4 _ fw
          have sw5 := f5 _ fw
          clear c0 q0 q1 hM hFF
          have sx : ∀ X, FF X → X.cell? ⟨W.heap.size, 0, none⟩ = some (.slice (some ⟨g, o, none⟩) n c) ∧ X.cell? ⟨g, o + j * 2, none⟩ = some (.string zk) ∧ X.cell? ⟨g, o + j * 2 + 1, none⟩ = some (.slice (some ⟨g2, o2, none⟩) q zc) ∧ X.cell? ⟨g2, o2 + k * 3, none⟩ = some (.int .i64 xs) ∧ X.cell? ⟨g2, o2 + k * 3 + 1, none⟩ = some (.string xv) ∧ X.cell? ⟨g2, o2 + k * 3 + 2, none⟩ = some (.bool xd) ∧ FF X := fun X h => ⟨f0 X h, f1 X h, f2 X h, f3 X h, f4 X h, f5 X h, h⟩
          have sf : ∀ X, X.cell? ⟨W.heap.size, 0, none⟩ = some (.slice (some ⟨g, o, none⟩) n c) ∧ X.cell? ⟨g, o + j * 2, none⟩ = some (.string zk) ∧ X.cell? ⟨g, o + j * 2 + 1, none⟩ = some (.slice (some ⟨g2, o2, none⟩) q zc) ∧ X.cell? ⟨g2, o2 + k * 3, none⟩ = some (.int .i64 xs) ∧ X.cell? ⟨g2, o2 + k * 3 + 1, none⟩ = some (.string xv) ∧ X.cell? ⟨g2, o2 + k * 3 + 2, none⟩ = some (.bool xd) ∧ FF X → FF X := fun X h => h.2.2.2.2.2.2
          clear f0 f1 f2 f3 f4 f5
          go_region_held3? (fun X => X.cell? ⟨W.heap.size, 0, none⟩ = some (.slice (some ⟨g, o, none⟩) n c) ∧ X.cell? ⟨g, o + j * 2, none⟩ = some (.string zk) ∧ X.cell? ⟨g, o + j * 2 + 1, none⟩ = some (.slice (some ⟨g2, o2, none⟩) q zc) ∧ X.cell? ⟨g2, o2 + k * 3, none⟩ = some (.int .i64 xs) ∧ X.cell? ⟨g2, o2 + k * 3 + 1, none⟩ = some (.string xv) ∧ X.cell? ⟨g2, o2 + k * 3 + 2, none⟩ = some (.bool xd) ∧ FF X) (first | (refine ⟨?_, ?_, ?_, ?_, ?_, ?_, ?_⟩ <;> assumption) | (refine sx _ ?_; assumption) | (refine sx _ (fa _ _ (sf _ ?_)); assumption) | (refine sx _ (fb _ _ (sf _ ?_)); assumption)) (first
            | (refine step_appR okP4 (by rfl) _ _ (by rfl) (by rfl) B1 _ M [(zk, xs, xv, xd)] _ 1 1 (al + 1) (by rfl) (by rfl) ⟨rfl, (HI.out.1.alloc _).below ((Below.refl _ _).drew), (RR.new okP4 wr (zk, xs, xv, xd)).below ((Below.refl _ _).drew), (FN.out _ (sf _ (by assumption))).2, by rw [HLK.out]; have := HQ5.out; omega, by simp, by rw [List.length_append, HLK.out, HAL.out]; rfl⟩ ?_; intro a5 c5 W5 h5 hb5 hg5 _; have hf5 : FF W5 := FO.out _ _ (sf _ (by assumption)) hb5))
          have HI3 : Hid (OR KP4 B1 W5 (.slice a5 (al + 1) c5) (A ++ (L.take (k + 1)).map fun x => (zk, x)) ∧ Below B1 W1 W5 ∧ B1 ≤ W5.heap.size) := Lib.hid ⟨by rw [HTM.out]; exact h5, FN.out _ hf5⟩
          clear h5 hb5 hg5 HI hf5 sw sw1 sw2 sw3 sw4 sw5 fw fa fb sx sf FO FN
          go_wp2_with fail
          go_roundw
          case rel => exact ⟨k + 1, by first | rfl | (push_cast; rfl), hkn, HI3⟩
          case measure => show q - (((k + 1 : Nat) : Int).toNat) < q - ((k : Int)).toNat; omega
end Go.Proofs.Ytaecppkkbdbdbaa
