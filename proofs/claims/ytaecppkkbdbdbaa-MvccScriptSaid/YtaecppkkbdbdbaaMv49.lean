/- Mvcc: the reference's Scan. -/
import Derived.Test.YtaecppkkbdbdbaaMv48
namespace Go.Proofs.Ytaecppkkbdbdbaa
open Go.ChangeShapes Go.WideShapes Go.ChangeAt Go.RowKit Go.Deep Go.ChangeMaps Go.Shelf Go.Sort
set_option linter.unusedVariables false
set_option linter.unusedSimpArgs false
def scanF (t : Int) (lo hi : Bs) (z : Itm) : Option (Bs × Bs) := if inR lo hi z.key = true then (valAt z.vs t).map (fun v => (z.key, v)) else none
def dirZ (back : Bool) (Z : List Itm) : List Itm := if back = true then Z.reverse else Z
theorem dirZ_len (back : Bool) (Z : List Itm) : (dirZ back Z).length = Z.length := by unfold dirZ; split <;> simp
theorem dirZ_at (back : Bool) (Z : List Itm) (j : Nat) (hj : j < Z.length) : (dirZ back Z)[j]'(by rw [dirZ_len]; exact hj) = if back = true then Z[Z.length - 1 - j]'(by omega) else Z[j] := by
  cases back <;> simp [dirZ]
theorem filterMap_snoc {α β : Type} (f : α → Option β) (l : List α) (x : α) : (l ++ [x]).filterMap f = l.filterMap f ++ (f x).toList := by
  rw [List.filterMap_append]
  congr 1
set_option maxRecDepth 100000 in
set_option maxHeartbeats 6400000 in
theorem scan_ref (v : Value) (Z : List Itm) (lo hi : Bs) (t : Int) (back : Bool) (W : World) (h : RIt W v Z) (hl : Z.length ≤ 500) (ha : ∀ z ∈ Z, Asc z.vs ∧ DelOk z.vs ∧ z.vs.length ≤ 5000) :
    Calls Try.prog 22 #[.agg #[v], .string lo, .string hi, .int .i64 t, .bool back] W fun e w' => ∃ r, e = .returned r ∧ OR KP2 W.heap.size w' r ((dirZ back Z).filterMap (scanF t lo hi)) ∧ Below W.heap.size W w' := by
  obtain ⟨a, c, rfl, _⟩ := h.1
  have hb0 := box_below W (.slice a Z.length c) 28
  have hcb := (Boxed.new W 28 (.slice a Z.length c)).cell
  have HH := Lib.hid (h.below hb0)
  have HB := Lib.hid (And.intro hb0 (Boxed.new W 28 (.slice a Z.length c)).lt)
  have HA := Lib.hid ha
  clear h hb0 ha
  obtain ⟨n, hn⟩ : ∃ n, n = Z.length := ⟨_, rfl⟩
  have HN := Lib.hid hn
  rw [← hn] at HH HB hcb hl ⊢
  clear hn
  go_enter Try.func22, Try.ntmps22
  go_wp2_with fail
  generalize W.alloc (.cells #[.slice a n c] 28) = W1 at *
  obtain ⟨B1, hB1⟩ : ∃ B1, B1 = W1.heap.size := ⟨_, rfl⟩
  have HB1 := Lib.hid hB1
  clear hB1
  go_loopw [11, 12] (fun ot i wr => ∃ j : Nat, i = .int .i64 j ∧ j ≤ n ∧ Hid (OR KP2 B1 wr ot (((dirZ back Z).take j).filterMap (scanF t lo hi)) ∧ Below B1 W1 wr ∧ B1 ≤ wr.heap.size)) (fun _ i _ => n - iv i)
  case atStart => exact ⟨0, rfl, Nat.zero_le _, Lib.hid ⟨OR.nil _ _ _, Below.refl _ _, Nat.le_of_eq HB1.out⟩⟩
  case round =>
    obtain ⟨j, rfl, hj, HS⟩ := hrel
    have hlow : Below W1.heap.size W1 wr := by rw [← HB1.out]; exact HS.out.2.1
    have c0 : wr.cell? ⟨W.heap.size, 0, none⟩ = some (.slice a n c) := (hlow.cell (p := ⟨W.heap.size, 0, none⟩) HB.out.2).trans hcb
    by_cases hlast : j = n
    · subst hlast
      have HR : Hid (OR KP2 B1 wr u11 ((dirZ back Z).filterMap (scanF t lo hi))) := Lib.hid (by have := HS.out.1; rwa [HN.out, ← dirZ_len back Z, List.take_length] at this)
      have HL := Lib.hid (show Below W.heap.size W wr from HB.out.1.trans (hlow.mono HB.out.1.size))
      clear hlow HS
      go_wp2_with fail
      go_ret
      exact ⟨_, rfl, own_base HR.out (by have := HB1.out; have := HB.out.2; omega), HL.out⟩
    · have hjn : j < n := by omega
      have hjl : j < Z.length := by rw [← HN.out]; exact hjn
      have hIt := HH.out.below hlow
      obtain ⟨g, o, rfl, hg, hc⟩ := RR.cellE okI (HN.out ▸ hIt.1) (by omega)
      have hw1 : IntKind.i64.wrap ((j : Int) + 1) = ((j + 1 : Nat) : Int) := by rw [IntKind.wrap_i64]; omega
      have hw2 : IntKind.i64.wrap ((n : Int) - 1) = ((n - 1 : Nat) : Int) := by rw [IntKind.wrap_i64]; omega
      have hw3 : IntKind.i64.wrap (((n - 1 : Nat) : Int) - (j : Int)) = ((n - 1 - j : Nat) : Int) := by rw [IntKind.wrap_i64]; omega
      have hji : (j : Int) < (n : Int) := by omega
      have hj0 : (0 : Int) ≤ (j : Int) := by omega
      have hmi : ((n - 1 - j : Nat) : Int) < (n : Int) := by omega
      have hm0 : (0 : Int) ≤ ((n - 1 - j : Nat) : Int) := by omega
      have p0 : wr.cell? ⟨g, o + j * 2, none⟩ = some (.string Z[j].key) := hc j hjl 0 _ rfl
      have p1 : wr.cell? ⟨g, o + j * 2 + 1, none⟩ = some (.slice Z[j].at_ Z[j].vs.length Z[j].cap) := hc j hjl 1 _ rfl
      have HDZ := Lib.hid (dirZ_at back Z j hjl)
      have HTK := Lib.hid (show (dirZ back Z).take (j + 1) = (dirZ back Z).take j ++ [(dirZ back Z)[j]'(by rw [dirZ_len]; exact hjl)] from List.take_succ_eq_append_getElem _)
      have HOL := Lib.hid (show (((dirZ back Z).take j).filterMap (scanF t lo hi)).length ≤ 500 by
        refine Nat.le_trans (List.length_filterMap_le _ _) ?_
        rw [List.length_take, dirZ_len]
        have := HN.out
        omega)
      have HIT := Lib.hid hIt
      rcases (show back = false ∨ back = true from by cases back <;> simp) with hbk | hbk
      · subst hbk
        have HZZ : Hid ((dirZ false Z)[j]'(by rw [dirZ_len]; exact hjl) = Z[j]) := Lib.hid (by have := HDZ.out; simpa using this)
        have HVV := Lib.hid (hIt.2 _ (List.getElem_mem hjl))
        have HAA := Lib.hid (HA.out _ (List.getElem_mem hjl))
        clear hc hIt hlow hlast HDZ
        generalize Z[j] = z at *
        obtain ⟨zk, za, zc, L⟩ := z
        obtain ⟨q, hq⟩ : ∃ q, q = L.length := ⟨_, rfl⟩
        have HQ := Lib.hid hq
        have pp : wr.cell? ⟨g, o + j * 2 + 1, none⟩ = some (.slice za q zc) := by rw [hq]; exact p1
        have HVQ : Hid (RR KV wr (.slice za q zc) L) := Lib.hid (by rw [hq]; exact HVV.out)
        clear hq p1
        go_wp2_with fail
        have HB6 := Lib.hid (show Below wr.heap.size wr (wr.alloc (.cells #[.string zk, .slice za q zc] 95)) from (Below.refl _ wr).alloc (Nat.le_refl _) _)
        have HB6S := Lib.hid (show wr.heap.size < (wr.alloc (.cells #[.string zk, .slice za q zc] 95)).heap.size by simp)
        have HB0 := Lib.hid ((Box.new wr [.string zk, .slice za q zc] 95).cell 0 _ rfl)
        generalize (wr.alloc (.cells #[.string zk, .slice za q zc] 95)) = W6 at *
        refine (at_ref _ L t W6 (HVQ.out.below HB6.out) HAA.out.1 HAA.out.2.1 (by have := HAA.out.2.2; show L.length ≤ _; exact Nat.le_trans this (by decide))).mono ?_
        rintro e W7 ⟨he, hb⟩
        have b0 : W7.cell? ⟨wr.heap.size, 0, none⟩ = some (.string zk) := (hb.cell (p := ⟨wr.heap.size, 0, none⟩) HB6S.out).trans HB0.out
        have hb7 : Below wr.heap.size wr W7 := HB6.out.trans (hb.mono (HB6.out.size))
        have HS7 : Hid (OR KP2 B1 W7 u11 (((dirZ false Z).take j).filterMap (scanF t lo hi)) ∧ Below B1 W1 W7 ∧ B1 ≤ W7.heap.size) := Lib.hid ⟨HS.out.1.below hb7, HS.out.2.1.trans (hb7.mono HS.out.2.2), Nat.le_trans HS.out.2.2 hb7.size⟩
        clear hb hb7 HS
        cases hva : valAt L t with
        | none =>
          rw [hva] at he
          have he2 : e = .returned (.tuple #[.string ⟨#[]⟩, .bool false]) := he
          subst he2
          have HVA := Lib.hid hva
          clear he hva
          have HS9 : Hid (OR KP2 B1 W7 u11 (((dirZ false Z).take (j + 1)).filterMap (scanF t lo hi)) ∧ Below B1 W1 W7 ∧ B1 ≤ W7.heap.size) := Lib.hid (by
            have e : scanF t lo hi ⟨zk, za, zc, L⟩ = none := by unfold scanF; rw [show valAt ({ key := zk, at_ := za, cap := zc, vs := L } : Itm).vs t = none from HVA.out]; simp
            rw [HTK.out, HZZ.out, filterMap_snoc, e]
            simpa using HS7.out)
          clear HS7
          go_wp2_with fail
          go_roundw
          case rel => exact ⟨j + 1, by first | rfl | (push_cast; rfl), hjn, HS9⟩
          case measure => show n - (((j + 1 : Nat) : Int).toNat) < n - ((j : Int)).toNat; omega
        | some vl =>
          rw [hva] at he
          have he2 : e = .returned (.tuple #[.string vl, .bool true]) := he
          subst he2
          have HVA := Lib.hid hva
          clear he hva
          rcases (show Op.bytesLess (ByteArray.toList zk) (ByteArray.toList lo) = true ∨ Op.bytesLess (ByteArray.toList zk) (ByteArray.toList lo) = false from by cases Op.bytesLess (ByteArray.toList zk) (ByteArray.toList lo) <;> simp) with hb1 | hb1
          · skip
            have HS9 : Hid (OR KP2 B1 W7 u11 (((dirZ false Z).take (j + 1)).filterMap (scanF t lo hi)) ∧ Below B1 W1 W7 ∧ B1 ≤ W7.heap.size) := Lib.hid (by
              have e : scanF t lo hi ⟨zk, za, zc, L⟩ = none := by unfold scanF inR; rw [show Op.bytesLess (ByteArray.toList ({ key := zk, at_ := za, cap := zc, vs := L } : Itm).key) (ByteArray.toList lo) = true from hb1]; rfl
              rw [HTK.out, HZZ.out, filterMap_snoc, e]
              simpa using HS7.out)
            clear HS7
            go_wp2_with fail
            go_roundw
            case rel => exact ⟨j + 1, by first | rfl | (push_cast; rfl), hjn, HS9⟩
            case measure => show n - (((j + 1 : Nat) : Int).toNat) < n - ((j : Int)).toNat; omega
          by_cases hb2 : ByteArray.toList hi = []
          · skip
            have HF := Lib.hid (show ((dirZ false Z).take (j + 1)).filterMap (scanF t lo hi) = ((dirZ false Z).take j).filterMap (scanF t lo hi) ++ [(zk, vl)] from by
              have e : scanF t lo hi ⟨zk, za, zc, L⟩ = some (zk, vl) := by unfold scanF inR; rw [show Op.bytesLess (ByteArray.toList ({ key := zk, at_ := za, cap := zc, vs := L } : Itm).key) (ByteArray.toList lo) = false from hb1, hb2, show valAt ({ key := zk, at_ := za, cap := zc, vs := L } : Itm).vs t = some vl from HVA.out]; rfl
              rw [HTK.out, HZZ.out, filterMap_snoc, e]
              rfl)
            obtain ⟨M, hM⟩ : ∃ M, M = ((dirZ false Z).take j).filterMap (scanF t lo hi) := ⟨_, rfl⟩
            rw [← hM] at HS7 HOL HF
            obtain ⟨m, hm⟩ : ∃ m, m = M.length + 1 := ⟨_, rfl⟩
            have HM := Lib.hid hm
            clear hM hm
            go_wp2_with (at_builtin; refine wpList_appG okP2 rfl _ _ rfl rfl B1 _ M [(zk, vl)] _ 1 1 m rfl rfl ?_ ?_)
            · exact ⟨rfl, HS7.out.1.alloc _, RR.new okP2 W7 (zk, vl), by have := HS7.out.2.2; simp; omega, by have := HOL.out; omega, by simp, by rw [List.length_append]; exact HM.out⟩
            intro a5 c5 W8 h5 hb5 hg5 _
            have HS9 : Hid (OR KP2 B1 W8 (.slice a5 m c5) (((dirZ false Z).take (j + 1)).filterMap (scanF t lo hi)) ∧ Below B1 W1 W8 ∧ B1 ≤ W8.heap.size) := Lib.hid ⟨by rw [HF.out]; exact h5, HS7.out.2.1.trans (((Below.refl B1 W7).alloc HS7.out.2.2 _).trans hb5), by have := hb5.size; have := HS7.out.2.2; simp at *; omega⟩
            clear h5 hb5 hg5 HS7
            go_wp2_with fail
            go_roundw
            case rel => exact ⟨j + 1, by first | rfl | (push_cast; rfl), hjn, HS9⟩
            case measure => show n - (((j + 1 : Nat) : Int).toNat) < n - ((j : Int)).toNat; omega
          have hb4 : (ByteArray.toList hi).isEmpty = false := by
            cases hq : ByteArray.toList hi with
            | nil => exact absurd hq hb2
            | cons => rfl
          rcases (show Op.bytesLess (ByteArray.toList zk) (ByteArray.toList hi) = true ∨ Op.bytesLess (ByteArray.toList zk) (ByteArray.toList hi) = false from by cases Op.bytesLess (ByteArray.toList zk) (ByteArray.toList hi) <;> simp) with hb3 | hb3
          · skip
            have HF := Lib.hid (show ((dirZ false Z).take (j + 1)).filterMap (scanF t lo hi) = ((dirZ false Z).take j).filterMap (scanF t lo hi) ++ [(zk, vl)] from by
              have e : scanF t lo hi ⟨zk, za, zc, L⟩ = some (zk, vl) := by unfold scanF inR; rw [show Op.bytesLess (ByteArray.toList ({ key := zk, at_ := za, cap := zc, vs := L } : Itm).key) (ByteArray.toList lo) = false from hb1, hb4, show Op.bytesLess (ByteArray.toList ({ key := zk, at_ := za, cap := zc, vs := L } : Itm).key) (ByteArray.toList hi) = true from hb3, show valAt ({ key := zk, at_ := za, cap := zc, vs := L } : Itm).vs t = some vl from HVA.out]; rfl
              rw [HTK.out, HZZ.out, filterMap_snoc, e]
              rfl)
            obtain ⟨M, hM⟩ : ∃ M, M = ((dirZ false Z).take j).filterMap (scanF t lo hi) := ⟨_, rfl⟩
            rw [← hM] at HS7 HOL HF
            obtain ⟨m, hm⟩ : ∃ m, m = M.length + 1 := ⟨_, rfl⟩
            have HM := Lib.hid hm
            clear hM hm
            go_wp2_with (at_builtin; refine wpList_appG okP2 rfl _ _ rfl rfl B1 _ M [(zk, vl)] _ 1 1 m rfl rfl ?_ ?_)
            · exact ⟨rfl, HS7.out.1.alloc _, RR.new okP2 W7 (zk, vl), by have := HS7.out.2.2; simp; omega, by have := HOL.out; omega, by simp, by rw [List.length_append]; exact HM.out⟩
            intro a5 c5 W8 h5 hb5 hg5 _
            have HS9 : Hid (OR KP2 B1 W8 (.slice a5 m c5) (((dirZ false Z).take (j + 1)).filterMap (scanF t lo hi)) ∧ Below B1 W1 W8 ∧ B1 ≤ W8.heap.size) := Lib.hid ⟨by rw [HF.out]; exact h5, HS7.out.2.1.trans (((Below.refl B1 W7).alloc HS7.out.2.2 _).trans hb5), by have := hb5.size; have := HS7.out.2.2; simp at *; omega⟩
            clear h5 hb5 hg5 HS7
            go_wp2_with fail
            go_roundw
            case rel => exact ⟨j + 1, by first | rfl | (push_cast; rfl), hjn, HS9⟩
            case measure => show n - (((j + 1 : Nat) : Int).toNat) < n - ((j : Int)).toNat; omega
          · skip
            have HS9 : Hid (OR KP2 B1 W7 u11 (((dirZ false Z).take (j + 1)).filterMap (scanF t lo hi)) ∧ Below B1 W1 W7 ∧ B1 ≤ W7.heap.size) := Lib.hid (by
              have e : scanF t lo hi ⟨zk, za, zc, L⟩ = none := by unfold scanF inR; rw [show Op.bytesLess (ByteArray.toList ({ key := zk, at_ := za, cap := zc, vs := L } : Itm).key) (ByteArray.toList lo) = false from hb1, hb4, show Op.bytesLess (ByteArray.toList ({ key := zk, at_ := za, cap := zc, vs := L } : Itm).key) (ByteArray.toList hi) = false from hb3]; rfl
              rw [HTK.out, HZZ.out, filterMap_snoc, e]
              simpa using HS7.out)
            clear HS7
            go_wp2_with fail
            go_roundw
            case rel => exact ⟨j + 1, by first | rfl | (push_cast; rfl), hjn, HS9⟩
            case measure => show n - (((j + 1 : Nat) : Int).toNat) < n - ((j : Int)).toNat; omega
      · subst hbk
        have hml : n - 1 - j < Z.length := by have := HN.out; omega
        have p2 : wr.cell? ⟨g, o + (n - 1 - j) * 2, none⟩ = some (.string Z[n - 1 - j].key) := hc (n - 1 - j) hml 0 _ rfl
        have p3 : wr.cell? ⟨g, o + (n - 1 - j) * 2 + 1, none⟩ = some (.slice Z[n - 1 - j].at_ Z[n - 1 - j].vs.length Z[n - 1 - j].cap) := hc (n - 1 - j) hml 1 _ rfl
        have HZZ : Hid ((dirZ true Z)[j]'(by rw [dirZ_len]; exact hjl) = Z[n - 1 - j]) := Lib.hid (by have := HDZ.out; rw [if_pos rfl] at this; rw [this]; congr 1; rw [HN.out])
        have HVV := Lib.hid (hIt.2 _ (List.getElem_mem hml))
        have HAA := Lib.hid (HA.out _ (List.getElem_mem hml))
        clear hc hIt hlow hlast HDZ
        generalize Z[j].key = fk at *
        generalize Z[j].at_ = fa at *
        generalize Z[j].vs.length = fl at *
        generalize Z[j].cap = fc at *
        generalize Z[n - 1 - j] = z at *
        generalize n - 1 - j = ix at *
        have hWw : W.heap.size < wr.heap.size := by have := HB.out.2; have := HS.out.2.1.size; have := HB1.out; have := HS.out.2.2; omega
        have c0x := ca (ob := .cells #[.string fk, .slice fa fl fc] 95) hWw c0
        have p2x := ca (ob := .cells #[.string fk, .slice fa fl fc] 95) hg p2
        have p3x := ca (ob := .cells #[.string fk, .slice fa fl fc] 95) hg p3
        obtain ⟨zk, za, zc, L⟩ := z
        obtain ⟨q, hq⟩ : ∃ q, q = L.length := ⟨_, rfl⟩
        have HQ := Lib.hid hq
        have pp : wr.cell? ⟨g, o + ix * 2 + 1, none⟩ = some (.slice za q zc) := by rw [hq]; exact p3
        have HVQ : Hid (RR KV wr (.slice za q zc) L) := Lib.hid (by rw [hq]; exact HVV.out)
        have p3y : (wr.alloc (.cells #[.string fk, .slice fa fl fc] 95)).cell? ⟨g, o + ix * 2 + 1, none⟩ = some (.slice za q zc) := by rw [hq]; exact p3x
        clear hq p3 p3x
        go_wp2_with fail
        have HB6 := Lib.hid (show Below wr.heap.size wr (wr.alloc (.cells #[.string zk, .slice za q zc] 95)) from (Below.refl _ wr).alloc (Nat.le_refl _) _)
        have HB6S := Lib.hid (show wr.heap.size < (wr.alloc (.cells #[.string zk, .slice za q zc] 95)).heap.size by simp)
        have HB0 := Lib.hid ((Box.new wr [.string zk, .slice za q zc] 95).cell 0 _ rfl)
        generalize (wr.alloc (.cells #[.string zk, .slice za q zc] 95)) = W6 at *
        refine (at_ref _ L t W6 (HVQ.out.below HB6.out) HAA.out.1 HAA.out.2.1 (by have := HAA.out.2.2; show L.length ≤ _; exact Nat.le_trans this (by decide))).mono ?_
        rintro e W7 ⟨he, hb⟩
        have b0 : W7.cell? ⟨wr.heap.size, 0, none⟩ = some (.string zk) := (hb.cell (p := ⟨wr.heap.size, 0, none⟩) HB6S.out).trans HB0.out
        have hb7 : Below wr.heap.size wr W7 := HB6.out.trans (hb.mono (HB6.out.size))
        have HS7 : Hid (OR KP2 B1 W7 u11 (((dirZ true Z).take j).filterMap (scanF t lo hi)) ∧ Below B1 W1 W7 ∧ B1 ≤ W7.heap.size) := Lib.hid ⟨HS.out.1.below hb7, HS.out.2.1.trans (hb7.mono HS.out.2.2), Nat.le_trans HS.out.2.2 hb7.size⟩
        clear hb hb7 HS
        cases hva : valAt L t with
        | none =>
          rw [hva] at he
          have he2 : e = .returned (.tuple #[.string ⟨#[]⟩, .bool false]) := he
          subst he2
          have HVA := Lib.hid hva
          clear he hva
          have HS9 : Hid (OR KP2 B1 W7 u11 (((dirZ true Z).take (j + 1)).filterMap (scanF t lo hi)) ∧ Below B1 W1 W7 ∧ B1 ≤ W7.heap.size) := Lib.hid (by
            have e : scanF t lo hi ⟨zk, za, zc, L⟩ = none := by unfold scanF; rw [show valAt ({ key := zk, at_ := za, cap := zc, vs := L } : Itm).vs t = none from HVA.out]; simp
            rw [HTK.out, HZZ.out, filterMap_snoc, e]
            simpa using HS7.out)
          clear HS7
          go_wp2_with fail
          go_roundw
          case rel => exact ⟨j + 1, by first | rfl | (push_cast; rfl), hjn, HS9⟩
          case measure => show n - (((j + 1 : Nat) : Int).toNat) < n - ((j : Int)).toNat; omega
        | some vl =>
          rw [hva] at he
          have he2 : e = .returned (.tuple #[.string vl, .bool true]) := he
          subst he2
          have HVA := Lib.hid hva
          clear he hva
          rcases (show Op.bytesLess (ByteArray.toList zk) (ByteArray.toList lo) = true ∨ Op.bytesLess (ByteArray.toList zk) (ByteArray.toList lo) = false from by cases Op.bytesLess (ByteArray.toList zk) (ByteArray.toList lo) <;> simp) with hb1 | hb1
          · skip
            have HS9 : Hid (OR KP2 B1 W7 u11 (((dirZ true Z).take (j + 1)).filterMap (scanF t lo hi)) ∧ Below B1 W1 W7 ∧ B1 ≤ W7.heap.size) := Lib.hid (by
              have e : scanF t lo hi ⟨zk, za, zc, L⟩ = none := by unfold scanF inR; rw [show Op.bytesLess (ByteArray.toList ({ key := zk, at_ := za, cap := zc, vs := L } : Itm).key) (ByteArray.toList lo) = true from hb1]; rfl
              rw [HTK.out, HZZ.out, filterMap_snoc, e]
              simpa using HS7.out)
            clear HS7
            go_wp2_with fail
            go_roundw
            case rel => exact ⟨j + 1, by first | rfl | (push_cast; rfl), hjn, HS9⟩
            case measure => show n - (((j + 1 : Nat) : Int).toNat) < n - ((j : Int)).toNat; omega
          by_cases hb2 : ByteArray.toList hi = []
          · skip
            have HF := Lib.hid (show ((dirZ true Z).take (j + 1)).filterMap (scanF t lo hi) = ((dirZ true Z).take j).filterMap (scanF t lo hi) ++ [(zk, vl)] from by
              have e : scanF t lo hi ⟨zk, za, zc, L⟩ = some (zk, vl) := by unfold scanF inR; rw [show Op.bytesLess (ByteArray.toList ({ key := zk, at_ := za, cap := zc, vs := L } : Itm).key) (ByteArray.toList lo) = false from hb1, hb2, show valAt ({ key := zk, at_ := za, cap := zc, vs := L } : Itm).vs t = some vl from HVA.out]; rfl
              rw [HTK.out, HZZ.out, filterMap_snoc, e]
              rfl)
            obtain ⟨M, hM⟩ : ∃ M, M = ((dirZ true Z).take j).filterMap (scanF t lo hi) := ⟨_, rfl⟩
            rw [← hM] at HS7 HOL HF
            obtain ⟨m, hm⟩ : ∃ m, m = M.length + 1 := ⟨_, rfl⟩
            have HM := Lib.hid hm
            clear hM hm
            go_wp2_with (at_builtin; refine wpList_appG okP2 rfl _ _ rfl rfl B1 _ M [(zk, vl)] _ 1 1 m rfl rfl ?_ ?_)
            · exact ⟨rfl, HS7.out.1.alloc _, RR.new okP2 W7 (zk, vl), by have := HS7.out.2.2; simp; omega, by have := HOL.out; omega, by simp, by rw [List.length_append]; exact HM.out⟩
            intro a5 c5 W8 h5 hb5 hg5 _
            have HS9 : Hid (OR KP2 B1 W8 (.slice a5 m c5) (((dirZ true Z).take (j + 1)).filterMap (scanF t lo hi)) ∧ Below B1 W1 W8 ∧ B1 ≤ W8.heap.size) := Lib.hid ⟨by rw [HF.out]; exact h5, HS7.out.2.1.trans (((Below.refl B1 W7).alloc HS7.out.2.2 _).trans hb5), by have := hb5.size; have := HS7.out.2.2; simp at *; omega⟩
            clear h5 hb5 hg5 HS7
            go_wp2_with fail
            go_roundw
            case rel => exact ⟨j + 1, by first | rfl | (push_cast; rfl), hjn, HS9⟩
            case measure => show n - (((j + 1 : Nat) : Int).toNat) < n - ((j : Int)).toNat; omega
          have hb4 : (ByteArray.toList hi).isEmpty = false := by
            cases hq : ByteArray.toList hi with
            | nil => exact absurd hq hb2
            | cons => rfl
          rcases (show Op.bytesLess (ByteArray.toList zk) (ByteArray.toList hi) = true ∨ Op.bytesLess (ByteArray.toList zk) (ByteArray.toList hi) = false from by cases Op.bytesLess (ByteArray.toList zk) (ByteArray.toList hi) <;> simp) with hb3 | hb3
          · skip
            have HF := Lib.hid (show ((dirZ true Z).take (j + 1)).filterMap (scanF t lo hi) = ((dirZ true Z).take j).filterMap (scanF t lo hi) ++ [(zk, vl)] from by
              have e : scanF t lo hi ⟨zk, za, zc, L⟩ = some (zk, vl) := by unfold scanF inR; rw [show Op.bytesLess (ByteArray.toList ({ key := zk, at_ := za, cap := zc, vs := L } : Itm).key) (ByteArray.toList lo) = false from hb1, hb4, show Op.bytesLess (ByteArray.toList ({ key := zk, at_ := za, cap := zc, vs := L } : Itm).key) (ByteArray.toList hi) = true from hb3, show valAt ({ key := zk, at_ := za, cap := zc, vs := L } : Itm).vs t = some vl from HVA.out]; rfl
              rw [HTK.out, HZZ.out, filterMap_snoc, e]
              rfl)
            obtain ⟨M, hM⟩ : ∃ M, M = ((dirZ true Z).take j).filterMap (scanF t lo hi) := ⟨_, rfl⟩
            rw [← hM] at HS7 HOL HF
            obtain ⟨m, hm⟩ : ∃ m, m = M.length + 1 := ⟨_, rfl⟩
            have HM := Lib.hid hm
            clear hM hm
            go_wp2_with (at_builtin; refine wpList_appG okP2 rfl _ _ rfl rfl B1 _ M [(zk, vl)] _ 1 1 m rfl rfl ?_ ?_)
            · exact ⟨rfl, HS7.out.1.alloc _, RR.new okP2 W7 (zk, vl), by have := HS7.out.2.2; simp; omega, by have := HOL.out; omega, by simp, by rw [List.length_append]; exact HM.out⟩
            intro a5 c5 W8 h5 hb5 hg5 _
            have HS9 : Hid (OR KP2 B1 W8 (.slice a5 m c5) (((dirZ true Z).take (j + 1)).filterMap (scanF t lo hi)) ∧ Below B1 W1 W8 ∧ B1 ≤ W8.heap.size) := Lib.hid ⟨by rw [HF.out]; exact h5, HS7.out.2.1.trans (((Below.refl B1 W7).alloc HS7.out.2.2 _).trans hb5), by have := hb5.size; have := HS7.out.2.2; simp at *; omega⟩
            clear h5 hb5 hg5 HS7
            go_wp2_with fail
            go_roundw
            case rel => exact ⟨j + 1, by first | rfl | (push_cast; rfl), hjn, HS9⟩
            case measure => show n - (((j + 1 : Nat) : Int).toNat) < n - ((j : Int)).toNat; omega
          · skip
            have HS9 : Hid (OR KP2 B1 W7 u11 (((dirZ true Z).take (j + 1)).filterMap (scanF t lo hi)) ∧ Below B1 W1 W7 ∧ B1 ≤ W7.heap.size) := Lib.hid (by
              have e : scanF t lo hi ⟨zk, za, zc, L⟩ = none := by unfold scanF inR; rw [show Op.bytesLess (ByteArray.toList ({ key := zk, at_ := za, cap := zc, vs := L } : Itm).key) (ByteArray.toList lo) = false from hb1, hb4, show Op.bytesLess (ByteArray.toList ({ key := zk, at_ := za, cap := zc, vs := L } : Itm).key) (ByteArray.toList hi) = false from hb3]; rfl
              rw [HTK.out, HZZ.out, filterMap_snoc, e]
              simpa using HS7.out)
            clear HS7
            go_wp2_with fail
            go_roundw
            case rel => exact ⟨j + 1, by first | rfl | (push_cast; rfl), hjn, HS9⟩
            case measure => show n - (((j + 1 : Nat) : Int).toNat) < n - ((j : Int)).toNat; omega
end Go.Proofs.Ytaecppkkbdbdbaa
