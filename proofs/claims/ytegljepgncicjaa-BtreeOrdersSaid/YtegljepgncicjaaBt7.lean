/- Btree: New, and Delete of a tree whose root is a leaf. -/
import Derived.Test.YtegljepgncicjaaBt6
namespace Go.Proofs.Ytegljepgncicjaa
open Go.ChangeShapes Go.WideShapes Go.ChangeAt Go.RowKit Go.Deep
set_option linter.unusedVariables false
set_option linter.unusedSimpArgs false
theorem New_4 (W : World) :
    Calls Try.prog 10 #[.int .i64 4] W fun e W' => e = .returned (.tuple #[.pointer (some ⟨W.heap.size, 0, none⟩), .int .i64 0]) ∧ W' = W.alloc (.cells #[.int .i64 4, .int .i64 0, .pointer none] 68) := by
  go_enter Try.func10, Try.ntmps10
  go_wp2_with fail
  go_ret2
  exact ⟨rfl, rfl⟩
theorem New_3 (W : World) :
    Calls Try.prog 10 #[.int .i64 3] W fun e W' => e = .returned (.tuple #[.pointer none, .int .i64 1]) ∧ W' = W := by
  go_enter Try.func10, Try.ntmps10
  go_wp2_with fail
  go_ret2
  exact ⟨rfl, rfl⟩
def CutOut (B N : Nat) (kv vv : Value) (ks vs : List Bs) (W : World) (W' : World) : Prop :=
  ∃ kv' vv', Leaf B W' N kv' vv' ks vs ∧ Kept (Own N kv vv) W W' ∧ ∀ k, Own N kv' vv' k → Own N kv vv k ∨ W.heap.size ≤ k
set_option maxHeartbeats 1600000 in
theorem cut_any (B N : Nat) (kv vv : Value) (ks vs : List Bs) (i : Nat) (W : World) (L : Leaf B W N kv vv ks vs) (hlen : vs.length = ks.length) (hi : i < ks.length) (hs : ks.length ≤ 1000) :
    Calls Try.prog 52 #[.pointer (some ⟨N, 0, none⟩), .int .i64 i] W fun e W' => e = .returned (.tuple #[]) ∧ CutOut B N kv vv (ks.eraseIdx i) (vs.eraseIdx i) W W' := by
  have hiv : i < vs.length := by omega
  have HL := Lib.hid L
  have hd1 := Lib.hid (del_any B kv ks i W L.rk hi)
  obtain ⟨kg, kc, rfl⟩ := L.rk.len
  obtain ⟨vg, vc, rfl⟩ := L.rv.len
  have a0 : W.cell? ⟨N, 0, none⟩ = some (.slice kg ks.length kc) := L.box.cell 0 _ rfl
  clear L hlen
  go_enter Try.func52, Try.ntmps52
  go_wp2_with fail
  refine hd1.out.mono ?_
  rintro e W2 ⟨v', rfl, hv', hk', ho'⟩
  obtain ⟨hn1, hn2, hn3, hn4, hn6, hn5⟩ := HL.out.newk hv' hk' (fun g h => .inl (by rw [← ho']; exact h))
  obtain ⟨ng, nc, rfl⟩ := hv'.len
  have HN1 := Lib.hid hn1
  have HN2 := Lib.hid hn2
  have HN5 := Lib.hid hn5
  clear hn1 hn2 hn5 hv' hk' ho' HL hd1 a0
  generalize (ks.eraseIdx i).length = nl at *
  go_wp2_with fail
  have hsz : (W2.setCell ⟨N, 0, none⟩ (.slice ng nl nc)).heap.size = W2.heap.size := by simp
  generalize W2.setCell ⟨N, 0, none⟩ (.slice ng nl nc) = W3 at *
  clear hn3 hn4 hn6
  have hd2 := Lib.hid (del_any B _ vs i W3 HN1.out.rv hiv)
  refine hd2.out.mono ?_
  rintro e W4 ⟨u', rfl, hu', hk4, ho4⟩
  obtain ⟨hm1, hm2, hm3, hm4, hm5⟩ := HN1.out.newv hu' hk4 (fun g h => .inl (by rw [← ho4]; exact h))
  obtain ⟨mg, mc, rfl⟩ := hu'.len
  have HM1 := Lib.hid hm1
  have HM2 := Lib.hid (HN2.out.trans hm2 (fun k h => HN5.out k h))
  have HM5 : Hid (∀ k, Own N (.slice ng nl nc) (.slice mg (vs.eraseIdx i).length mc) k → Own N (.slice kg ks.length kc) (.slice vg vs.length vc) k ∨ W.heap.size ≤ k) := Lib.hid (fun k h => by
    rcases hm5 k h with h | h
    · exact HN5.out k h
    · exact .inr (by have h1 := HN2.out.size; omega))
  clear hm1 hm2 hm5 hu' hk4 ho4 HN1 HN2 HN5 hd2
  generalize (vs.eraseIdx i).length = ml at *
  go_wp2_with fail
  refine bodyPost_end (v := .tuple #[]) (by simp [results, Try.results52, go_sem]) rfl ⟨rfl, _, _, HM1.out, HM2.out, HM5.out⟩
theorem CutOut.drewN {B N : Nat} {kv vv : Value} {ks vs : List Bs} {W W' : World} {q : Nat} (h : CutOut B N kv vv ks vs (W.drewN q) W') : CutOut B N kv vv ks vs W W' := by
  obtain ⟨a, b, h1, h2, h3⟩ := h
  exact ⟨a, b, h1, ⟨h2.os, h2.tape, h2.output, h2.size, h2.block⟩, h3⟩
def RemOut (B N : Nat) (kv vv : Value) (r : Bool) (ks vs : List Bs) (W : World) (e : Ending) (W' : World) : Prop :=
  e = .returned (.bool r) ∧ CutOut B N kv vv ks vs W W'
set_option maxHeartbeats 1600000 in
theorem noderem_found (B N : Nat) (kv vv : Value) (ks vs : List Bs) (o : Int) (key : Bs) (i : Nat) (W : World) (L : Leaf B W N kv vv ks vs) (hlen : vs.length = ks.length) (hl : ks.length ≤ 1000) (hi : bsI ks key = i) (hf : bsF ks key = true) :
    Calls Try.prog 44 #[.pointer (some ⟨N, 0, none⟩), .int .i64 o, .string key] W (RemOut B N kv vv true (ks.eraseIdx i) (vs.eraseIdx i) W) := by
  have hlt : i < ks.length := by
    have := of_decide_eq_true hf
    rw [hi] at this
    exact this.1
  have hbs := bs_any B kv ks key W L.rk hl
  rw [hi, hf] at hbs
  have HBS := Lib.hid hbs
  have HC := Lib.hid (fun q => cut_any B N kv vv ks vs i (W.drewN q) (L.drewN q) hlen hlt hl)
  have a0 : W.cell? ⟨N, 0, none⟩ = some kv := L.box.cell 0 _ rfl
  have a2 : W.cell? ⟨N, 2, none⟩ = some (.slice none 0 0) := L.box.cell 2 _ rfl
  obtain ⟨kg, kc, rfl⟩ := L.rk.len
  clear L hbs hi hf hlen
  go_enter Try.func44, Try.ntmps44
  go_wp2_with fail
  refine HBS.out.mono ?_
  rintro e W1 ⟨rfl, q, rfl⟩
  have b2 : (W.drewN q).cell? ⟨N, 2, none⟩ = some (.slice none 0 0) := a2
  clear a0 a2 HBS
  go_wp2_with fail
  refine (HC.out q).mono ?_
  rintro e W2 ⟨rfl, hc⟩
  have HO := Lib.hid hc
  clear hc HC b2
  go_wp2_with fail
  go_ret
  exact ⟨rfl, HO.out.drewN⟩
set_option maxHeartbeats 1600000 in
theorem noderem_not (B N : Nat) (kv vv : Value) (ks vs : List Bs) (o : Int) (key : Bs) (i : Nat) (W : World) (L : Leaf B W N kv vv ks vs) (hl : ks.length ≤ 1000) (hi : bsI ks key = i) (hf : bsF ks key = false) :
    Calls Try.prog 44 #[.pointer (some ⟨N, 0, none⟩), .int .i64 o, .string key] W (RemOut B N kv vv false ks vs W) := by
  have hbs := bs_any B kv ks key W L.rk hl
  rw [hi, hf] at hbs
  have HBS := Lib.hid hbs
  have HC : Hid (∀ q, CutOut B N kv vv ks vs W (W.drewN q)) := Lib.hid (fun q => ⟨kv, vv, L.drewN q, (Kept.refl _ _).drewN q, fun k h => .inl h⟩)
  have a0 : W.cell? ⟨N, 0, none⟩ = some kv := L.box.cell 0 _ rfl
  have a2 : W.cell? ⟨N, 2, none⟩ = some (.slice none 0 0) := L.box.cell 2 _ rfl
  obtain ⟨kg, kc, rfl⟩ := L.rk.len
  clear L hbs hi hf
  go_enter Try.func44, Try.ntmps44
  go_wp2_with fail
  refine HBS.out.mono ?_
  rintro e W1 ⟨rfl, q, rfl⟩
  have b2 : (W.drewN q).cell? ⟨N, 2, none⟩ = some (.slice none 0 0) := a2
  clear a0 a2 HBS
  go_wp2_with fail
  go_ret
  exact ⟨rfl, HC.out q⟩
set_option maxRecDepth 100000 in
set_option maxHeartbeats 1600000 in
theorem trem_any (B T N : Nat) (o sz : Int) (kv vv : Value) (ks vs : List Bs) (key : Bs) (i : Nat) (W : World) (A : TreeAt B W T N o sz kv vv ks vs) (hB : B ≤ W.heap.size) (hl : 2 ≤ ks.length) (hl2 : ks.length ≤ 1000) (hz0 : 0 ≤ sz) (hz1 : sz ≤ 1000) (ho0 : 0 ≤ o) (ho : o ≤ 256) (hi : bsI ks key = i) (hf : bsF ks key = true) :
    Calls Try.prog 32 #[.pointer (some ⟨T, 0, none⟩), .string key] W (TOut B T o (sz - 1) true (ks.eraseIdx i) (vs.eraseIdx i) W) := by
  have hlt : i < ks.length := by
    have := of_decide_eq_true hf
    rw [hi] at this
    exact this.1
  have HP := Lib.hid (fun n => noderem_found B N kv vv ks vs n key i W.drew (A.leaf.drewN 1) A.len hl2 hi hf)
  have hel : (ks.eraseIdx i).length = ks.length - 1 := by rw [List.length_eraseIdx, if_pos hlt]
  have hev : (vs.eraseIdx i).length = ks.length - 1 := by rw [List.length_eraseIdx, if_pos (by rw [A.len]; exact hlt), A.len]
  have HLN := Lib.hid (And.intro hel (hev.trans hel.symm))
  have HA := Lib.hid A
  have a0 : W.cell? ⟨T, 0, none⟩ = some (.int .i64 o) := A.box.cell 0 _ rfl
  have a2 : W.cell? ⟨T, 2, none⟩ = some (.pointer (some ⟨N, 0, none⟩)) := A.box.cell 2 _ rfl
  clear A hi hf hel hev
  go_enter Try.func32, Try.ntmps32
  go_wp2_with fail
  go_still_tail 16, (by kernel_rfl)
  change wpList _ _ _ _ _ W.drew
  clear a0 a2
  go_wp2_with fail
  refine (HP.out _).mono ?_
  rintro e W1 ⟨rfl, kv', vv', hL, hk, hown⟩
  have hb1 : Below B W W1 := (Below.drew (Below.refl B W)).trans ((HA.out.drewN 1).leaf.below hB hk)
  have hsz1 : W.heap.size ≤ W1.heap.size := hk.size
  have hbx := (HA.out.drewN 1).box.kept hk HA.out.out
  have hTo : ¬ Own N kv' vv' T := fun h => by
    rcases hown T h with h | h
    · exact HA.out.out h
    · have := HA.out.box.lt; exact absurd this (by have h : W.heap.size ≤ T := h; omega)
  have HBX := Lib.hid hbx
  have HL := Lib.hid hL
  have HB1 := Lib.hid hb1
  have HTO := Lib.hid hTo
  have hTN : T ≠ N := fun e => HTO.out (.inl e)
  have a0 : W1.cell? ⟨T, 0, none⟩ = some (.int .i64 o) := hbx.cell 0 _ rfl
  have a1 : W1.cell? ⟨T, 1, none⟩ = some (.int .i64 sz) := hbx.cell 1 _ rfl
  have a2 : W1.cell? ⟨T, 2, none⟩ = some (.pointer (some ⟨N, 0, none⟩)) := hbx.cell 2 _ rfl
  have f1 : W1.frozen? ⟨T, 1, none⟩ = false := hbx.free 1
  obtain ⟨g, c, hkv⟩ := hL.rk.len
  have n0 : W1.cell? ⟨N, 0, none⟩ = some kv' := hL.box.cell 0 _ rfl
  rw [hkv, HLN.out.1] at n0
  obtain ⟨m, hm⟩ : ∃ m, m = ks.length - 1 := ⟨_, rfl⟩
  rw [← hm] at n0
  have hm0 : 0 < m := by omega
  have hm2 : m ≤ 1000 := by omega
  have hgt : ((m : Int) == 0) = false := by simp; omega
  have hgt2 : decide ((m : Int) = 0) = false := decide_eq_false (by omega)
  have HA2 := Lib.hid HA.out.bT
  clear hL hk hown hb1 hbx hTo HA HP hkv hm hl hl2 hlt
  go_wp2_with fail
  have hset : Kept (fun k => k = T) W1 (W1.setCell ⟨T, 1, none⟩ (.int .i64 (sz - 1))) := (Kept.refl _ W1).setCells T 1 [.int .i64 (sz - 1)] (.inl rfl)
  have hT2 : TreeAt B (W1.setCell ⟨T, 1, none⟩ (.int .i64 (sz - 1))) T N o (sz - 1) kv' vv' (ks.eraseIdx i) (vs.eraseIdx i) :=
    ⟨HBX.out.setCell 1 _ (by simp), HL.out.kept hset (fun k h e => HTO.out (by rw [← e]; exact h)), HA2.out, HTO.out, HLN.out.2⟩
  have hb2 : Below B W (W1.setCell ⟨T, 1, none⟩ (.int .i64 (sz - 1))) ∧ W.heap.size ≤ (W1.setCell ⟨T, 1, none⟩ (.int .i64 (sz - 1))).heap.size := ⟨HB1.out.trans (hset.below (by omega) (fun k e => by rw [e]; exact HA2.out)), by simpa using hsz1⟩
  go_ret
  exact ⟨rfl, ⟨_, _, _, hT2⟩, hb2⟩
theorem Del_any (B T : Nat) (o sz : Int) (r : Bool) (ks vs : List Bs) (key : Bs) (W : World)
    (h : Calls Try.prog 32 #[.pointer (some ⟨T, 0, none⟩), .string key] W (TOut B T o sz r ks vs W)) :
    Calls Try.prog 22 #[.pointer (some ⟨T, 0, none⟩), .string key] W (TOut B T o sz r ks vs W) := by
  have H := Lib.hid h
  clear h
  go_enter Try.func22, Try.ntmps22
  go_wp2_with fail
  refine H.out.mono ?_
  rintro e W1 ⟨rfl, h2, h3, h4⟩
  have H2 := Lib.hid (And.intro h2 (And.intro h3 h4))
  clear h2 h3 h4 H
  go_wp2_with fail
  go_ret
  exact ⟨rfl, H2.out⟩
set_option maxRecDepth 100000 in
set_option maxHeartbeats 1600000 in
theorem trem_not (B T N : Nat) (o sz : Int) (kv vv : Value) (ks vs : List Bs) (key : Bs) (i : Nat) (W : World) (A : TreeAt B W T N o sz kv vv ks vs) (hB : B ≤ W.heap.size) (hl2 : ks.length ≤ 1000) (ho0 : 0 ≤ o) (ho : o ≤ 256) (hi : bsI ks key = i) (hf : bsF ks key = false) :
    Calls Try.prog 32 #[.pointer (some ⟨T, 0, none⟩), .string key] W (TOut B T o sz false ks vs W) := by
  have HP := Lib.hid (fun n => noderem_not B N kv vv ks vs n key i W.drew (A.leaf.drewN 1) hl2 hi hf)
  have HA := Lib.hid A
  have a0 : W.cell? ⟨T, 0, none⟩ = some (.int .i64 o) := A.box.cell 0 _ rfl
  have a2 : W.cell? ⟨T, 2, none⟩ = some (.pointer (some ⟨N, 0, none⟩)) := A.box.cell 2 _ rfl
  clear A hi hf
  go_enter Try.func32, Try.ntmps32
  go_wp2_with fail
  go_still_tail 16, (by kernel_rfl)
  change wpList _ _ _ _ _ W.drew
  clear a0 a2
  go_wp2_with fail
  refine (HP.out _).mono ?_
  rintro e W1 ⟨rfl, kv', vv', hL, hk, hown⟩
  have hb1 : Below B W W1 := (Below.drew (Below.refl B W)).trans ((HA.out.drewN 1).leaf.below hB hk)
  have hsz1 : W.heap.size ≤ W1.heap.size := hk.size
  have hbx := (HA.out.drewN 1).box.kept hk HA.out.out
  have hTo : ¬ Own N kv' vv' T := fun h => by
    rcases hown T h with h | h
    · exact HA.out.out h
    · have := HA.out.box.lt; exact absurd this (by have h : W.heap.size ≤ T := h; omega)
  have HR := Lib.hid (show TreeAt B W1 T N o sz kv' vv' ks vs from ⟨hbx, hL, HA.out.bT, hTo, HA.out.len⟩)
  have HB1 := Lib.hid (And.intro hb1 hsz1)
  clear hL hk hown hb1 hbx hTo HA HP hsz1
  go_wp2_with fail
  go_ret
  exact ⟨rfl, ⟨_, _, _, HR.out⟩, HB1.out.1, HB1.out.2⟩
end Go.Proofs.Ytegljepgncicjaa
