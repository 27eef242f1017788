/- Btree: Check of a tree whose root is a leaf with three keys. -/
import Derived.Test.YtegljepgncicjaaBt7
import Derived.Laws.Cover1
namespace Go.Proofs.Ytegljepgncicjaa
open Go.ChangeShapes Go.WideShapes Go.ChangeAt Go.RowKit Go.Deep
set_option linter.unusedVariables false
set_option linter.unusedSimpArgs false
theorem info9 : (Try.prog.info? 9).map (fun i => (i.zero, i.size, i.bytes)) = some (some (.string ⟨#[]⟩), 1, 16) := by kernel_rfl
theorem info_parts {e : TypeId} {z : Value} {s by' : Nat} (h : (Try.prog.info? e).map (fun i => (i.zero, i.size, i.bytes)) = some (some z, s, by')) : ∃ i, Try.prog.info? e = some i ∧ i.zero = some z ∧ i.size = s ∧ i.bytes = by' := by
  cases hi : Try.prog.info? e with
  | none => rw [hi] at h; simp at h
  | some i =>
    rw [hi] at h
    simp only [Option.map_some, Option.some.injEq, Prod.mk.injEq] at h
    exact ⟨i, rfl, h.1, h.2.1, h.2.2⟩
theorem rowS_own {B : Nat} {W : World} {v : Value} {xs : List Bs} (h0 : 0 < xs.length) (h : W.ownsRow B 9 1 v xs.length (strv xs)) : ∃ g c, v = .slice (some ⟨g, 0, none⟩) xs.length c ∧ RowS B W (.slice (some ⟨g, 0, none⟩) xs.length c) xs := by
  rcases h.2 with ⟨_, h1⟩ | ⟨g, c, cur, rfl, h1, h2, h3, h4, h5, h6⟩
  · omega
  · refine ⟨g, c, rfl, .inr ⟨g, c, rfl, h1, h3, by omega, by unfold maxLen at h4; omega, ⟨by unfold World.shape?; rw [h2]; show some (9, cur.size) = _; rw [h5, Nat.mul_one], fun j => by unfold World.frozen?; rw [h2]; simp, fun j hj => by unfold World.cell?; rw [h2]; simp [h5]; omega⟩, fun j hj => ?_⟩⟩
    rw [h.cellAt j (by omega), strv_at]
theorem kept_grown {W W' : World} (h : W.grownBy W' none) : Kept (fun _ => False) W W' := ⟨h.os, h.tape, h.output, h.size, fun k hk _ => h.block k hk (by simp)⟩
theorem wpList_allS {ops : Array Oper} {rest : List Oper} {Q : Exit → Act → World → Prop} (x y : Nat) (B : Nat) (sv : Value) (ks : List Bs) (d : Option Nat) (pos : String) (af) (a : Act) (w : World)
    (hx : a.eval (.tmp x) = .slice none 0 0) (hy : a.eval (.tmp y) = sv) (hr : RowS B w sv ks) (h0 : 0 < ks.length) (h1 : ks.length ≤ 1000) (hB : B ≤ w.heap.size)
    (h : ∀ g c w', RowS B w' (.slice (some ⟨g, 0, none⟩) ks.length c) ks → Kept (fun _ => False) w w' → wpList Try.prog ops Q rest (a.put d (.slice (some ⟨g, 0, none⟩) ks.length c)) w') :
    wpList Try.prog ops Q ({ dst := d, op := Op.call { callee := .builtin .append, args := #[.tmp x, .tmp y], argTypes := #[40, 40] }, type := 40, pos := pos, after := af, guard := none } :: rest) a w := by
  obtain ⟨i9, hi9, hz0, hz1, hz2⟩ := info_parts info9
  rcases hr with ⟨rfl, rfl⟩ | ⟨g, c, rfl, _, _, _, _, hR, hc⟩
  · exact absurd h0 (by simp)
  refine wpList_append_own w rfl (.tmp x) (.tmp y) 40 rfl B 9 i9 (.string ⟨#[]⟩) 1 16 Try.underlying40 hi9 hz0 hz1 hz2 rfl (by decide) (.slice none 0 0) 0 [] hx ⟨rfl, .inl ⟨rfl, rfl⟩⟩ ⟨g, 0, none⟩ ks.length c (strv ks) hy (by rw [strv_len, Nat.mul_one]) (fun j u hj => ?_) (strv_one ks) (by unfold maxLen; omega) (by omega) hB ?_
  · have hjl := (List.getElem?_eq_some_iff.1 hj).1
    rw [strv_len] at hjl
    have := hc j hjl
    rw [← strv_at, hj] at this
    by_cases h0 : j = 0
    · subst h0; simpa [Addr.add] using this
    · simpa [Addr.add, h0] using this
  · intro v' w' hv' hg _
    rw [Nat.zero_add, List.nil_append] at hv'
    obtain ⟨g', c', rfl, hr'⟩ := rowS_own h0 hv'
    exact h g' c' w' hr' (kept_grown hg)
set_option maxHeartbeats 1600000 in
theorem all_leaf (B N : Nat) (kv vv : Value) (ks vs : List Bs) (W : World) (L : Leaf B W N kv vv ks vs) (h0 : 0 < ks.length) (hl : ks.length ≤ 1000) (hB : B ≤ W.heap.size) :
    Calls Try.prog 38 #[.pointer (some ⟨N, 0, none⟩), .slice none 0 0] W fun e W' => ∃ g c, e = .returned (.slice (some ⟨g, 0, none⟩) ks.length c) ∧ RowS B W' (.slice (some ⟨g, 0, none⟩) ks.length c) ks ∧ Kept (fun _ => False) W W' := by
  have HR := Lib.hid L.rk
  have n0 : W.cell? ⟨N, 0, none⟩ = some kv := L.box.cell 0 _ rfl
  have n2 : W.cell? ⟨N, 2, none⟩ = some (.slice none 0 0) := L.box.cell 2 _ rfl
  obtain ⟨kg, kc, rfl⟩ := L.rk.len
  clear L
  go_enter Try.func38, Try.ntmps38
  go_wp2_with (with_reducible refine wpList_allS _ _ B _ ks _ _ _ _ _ ?_ ?_ HR.out h0 hl hB ?_)
  · rfl
  · rfl
  rintro g c W1 hr1 hk1
  have HO := Lib.hid (And.intro hr1 hk1)
  clear hr1 hk1 HR
  go_wp2_with fail
  go_ret
  exact ⟨g, c, rfl, HO.out.1, HO.out.2⟩
set_option maxRecDepth 100000 in
set_option maxHeartbeats 1600000 in
theorem nodesound_leaf (B N : Nat) (kv vv : Value) (ks vs : List Bs) (o : Int) (W : World) (L : Leaf B W N kv vv ks vs) (hlen : vs.length = ks.length) (h0 : 0 < ks.length) (ho : (ks.length : Int) ≤ o) (ho2 : o ≤ 256) :
    Calls Try.prog 37 #[.pointer (some ⟨N, 0, none⟩), .int .i64 1, .int .i64 o, .int .i64 1] W fun e W' => e = .returned (.bool true) ∧ ∃ q, W' = W.drewN q := by
  have n0 : W.cell? ⟨N, 0, none⟩ = some kv := L.box.cell 0 _ rfl
  have n1 : W.cell? ⟨N, 1, none⟩ = some vv := L.box.cell 1 _ rfl
  have n2 : W.cell? ⟨N, 2, none⟩ = some (.slice none 0 0) := L.box.cell 2 _ rfl
  obtain ⟨kg, kc, rfl⟩ := L.rk.len
  obtain ⟨vg, vc, rfl⟩ := L.rv.len
  rw [hlen] at n1
  clear L
  have d1 : decide ((ks.length : Int) < 1) = false := decide_eq_false (by omega)
  have d2 : decide (o < (ks.length : Int)) = false := decide_eq_false (by omega)
  go_enter Try.func37, Try.ntmps37
  go_wp2_with fail
  go_quiet (fail)
  go_wp2_with fail
  go_ret
  exact ⟨rfl, _, rfl⟩
def SndOut (B T N : Nat) (o sz : Int) (kv vv : Value) (ks vs : List Bs) (W : World) (e : Ending) (W' : World) : Prop :=
  e = .returned (.bool true) ∧ TreeAt B W' T N o sz kv vv ks vs ∧ Kept (fun _ => False) W W'
set_option maxRecDepth 100000 in
set_option maxHeartbeats 1600000 in
theorem sound_3 (B T N : Nat) (o : Int) (kv vv : Value) (k0 k1 k2 : Bs) (vs : List Bs) (W : World) (A : TreeAt B W T N o 3 kv vv [k0, k1, k2] vs) (ho : 3 ≤ o) (ho2 : o ≤ 256) (hB : B ≤ W.heap.size)
    (h01 : Op.bytesLess k0.toList k1.toList = true) (h12 : Op.bytesLess k1.toList k2.toList = true) :
    Calls Try.prog 29 #[.pointer (some ⟨T, 0, none⟩)] W (SndOut B T N o 3 kv vv [k0, k1, k2] vs W) := by
  have HS := Lib.hid (fun q => nodesound_leaf B N kv vv [k0, k1, k2] vs o (W.drewN q) (A.leaf.drewN q) A.len (by simp) (by simpa using ho) ho2)
  have HH := Lib.hid (fun q => height_at B T N o 3 kv vv [k0, k1, k2] vs (W.drewN q) (A.drewN q))
  have HA := Lib.hid A
  have a0 : W.cell? ⟨T, 0, none⟩ = some (.int .i64 o) := A.box.cell 0 _ rfl
  have a2 : W.cell? ⟨T, 2, none⟩ = some (.pointer (some ⟨N, 0, none⟩)) := A.box.cell 2 _ rfl
  clear A
  go_enter Try.func29, Try.ntmps29
  go_wp2_with fail
  go_quiet (first
    | (go_at_call 33; refine Calls.quiet_of_same (HH.out _))
    | (go_at_call 37; refine Calls.quiet_of (HS.out _)))
  clear HS HH
  have HA1 := Lib.hid (HA.out.drewN nq)
  have b1 : (W.drewN nq).cell? ⟨T, 2, none⟩ = some (.pointer (some ⟨N, 0, none⟩)) := a2
  clear a0 a2
  go_wp2_with fail
  refine (all_leaf B N kv vv _ vs _ HA1.out.leaf (by simp) (by simp) hB).mono ?_
  rintro e W1 ⟨g, c, rfl, hr, hk⟩
  have HA2 := Lib.hid (HA1.out.kept hk (fun _ _ h => h))
  have HK := Lib.hid (show Kept (fun _ => False) W W1 from ⟨hk.os, hk.tape, hk.output, hk.size, hk.block⟩)
  clear hk HA HA1 b1
  change RowS B W1 (.slice (some ⟨g, 0, none⟩) 3 c) [k0, k1, k2] at hr
  obtain ⟨c0, c1, c2⟩ : W1.cell? ⟨g, 0, none⟩ = some (.string k0) ∧ W1.cell? ⟨g, 1, none⟩ = some (.string k1) ∧ W1.cell? ⟨g, 2, none⟩ = some (.string k2) := by
    rcases hr with ⟨h, _⟩ | ⟨g', c', h, _, _, _, _, _, hc⟩
    · cases h
    · cases h
      exact ⟨hc 0 (by simp), hc 1 (by simp), hc 2 (by simp)⟩
  have a1 : W1.cell? ⟨T, 1, none⟩ = some (.int .i64 3) := HA2.out.box.cell 1 _ rfl
  clear hr
  simp only [List.length_cons, List.length_nil, Nat.zero_add, Nat.reduceAdd]
  go_wp2_with fail
  have w0 : IntKind.i64.wrap 0 = 0 := rfl
  have w1 : IntKind.i64.wrap 1 = 1 := rfl
  refine wp_loop_rounds 3 ?_
  rw [rounds_succ]
  go_wp2_with fail
  go_quiet (fail)
  go_wp2_with fail
  rw [rounds_succ]
  go_wp2_with fail
  go_quiet (fail)
  go_wp2_with fail
  rw [rounds_succ]
  go_wp2_with fail
  go_ret
  exact ⟨rfl, HA2.out.drewN _, HK.out.drewN _⟩
theorem Check_3 (B T N : Nat) (o : Int) (kv vv : Value) (k0 k1 k2 : Bs) (vs : List Bs) (W : World) (A : TreeAt B W T N o 3 kv vv [k0, k1, k2] vs) (ho : 3 ≤ o) (ho2 : o ≤ 256) (hB : B ≤ W.heap.size)
    (h01 : Op.bytesLess k0.toList k1.toList = true) (h12 : Op.bytesLess k1.toList k2.toList = true) :
    Calls Try.prog 15 #[.pointer (some ⟨T, 0, none⟩)] W (SndOut B T N o 3 kv vv [k0, k1, k2] vs W) := by
  have H := Lib.hid (sound_3 B T N o kv vv k0 k1 k2 vs W A ho ho2 hB h01 h12)
  clear A h01 h12
  go_enter Try.func15, Try.ntmps15
  go_wp2_with fail
  refine H.out.mono ?_
  rintro e W1 ⟨rfl, h2, h3⟩
  have H2 := Lib.hid (And.intro h2 h3)
  clear h2 h3 H
  go_wp2_with fail
  go_ret
  exact ⟨rfl, H2.out⟩
end Go.Proofs.Ytegljepgncicjaa
