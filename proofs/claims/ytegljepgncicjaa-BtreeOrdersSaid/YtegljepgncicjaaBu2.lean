/- Btree: slices.Insert of one node into a slice of nodes. -/
import Derived.Test.YtegljepgncicjaaBu1
import Derived.Lib.AppendZerosOnto
import Derived.Lib.Overlaps
import Derived.Laws.Externs
import Derived.Laws.NewBlocks
import Derived.Shelf.RegionOpenPlain
namespace Go.Proofs.Ytegljepgncicjaa
open Go.ChangeShapes Go.WideShapes Go.ChangeAt Go.RowKit Go.Deep Go.Lib Go.Shelf
set_option linter.unusedVariables false
set_option linter.unusedSimpArgs false
theorem info64 : (Try.prog.info? 64).map (fun i => (i.zero, i.size, i.bytes)) = some (some (.pointer none), 1, 8) := by kernel_rfl
theorem size64 : (Try.prog.info? 64).map (·.size) = some 1 := by kernel_rfl
theorem und83 : Try.prog.underlying 83 = some (.slice 64) := Try.underlying83
def insf (us : List Value) (i : Nat) (u : Value) : List Value := us.take i ++ u :: us.drop i
theorem insf_len (us : List Value) (i : Nat) (u : Value) (hi : i ≤ us.length) : (insf us i u).length = us.length + 1 := by simp [insf]; omega
theorem insf_at (us : List Value) (i : Nat) (u : Value) (hi : i ≤ us.length) (j : Nat) : (insf us i u)[j]? = if j < i then us[j]? else if j = i then some u else us[j - 1]? := by
  unfold insf
  rw [List.getElem?_append, List.length_take, Nat.min_eq_left hi]
  split
  · rw [List.getElem?_take, if_pos (by assumption)]
  · split
    · rename_i h1 h2
      rw [h2, Nat.sub_self]; rfl
    · rename_i h1 h2
      rw [show j - i = (j - i - 1) + 1 by omega, List.getElem?_cons_succ, List.getElem?_drop]
      congr 1
      omega
/-- the cells of a slice that came in -/
def At (W : World) (g : Nat) (us : List Value) : Prop := ∀ j v, us[j]? = some v → W.cell? ⟨g, j, none⟩ = some v
section
set_option maxHeartbeats 1600000
set_option maxRecDepth 100000
/-- room, not at the end -/
theorem insp_shift (g c i vb : Nat) (us : List Value) (u : Value) (W : World) (hi : i < us.length) (hroom : us.length + 1 ≤ c) (hc63 : c ≤ 9223372036854775807) (hne : vb ≠ g)
    (hR : RowT 64 W g c) (hus : At W g us) (hvb : W.heap[vb]? = some (.cells #[u] 64 (0, 0))) (h1 : ∀ v ∈ us, v.oneCell' = true) (h1u : u.oneCell' = true) :
    Calls Try.prog 48 #[.slice (some ⟨g, 0, none⟩) us.length c, .int .i64 i, .slice (some ⟨vb, 0, none⟩) 1 1] W fun e w' =>
      e = .returned (.slice (some ⟨g, 0, none⟩) (us.length + 1) c) ∧ w' = (W.drew.setCells g (i + 1) (us.drop i)).setCells g i [u] := by
  have HU := Lib.hid hus
  have HR := Lib.hid hR
  have HV := Lib.hid hvb
  have hsv : W.shape? vb = some (64, 1) := by unfold World.shape?; rw [hvb]; rfl
  have hfv : ∀ j, W.frozen? ⟨vb, j, none⟩ = false := fun j => by unfold World.frozen?; rw [hvb]; simp
  have hcv : W.cell? ⟨vb, 0, none⟩ = some u := by unfold World.cell?; rw [hvb]; rfl
  have hov : ∀ lb cb, (callFunc 59 #[.slice (some ⟨vb, 0, none⟩) 1 1, .slice (some ⟨g, i + 1, none⟩) lb cb]).run Try.prog W = .ok (.value (.bool false)) W := fun lb cb => by
    rw [run_callFunc_extern Try.func59 (by kernel_rfl) (by kernel_rfl) (by kernel_rfl) (e := Extern.SlicesOverlaps.overlaps #[83, 83] #[4]) (by kernel_rfl),
      Lib.run_overlaps_apart W 83 4 64 und83 1 (by obtain ⟨i0, hi0, _, h2, _⟩ := info_parts info64; intro w; simp [sizeOf, typeInfo, hi0, h2]) ⟨vb, 0, none⟩ ⟨g, i + 1, none⟩ 1 1 lb cb hne 64 64 1 c hsv hR.sh (by omega) (hfv _) (hfv _)]
    rfl
  have hdl : (us.drop i).length = us.length - i := List.length_drop
  have hcell : ∀ k, k < us.length + 1 → (W.cell? ⟨g, 0 + k, none⟩).isSome = true := fun k hk => by rw [Nat.zero_add]; exact hR.th k (by omega)
  have hA : ∀ ty dc sc, (Builtin.copy_ #[83, 83] ty #[.slice (some ⟨g, i + 1, none⟩) (us.length - i) dc, .slice (some ⟨g, i, none⟩) (us.length + 1 - i) sc]).run Try.prog W.drew = .ok (goInt (us.drop i).length) (W.drew.setCells g (i + 1) (us.drop i)) := fun ty dc sc =>
    run_copy_cells W.drew 83 83 ty 64 g (i + 1) _ dc ⟨g, i, none⟩ _ sc (us.drop i) und83 size64 (by rw [hdl]; simp only [Nat.min_def]; split <;> omega)
      (fun j v hj => by rw [Addr.add_lit]; exact HU.out (i + j) v (by rwa [List.getElem?_drop] at hj))
      (fun j hj => HR.out.th _ (by rw [hdl] at hj; omega)) (fun j hj => HR.out.fr _) (fun v hv => h1 v (List.mem_of_mem_drop hv))
  obtain ⟨W1, hW1⟩ : ∃ W1, W1 = W.drew.setCells g (i + 1) (us.drop i) := ⟨_, rfl⟩
  rw [← hW1] at hA
  have hR1 : RowT 64 W1 g c := by
    rw [hW1]
    exact RowT.set (W := W.drew) ⟨hR.sh, hR.fr, hR.th⟩ _ _
  have hcv1 : W1.cell? ⟨vb, 0, none⟩ = some u := by
    rw [hW1, World.cell?_setCells_out g _ _ _ _ (fun h _ => absurd h hne)]
    exact hcv
  have hB : ∀ ty dc, (Builtin.copy_ #[83, 83] ty #[.slice (some ⟨g, i, none⟩) (us.length + 1 - i) dc, .slice (some ⟨vb, 0, none⟩) 1 1]).run Try.prog W1 = .ok (goInt [u].length) (W1.setCells g i [u]) := fun ty dc =>
    run_copy_cells W1 83 83 ty 64 g i _ dc ⟨vb, 0, none⟩ 1 1 [u] und83 size64 (by simp only [List.length_cons, List.length_nil, Nat.min_def]; split <;> omega)
      (fun j v hj => by
        match j with
        | 0 => simp at hj; subst hj; exact hcv1
        | j + 1 => simp at hj)
      (fun j hj => hR1.th _ (by simp at hj; omega)) (fun j hj => hR1.fr _) (fun v hv => by rw [List.mem_singleton.1 hv]; exact h1u)
  have hz2 : ¬ ((i : Int) = (us.length : Int)) := by omega
  have hb2 : ¬ (c = i + 1) := by omega
  have hb4 : ¬ (c = i) := by omega
  have hin : i ≤ us.length := by omega
  have hW1' := Lib.hid hW1
  clear hus hR hvb hW1 hcell hcv hsv hfv hcv1 hR1
  generalize us.length = n at *
  go_enter Try.func48, Try.ntmps48
  go_wp2_with (simp only [hov])
  have mixed : Try.prog.follows .mixedOrders = true := by kernel_rfl
  have hw1 : IntKind.i64.wrap ((i : Int) + 1) = (i : Int) + 1 := by rw [IntKind.wrap_i64]; omega
  have hx1 : (0 : Int) ≤ (i : Int) + 1 := by omega
  have htn : ((i : Int) + 1).toNat = i + 1 := by omega
  have hx3 : (i : Int) ≤ (n : Int) + 1 := by omega
  go_region_law_o (refine step_copy_runI rfl _ _ 83 83 rfl _ _ (by simp [Act.eval, Act.put]) (by simp [Act.eval, Act.put]) (hA _ _ _) ?_)
  go_wp2_with (first
    | (at_builtin; refine wpList_copy_runI _ rfl _ _ 83 83 rfl _ _ rfl rfl (hB _ _) ?_))
  go_ret
  exact ⟨rfl, by rw [hW1'.out]⟩
/-- room, at the end -/
theorem insp_end_room (g c vb : Nat) (us : List Value) (u : Value) (W : World) (hroom : us.length + 1 ≤ c) (hc63 : c ≤ 9223372036854775807)
    (hR : RowT 64 W g c) (hvb : W.heap[vb]? = some (.cells #[u] 64 (0, 0))) (h1u : u.oneCell' = true) :
    Calls Try.prog 48 #[.slice (some ⟨g, 0, none⟩) us.length c, .int .i64 us.length, .slice (some ⟨vb, 0, none⟩) 1 1] W fun e w' =>
      e = .returned (.slice (some ⟨g, 0, none⟩) (us.length + 1) c) ∧ w' = W.setCells g us.length [u] := by
  have hcv : W.cell? ⟨vb, 0, none⟩ = some u := by unfold World.cell?; rw [hvb]; rfl
  have hsrc : Src Try.prog 1 83 (.slice (some ⟨vb, 0, none⟩) 1 1) 1 [u] W := Src.ofSlice W und83 ⟨vb, 0, none⟩ 1 1 [u] rfl (fun j v hj => by
    match j with
    | 0 => simp at hj; subst hj; exact hcv
    | j + 1 => simp at hj) (fun v hv => by rw [List.mem_singleton.1 hv]; exact h1u)
  have HR := Lib.hid hR
  clear hR hvb hcv
  generalize us.length = n at *
  go_enter Try.func48, Try.ntmps48
  go_wp2_with (at_builtin; refine wpList_append_room1 _ rfl _ _ 83 83 rfl 64 _ _ und83 info64 g 0 n c rfl _ rfl 1 [u] hsrc hroom (fun j hj => HR.out.th _ (by simp at hj; omega)) (fun j hj => HR.out.fr _) ?_)
  go_ret
  exact ⟨rfl, rfl⟩
/-- no room, at the end (nil among these) -/
theorem insp_end_grow (base : Option Addr) (c vb : Nat) (us : List Value) (u : Value) (W : World) (hnc : us.length ≤ c) (hroom : c < us.length + 1) (hs : us.length ≤ 1000)
    (hvb : W.heap[vb]? = some (.cells #[u] 64 (0, 0))) (h1u : u.oneCell' = true) (hnil : base = none → us = [])
    (hus : ∀ g, base = some g → g.spot = none ∧ g.off = 0 ∧ At W g.block us) :
    Calls Try.prog 48 #[.slice base us.length c, .int .i64 us.length, .slice (some ⟨vb, 0, none⟩) 1 1] W fun e w' =>
      ∃ G, us.length + 1 ≤ G ∧ G ≤ 9223372036854775807 ∧ e = .returned (.slice (some ⟨W.heap.size, 0, none⟩) (us.length + 1) G) ∧ w' = W.drew.alloc (.cells ((us ++ [u]).toArray ++ Builtin.zeroCells (Value.pointer none).cells (G - (us.length + 1))) 64) := by
  have hcv : W.cell? ⟨vb, 0, none⟩ = some u := by unfold World.cell?; rw [hvb]; rfl
  obtain ⟨i0, hi0, hz0, hzs, hzb⟩ := info_parts info64
  have hsrc : Src Try.prog i0.size 83 (.slice (some ⟨vb, 0, none⟩) 1 1) 1 [u] W := by
    rw [hzs]
    exact Src.ofSlice W und83 ⟨vb, 0, none⟩ 1 1 [u] rfl (fun j v hj => by
      match j with
      | 0 => simp at hj; subst hj; exact hcv
      | j + 1 => simp at hj) (fun v hv => by rw [List.mem_singleton.1 hv]; exact h1u)
  have hold : (Builtin.firstCells i0.size us.length (.slice base us.length c)).run Try.prog W.drew = .ok us.toArray W.drew := by
    rw [hzs]
    cases base with
    | none =>
      rw [hnil rfl]
      exact run_firstCells_none W.drew 1 0 0 c
    | some a =>
      obtain ⟨a, o, sp⟩ := a
      obtain ⟨rfl, rfl, h⟩ := hus _ rfl
      exact run_firstCells_some W.drew 1 us.length ⟨a, 0, none⟩ us.length c us (by omega) (fun j v hj => by rw [Addr.add_lit, Nat.zero_add]; exact h j v hj)
  have hrun : ∀ ty, (Builtin.append_ #[83, 83] ty #[.slice base us.length c, .slice (some ⟨vb, 0, none⟩) 1 1]).run Try.prog W = _ := fun ty =>
    run_append_grow_src W 83 83 ty 64 i0 _ und83 hi0 hz0 base us.length c us hold _ 1 [u] hsrc hroom (by omega) (by rw [hzb]; exact growslice_fits hroom (by omega))
  have hge := grownCap_ge W (us.length + 1) c 64
  have hle := grownCap_le_maxLen W (us.length + 1) c 64 (by unfold maxLen; omega)
  unfold maxLen at hle
  generalize grownCap W (us.length + 1) c 64 = G at *
  have HU := Lib.hid hus
  clear hus hold hsrc hvb hcv
  have hnil' : base = none → us.length = 0 := fun h => by rw [hnil h]; rfl
  clear hnil
  have hle2 : G ≤ 9223372036854775807 := by omega
  clear hle
  generalize us.length = n at *
  go_enter Try.func48, Try.ntmps48
  cases base with
  | none =>
    have h0 := hnil' rfl
    subst h0
    go_wp2_with (at_builtin; refine Lib.wpList_append_run _ rfl _ _ _ _ rfl _ _ rfl rfl _ _ (hrun _) ?_)
    go_ret
    exact ⟨G, by omega, by omega, rfl, rfl⟩
  | some a =>
    obtain ⟨ab, ao, asp⟩ := a
    go_wp2_with (at_builtin; refine Lib.wpList_append_run _ rfl _ _ _ _ rfl _ _ rfl rfl _ _ (hrun _) ?_)
    all_goals (go_ret; exact ⟨G, by omega, by omega, rfl, rfl⟩)
end
end Go.Proofs.Ytegljepgncicjaa
