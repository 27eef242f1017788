/- Btree: slices.Insert of one node, where there is no room; all cases. -/
import Derived.Test.YtegljepgncicjaaBu2
namespace Go.Proofs.Ytegljepgncicjaa
open Go.ChangeShapes Go.WideShapes Go.ChangeAt Go.RowKit Go.Deep Go.Lib Go.Shelf
set_option linter.unusedVariables false
set_option linter.unusedSimpArgs false
section
set_option maxHeartbeats 1600000
set_option maxRecDepth 100000
/-- no room, not at the end -/
theorem insp_grow (g c i vb : Nat) (us : List Value) (u : Value) (W : World) (hi : i < us.length) (hnc : us.length ≤ c) (hroom : c < us.length + 1) (hs : us.length ≤ 1000)
    (hR : RowT 64 W g c) (hus : At W g us) (hvb : W.heap[vb]? = some (.cells #[u] 64 (0, 0))) (h1 : ∀ v ∈ us, v.oneCell' = true) (h1u : u.oneCell' = true) :
    Calls Try.prog 48 #[.slice (some ⟨g, 0, none⟩) us.length c, .int .i64 i, .slice (some ⟨vb, 0, none⟩) 1 1] W fun e w' =>
      ∃ G arr, us.length + 1 ≤ G ∧ G ≤ 9223372036854775807 ∧ arr.size = G ∧ (∀ j, j < i → arr[j]? = us[j]?) ∧ e = .returned (.slice (some ⟨W.heap.size, 0, none⟩) (us.length + 1) G) ∧
        w' = ((((W.alloc (.cells arr 64)).drew).setCells W.heap.size i [u]).drew).setCells W.heap.size (i + 1) (us.drop i) := by
  obtain ⟨i0, hi0, hz0, hzs, hzb⟩ := info_parts info64
  have hcv : W.cell? ⟨vb, 0, none⟩ = some u := by unfold World.cell?; rw [hvb]; rfl
  have hgw : g < W.heap.size := hR.lt
  have hvw : vb < W.heap.size := (Array.getElem?_eq_some_iff.1 hvb).1
  have hdl : (us.drop i).length = us.length - i := List.length_drop
  have htl : (us.take i).length = i := by rw [List.length_take]; omega
  have hold : (Builtin.firstCells i0.size i (.slice (some ⟨g, 0, none⟩) i c)).run Try.prog W.drew = .ok (us.take i).toArray W.drew := by
    rw [hzs]
    exact run_firstCells_some W.drew 1 i ⟨g, 0, none⟩ i c (us.take i) (by omega) (fun j v hj => by
      rw [Addr.add_lit, Nat.zero_add]
      rw [List.getElem?_take] at hj
      split at hj
      · exact hus j v hj
      · cases hj)
  have hkk : (us.length : Int) + 1 - (i : Int) = ((us.length + 1 - i : Nat) : Int) := by omega
  have hik : i + (us.length + 1 - i) = us.length + 1 := by omega
  obtain ⟨G, hG⟩ : ∃ G, G = grownCap W (us.length + 1) c 64 := ⟨_, rfl⟩
  obtain ⟨arr, harr⟩ : ∃ arr : Array Value, arr = (us.take i).toArray ++ Builtin.zeroCells (Value.pointer none).cells (us.length + 1 - i) ++ Builtin.zeroCells (Value.pointer none).cells (G - (us.length + 1)) := ⟨_, rfl⟩
  have hge : us.length + 1 ≤ G := by rw [hG]; exact grownCap_ge W _ c 64
  have hle : G ≤ 9223372036854775807 := by
    have := grownCap_le_maxLen W (us.length + 1) c 64 (by unfold maxLen; omega)
    rw [← hG] at this
    unfold maxLen at this
    omega
  have hrz : ∀ ty, (Builtin.append_ #[83, 3] ty #[.slice (some ⟨g, 0, none⟩) i c, .int .i64 ((us.length : Int) + 1 - (i : Int))]).run Try.prog W = .ok (.slice (some ⟨W.heap.size, 0, none⟩) (us.length + 1) G) (W.drew.alloc (.cells arr 64)) := fun ty => by
    have h := Lib.run_append_grow_zeros W 83 3 ty 64 i0 _ .i64 .i64 und83 Try.underlying3 hi0 hz0 (some ⟨g, 0, none⟩) i c (us.take i) hold (us.length + 1 - i) (by omega) (by omega) (by omega) (by omega) (by rw [hzb]; omega) (by rw [hzb, hik]; exact growslice_fits hroom (by omega))
    rw [hik] at h
    rw [hkk, h, harr, hG]
  have hsz : arr.size = G := by
    rw [harr]
    simp [Builtin.zeroCells, Value.cells]
    omega
  have hfirst : ∀ j, j < i → arr[j]? = us[j]? := fun j hj => by
    rw [harr, Array.append_assoc, Array.getElem?_append, if_pos (by rw [List.size_toArray, htl]; exact hj), List.getElem?_toArray, List.getElem?_take, if_pos hj]
  clear harr hG
  have hN : RowT 64 (W.drew.alloc (.cells arr 64)) W.heap.size G := rowV_new 64 W.drew arr G hsz
  obtain ⟨W1, hW1⟩ : ∃ W1, W1 = W.drew.alloc (.cells arr 64) := ⟨_, rfl⟩
  rw [← hW1] at hrz hN
  have hold1 : ∀ b j v, b < W.heap.size → W.cell? ⟨b, j, none⟩ = some v → W1.cell? ⟨b, j, none⟩ = some v := fun b j v hb h => by rw [hW1]; exact ca (W := W.drew) hb h
  have hA : ∀ (V : World), (∀ x, V.cell? x = W1.cell? x) → (∀ x, V.frozen? x = W1.frozen? x) → ∀ ty dc, (Builtin.copy_ #[83, 83] ty #[.slice (some ⟨W.heap.size, i, none⟩) (us.length + 1 - i) dc, .slice (some ⟨vb, 0, none⟩) 1 1]).run Try.prog V = .ok (goInt [u].length) (V.setCells W.heap.size i [u]) := fun V hVc hVf ty dc =>
    run_copy_cells V 83 83 ty 64 W.heap.size i _ dc ⟨vb, 0, none⟩ 1 1 [u] und83 size64 (by simp only [List.length_cons, List.length_nil, Nat.min_def]; split <;> omega)
      (fun j v hj => by
        match j with
        | 0 => simp at hj; subst hj; rw [hVc]; exact hold1 vb 0 _ hvw hcv
        | j + 1 => simp at hj)
      (fun j hj => by rw [hVc]; exact hN.th _ (by simp at hj; omega)) (fun j hj => by rw [hVf]; exact hN.fr _) (fun v hv => by rw [List.mem_singleton.1 hv]; exact h1u)
  have hN2 := hN.set i [u]
  have hgN : g ≠ W.heap.size := by omega
  have hB : ∀ (V : World), (∀ x, V.cell? x = (W1.setCells W.heap.size i [u]).cell? x) → (∀ x, V.frozen? x = (W1.setCells W.heap.size i [u]).frozen? x) → ∀ ty dc sc, (Builtin.copy_ #[83, 83] ty #[.slice (some ⟨W.heap.size, i + 1, none⟩) (us.length - i) dc, .slice (some ⟨g, i, none⟩) (us.length - i) sc]).run Try.prog V = .ok (goInt (us.drop i).length) (V.setCells W.heap.size (i + 1) (us.drop i)) := fun V hVc hVf ty dc sc =>
    run_copy_cells V 83 83 ty 64 W.heap.size (i + 1) _ dc ⟨g, i, none⟩ _ sc (us.drop i) und83 size64 (by rw [hdl]; simp only [Nat.min_def]; split <;> omega)
      (fun j v hj => by
        rw [Addr.add_lit, hVc, World.cell?_setCells_out _ _ _ _ _ (fun h _ => absurd h hgN)]
        exact hold1 g (i + j) _ hgw (hus (i + j) v (by rwa [List.getElem?_drop] at hj)))
      (fun j hj => by rw [hVc]; exact hN2.th _ (by rw [hdl] at hj; omega)) (fun j hj => by rw [hVf]; exact hN2.fr _) (fun v hv => h1 v (List.mem_of_mem_drop hv))
  subst hW1
  have hE1 : ∀ x, ((W.alloc (.cells arr 64)).drew).cell? x = (W.drew.alloc (.cells arr 64)).cell? x := fun x => rfl
  have hE2 : ∀ x, ((W.alloc (.cells arr 64)).drew).frozen? x = (W.drew.alloc (.cells arr 64)).frozen? x := fun x => rfl
  have hF1 : ∀ x, (((W.alloc (.cells arr 64)).drew.setCells W.heap.size i [u]).drew).cell? x = ((W.drew.alloc (.cells arr 64)).setCells W.heap.size i [u]).cell? x := fun x => rfl
  have hF2 : ∀ x, (((W.alloc (.cells arr 64)).drew.setCells W.heap.size i [u]).drew).frozen? x = ((W.drew.alloc (.cells arr 64)).setCells W.heap.size i [u]).frozen? x := fun x => rfl
  have HH := Lib.hid (And.intro hge (And.intro hle (And.intro hsz hfirst)))
  have hz2 : ¬ ((i : Int) = (us.length : Int)) := by omega
  have hz3 : (c : Int) < (us.length : Int) + 1 := by omega
  have mixed : Try.prog.follows .mixedOrders = true := by kernel_rfl
  have hw1 : IntKind.i64.wrap ((i : Int) + 1) = (i : Int) + 1 := by rw [IntKind.wrap_i64]; omega
  have hx1 : (0 : Int) ≤ (i : Int) + 1 := by omega
  have htn : ((i : Int) + 1).toNat = i + 1 := by omega
  have hin : i ≤ us.length := by omega
  have hx3 : (i : Int) ≤ (us.length : Int) := by omega
  have hGi : ¬ (G = i) := by omega
  have hGim : ¬ (G = i + 1) := by omega
  have hci : ¬ (c = i) := by omega
  clear hkk hik hold hfirst hsz hR hus hvb hcv hN hN2 hold1
  generalize us.length = n at *
  go_enter Try.func48, Try.ntmps48
  go_wp2_with (first
    | (at_builtin; refine Lib.wpList_append_run _ rfl _ _ _ _ rfl _ _ rfl rfl _ _ (hrz _) ?_)
    | (at_builtin; refine wpList_copy_runI _ rfl _ _ 83 83 rfl _ _ rfl rfl (hA _ hE1 hE2 _ _) ?_)
    | (at_builtin; refine wpList_copy_runI _ rfl _ _ 83 83 rfl _ _ rfl rfl (hB _ (fun _ => rfl) (fun _ => rfl) _ _ _) ?_))
  go_region_law_o (refine step_copy_runI rfl _ _ 83 83 rfl (.slice (some ⟨W.heap.size, i + 1, none⟩) (n - i) (G - (i + 1))) (.slice (some ⟨g, i, none⟩) (n - i) (c - i)) (by simp [Act.eval, Act.put]) (by simp [Act.eval, Act.put]) (hB _ hF1 hF2 3 (G - (i + 1)) (c - i)) ?_)
  go_wp2
  go_ret
  exact ⟨G, arr, HH.out.1, HH.out.2.1, HH.out.2.2.1, HH.out.2.2.2, rfl, rfl⟩
end
end Go.Proofs.Ytegljepgncicjaa
