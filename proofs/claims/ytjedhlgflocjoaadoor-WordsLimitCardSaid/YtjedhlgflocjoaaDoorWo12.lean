/- Words: the reference's ascending lists. -/
import Derived.Test.YtjedhlgflocjoaaDoorWo11
import Derived.Maps.AppendAt
import Derived.Laws.Cover1
namespace Wd
theorem take_le_asc {l : List Str} {x : Str} {k : Nat} (hk : k ≤ l.length) (ha : Asc l) (h1 : ∀ j (h : j < l.length), k ≤ j → x < l[j]) (h2 : ∀ h : k - 1 < l.length, 0 < k → l[k - 1] ≤ x) (hx : x ∉ l) : ins l x = l.take k ++ [x] ++ l.drop k := by
  unfold ins
  rw [if_neg hx]
  have hd : ∀ y ∈ l.drop k, (decide (y ≤ x)) = false := by
    intro y hy
    obtain ⟨j, hj, e⟩ := List.getElem_of_mem hy
    have hj' : j < l.length - k := by simpa using hj
    have := h1 (k + j) (by omega) (by omega)
    rw [List.getElem_drop] at e
    rw [e] at this
    rw [decide_eq_false_iff_not]
    intro h
    exact h this
  have ht : ∀ y ∈ l.take k, (decide (y ≤ x)) = true := by
    intro y hy
    obtain ⟨j, hj, e⟩ := List.getElem_of_mem hy
    have hj' : j < k := by have : j < min k l.length := by simpa using hj
                           omega
    have hl := h2 (by omega) (by omega)
    rw [List.getElem_take] at e
    rw [decide_eq_true_eq, ← e]
    by_cases hjk : j = k - 1
    · subst hjk; exact hl
    · have := (List.pairwise_iff_getElem.1 ha) j (k - 1) (by omega) (by omega) (by omega)
      intro hlt
      exact hl (str_trans hlt this)
  have e := List.take_append_drop k l
  have e1 : l.takeWhile (fun y => decide (y ≤ x)) = l.take k := by
    conv => lhs; rw [← e]
    rw [List.takeWhile_append_of_pos ht]
    have : (l.drop k).takeWhile (fun y => decide (y ≤ x)) = [] := by
      cases hdk : l.drop k with
      | nil => rfl
      | cons y t =>
        rw [List.takeWhile_cons_of_neg]
        rw [hd y (by rw [hdk]; exact List.mem_cons_self ..)]
        simp
    rw [this, List.append_nil]
  have e2 : l.dropWhile (fun y => decide (y ≤ x)) = l.drop k := by
    have h := @List.takeWhile_append_dropWhile _ (fun y => decide (y ≤ x)) l
    rw [e1] at h
    conv at h => rhs; rw [← e]
    exact List.append_cancel_left h
  rw [e1, e2]
end Wd
namespace Go.Proofs.YtjedhlgflocjoaaDoor
open Go.ChangeShapes Go.WideShapes Go.ChangeAt Go.RowKit Go.Sort
set_option linter.unusedVariables false
set_option linter.unusedSimpArgs false
/-- the source of an append: strings that can be read -/
def SrcAt (w : World) (sv : Value) (xs : List Wd.Str) : Prop :=
  (∃ c, sv = .slice none 0 c ∧ xs = []) ∨ ∃ ad c, sv = .slice (some ad) xs.length c ∧ ∀ j (h : j < xs.length), w.cell? (ad.add j) = some (.string (Wd.bs xs[j]))
def AppSideM (a : Act) (x y : Nat) (v sv : Value) (w : World) (n m B : Nat) : Prop := a.eval (.tmp x) = v ∧ a.eval (.tmp y) = sv ∧ n ≤ 1000000 ∧ m ≤ 1000000 ∧ B ≤ w.heap.size
theorem wpList_appM {ops : Array Oper} {rest : List Oper} {Q : Exit → Act → World → Prop} (x y : Nat) (B : Nat) (v sv : Value) (ls xs : List Wd.Str) (d : Option Nat) (pos : String) (af) (a : Act) (w : World)
    (hown : w.ownsRow B 9 1 v ls.length (strs ls)) (hsrc : SrcAt w sv xs) (hside : AppSideM a x y v sv w ls.length xs.length B)
    (h : ∀ v' w', w'.ownsRow B 9 1 v' (ls ++ xs).length (strs (ls ++ xs)) → w.grownBy w' v.ownBlock → (∀ k, v'.ownBlock = some k → v.ownBlock = some k ∨ w.heap.size ≤ k) → wpList Tryd.prog ops Q rest (a.put d v') w') :
    wpList Tryd.prog ops Q ({ dst := d, op := Op.call { callee := .builtin .append, args := #[.tmp x, .tmp y], argTypes := #[24, 24] }, type := 24, pos := pos, after := af, guard := none } :: rest) a w := by
  obtain ⟨hx, hy, hn, hm, hB⟩ := hside
  obtain ⟨i9, hi9, hz0, hz1, hz2⟩ := info_parts info9
  have key : ∃ v' w', (Builtin.append_ #[24, 24] 24 #[v, sv]).run Tryd.prog w = .ok v' w' ∧ w'.ownsRow B 9 1 v' (ls.length + xs.length) (strs ls ++ strs xs) ∧ w.grownBy w' v.ownBlock ∧ (∀ k, v'.ownBlock = some k → v.ownBlock = some k ∨ w.heap.size ≤ k) := by
    rcases hsrc with ⟨c, rfl, rfl⟩ | ⟨ad, c, rfl, hc⟩
    · refine ⟨v, w, ?_, by simpa [strs] using hown, World.grownBy.refl w _, fun k hk => .inl hk⟩
      rcases hown.2 with ⟨rfl, h0⟩ | ⟨g, cap, cur, rfl, _, _, hnc, _⟩
      · simp [Builtin.append_, run_underlying Tryd.underlying24, sizeOf, typeInfo, hi9, Builtin.lenOf, Builtin.firstCells]
      · simp [Builtin.append_, run_underlying Tryd.underlying24, sizeOf, typeInfo, hi9, Builtin.lenOf, Builtin.firstCells, hnc, storeCells]
    · have hcells : ∀ j u, (strs xs)[j]? = some u → w.cell? (ad.add j) = some u := by
        intro j u hu
        have hj : j < xs.length := by have := (List.getElem?_eq_some_iff.1 hu).1; simpa [strs] using this
        rw [hc j hj]
        simp [strs, hj] at hu
        rw [← hu]
      have h1 : ∀ u ∈ strs xs, u.oneCell' = true := fun u hu => by
        simp only [strs, List.mem_map] at hu
        obtain ⟨y, _, rfl⟩ := hu
        rfl
      obtain ⟨v', w', hrun, h2, h3, _, h5⟩ := run_append_own_at (P := Tryd.prog) w B 24 24 9 i9 (.string ⟨#[]⟩) 1 16 Tryd.underlying24 hi9 hz0 hz1 hz2 rfl (by decide) v ls.length (strs ls) hown ad xs.length c (strs xs) (by simp [strs]) hcells h1 (by unfold maxLen; omega) (by omega) hB
      refine ⟨v', w', hrun, h2, h3, fun k hk => ?_⟩
      rcases h5 with h5 | h5
      · exact .inl (by rw [← h5, hk])
      · rw [h5] at hk; injection hk with hk; exact .inr (by omega)
  obtain ⟨v', w', hr, h2, h3, h4⟩ := key
  refine wpList_plain rfl fun K hK => ?_
  unfold Oper.wp execOp
  simp only [resolve, invoke, builtin, Sem.run_bind, Sem.run_pure, Result.andThen_ok, List.map_toArray, List.map_cons, List.map_nil, hx, hy, hr]
  refine hK _ _ (h v' w' ?_ h3 h4)
  rw [List.length_append, show strs (ls ++ xs) = strs ls ++ strs xs by simp [strs]]
  exact h2
end Go.Proofs.YtjedhlgflocjoaaDoor
