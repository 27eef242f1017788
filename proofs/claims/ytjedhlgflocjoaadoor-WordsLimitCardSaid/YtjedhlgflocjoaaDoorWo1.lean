/- Words: ascending lists of strings: sorted and compacted, or inserted one by one. No program in sight. -/
import Derived.Test.YtjedhlgflocjoaaDoorWo0
import Derived.Lib.SlicesCompact
import Derived.Sort.Walk0
namespace Wd
theorem str_irrefl (a : Str) : ¬ a < a := List.lt_irrefl a
theorem str_trans {a b c : Str} (h : a < b) (k : b < c) : a < c := List.lt_trans h k
theorem str_tri (a b : Str) : a < b ∨ a = b ∨ b < a := by
  rcases Std.Total.total (r := fun a b : Str => a ≤ b) a b with h | h
  · by_cases e : b < a
    · exact .inr (.inr e)
    · by_cases e2 : a < b
      · exact .inl e2
      · exact .inr (.inl (List.le_antisymm h (by exact e2)))
  · by_cases e : b < a
    · exact .inr (.inr e)
    · by_cases e2 : a < b
      · exact .inl e2
      · exact .inr (.inl (List.le_antisymm e e2))
theorem str_le {a b : Str} : a ≤ b ↔ ¬ b < a := Iff.rfl
def Asc (l : List Str) : Prop := l.Pairwise (· < ·)
theorem asc_eq : ∀ {l m : List Str}, Asc l → Asc m → (∀ x, x ∈ l ↔ x ∈ m) → l = m
  | [], [], _, _, _ => rfl
  | [], y :: m, _, _, h => absurd ((h y).2 (by simp)) (by simp)
  | x :: l, [], _, _, h => absurd ((h x).1 (by simp)) (by simp)
  | x :: l, y :: m, hl, hm, h => by
    have hl' := List.pairwise_cons.1 hl
    have hm' := List.pairwise_cons.1 hm
    have e : x = y := by
      rcases (List.mem_cons.1 ((h x).1 (by simp))) with e | e
      · exact e
      · rcases (List.mem_cons.1 ((h y).2 (by simp))) with e2 | e2
        · exact e2.symm
        · exact absurd (str_trans (hm'.1 x e) (hl'.1 y e2)) (str_irrefl _)
    subst e
    rw [asc_eq hl'.2 hm'.2]
    intro z
    constructor
    · intro hz
      rcases List.mem_cons.1 ((h z).1 (List.mem_cons_of_mem _ hz)) with e | e
      · subst e; exact absurd (hl'.1 z hz) (str_irrefl _)
      · exact e
    · intro hz
      rcases List.mem_cons.1 ((h z).2 (List.mem_cons_of_mem _ hz)) with e | e
      · subst e; exact absurd (hm'.1 z hz) (str_irrefl _)
      · exact e
theorem mem_ins (l : List Str) (x y : Str) : y ∈ ins l x ↔ y ∈ l ∨ y = x := by
  unfold ins
  split
  · rename_i h
    constructor
    · exact fun h => Or.inl h
    · rintro (h | rfl) <;> assumption
  · have e : y ∈ l ↔ y ∈ l.takeWhile (fun y => decide (y ≤ x)) ∨ y ∈ l.dropWhile (fun y => decide (y ≤ x)) := by
      rw [← List.mem_append, List.takeWhile_append_dropWhile]
    rw [e]
    simp only [List.mem_append, List.mem_singleton]
    exact ⟨fun h => by rcases h with (h | h) | h <;> simp [h], fun h => by rcases h with (h | h) | h <;> simp [h]⟩
theorem mem_tw (p : Str → Bool) : ∀ (l : List Str) (y : Str), y ∈ l.takeWhile p → p y = true
  | [], _, h => by simp at h
  | z :: l, y, h => by
    by_cases hz : p z = true
    · rw [List.takeWhile_cons_of_pos hz] at h
      rcases List.mem_cons.1 h with rfl | h
      · exact hz
      · exact mem_tw p l y h
    · rw [List.takeWhile_cons_of_neg hz] at h
      simp at h
theorem drop_gt (x : Str) : ∀ {l : List Str}, Asc l → ∀ y ∈ l.dropWhile (fun y => decide (y ≤ x)), x < y
  | [], _, y, hy => by simp at hy
  | z :: l, h, y, hy => by
    have h' := List.pairwise_cons.1 h
    by_cases hz : z ≤ x
    · rw [List.dropWhile_cons_of_pos (by simpa using hz)] at hy
      exact drop_gt x h'.2 y hy
    · rw [List.dropWhile_cons_of_neg (by simpa using hz)] at hy
      have hx : x < z := by
        rcases str_tri x z with h | h | h
        · exact h
        · subst h; exact absurd (fun h => str_irrefl _ h) hz
        · exact absurd (fun k => str_irrefl _ (str_trans h k)) hz
      rcases List.mem_cons.1 hy with rfl | e
      · exact hx
      · exact str_trans hx (h'.1 y e)
theorem asc_ins {l : List Str} (h : Asc l) (x : Str) : Asc (ins l x) := by
  unfold ins
  split
  · exact h
  · rename_i hx
    have e := @List.takeWhile_append_dropWhile _ (fun y => decide (y ≤ x)) l
    have h1 : Asc (l.takeWhile (fun y => decide (y ≤ x))) := h.sublist (List.takeWhile_sublist _)
    have h2 : Asc (l.dropWhile (fun y => decide (y ≤ x))) := h.sublist (List.dropWhile_sublist _)
    have h3 : ∀ y ∈ l.takeWhile (fun y => decide (y ≤ x)), y < x := by
      intro y hy
      have hle : y ≤ x := by simpa using mem_tw _ _ _ hy
      rcases str_tri y x with h | h | h
      · exact h
      · subst h; exact absurd ((List.takeWhile_sublist _).subset hy) hx
      · exact absurd h hle
    unfold Asc
    rw [List.append_assoc, List.pairwise_append, List.pairwise_append]
    refine ⟨h1, ⟨List.pairwise_singleton _ _, h2, fun a ha b hb => ?_⟩, fun a ha b hb => ?_⟩
    · simp at ha; subst ha; exact drop_gt _ h b hb
    · rcases List.mem_append.1 hb with hb | hb
      · simp at hb; subst hb; exact h3 a ha
      · exact str_trans (h3 a ha) (drop_gt _ h b hb)
theorem asc_addAll : ∀ (xs : List Str) {l : List Str}, Asc l → Asc (addAll l xs)
  | [], _, h => h
  | x :: xs, _, h => asc_addAll xs (asc_ins h x)
theorem mem_addAll : ∀ (xs : List Str) (l : List Str) (y : Str), y ∈ addAll l xs ↔ y ∈ l ∨ y ∈ xs
  | [], l, y => by simp [addAll]
  | x :: xs, l, y => by
    have := mem_addAll xs (ins l x) y
    show y ∈ addAll (ins l x) xs ↔ _
    rw [this, mem_ins]
    simp [or_assoc]
theorem asc_uniq (xs : List Str) : Asc (uniq xs) := asc_addAll xs List.Pairwise.nil
theorem mem_uniq (xs : List Str) (y : Str) : y ∈ uniq xs ↔ y ∈ xs := by unfold uniq; rw [mem_addAll]; simp
theorem uniq_eq {xs m : List Str} (h : Asc m) (hm : ∀ x, x ∈ m ↔ x ∈ xs) : uniq xs = m := asc_eq (asc_uniq xs) h (fun x => by rw [mem_uniq, hm])
theorem uniq_congr {xs ys : List Str} (h : ∀ x, x ∈ xs ↔ x ∈ ys) : uniq xs = uniq ys := uniq_eq (asc_uniq ys) (fun x => by rw [mem_uniq, h])
/-- compact of a sorted list -/
def cpt : List Str → List Str
  | [] => []
  | [x] => [x]
  | x :: y :: l => if x = y then cpt (y :: l) else x :: cpt (y :: l)
theorem mem_cpt : ∀ (l : List Str) (y : Str), y ∈ cpt l ↔ y ∈ l
  | [], y => by simp [cpt]
  | [x], y => by simp [cpt]
  | x :: z :: l, y => by
    have := mem_cpt (z :: l) y
    unfold cpt
    split
    · rename_i e; subst e; rw [this]; simp
    · rw [List.mem_cons, this]; simp
theorem asc_cpt : ∀ (l : List Str), l.Pairwise (· ≤ ·) → Asc (cpt l)
  | [], _ => List.Pairwise.nil
  | [x], _ => List.pairwise_singleton _ _
  | x :: z :: l, h => by
    have h' := List.pairwise_cons.1 h
    have ih := asc_cpt (z :: l) h'.2
    unfold cpt
    split
    · exact ih
    · rename_i hne
      refine List.pairwise_cons.2 ⟨fun y hy => ?_, ih⟩
      have hy' := (mem_cpt _ _).1 hy
      have hxz : x < z := by
        have := h'.1 z (by simp)
        rcases str_tri x z with h | h | h
        · exact h
        · exact absurd h hne
        · exact absurd h this
      rcases List.mem_cons.1 hy' with rfl | hy'
      · exact hxz
      · have hz := (List.pairwise_cons.1 h'.2).1 y hy'
        rcases str_tri z y with k | k | k
        · exact str_trans hxz k
        · subst k; exact hxz
        · exact absurd k hz
theorem cpt_head : ∀ (x : Str) (b : List Str), cpt (x :: b) = x :: (cpt (x :: b)).tail
  | x, [] => rfl
  | x, y :: b => by
    have := cpt_head y b
    unfold cpt
    by_cases e : x = y
    · subst e; rw [if_pos rfl]; exact this
    · rw [if_neg e]; rfl
open Go.Lib in
theorem compact_from (a b : List Str) (ha : a ≠ []) : (((List.range b.length).map (a.length + ·)).filter (keeps (a ++ b).toArray)).map ((a ++ b).toArray[·]!) = (cpt (a.getLast ha :: b)).tail := by
  induction b generalizing a with
  | nil => simp [cpt]
  | cons x b ih =>
    have hpos : 0 < a.length := List.length_pos_iff.2 ha
    have hx : (a ++ x :: b).toArray[a.length]! = x := by simp [getElem!_pos]
    have hl : (a ++ x :: b).toArray[a.length - 1]! = a.getLast ha := by
      have : a.length - 1 < a.length := by omega
      rw [getElem!_pos _ _ (by simp; omega), List.getLast_eq_getElem]
      simp [List.getElem_append_left this]
    have h2 := ih (a ++ [x]) (by simp)
    have e1 : (List.range (x :: b).length).map (a.length + ·) = a.length :: (List.range b.length).map ((a ++ [x]).length + ·) := by
      rw [List.length_cons, List.range_succ_eq_map, List.map_cons, List.map_map]
      congr 1
      apply List.map_congr_left
      intro i _
      simp
      omega
    have e2 : (a ++ [x]) ++ b = a ++ x :: b := by simp
    rw [e2] at h2
    have e3 : (a ++ [x]).getLast (by simp) = x := by simp
    rw [e3] at h2
    rw [e1, List.filter_cons]
    unfold cpt
    by_cases e : a.getLast ha = x
    · have : keeps (a ++ x :: b).toArray a.length = false := keeps_neg hpos (by rw [hx, hl, e])
      rw [this, if_pos e, ← h2]
      rfl
    · have : keeps (a ++ x :: b).toArray a.length = true := keeps_pos (by rw [hx, hl]; exact fun h => e h.symm)
      rw [this, if_neg e, if_pos rfl, List.map_cons, hx, h2, List.tail_cons, ← cpt_head]
open Go.Lib in
theorem compact_cpt (l : List Str) : compact l = cpt l := by
  cases l with
  | nil => rfl
  | cons x b =>
    have h := compact_from [x] b (by simp)
    simp only [List.getLast_singleton, List.singleton_append, List.length_singleton] at h
    rw [cpt_head, ← h]
    unfold compact compactUpTo
    rw [List.length_cons, List.range_succ_eq_map, List.filter_cons]
    rw [show keeps (x :: b).toArray 0 = true from keeps_lt_one _ 0 (by omega), if_pos rfl, List.map_cons]
    congr 1
    congr 2
    apply List.map_congr_left
    intro i _
    omega
/-- sorted, then compacted: the ascending list of the same strings -/
theorem sort_compact (xs : List Str) : Go.Lib.compact (xs.mergeSort fun x y => decide (x ≤ y)) = uniq xs := by
  rw [compact_cpt]
  refine (uniq_eq (asc_cpt _ ?_) fun x => ?_).symm
  · have := List.pairwise_mergeSort (le := fun x y : Str => decide (x ≤ y)) (fun a b c h1 h2 => ?_) (fun a b => ?_) xs
    · exact this.imp (fun h => by simpa using h)
    · simp only [decide_eq_true_eq] at *
      exact List.le_trans h1 h2
    · simp only [Bool.or_eq_true, decide_eq_true_eq]
      exact Std.Total.total a b
  · rw [mem_cpt]
    exact (List.mergeSort_perm xs _).mem_iff
end Wd
