/- Words: texts with a blank between them; a word is its own only word; a further negated word. No program in sight. -/
import Derived.Test.YtjedhlgflocjoaaDoorWo22
namespace Wd
theorem wordsG_cat (c : UInt8) (b : Str) (hc : isL c = false) : ∀ (a cur : Str) (m pm : Bool), wordsG cur m pm (a ++ c :: b) = wordsG cur m pm a ++ wordsG [] false (c == 45) b
  | [], cur, m, pm => by
    show wordsG cur m pm (c :: b) = wordsG cur m pm [] ++ _
    conv => lhs; unfold wordsG
    conv => rhs; lhs; unfold wordsG
    rw [hc]
    rfl
  | d :: a, cur, m, pm => by
    show wordsG cur m pm (d :: (a ++ c :: b)) = wordsG cur m pm (d :: a) ++ _
    conv => lhs; unfold wordsG
    conv => rhs; lhs; unfold wordsG
    cases hd : isL d with
    | true => exact wordsG_cat c b hc a _ _ _
    | false =>
      show _ ++ wordsG [] false (d == 45) (a ++ c :: b) = (_ ++ wordsG [] false (d == 45) a) ++ _
      rw [wordsG_cat c b hc a, List.append_assoc]
theorem isL_blank : isL 32 = false := rfl
theorem isL_minus : isL 45 = false := rfl
theorem tokens_cat (a b : Str) : tokens (a ++ 32 :: b) = tokens a ++ tokens b := by
  unfold tokens words
  rw [wordsG_cat 32 b isL_blank, List.map_append]
  rfl
/-- the words' texts do not depend on the flags -/
theorem wordsG_flags : ∀ (s cur : Str) (m m' pm pm' : Bool), (wordsG cur m pm s).map (·.1) = (wordsG cur m' pm' s).map (·.1)
  | [], cur, m, m', pm, pm' => by
    unfold wordsG
    split <;> rfl
  | c :: t, cur, m, m', pm, pm' => by
    unfold wordsG
    cases hc : isL c with
    | true => exact wordsG_flags t _ _ _ _ _
    | false =>
      show List.map _ (_ ++ wordsG [] false (c == 45) t) = List.map _ (_ ++ wordsG [] false (c == 45) t)
      rw [List.map_append, List.map_append]
      congr 1
      split <;> rfl
theorem wordsG_word : ∀ (s cur : Str) (m pm : Bool), (∀ c ∈ cur, isL c = true) → ∀ y ∈ wordsG cur m pm s, ∃ z, z ≠ [] ∧ (∀ c ∈ z, isL c = true) ∧ y.1 = lower z
  | [], cur, m, pm, h, y, hy => by
    unfold wordsG at hy
    split at hy
    · cases hy
    · rename_i hne
      rw [List.mem_singleton.1 hy]
      exact ⟨cur, hne, h, rfl⟩
  | c :: t, cur, m, pm, h, y, hy => by
    unfold wordsG at hy
    cases hc : isL c with
    | true =>
      rw [hc] at hy
      exact wordsG_word t _ _ _ (fun d hd => by
        rcases List.mem_append.1 hd with hd | hd
        · exact h d hd
        · rw [List.mem_singleton.1 hd]; exact hc) y hy
    | false =>
      rw [hc] at hy
      rcases List.mem_append.1 hy with hy | hy
      · split at hy
        · cases hy
        · rename_i hne
          rw [List.mem_singleton.1 hy]
          exact ⟨cur, hne, h, rfl⟩
      · exact wordsG_word t _ _ _ (fun d hd => by cases hd) y hy
theorem wordsG_all : ∀ (z cur : Str) (m pm : Bool), (∀ c ∈ z, isL c = true) → cur ≠ [] → wordsG cur m pm z = [(lower (cur ++ z), m)]
  | [], cur, m, pm, h, hne => by
    unfold wordsG
    rw [if_neg hne, List.append_nil]
  | c :: t, cur, m, pm, h, hne => by
    unfold wordsG
    rw [h c (List.mem_cons_self ..)]
    simp only [if_true]
    rw [if_neg hne, wordsG_all t _ m _ (fun d hd => h d (List.mem_cons_of_mem _ hd)) (by simp)]
    simp
theorem low_facts (b : UInt8) (h : isL b = true) : isL (low b) = true ∧ low (low b) = low b := by
  unfold low isU
  by_cases h1 : 65 ≤ b.toNat ∧ b.toNat ≤ 90
  · rw [if_pos (by simp [h1.1, h1.2])]
    have e : (b + 32).toNat = b.toNat + 32 := by simp; omega
    refine ⟨?_, ?_⟩
    · unfold isL
      rw [e]
      exact decide_eq_true (.inl ⟨by omega, by omega⟩)
    · rw [if_neg (by rw [e]; simp; omega)]
  · have hn : (decide (65 ≤ b.toNat ∧ b.toNat ≤ 90)) = false := decide_eq_false h1
    rw [hn]
    simp only [Bool.false_eq_true, if_false]
    rw [hn]
    exact ⟨h, rfl⟩
theorem lower_lower (z : Str) (h : ∀ c ∈ z, isL c = true) : lower (lower z) = lower z ∧ ∀ c ∈ lower z, isL c = true := by
  unfold lower
  refine ⟨?_, fun c hc => ?_⟩
  · rw [List.map_map]
    exact List.map_congr_left fun c hc => (low_facts c (h c hc)).2
  · obtain ⟨d, hd, rfl⟩ := List.mem_map.1 hc
    exact (low_facts d (h d hd)).1
theorem words_one (z : Str) (pm : Bool) (hne : z ≠ []) (h : ∀ c ∈ z, isL c = true) : wordsG [] false pm z = [(lower z, pm)] := by
  cases z with
  | nil => exact absurd rfl hne
  | cons c t =>
    unfold wordsG
    rw [h c (List.mem_cons_self ..)]
    simp only [if_true]
    rw [wordsG_all t _ _ _ (fun d hd => h d (List.mem_cons_of_mem _ hd)) (by simp)]
    rfl
theorem tokens_own (a x : Str) (hx : x ∈ tokens a) : tokens x = [x] := by
  unfold tokens at hx
  obtain ⟨y, hy, rfl⟩ := List.mem_map.1 hx
  obtain ⟨z, hne, hz, e⟩ := wordsG_word a [] false false (fun c hc => by cases hc) y hy
  rw [e]
  obtain ⟨h1, h2⟩ := lower_lower z hz
  unfold tokens words
  rw [words_one (lower z) false (by cases z with | nil => exact absurd rfl hne | cons _ _ => simp [lower]) h2, h1]
  rfl
/-- a text that is its own only word, behind a minus sign -/
theorem words_minus (x : Str) (h : tokens x = [x]) : wordsG [] false true x = [(x, true)] := by
  have hx : x ∈ tokens x := by rw [h]; exact List.mem_singleton.2 rfl
  unfold tokens at hx
  obtain ⟨y, hy, e0⟩ := List.mem_map.1 hx
  obtain ⟨z, hne, hz, e⟩ := wordsG_word x [] false false (fun c hc => by cases hc) y hy
  have e1 : x = lower z := by rw [← e]; exact e0.symm
  obtain ⟨h1, h2⟩ := lower_lower z hz
  rw [e1, words_one (lower z) true (by cases z with | nil => exact absurd rfl hne | cons _ _ => simp [lower]) h2, h1]
theorem cut_none : ∀ (l cur : Str), 34 ∉ l → cutQ cur l = [cur ++ l]
  | [], cur, _ => by unfold cutQ; rw [List.append_nil]
  | c :: t, cur, h => by
    unfold cutQ
    rw [if_neg (fun e => h (by rw [e]; exact List.mem_cons_self ..)), cut_none t _ (fun h' => h (List.mem_cons_of_mem _ h'))]
    simp
theorem parsed_plain (l : Str) (h : 34 ∉ l) : parsed l = { need := stemsOf (yesOf (words l)), phr := [], neg := stemsOf (noOf (words l)) } := by
  unfold parsed
  rw [cut_none l [] h]
  rfl
theorem yes_append (a b : List (Str × Bool)) : yesOf (a ++ b) = yesOf a ++ yesOf b := by unfold yesOf; rw [List.filter_append, List.map_append]
theorem no_append (a b : List (Str × Bool)) : noOf (a ++ b) = noOf a ++ noOf b := by unfold noOf; rw [List.filter_append, List.map_append]
theorem words_more (s x : Str) (h : tokens x = [x]) : words (s ++ 32 :: 45 :: x) = words s ++ [(x, true)] := by
  unfold words
  rw [wordsG_cat 32 _ isL_blank]
  congr 1
  conv => lhs; unfold wordsG
  rw [isL_minus]
  show [] ++ wordsG [] false (45 == 45) x = _
  rw [List.nil_append]
  exact words_minus x h
theorem found_less (s x t : Str) (hs : 34 ∉ s) (hx : 34 ∉ x) (h : tokens x = [x]) (hf : foundS (s ++ 32 :: 45 :: x) t = true) : foundS s t = true := by
  have hm : (34 : UInt8) ∉ s ++ 32 :: 45 :: x := fun hm => by
    rcases List.mem_append.1 hm with hm | hm
    · exact hs hm
    · rcases List.mem_cons.1 hm with hm | hm
      · cases hm
      · rcases List.mem_cons.1 hm with hm | hm
        · cases hm
        · exact hx hm
  unfold foundS at hf ⊢
  rw [parsed_plain _ hm, words_more s x h] at hf
  rw [parsed_plain s hs]
  have hy : yesOf (words s ++ [(x, true)]) = yesOf (words s) := by rw [yes_append]; exact List.append_nil _
  have hn : noOf (words s ++ [(x, true)]) = noOf (words s) ++ [x] := by rw [no_append]; rfl
  simp only at hf ⊢
  rw [hy, hn] at hf
  unfold foundB at hf ⊢
  rw [Bool.and_eq_true] at hf ⊢
  refine ⟨hf.1, ?_⟩
  have h2 := hf.2
  rw [Bool.not_eq_true', List.any_eq_false] at h2 ⊢
  intro y hy'
  refine h2 y ?_
  have h3 := (mem_uniq _ _).1 hy'
  refine (mem_uniq _ _).2 ?_
  unfold stemsOf at h3 ⊢
  rw [List.filter_append, List.map_append]
  exact List.mem_append_left _ h3
end Wd
