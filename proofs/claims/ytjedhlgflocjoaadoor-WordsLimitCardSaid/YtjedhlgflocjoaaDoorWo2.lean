/- Words: how a text is cut into words, step by step. No program in sight. -/
import Derived.Test.YtjedhlgflocjoaaDoorWo0
namespace Wd
def flag (s : Str) (i : Nat) : Bool := decide (0 < i) && s[i - 1]?.getD 0 == 45
def W (s : Str) (b i : Nat) : List (Str × Bool) := wordsG ((s.drop b).take (i - b)) (flag s b) (flag s i) (s.drop i)
theorem wordsG_m (m pm : Bool) (l : Str) : wordsG [] m pm l = wordsG [] false pm l := by
  cases l with
  | nil => simp [wordsG]
  | cons c t => simp [wordsG]
theorem W_start (s : Str) : W s 0 0 = words s := by simp [W, words, flag]
theorem W_same (s : Str) (i : Nat) : W s i i = wordsG [] false (flag s i) (s.drop i) := by
  unfold W
  rw [Nat.sub_self, List.take_zero, wordsG_m]
theorem drop_at (s : Str) (i : Nat) (h : i < s.length) : s.drop i = s[i] :: s.drop (i + 1) := List.drop_eq_getElem_cons h
theorem flag_next (s : Str) (i : Nat) (h : i < s.length) : flag s (i + 1) = (s[i] == 45) := by simp [flag, h]
theorem cut_next (s : Str) (b i : Nat) (hb : b ≤ i) (h : i < s.length) : (s.drop b).take (i + 1 - b) = (s.drop b).take (i - b) ++ [s[i]] := by
  have e : i + 1 - b = (i - b) + 1 := by omega
  rw [e, List.take_succ_eq_append_getElem (by simp; omega)]
  simp [Nat.add_sub_cancel' hb]
theorem cut_nil (s : Str) (b i : Nat) (hi : i ≤ s.length) : (s.drop b).take (i - b) = [] ↔ i ≤ b := by
  constructor
  · intro h
    have := congrArg List.length h
    simp at this
    omega
  · intro h
    rw [show i - b = 0 by omega, List.take_zero]
theorem W_letter (s : Str) (b i : Nat) (hb : b ≤ i) (h : i < s.length) (hl : isL s[i] = true) : W s b i = W s b (i + 1) := by
  unfold W
  rw [drop_at s i h, cut_next s b i hb h, flag_next s i h]
  conv => lhs; unfold wordsG
  rw [if_pos hl]
  by_cases e : b = i
  · subst e
    rw [if_pos ((cut_nil s b b (by omega)).2 (Nat.le_refl _))]
  · rw [if_neg (fun h2 => by have := (cut_nil s b i (by omega)).1 h2; omega)]
theorem W_skip (s : Str) (b i : Nat) (hb : b ≤ i) (h : i < s.length) (hl : isL s[i] = false) :
    W s b i = (if b < i then [(lower ((s.drop b).take (i - b)), flag s b)] else []) ++ W s (i + 1) (i + 1) := by
  rw [W_same]
  unfold W
  rw [drop_at s i h, flag_next s i h]
  conv => lhs; unfold wordsG
  rw [if_neg (by simp [hl])]
  congr 1
  by_cases e : b < i
  · rw [if_pos e, if_neg (fun h2 => by have := (cut_nil s b i (by omega)).1 h2; omega)]
  · rw [if_neg e, if_pos ((cut_nil s b i (by omega)).2 (by omega))]
theorem W_end (s : Str) (b : Nat) : W s b s.length = if b < s.length then [(lower ((s.drop b).take (s.length - b)), flag s b)] else [] := by
  unfold W
  rw [List.drop_length]
  unfold wordsG
  by_cases e : b < s.length
  · rw [if_pos e, if_neg (fun h2 => by have := (cut_nil s b s.length (by omega)).1 h2; omega)]
  · rw [if_neg e, if_pos ((cut_nil s b s.length (by omega)).2 (by omega))]
/-- a whole word from b to i -/
theorem W_word (s : Str) (b i : Nat) (hb : b < i) (hi : i ≤ s.length) (h : ∀ h : i < s.length, isL s[i] = false) :
    W s b i = [(lower ((s.drop b).take (i - b)), flag s b)] ++ W s i i := by
  by_cases e : i < s.length
  · rw [W_skip s b i (by omega) e (h e), if_pos hb, W_skip s i i (by omega) e (h e), if_neg (by omega)]
    rfl
  · obtain rfl : i = s.length := by omega
    rw [W_end, if_pos hb, W_end, if_neg (by omega)]
    rfl
theorem lower_length (l : Str) : (lower l).length = l.length := by simp [lower]
theorem wordsG_len : ∀ (l : Str) (cur : Str) (m pm : Bool), (wordsG cur m pm l).length ≤ l.length + (if cur = [] then 0 else 1)
  | [], cur, m, pm => by unfold wordsG; split <;> simp
  | c :: t, cur, m, pm => by
    unfold wordsG
    split
    · have := wordsG_len t (cur ++ [c]) (if cur = [] then pm else m) (c == 45)
      simp at this ⊢
      omega
    · have := wordsG_len t [] false (c == 45)
      split <;> simp_all <;> omega
theorem words_len (s : Str) : (words s).length ≤ s.length := by simpa [words] using wordsG_len s [] false false
theorem wordsG_each : ∀ (l : Str) (cur : Str) (m pm : Bool) (n : Nat), cur.length + l.length ≤ n → ∀ x ∈ wordsG cur m pm l, x.1.length ≤ n
  | [], cur, m, pm, n, h, x, hx => by
    unfold wordsG at hx
    split at hx
    · simp at hx
    · simp at hx h; subst hx; simpa [lower] using h
  | c :: t, cur, m, pm, n, h, x, hx => by
    unfold wordsG at hx
    split at hx
    · exact wordsG_each t _ _ _ n (by simp at h ⊢; omega) x hx
    · rcases List.mem_append.1 hx with hx | hx
      · split at hx
        · simp at hx
        · simp at hx h; subst hx; simp [lower]; omega
      · exact wordsG_each t _ _ _ n (by simp at h ⊢; omega) x hx
end Wd
