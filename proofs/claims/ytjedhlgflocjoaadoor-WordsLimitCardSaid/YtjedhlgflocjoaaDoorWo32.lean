/- Words: the text that the law Limit builds, its words and its index. No program in sight. -/
import Derived.Test.YtjedhlgflocjoaaDoorWo28
namespace Wd
/-- the words of the text -/
def lw (i : Nat) : Str := [120, UInt8.ofNat (97 + i / 16), UInt8.ofNat (97 + i % 16), 113]
def lws (n : Nat) : List Str := (List.range n).map lw
def lt : Nat → Str
  | 0 => []
  | n + 1 => lt n ++ 32 :: lw n
theorem lw_own : ∀ i < 256, tokens (lw i) = [lw i] := by decide +kernel
theorem lw_plain : ∀ i < 256, stop (lw i) = false ∧ stem (lw i) = lw i := by decide +kernel
theorem lw_next : ∀ i < 255, lw i < lw (i + 1) := by decide +kernel
theorem lws_succ (n : Nat) : lws (n + 1) = lws n ++ [lw n] := by
  unfold lws
  rw [List.range_succ, List.map_append]
  rfl
theorem lt_tokens : ∀ n ≤ 256, tokens (lt n) = lws n
  | 0, _ => by decide +kernel
  | n + 1, h => by
    show tokens (lt n ++ 32 :: lw n) = _
    rw [tokens_cat, lt_tokens n (by omega), lw_own n (by omega), lws_succ]
theorem lt_len : ∀ n, (lt n).length = 5 * n
  | 0 => rfl
  | n + 1 => by
    show (lt n ++ 32 :: lw n).length = _
    rw [List.length_append, lt_len n]
    show 5 * n + 5 = 5 * (n + 1)
    omega
theorem lw_lt (i : Nat) : ∀ j, i < j → j < 256 → lw i < lw j
  | 0, h, _ => absurd h (Nat.not_lt_zero _)
  | j + 1, h, hj => by
    rcases Nat.lt_or_ge i j with h2 | h2
    · exact str_trans (lw_lt i j h2 (by omega)) (lw_next j (by omega))
    · obtain rfl : i = j := by omega
      exact lw_next i (by omega)
theorem lws_asc (n : Nat) (h : n ≤ 256) : Asc (lws n) := by
  unfold Asc lws
  rw [List.pairwise_map]
  refine List.Pairwise.imp_of_mem ?_ List.pairwise_lt_range
  intro a b ha hb hab
  exact lw_lt a b hab (by have := List.mem_range.1 hb; omega)
theorem stemsOf_same : ∀ l : List Str, (∀ x ∈ l, stop x = false ∧ stem x = x) → stemsOf l = l
  | [], _ => rfl
  | x :: l, h => by
    have h1 := h x (List.mem_cons_self ..)
    have ih := stemsOf_same l (fun y hy => h y (List.mem_cons_of_mem _ hy))
    unfold stemsOf at ih ⊢
    rw [List.filter_cons_of_pos (by rw [h1.1]; rfl), List.map_cons, h1.2, ih]
theorem index_lt (n : Nat) (h : n ≤ 256) : index (lt n) = (lws n).take 128 := by
  unfold index
  rw [lt_tokens n h, stemsOf_same, uniq_eq (lws_asc n h) (fun x => Iff.rfl)]
  intro x hx
  obtain ⟨i, hi, rfl⟩ := List.mem_map.1 hx
  exact lw_plain i (by have := List.mem_range.1 hi; omega)
theorem limit_len (n : Nat) : ((lws n).take 128).length = min 128 n := by simp [lws]
theorem limit_first (n : Nat) (_ : 0 < n) (h' : 0 < ((lws n).take 128).length) : ((lws n).take 128)[0] = [120, 97, 97, 113] := by
  simp [lws, lw]
theorem limit_asc (n : Nat) (h : n ≤ 256) : Asc ((lws n).take 128) := List.Pairwise.sublist (List.take_sublist ..) (lws_asc n h)
end Wd
