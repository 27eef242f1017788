/- Plain facts: reading the part of a log that was read. -/
import Derived.Test.YtkpnjabgphaccaaWalPlain
namespace Crc
theorem recAt_zero {l d : List UInt8} (h : recAt l = (0, d)) : ¬ l.length < 4 ∧ ¬ 65536 < len4 l ∧ ¬ l.length < len4 l + 8 ∧ openE ((l.drop 4).take (len4 l + 4)) = 0 ∧ d = openS ((l.drop 4).take (len4 l + 4)) := by
  by_cases h1 : l.length < 4
  · rw [recAt_short h1] at h; simp at h
  · by_cases h2 : 65536 < len4 l
    · rw [recAt_form h1 h2] at h; simp at h
    · by_cases h3 : l.length < len4 l + 8
      · rw [recAt_torn h1 h2 h3] at h; simp at h
      · by_cases h4 : openE ((l.drop 4).take (len4 l + 4)) = 0
        · rw [recAt_ok h1 h2 h3 h4] at h
          simp only [Prod.mk.injEq, true_and] at h
          exact ⟨h1, h2, h3, h4, h.symm⟩
        · rw [recAt_sum h1 h2 h3 h4] at h; simp at h
theorem len4_take {l : List UInt8} {j : Nat} (h : 4 ≤ j) : len4 (l.take j) = len4 l := by
  unfold len4
  rw [List.take_take, Nat.min_eq_left h]
theorem recAt_take {l d : List UInt8} {j : Nat} (h : recAt l = (0, d)) (hj : len4 l + 8 ≤ j) : recAt (l.take j) = (0, d) := by
  obtain ⟨h1, h2, h3, h4, h5⟩ := recAt_zero h
  have e : len4 (l.take j) = len4 l := len4_take (by omega)
  have hl : (l.take j).length = min j l.length := List.length_take
  have hb : ((l.take j).drop 4).take (len4 l + 4) = (l.drop 4).take (len4 l + 4) := by
    rw [List.drop_take, List.take_take, Nat.min_eq_left (by omega)]
  have := recAt_ok (l := l.take j) (by omega) (by omega) (by omega) (by rw [e, hb]; exact h4)
  rw [this, e, hb, h5]
theorem rd_over (g : Nat) (L : List UInt8) (k : Nat) (h : L.length ≤ k) : rd g L k = ([], k, 0) := by
  cases g with
  | zero => rfl
  | succ g => simp only [rd]; rw [if_pos h]
theorem rd_ok (g : Nat) (L : List UInt8) (k : Nat) (d : List UInt8) (h : k < L.length) (hr : recAt (L.drop k) = (0, d)) :
    rd (g + 1) L k = (d :: (rd g L (k + len4 (L.drop k) + 8)).1, (rd g L (k + len4 (L.drop k) + 8)).2) := by
  simp only [rd]
  rw [if_neg (by omega), hr]
  simp
theorem rd_fail (g : Nat) (L : List UInt8) (k : Nat) (h : k < L.length) (hr : (recAt (L.drop k)).1 ≠ 0) : rd (g + 1) L k = ([], k, (recAt (L.drop k)).1) := by
  simp only [rd]
  rw [if_neg (by omega), if_neg hr]
theorem rd_part (L : List UInt8) : ∀ (f k : Nat), k ≤ L.length → L.length - k ≤ f → k ≤ (rd f L k).2.1 ∧ (rd f L k).2.1 ≤ L.length ∧
    (∀ m, m = (rd f L k).2.1 → ∀ g, m - k ≤ g → rd g (L.take m) k = ((rd f L k).1, m, 0)) := by
  intro f
  induction f with
  | zero =>
    intro k hk hf
    rw [rd_over 0 L k (by omega)]
    refine ⟨Nat.le_refl _, hk, fun m hm g _ => ?_⟩
    subst hm
    exact rd_over g _ _ (by simp; omega)
  | succ f ih =>
    intro k hk hf
    by_cases hlt : k < L.length
    · by_cases hz : (recAt (L.drop k)).1 = 0
      · have hr : recAt (L.drop k) = (0, (recAt (L.drop k)).2) := by rw [← hz]
        obtain ⟨h1, h2, h3, h4, h5⟩ := recAt_zero hr
        rw [List.length_drop] at h1 h3
        rw [rd_ok f L k _ hlt hr]
        have ih' := ih (k + len4 (L.drop k) + 8) (by omega) (by omega)
        have ihk := ih'.1
        refine ⟨by show k ≤ (rd f L (k + len4 (L.drop k) + 8)).2.1; omega, ih'.2.1, fun m hm g hg => ?_⟩
        have hm' : m = (rd f L (k + len4 (L.drop k) + 8)).2.1 := hm
        have hml : m ≤ L.length := by rw [hm']; exact ih'.2.1
        have hmk : k + len4 (L.drop k) + 8 ≤ m := by rw [hm']; exact ih'.1
        have htl : (L.take m).length = m := by rw [List.length_take]; omega
        obtain ⟨g', rfl⟩ : ∃ g', g = g' + 1 := ⟨g - 1, by omega⟩
        have hd : (L.take m).drop k = (L.drop k).take (m - k) := List.drop_take
        have hr2 := recAt_take hr (j := m - k) (by omega)
        rw [rd_ok g' (L.take m) k (recAt (L.drop k)).2 (by omega) (by rw [hd]; exact hr2), hd, len4_take (by omega)]
        rw [ih'.2.2 m hm' g' (by omega)]
      · rw [rd_fail f L k hlt hz]
        refine ⟨Nat.le_refl _, hk, fun m hm g _ => ?_⟩
        subst hm
        exact rd_over g _ _ (by simp; omega)
    · rw [rd_over (f + 1) L k (by omega)]
      refine ⟨Nat.le_refl _, hk, fun m hm g _ => ?_⟩
      subst hm
      exact rd_over g _ _ (by simp; omega)
theorem read_le (L : List UInt8) : (read L).2.1 ≤ L.length := (rd_part L L.length 0 (by omega) (by omega)).2.1
theorem read_take (L : List UInt8) : read (L.take (read L).2.1) = ((read L).1, (read L).2.1, 0) := by
  have hl : (L.take (read L).2.1).length = (read L).2.1 := by rw [List.length_take, Nat.min_eq_left (read_le L)]
  have := (rd_part L L.length 0 (by omega) (by omega)).2.2 (read L).2.1 rfl (L.take (read L).2.1).length (by rw [hl]; omega)
  exact this
theorem rd_count (L : List UInt8) : ∀ (f k : Nat), (rd f L k).1.length + k ≤ (rd f L k).2.1 := by
  intro f
  induction f with
  | zero => intro k; simp [rd]
  | succ f ih =>
    intro k
    by_cases hlt : k < L.length
    · by_cases hz : (recAt (L.drop k)).1 = 0
      · have hr : recAt (L.drop k) = (0, (recAt (L.drop k)).2) := by rw [← hz]
        rw [rd_ok f L k _ hlt hr]
        have := ih (k + len4 (L.drop k) + 8)
        simp only [List.length_cons]
        omega
      · rw [rd_fail f L k hlt hz]; simp
    · rw [rd_over (f + 1) L k (by omega)]; simp
theorem read_count (L : List UInt8) : (read L).1.length ≤ L.length := by
  have h1 := rd_count L L.length 0
  have h2 := read_le L
  unfold read at *
  omega
end Crc
