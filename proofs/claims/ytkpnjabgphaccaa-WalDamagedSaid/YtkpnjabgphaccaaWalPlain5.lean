/- Plain facts: reading a log in which bits of one record are inverted. -/
import Derived.Test.YtkpnjabgphaccaaWalPlain4
import Derived.Test.YtkpnjabgphaccaaPlain3
namespace Crc
theorem done_pre (es : List (List UInt8)) (rest : List UInt8) (hd : ∀ i (h : i < es.length), es[i].length ≤ 65536) : ∀ i, i ≤ es.length → Done (logOf es ++ rest) (es.take i) (endAt es i) := by
  have hle : ∀ i, endAt es i ≤ (logOf es).length := by
    intro i
    have h1 := logOf_length es
    have h2 := logOf_length (es.take i)
    have h3 := total_take_le es i
    have h4 : (es.take i).length ≤ es.length := List.length_take_le' _ _
    unfold endAt; omega
  have hdrop : ∀ i (h : i < es.length), (logOf es ++ rest).drop (endAt es i) = frame es[i] ++ (logOf (es.drop (i + 1)) ++ rest) := by
    intro i h
    rw [List.drop_append_of_le_length (hle i), logOf_drop, logOf_cons es i h, List.append_assoc]
  intro i
  induction i with
  | zero => intro _; rw [endAt_zero]; simpa using Done.start _
  | succ i ih =>
    intro hi
    have hi' : i < es.length := by omega
    have hdi := hd i hi'
    have hs := endAt_succ es i hi'
    have hl := hle (i + 1)
    have hr : recAt ((logOf es ++ rest).drop (endAt es i)) = (0, es[i]) := by
      rw [hdrop i hi']; exact recAt_frame _ _ hdi
    have hl4 : len4 ((logOf es ++ rest).drop (endAt es i)) = es[i].length := by
      rw [hdrop i hi', len4_frame _ _ (by omega)]
    have := (ih (by omega)).next (by rw [List.length_append]; omega) hr
    rw [hl4, ← hs, ← take_snoc' es i hi'] at this
    exact this
/-- the log with other bytes in the place of a record's sealed data -/
def damaged (ds : List (List UInt8)) (k : Nat) (s : List UInt8) : List UInt8 := logOf (ds.take k) ++ (le4 (ds.getD k []).length ++ s ++ logOf (ds.drop (k + 1)))
theorem damaged_same (ds : List (List UInt8)) (k : Nat) (h : k < ds.length) : damaged ds k (seal4 ds[k]) = logOf ds := by
  unfold damaged
  have e : ds.getD k [] = ds[k] := by simp [h]
  rw [e]
  have e2 : logOf ds = logOf (ds.take k) ++ logOf (ds.drop k) := by
    unfold logOf
    rw [← List.flatMap_append, List.take_append_drop]
  rw [e2, logOf_cons ds k h]
  rfl
theorem read_damaged (ds : List (List UInt8)) (k : Nat) (s : List UInt8) (hd : ∀ i (h : i < ds.length), ds[i].length ≤ 65536) (h : k < ds.length) (hs : s.length = ds[k].length + 4) (hbad : openE s = 7) :
    read (damaged ds k s) = (ds.take k, endAt ds k, 7) := by
  have e : ds.getD k [] = ds[k] := by simp [h]
  have hlt : (ds.take k).length = k := by rw [List.length_take]; omega
  have hD := done_pre (ds.take k) (le4 (ds.getD k []).length ++ s ++ logOf (ds.drop (k + 1))) (fun i hi => by
    rw [List.getElem_take]; exact hd i (by omega)) k (by omega)
  rw [List.take_take, Nat.min_self] at hD
  have hend : endAt (ds.take k) k = endAt ds k := by unfold endAt; rw [List.take_take, Nat.min_self]
  rw [hend] at hD
  have hdk := hd k h
  have hl0 : (logOf (ds.take k)).length = endAt ds k := rfl
  have hdr : (logOf (ds.take k) ++ (le4 (ds.getD k []).length ++ s ++ logOf (ds.drop (k + 1)))).drop (endAt ds k) = le4 ds[k].length ++ (s ++ logOf (ds.drop (k + 1))) := by
    rw [← hl0, List.drop_left, e, List.append_assoc]
  have h4 : (le4 ds[k].length).length = 4 := rfl
  have hlen : (le4 ds[k].length ++ (s ++ logOf (ds.drop (k + 1)))).length = ds[k].length + 8 + (logOf (ds.drop (k + 1))).length := by
    simp only [List.length_append, h4, hs]; omega
  have hl4 : len4 (le4 ds[k].length ++ (s ++ logOf (ds.drop (k + 1)))) = ds[k].length := by
    unfold len4
    rw [List.take_left' h4, num_le4 _ (by omega)]
  have hbody : ((le4 ds[k].length ++ (s ++ logOf (ds.drop (k + 1)))).drop 4).take (ds[k].length + 4) = s := by
    rw [List.drop_left' h4, List.take_left' hs]
  have hr : recAt ((logOf (ds.take k) ++ (le4 (ds.getD k []).length ++ s ++ logOf (ds.drop (k + 1)))).drop (endAt ds k)) = (7, []) := by
    rw [hdr]
    exact recAt_sum (by omega) (by omega) (by omega) (by rw [hl4, hbody, hbad]; decide)
  have := hD.fail (by rw [List.length_append, hl0]; simp only [List.length_append, e, h4]; omega) hr (by decide)
  exact this
theorem read_whole (ds : List (List UInt8)) (hd : ∀ i (h : i < ds.length), ds[i].length ≤ 65536) : read (logOf ds) = (ds, endAt ds ds.length, 0) := by
  have h := read_part ds (logOf ds).length ds.length hd (Nat.le_refl _) (Nat.le_refl _) (by unfold endAt; rw [List.take_length]; exact Nat.le_refl _) (fun h => absurd h (Nat.lt_irrefl _))
  have e : endAt ds ds.length = (logOf ds).length := by unfold endAt; rw [List.take_length]
  rw [List.take_length, List.take_length, if_pos e] at h
  exact h
theorem damaged_length (ds : List (List UInt8)) (k : Nat) (s : List UInt8) (h : k < ds.length) (hs : s.length = ds[k].length + 4) : (damaged ds k s).length = (logOf ds).length := by
  rw [← damaged_same ds k h]
  unfold damaged
  simp only [List.length_append, seal4_length, hs]
theorem damaged_get (ds : List (List UInt8)) (k : Nat) (s : List UInt8) (j : Nat) (hj : j < s.length) : ∃ h : endAt ds k + 4 + j < (damaged ds k s).length, (damaged ds k s)[endAt ds k + 4 + j] = s[j] := by
  have h4 : (le4 (ds.getD k []).length).length = 4 := rfl
  have hl0 : (logOf (ds.take k)).length = endAt ds k := rfl
  have hlen : endAt ds k + 4 + j < (damaged ds k s).length := by
    unfold damaged
    simp only [List.length_append, h4, hl0]; omega
  refine ⟨hlen, ?_⟩
  have : (damaged ds k s)[endAt ds k + 4 + j]? = some s[j] := by
    unfold damaged
    rw [List.getElem?_append_right (by omega), hl0, List.append_assoc, List.getElem?_append_right (by omega), h4, List.getElem?_append_left (by omega), show endAt ds k + 4 + j - endAt ds k - 4 = j by omega]
    simp [hj]
  rw [List.getElem?_eq_getElem hlen] at this
  exact Option.some.inj this
theorem damaged_set (ds : List (List UInt8)) (k : Nat) (s : List UInt8) (j : Nat) (v : UInt8) (hj : j < s.length) : (damaged ds k s).set (endAt ds k + 4 + j) v = damaged ds k (s.set j v) := by
  have h4 : (le4 (ds.getD k []).length).length = 4 := rfl
  have hl0 : (logOf (ds.take k)).length = endAt ds k := rfl
  unfold damaged
  rw [List.set_append_right _ _ (by omega), hl0, List.append_assoc, List.set_append_right _ _ (by omega), h4, List.set_append_left _ _ (by omega), show endAt ds k + 4 + j - endAt ds k - 4 = j by omega, List.append_assoc]
end Crc
