/- Plain facts: the log of some data, and reading a part of it. -/
import Derived.Test.YtkpnjabgphaccaaWal1
import Derived.Test.YtkpnjabgphaccaaWalPlain2
namespace Crc
def total (ds : List (List UInt8)) : Nat := (ds.map List.length).sum
def logOf (ds : List (List UInt8)) : List UInt8 := ds.flatMap frame
def endAt (ds : List (List UInt8)) (i : Nat) : Nat := (logOf (ds.take i)).length
def fewB (ds : List (List UInt8)) : Bool := decide (ds.length ≤ 50) && decide (total ds ≤ 5000)
theorem total_snoc (ds : List (List UInt8)) (d : List UInt8) : total (ds ++ [d]) = total ds + d.length := by simp [total]
theorem logOf_snoc (ds : List (List UInt8)) (d : List UInt8) : logOf (ds ++ [d]) = logOf ds ++ frame d := by simp [logOf]
theorem logOf_length (ds : List (List UInt8)) : (logOf ds).length = total ds + 8 * ds.length := by
  induction ds with
  | nil => simp [logOf, total]
  | cons d ds ih =>
    have e1 : logOf (d :: ds) = frame d ++ logOf ds := by simp [logOf]
    have e2 : total (d :: ds) = d.length + total ds := by simp [total]
    rw [e1, e2, List.length_append, frame_length, ih, List.length_cons]; omega
theorem take_snoc' (ds : List (List UInt8)) (i : Nat) (h : i < ds.length) : ds.take (i + 1) = ds.take i ++ [ds[i]] := by
  rw [List.take_succ_eq_append_getElem h]
theorem endAt_zero (ds : List (List UInt8)) : endAt ds 0 = 0 := by simp [endAt, logOf]
theorem endAt_succ (ds : List (List UInt8)) (i : Nat) (h : i < ds.length) : endAt ds (i + 1) = endAt ds i + ds[i].length + 8 := by
  unfold endAt
  rw [take_snoc' ds i h, logOf_snoc, List.length_append, frame_length]; omega
theorem total_take_le (ds : List (List UInt8)) (i : Nat) : total (ds.take i) ≤ total ds := by
  have app : ∀ a b : List (List UInt8), total (a ++ b) = total a + total b := by intro a b; simp [total]
  have := app (ds.take i) (ds.drop i)
  rw [List.take_append_drop] at this
  omega
theorem get_le_total (ds : List (List UInt8)) (i : Nat) (h : i < ds.length) : ds[i].length ≤ total ds := by
  have := total_take_le ds (i + 1)
  rw [take_snoc' ds i h, total_snoc] at this
  omega
theorem logOf_drop (ds : List (List UInt8)) (i : Nat) : (logOf ds).drop (endAt ds i) = logOf (ds.drop i) := by
  have e : logOf ds = logOf (ds.take i) ++ logOf (ds.drop i) := by
    unfold logOf
    rw [← List.flatMap_append, List.take_append_drop]
  unfold endAt
  rw [e, List.drop_left]
theorem logOf_cons (ds : List (List UInt8)) (i : Nat) (h : i < ds.length) : logOf (ds.drop i) = frame ds[i] ++ logOf (ds.drop (i + 1)) := by
  unfold logOf
  rw [List.drop_eq_getElem_cons h, List.flatMap_cons]
theorem num_le4 (n : Nat) (h : n < 4294967296) : num (le4 n) = n := by
  simp only [le4, num, ofNat_toNat]; omega
theorem len4_frame (d rest : List UInt8) (h : d.length < 4294967296) : len4 (frame d ++ rest) = d.length := by
  unfold len4 frame
  rw [List.append_assoc, List.take_left' (by rfl), num_le4 _ h]
theorem frame_body (d rest : List UInt8) : ((frame d ++ rest).drop 4).take (d.length + 4) = seal4 d := by
  unfold frame
  rw [List.append_assoc, List.drop_left' (by rfl), List.take_left' (seal4_length d)]
theorem recAt_frame (d rest : List UInt8) (h : d.length ≤ 65536) : recAt (frame d ++ rest) = (0, d) := by
  have e := len4_frame d rest (by omega)
  have hl : (frame d ++ rest).length = d.length + 8 + rest.length := by rw [List.length_append, frame_length]
  have hb := frame_body d rest
  have := recAt_ok (l := frame d ++ rest) (by omega) (by omega) (by omega) (by rw [e, hb]; exact openE_seal d)
  rw [this, e, hb, openS_seal]
theorem recAt_part (d rest : List UInt8) (j : Nat) (h : d.length ≤ 65536) (hj : j < d.length + 8) : recAt ((frame d ++ rest).take j) = (38, []) := by
  have hl : ((frame d ++ rest).take j).length = j := by rw [List.length_take, List.length_append, frame_length]; omega
  by_cases h4 : j < 4
  · exact recAt_short (by omega)
  · have e : len4 ((frame d ++ rest).take j) = d.length := by rw [len4_take (by omega), len4_frame d rest (by omega)]
    exact recAt_torn (by omega) (by omega) (by omega)
/-- the records of a prefix of n bytes, where k records are in it completely -/
theorem read_part (ds : List (List UInt8)) (n k : Nat) (hd : ∀ i (h : i < ds.length), ds[i].length ≤ 65536) (hk : k ≤ ds.length) (hn : n ≤ (logOf ds).length) (h1 : endAt ds k ≤ n) (h2 : k < ds.length → n < endAt ds (k + 1)) :
    read ((logOf ds).take n) = (ds.take k, endAt ds k, if endAt ds k = n then 0 else 38) := by
  have hl : ((logOf ds).take n).length = n := by rw [List.length_take]; omega
  have mono : ∀ i j, i ≤ j → j ≤ ds.length → endAt ds i ≤ endAt ds j := by
    intro i j hij
    induction j with
    | zero => intro _; have : i = 0 := by omega
              subst this; exact Nat.le_refl _
    | succ j ih =>
      intro hj
      rcases Nat.lt_or_ge i (j + 1) with h | h
      · have := ih (by omega) (by omega)
        rw [endAt_succ ds j (by omega)]; omega
      · have : i = j + 1 := by omega
        subst this; exact Nat.le_refl _
  have hdrop : ∀ i (h : i < ds.length), ((logOf ds).take n).drop (endAt ds i) = (frame ds[i] ++ logOf (ds.drop (i + 1))).take (n - endAt ds i) := by
    intro i h
    rw [List.drop_take, logOf_drop, logOf_cons ds i h]
  have key : ∀ i, i ≤ k → Done ((logOf ds).take n) (ds.take i) (endAt ds i) := by
    intro i
    induction i with
    | zero => intro _; rw [endAt_zero]; simpa using Done.start _
    | succ i ih =>
      intro hi
      have hi' : i < ds.length := by omega
      have hle := mono (i + 1) k hi hk
      have hs := endAt_succ ds i hi'
      have hdi := hd i hi'
      have hr : recAt (((logOf ds).take n).drop (endAt ds i)) = (0, ds[i]) := by
        rw [hdrop i hi']
        exact recAt_take (recAt_frame _ _ hdi) (by rw [len4_frame _ _ (by omega)]; omega)
      have hl4 : len4 (((logOf ds).take n).drop (endAt ds i)) = ds[i].length := by
        rw [hdrop i hi', len4_take (by omega), len4_frame _ _ (by omega)]
      have := (ih (by omega)).next (by omega) hr
      rw [hl4, ← hs, ← take_snoc' ds i hi'] at this
      exact this
  have hdone := key k (Nat.le_refl _)
  by_cases he : endAt ds k = n
  · rw [if_pos he]
    exact hdone.over (by omega)
  · rw [if_neg he]
    have hk' : k < ds.length := by
      rcases Nat.lt_or_ge k ds.length with h | h
      · exact h
      · have hkk : k = ds.length := by omega
        have : endAt ds k = (logOf ds).length := by unfold endAt; rw [hkk, List.take_length]
        omega
    have hlt := h2 hk'
    have hs := endAt_succ ds k hk'
    have hdk := hd k hk'
    have hr : recAt (((logOf ds).take n).drop (endAt ds k)) = (38, []) := by
      rw [hdrop k hk']
      exact recAt_part _ _ _ hdk (by omega)
    exact hdone.fail (by omega) hr (by decide)
end Crc
