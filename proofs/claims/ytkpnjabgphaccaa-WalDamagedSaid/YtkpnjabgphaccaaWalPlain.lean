/- Plain facts: what reading a log gives. -/
import Derived.Test.YtkpnjabgphaccaaPlain3
namespace Crc
/-- the length that a record's head tells -/
def len4 (l : List UInt8) : Nat := num (l.take 4)
/-- the record at the head of a rest that is not empty: the error's number, the data -/
def recAt (l : List UInt8) : Int × List UInt8 :=
  if l.length < 4 then (38, []) else if 65536 < len4 l then (4, []) else if l.length < len4 l + 8 then (38, [])
  else if openE ((l.drop 4).take (len4 l + 4)) = 0 then (0, openS ((l.drop 4).take (len4 l + 4))) else (7, [])
def rd : Nat → List UInt8 → Nat → List (List UInt8) × Nat × Int
  | 0, _, k => ([], k, 0)
  | f + 1, L, k => if L.length ≤ k then ([], k, 0) else
      if (recAt (L.drop k)).1 = 0 then ((recAt (L.drop k)).2 :: (rd f L (k + len4 (L.drop k) + 8)).1, (rd f L (k + len4 (L.drop k) + 8)).2)
      else ([], k, (recAt (L.drop k)).1)
def read (L : List UInt8) : List (List UInt8) × Nat × Int := rd L.length L 0
/-- the records ls have been read, and the rest begins at k -/
def Done (L : List UInt8) (ls : List (List UInt8)) (k : Nat) : Prop := ls.length ≤ k ∧ ∃ f, L.length - k ≤ f ∧ read L = (ls ++ (rd f L k).1, (rd f L k).2)
theorem Done.start (L : List UInt8) : Done L [] 0 := ⟨Nat.le_refl _, L.length, by omega, by simp [read]⟩
theorem Done.count {L : List UInt8} {ls : List (List UInt8)} {k : Nat} (h : Done L ls k) : ls.length ≤ k := h.1
theorem Done.next {L : List UInt8} {ls : List (List UInt8)} {k : Nat} {d : List UInt8} (h : Done L ls k) (hk : k < L.length) (hr : recAt (L.drop k) = (0, d)) : Done L (ls ++ [d]) (k + len4 (L.drop k) + 8) := by
  obtain ⟨hc, f, hf, e⟩ := h
  cases f with
  | zero => omega
  | succ f =>
    refine ⟨by simp; omega, f, by omega, ?_⟩
    rw [e]
    simp only [rd]
    rw [if_neg (by omega), hr]
    simp
theorem Done.fail {L : List UInt8} {ls : List (List UInt8)} {k : Nat} {x : Int} {d : List UInt8} (h : Done L ls k) (hk : k < L.length) (hr : recAt (L.drop k) = (x, d)) (hx : x ≠ 0) : read L = (ls, k, x) := by
  obtain ⟨hc, f, hf, e⟩ := h
  cases f with
  | zero => omega
  | succ f =>
    rw [e]
    simp only [rd]
    rw [if_neg (by omega), hr, if_neg hx]
    simp
theorem Done.over {L : List UInt8} {ls : List (List UInt8)} {k : Nat} (h : Done L ls k) (hk : L.length ≤ k) : read L = (ls, k, 0) := by
  obtain ⟨hc, f, hf, e⟩ := h
  cases f with
  | zero => rw [e]; simp [rd]
  | succ f =>
    rw [e]
    simp only [rd]
    rw [if_pos hk]
    simp
theorem recAt_short {l : List UInt8} (h : l.length < 4) : recAt l = (38, []) := by simp [recAt, h]
theorem recAt_form {l : List UInt8} (h : ¬ l.length < 4) (h2 : 65536 < len4 l) : recAt l = (4, []) := by simp [recAt, h, h2]
theorem recAt_torn {l : List UInt8} (h : ¬ l.length < 4) (h2 : ¬ 65536 < len4 l) (h3 : l.length < len4 l + 8) : recAt l = (38, []) := by
  unfold recAt; rw [if_neg h, if_neg h2, if_pos h3]
theorem recAt_sum {l : List UInt8} (h : ¬ l.length < 4) (h2 : ¬ 65536 < len4 l) (h3 : ¬ l.length < len4 l + 8) (h4 : ¬ openE ((l.drop 4).take (len4 l + 4)) = 0) : recAt l = (7, []) := by
  unfold recAt; rw [if_neg h, if_neg h2, if_neg h3, if_neg h4]
theorem recAt_ok {l : List UInt8} (h : ¬ l.length < 4) (h2 : ¬ 65536 < len4 l) (h3 : ¬ l.length < len4 l + 8) (h4 : openE ((l.drop 4).take (len4 l + 4)) = 0) : recAt l = (0, openS ((l.drop 4).take (len4 l + 4))) := by
  unfold recAt; rw [if_neg h, if_neg h2, if_neg h3, if_pos h4]
theorem len4_eq {l : List UInt8} (h : ¬ l.length < 4) : len4 l = l[0].toNat + 256 * l[1].toNat + 65536 * l[2].toNat + 16777216 * l[3].toNat := by
  match l, h with
  | [], h => exact absurd (by simp) h
  | [_], h => exact absurd (by simp) h
  | [_, _], h => exact absurd (by simp) h
  | [_, _, _], h => exact absurd (by simp) h
  | a :: b :: c :: d :: l, _ =>
    simp [len4, num]
    omega
end Crc
