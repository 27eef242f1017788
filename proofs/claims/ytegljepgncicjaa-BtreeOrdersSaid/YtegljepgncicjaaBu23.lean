/- Btree: lists of pairs that are read; the reference's Same; place (plain). -/
import Derived.Test.YtegljepgncicjaaBu22
import Derived.Laws.StructEq
namespace Go.Proofs.Ytegljepgncicjaa
open Go.ChangeShapes Go.WideShapes Go.ChangeAt Go.RowKit Go.Deep Go.Shelf
set_option linter.unusedVariables false
set_option linter.unusedSimpArgs false
/-- a slice of pairs that is read -/
def PrAt (W : World) (v : Value) (L : List Pr) : Prop :=
  (v = .slice none 0 0 ∧ L = []) ∨ ∃ g c, v = .slice (some ⟨g, 0, none⟩) L.length c ∧ L.length ≤ c ∧ c ≤ 9223372036854775807 ∧ g < W.heap.size ∧ ∀ j (h : j < L.length), W.cell? ⟨g, j * 2, none⟩ = some (.string L[j].1) ∧ W.cell? ⟨g, j * 2 + 1, none⟩ = some (.string L[j].2)
theorem prv_len (L : List Pr) : (prv L).length = L.length * 2 := by
  induction L with
  | nil => rfl
  | cons a L ih =>
    show ([Value.string a.1, .string a.2] ++ prv L).length = _
    rw [List.length_append, ih, List.length_cons]
    simp; omega
theorem prv_at (L : List Pr) (j : Nat) (h : j < L.length) : (prv L)[j * 2]? = some (.string L[j].1) ∧ (prv L)[j * 2 + 1]? = some (.string L[j].2) := by
  induction L generalizing j with
  | nil => simp at h
  | cons a L ih =>
    have e : prv (a :: L) = .string a.1 :: .string a.2 :: prv L := rfl
    rw [e]
    match j, h with
    | 0, _ => exact ⟨rfl, rfl⟩
    | j + 1, h =>
      have h2 : j < L.length := by simpa using h
      rw [show (j + 1) * 2 = j * 2 + 1 + 1 by omega]
      simp only [List.getElem?_cons_succ, List.getElem_cons_succ]
      exact ih j h2
theorem PrAt.of_own {B : Nat} {W : World} {v : Value} {L : List Pr} {n : Nat} (hn : n = L.length) (h : W.ownsRow B 59 2 v n (prv L)) : PrAt W v L := by
  subst hn
  rcases h.2 with ⟨rfl, h1⟩ | ⟨g, c, cur, rfl, h1, h2, h3, h4, h5, h6⟩
  · exact .inl ⟨rfl, List.eq_nil_of_length_eq_zero h1⟩
  · refine .inr ⟨g, c, rfl, h3, by unfold maxLen at h4; omega, (h.lt g rfl).2, fun j hj => ?_⟩
    have a0 := h.cellAt (j * 2) (by omega)
    have a1 := h.cellAt (j * 2 + 1) (by omega)
    rw [a0, a1]
    exact prv_at L j hj
theorem PrAt.kept {S : Nat → Prop} {W W' : World} {v : Value} {L : List Pr} (h : PrAt W v L) (hk : Kept S W W') (hS : ∀ k, v.ownBlock = some k → ¬ S k) : PrAt W' v L := by
  rcases h with h | ⟨g, c, rfl, h1, h2, h3, h4⟩
  · exact .inl h
  · refine .inr ⟨g, c, rfl, h1, h2, Nat.lt_of_lt_of_le h3 hk.size, fun j hj => ?_⟩
    have e := hk.block g h3 (hS g rfl)
    rw [World.cell?_of_block (a := ⟨g, j * 2, none⟩) e, World.cell?_of_block (a := ⟨g, j * 2 + 1, none⟩) e]
    exact h4 j hj
theorem PrAt.below {W W' : World} {v : Value} {L : List Pr} (h : PrAt W v L) (hb : Below W.heap.size W W') : PrAt W' v L := by
  rcases h with h | ⟨g, c, rfl, h1, h2, h3, h4⟩
  · exact .inl h
  · refine .inr ⟨g, c, rfl, h1, h2, Nat.lt_of_lt_of_le h3 hb.size, fun j hj => ?_⟩
    rw [hb.cell (p := ⟨g, j * 2, none⟩) h3, hb.cell (p := ⟨g, j * 2 + 1, none⟩) h3]
    exact h4 j hj
theorem PrAt.len {W : World} {v : Value} {L : List Pr} (h : PrAt W v L) : ∃ a c, v = .slice a L.length c := by
  rcases h with ⟨rfl, rfl⟩ | ⟨g, c, rfl, _⟩
  · exact ⟨none, 0, rfl⟩
  · exact ⟨_, _, rfl⟩
theorem PrAt.get {W : World} {v : Value} {L : List Pr} (h : PrAt W v L) (h0 : 0 < L.length) : ∃ g c, v = .slice (some ⟨g, 0, none⟩) L.length c ∧ L.length ≤ c ∧ c ≤ 9223372036854775807 ∧ g < W.heap.size ∧ ∀ j (h : j < L.length), W.cell? ⟨g, j * 2, none⟩ = some (.string L[j].1) ∧ W.cell? ⟨g, j * 2 + 1, none⟩ = some (.string L[j].2) := by
  rcases h with ⟨rfl, rfl⟩ | h
  · simp at h0
  · exact h
theorem PrAt.drewN {W : World} {v : Value} {L : List Pr} (h : PrAt W v L) (q : Nat) : PrAt (W.drewN q) v L := h.below ⟨rfl, rfl, rfl, Nat.le_refl _, fun _ _ => rfl⟩
set_option maxRecDepth 100000 in
set_option maxHeartbeats 1600000 in
theorem same_eq (va vb : Value) (L : List Pr) (W : World) (ha : PrAt W va L) (hb : PrAt W vb L) (hl : L.length ≤ 5000) :
    Calls Try.prog 18 #[va, vb] W fun e W' => e = .returned (.bool true) ∧ ∃ q, W' = W.drewN q := by
  rcases Nat.eq_zero_or_pos L.length with h0 | h0
  · obtain ⟨ga, ca, rfl⟩ := ha.len
    obtain ⟨gb, cb, rfl⟩ := hb.len
    rw [h0]
    clear ha hb
    go_enter Try.func18, Try.ntmps18
    go_wp2_with fail
    refine wp_loop_rounds 1 ?_
    rw [rounds_succ]
    go_wp2_with fail
    go_ret
    exact ⟨rfl, 0, rfl⟩
  · obtain ⟨ga, ca, rfl, hca, hca2, _, hga⟩ := ha.get h0
    obtain ⟨gb, cb, rfl, hcb, hcb2, _, hgb⟩ := hb.get h0
    have HA := Lib.hid hga
    have HB := Lib.hid hgb
    clear ha hb hga hgb
    go_enter Try.func18, Try.ntmps18
    go_wp2_with fail
    go_loopw [5] (fun i wr => ∃ k q : Nat, k ≤ L.length ∧ i = .int .i64 k ∧ wr = W.drewN q) (fun i _ => L.length - (intOf i).toNat)
    case atStart => exact ⟨0, 0, Nat.zero_le _, rfl, rfl⟩
    case round =>
      obtain ⟨k, q, hk, rfl, rfl⟩ := hrel
      by_cases hlt : k < L.length
      · have a0 : W.cell? ⟨ga, k * 2, none⟩ = _ := (HA.out k hlt).1
        have a1 : W.cell? ⟨ga, k * 2 + 1, none⟩ = _ := (HA.out k hlt).2
        have b0 : W.cell? ⟨gb, k * 2, none⟩ = _ := (HB.out k hlt).1
        have b1 : W.cell? ⟨gb, k * 2 + 1, none⟩ = _ := (HB.out k hlt).2
        generalize L[k] = x at a0 a1 b0 b1
        go_wp2_with fail
        go_quiet (fail)
        go_wp2_with fail
        go_roundw
        case rel => exact ⟨k + 1, q + nq, by omega, by go_num, by simp [World.drewN_drewN]⟩
        case measure => simp [intOf]; omega
      · have : k = L.length := by omega
        subst this
        go_wp2_with fail
        go_ret
        exact ⟨rfl, q, rfl⟩
/-- where a key stands, plainly -/
def posL (L : List Pr) (k : Bs) : Nat := (L.takeWhile fun p => lB p.1 k).length
def hasL (L : List Pr) (k : Bs) : Bool := match L[posL L k]? with
  | some p => decide (p.1 = k)
  | none => false
theorem posL_le (L : List Pr) (k : Bs) : posL L k ≤ L.length := (List.takeWhile_sublist _).length_le
theorem posL_cons (a : Pr) (L : List Pr) (k : Bs) : posL (a :: L) k = if lB a.1 k = true then posL L k + 1 else 0 := by
  unfold posL
  rw [List.takeWhile_cons]
  split <;> simp
theorem posL_before (L : List Pr) (k : Bs) (j : Nat) (h : j < posL L k) (hl : j < L.length) : lB L[j].1 k = true := by
  induction L generalizing j with
  | nil => simp at hl
  | cons a L ih =>
    rw [posL_cons] at h
    split at h
    · rename_i ha
      match j, hl with
      | 0, _ => exact ha
      | j + 1, hl => exact ih j (by omega) (by simpa using hl)
    · omega
theorem posL_at (L : List Pr) (k : Bs) (h : posL L k < L.length) : lB L[posL L k].1 k = false := by
  induction L with
  | nil => simp at h
  | cons a L ih =>
    have e := posL_cons a L k
    split at e
    · have h2 : posL L k < L.length := by rw [e] at h; simpa using h
      have := ih h2
      simp only [e, List.getElem_cons_succ]
      exact this
    · rename_i ha
      simp only [e, List.getElem_cons_zero]
      simpa using ha
theorem hasL_cons (a : Pr) (L : List Pr) (k : Bs) : hasL (a :: L) k = if lB a.1 k = true then hasL L k else decide (a.1 = k) := by
  unfold hasL
  rw [posL_cons]
  by_cases h : lB a.1 k = true
  · rw [if_pos h, if_pos h, List.getElem?_cons_succ]
  · rw [if_neg h, if_neg h]; simp
theorem putL_pos (L : List Pr) (k v : Bs) : putL L k v = L.take (posL L k) ++ (k, v) :: L.drop (if hasL L k = true then posL L k + 1 else posL L k) := by
  induction L with
  | nil => rfl
  | cons a L ih =>
    obtain ⟨x, y⟩ := a
    rw [posL_cons, hasL_cons, putL]
    by_cases h : lB x k = true
    · simp only [h, if_true]
      rw [ih]
      by_cases h2 : hasL L k = true <;> simp [h2]
    · simp only [h, if_false]
      by_cases h2 : x = k
      · subst h2; simp
      · simp [h2]
theorem delL_pos (L : List Pr) (k : Bs) : delL L k = if hasL L k = true then L.take (posL L k) ++ L.drop (posL L k + 1) else L := by
  induction L with
  | nil => rfl
  | cons a L ih =>
    obtain ⟨x, y⟩ := a
    rw [posL_cons, hasL_cons, delL]
    by_cases h : lB x k = true
    · simp only [h, if_true]
      rw [ih]
      by_cases h2 : hasL L k = true <;> simp [h2]
    · simp only [h, if_false]
      by_cases h2 : x = k
      · subst h2; simp
      · simp [h2]
theorem getL_pos (L : List Pr) (k : Bs) : getL L k = if hasL L k = true then (L[posL L k]?).map (·.2) else none := by
  induction L with
  | nil => rfl
  | cons a L ih =>
    obtain ⟨x, y⟩ := a
    rw [posL_cons, hasL_cons, getL]
    by_cases h : lB x k = true
    · simp only [h, if_true]
      rw [ih, List.getElem?_cons_succ]
    · simp only [h, if_false]
      by_cases h2 : x = k
      · subst h2; simp
      · simp [h2]
theorem hasL_lt {L : List Pr} {k : Bs} (h : hasL L k = true) : posL L k < L.length := by
  unfold hasL at h
  cases hp : L[posL L k]? with
  | none => rw [hp] at h; cases h
  | some p => exact (List.getElem?_eq_some_iff.1 hp).1
theorem hasL_get (L : List Pr) (k : Bs) : hasL L k = (getL L k).isSome := by
  rw [getL_pos]
  cases h : hasL L k with
  | false => simp
  | true => simp [List.getElem?_eq_getElem (hasL_lt h)]
end Go.Proofs.Ytegljepgncicjaa
