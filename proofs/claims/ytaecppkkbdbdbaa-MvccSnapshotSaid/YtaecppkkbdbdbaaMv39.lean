/- Mvcc: rows of pairs that are copied, turned round and searched. -/
import Derived.Test.YtaecppkkbdbdbaaMv38
import Derived.Test.YtaecppkkbdbdbaaShelfr
namespace Go.Proofs.Ytaecppkkbdbdbaa
open Go.ChangeShapes Go.WideShapes Go.ChangeAt Go.RowKit Go.Deep Go.ChangeMaps Go.Shelf Go.Sort
set_option linter.unusedVariables false
set_option linter.unusedSimpArgs false
def encPL (x : Bs × Bs) : List Value := [.string x.1, .string x.2]
theorem prS_len : ∀ L : List (Bs × Bs), (prS L).length = L.length * 2
  | [] => rfl
  | x :: L => by
    show (Value.string x.1 :: Value.string x.2 :: prS L).length = _
    simp only [List.length_cons, prS_len L]
    omega
theorem prS_one (L : List (Bs × Bs)) : ∀ u ∈ prS L, u.oneCell' = true := fun u hu => by
  obtain ⟨x, _, hx⟩ := List.mem_flatMap.1 hu
  simp only [List.mem_cons, List.not_mem_nil, or_false] at hx
  rcases hx with rfl | rfl <;> rfl
theorem flat_prS (L : List (Bs × Bs)) : flatK encPL 2 L.toArray = (prS L).toArray := by
  apply Array.ext
  · rw [size_flatK, List.size_toArray, List.size_toArray, prS_len]
  intro t h1 h2
  have ht : t < L.length * 2 := by rw [size_flatK, List.size_toArray] at h1; exact h1
  have hg := get_flatK encPL 2 L.toArray t (by rw [List.size_toArray]; exact ht)
  rw [getElem!_pos (flatK encPL 2 L.toArray) t h1] at hg
  rw [hg, List.getElem_toArray]
  have hj : t / 2 < L.length := by omega
  have e1 : (L.toArray)[t / 2]! = L[t / 2] := by rw [getElem!_pos L.toArray (t / 2) (by simpa using hj)]; simp
  rw [e1]
  obtain ⟨p0, p1⟩ := prS_at L (t / 2) hj
  rcases (show t % 2 = 0 ∨ t % 2 = 1 by omega) with h | h
  · have e : t = t / 2 * 2 := by omega
    have p2 : (prS L)[t]? = some (.string (L[t / 2]).1) := by rw [← p0, ← e]
    rw [List.getElem?_eq_getElem (by rw [prS_len]; exact ht)] at p2
    rw [h, Option.some.inj p2]
    rfl
  · have e : t = t / 2 * 2 + 1 := by omega
    have p2 : (prS L)[t]? = some (.string (L[t / 2]).2) := by rw [← p1, ← e]
    rw [List.getElem?_eq_getElem (by rw [prS_len]; exact ht)] at p2
    rw [h, Option.some.inj p2]
    rfl
theorem rev_pairs (B : Nat) (v : Value) (L : List (Bs × Bs)) (w : World) (hv : SRow B w v L) (hl : L.length ≤ 1000000) :
    Calls Try.prog 41 #[v] w fun e w' => e = .returned (.tuple #[]) ∧ SRow B w' v L.reverse ∧ Kept (fun k => v.ownBlock = some k) w w' := by
  rcases hv.2 with ⟨rfl, h0⟩ | ⟨g, cap, cur, rfl, hbase, hb, h1, h2, h3, h4⟩
  · have hn : L = [] := List.eq_nil_of_length_eq_zero h0
    subst hn
    refine (AnyQ.slices_Reverse_empty Try.laysR41 none 0 w).mono ?_
    rintro e w1 ⟨rfl, rfl⟩
    exact ⟨rfl, hv, Kept.refl _ _⟩
  · have hlt : L.length * 2 ≤ cur.size := by rw [h3]; exact Nat.mul_le_mul_right 2 h1
    have hH : HoldsK encPL 2 w g 0 L.toArray := by
      unfold HoldsK
      rw [flat_prS]
      intro j hj
      have hj' : j < (prS L).length := by simpa using hj
      have hj2 : j < L.length * 2 := by rw [← prS_len]; exact hj'
      refine ⟨?_, by simp [World.frozen?, hb]⟩
      have h5 : (cur.toList.take (L.length * 2))[j]? = (prS L)[j]? := by rw [h4]
      rw [List.getElem?_take_of_lt hj2] at h5
      simp only [World.cell?, hb, Nat.zero_add]
      simp only [Option.isSome_none, Bool.false_eq_true, if_false]
      rw [← Array.getElem?_toList, h5]
      simp [hj']
    have hc := AnyQ.slices_Reverse Try.laysR41 2 (fun w => Try.isAgg45 w) (fun w => Try.sizeOf45 w) encPL (fun _ => rfl) (fun x u hu => by simp only [encPL, List.mem_cons, List.not_mem_nil, or_false] at hu; rcases hu with rfl | rfl <;> rfl) g 0 cap L.toArray w hH (by simpa using (show L.length ≤ 9223372036854775807 by omega))
    rw [List.size_toArray] at hc
    refine hc.mono ?_
    rintro e w1 ⟨rfl, n, rfl⟩
    unfold putRowK
    have er : L.toArray.reverse = L.reverse.toArray := by simp
    rw [er, flat_prS]
    have hgs : g < w.heap.size := (Array.getElem?_eq_some_iff.1 hb).1
    have hheap : (putRow id (Sort.ahead w n) g 0 (prS L.reverse).toArray).heap[g]? = some (.cells (putCells id 0 (prS L.reverse).toArray cur) 45 (0, 0)) := by
      simp [putRow, mapBlock, Sort.ahead, Array.getElem?_modify, hb, onCells]
    refine ⟨rfl, ⟨by rw [prS_len], .inr ⟨g, cap, _, by rw [List.length_reverse], hbase, hheap, by rw [List.length_reverse]; exact h1, h2, by simp [putCells, h3], ?_⟩⟩, ⟨rfl, rfl, rfl, by simp [putRow, mapBlock, Sort.ahead], fun k hk hs => ?_⟩⟩
    · have hpl : (prS L.reverse).length = L.length * 2 := by rw [prS_len, List.length_reverse]
      rw [List.length_reverse]
      apply List.ext_getElem?
      intro j
      by_cases hj : j < L.length * 2
      · rw [List.getElem?_take_of_lt hj, Array.getElem?_toList]
        simp [putCells, hpl, hj, show j < cur.size by omega]
      · rw [List.getElem?_take_eq_none (by omega), List.getElem?_eq_none (by omega)]
    · have : g ≠ k := fun e => hs (by rw [e]; rfl)
      simp [putRow, mapBlock, Sort.ahead, Array.getElem?_modify, this]
theorem clone_pairs (B : Nat) (v : Value) (L : List (Bs × Bs)) (w : World) (hv : SRow B w v L) (hl : L.length ≤ 100000) :
    Calls Try.prog 40 #[v] w fun e w' => ∃ v', e = .returned v' ∧ SRow w.heap.size w' v' L ∧ Below w.heap.size w w' := by
  obtain ⟨i0, hi0, hz0, hz1, hz2⟩ := info_parts infoB
  rcases hv.2 with ⟨rfl, h0⟩ | ⟨g, cap, cur, rfl, hbase, hb, h1, h2, h3, h4⟩
  · have hn : L = [] := List.eq_nil_of_length_eq_zero h0
    subst hn
    refine (AnyE.slices_Clone_nil Try.laysC40 0 0 w).mono ?_
    rintro e w1 ⟨rfl, rfl⟩
    exact ⟨_, rfl, World.ownsRow_nil _ _ _ _, Below.refl _ _⟩
  · refine (AnyE.slices_Clone Try.laysC40 i0 (.agg #[.string ⟨#[]⟩, .string ⟨#[]⟩]) 2 32 hi0 hz0 hz1 hz2 rfl (by decide) (fun w => Try.sizeOf45 w) g 0 L.length cap (prS L) w (prS_len L) (by unfold maxLen; omega) (by omega) (fun j u hj => ?_) (prS_one L)).mono ?_
    · have hjl : j < L.length * 2 := by rw [← prS_len]; exact (List.getElem?_eq_some_iff.1 hj).1
      rw [Nat.zero_add, hv.cellAt j hjl]
      exact hj
    · rintro e w' ⟨v', rfl, hr, _, hbl⟩
      exact ⟨v', rfl, hr, hbl⟩
set_option maxRecDepth 100000 in
theorem snap1_any (bl bi g o c n i : Nat) (key : Bs) (x : Bs × Bs) (W : World) (h1 : W.cell? ⟨bl, 0, none⟩ = some (.slice (some ⟨g, o, none⟩) n c)) (h2 : W.cell? ⟨bi, 0, none⟩ = some (.int .i64 i)) (h3 : W.cell? ⟨g, o + i * 5 + 1, none⟩ = some (.string key)) (hi : i < n) (hn : n ≤ 1000)
    (hbl : bl < W.heap.size) (hbi : bi < W.heap.size) (hg : g < W.heap.size) :
    Calls Try.prog 43 #[.agg (encPL x).toArray, .pointer (some ⟨bl, 0, none⟩), .pointer (some ⟨bi, 0, none⟩)] W fun e w' => e = .returned (.bool (decide (x.1 = key))) ∧ Below W.heap.size W w' := by
  obtain ⟨x1, x2⟩ := x
  unfold encPL
  obtain ⟨i0, hi0, hz0, hz1, hz2⟩ := info_parts infoO
  go_enter Try.func43, Try.ntmps43
  go_wp2_with fail
  have c1 := ca (ob := .cells #[.string x1, .string x2] 45) hbl h1
  have c2 := ca (ob := .cells #[.string x1, .string x2] 45) hbi h2
  have c3 := ca (ob := .cells #[.string x1, .string x2] 45) hg h3
  have c4 := (Box.new W [.string x1, .string x2] 45).cell 0 _ rfl
  have hb : Below W.heap.size W (W.alloc (.cells #[.string x1, .string x2] 45)) := (Below.refl _ W).alloc (Nat.le_refl _) _
  have hi2 : (i : Int) < (n : Int) := by omega
  have hi0 : (0 : Int) ≤ (i : Int) := by omega
  clear h1 h2 h3
  generalize W.alloc (.cells #[.string x1, .string x2] 45) = W1 at *
  go_quiet (fail)
  go_wp2_with fail
  go_ret
  have e1 : (ByteArray.toList x1 == ByteArray.toList key) = decide (x1 = key) := by
    rw [Bool.eq_iff_iff, beq_iff_eq, decide_eq_true_iff]
    exact ⟨fun h => by
      rw [ByteArray.toList_eq, ByteArray.toList_eq] at h
      cases x1; cases key
      simp at h
      exact congrArg _ h, fun h => by rw [h]⟩
  exact ⟨by show Ending.returned (.bool (ByteArray.toList x1 == ByteArray.toList key)) = _; rw [e1], ⟨hb.os, hb.tape, hb.output, hb.size, hb.block⟩⟩
set_option maxRecDepth 100000 in
theorem contains_any (bl bi g o c n i : Nat) (key : Bs) (v : Value) (L : List (Bs × Bs)) (W : World) (h1 : W.cell? ⟨bl, 0, none⟩ = some (.slice (some ⟨g, o, none⟩) n c)) (h2 : W.cell? ⟨bi, 0, none⟩ = some (.int .i64 i)) (h3 : W.cell? ⟨g, o + i * 5 + 1, none⟩ = some (.string key)) (hi : i < n) (hn : n ≤ 1000)
    (hbl : bl < W.heap.size) (hbi : bi < W.heap.size) (hg : g < W.heap.size) (hv : RowS W v L) :
    Calls Try.prog 42 #[v, .func (.func 43) #[] #[.pointer (some ⟨bl, 0, none⟩), .pointer (some ⟨bi, 0, none⟩)]] W fun e w' => e = .returned (.bool (L.any fun p => decide (p.1 = key))) ∧ Below W.heap.size W w' := by
  obtain ⟨a, d, rfl, hL, h4⟩ := hv
  rcases Nat.eq_zero_or_pos L.length with h0 | h0
  · have hn : L = [] := List.eq_nil_of_length_eq_zero h0
    subst hn
    go_enter Try.func42, Try.ntmps42
    go_wp2
    go_loopw [8] (fun i wr => i = .int .i64 0 ∧ wr = W) (fun _ _ => 0)
    case atStart => exact ⟨rfl, rfl⟩
    case round =>
      obtain ⟨rfl, rfl⟩ := hrel
      go_wp2
      go_ret
      exact ⟨rfl, Below.refl _ _⟩
  · obtain ⟨g2, rfl, g3, g4, g5, g6⟩ := h4 h0
    refine (AnyQ.slices_ContainsFunc Try.laysF42 2 (fun w => Try.isAgg45 w) (fun w => Try.sizeOf45 w) encPL (fun _ => rfl) (fun p => decide (p.1 = key)) 43 #[.pointer (some ⟨bl, 0, none⟩), .pointer (some ⟨bi, 0, none⟩)] (enters_of Try.func43 (by kernel_rfl) rfl) g2 0 L.length d L W (fun W' x hb => ?_) (Nat.le_refl _) hL g5 (fun j hj k u hu => ?_)).mono ?_
    · refine (snap1_any bl bi g o c n i key x W' ((hb.cell (p := ⟨bl, 0, none⟩) hbl).trans h1) ((hb.cell (p := ⟨bi, 0, none⟩) hbi).trans h2) ((hb.cell (p := ⟨g, o + i * 5 + 1, none⟩) hg).trans h3) hi hn (Nat.lt_of_lt_of_le hbl hb.size) (Nat.lt_of_lt_of_le hbi hb.size) (Nat.lt_of_lt_of_le hg hb.size)).mono ?_
      rintro e w1 ⟨he, hb1⟩
      exact ⟨he, hb.trans (hb1.mono hb.size)⟩
    · have e : L[j]! = L[j] := getElem!_pos L j hj
      rw [e] at hu
      obtain ⟨q0, q1⟩ := g6 j hj
      rw [Nat.zero_add]
      match k, hu with
      | 0, hu => cases hu; exact q0
      | 1, hu => cases hu; exact q1
    · rintro e w1 ⟨he, hb1⟩
      rw [List.take_length] at he
      exact ⟨he, hb1⟩
end Go.Proofs.Ytaecppkkbdbdbaa
