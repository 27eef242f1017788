/- Mvcc: slices.IsSortedFunc at calls. -/
import Derived.Test.YtaecppkkbdbdbaaMv32
import Derived.Shelf.SlSortCmp.QuietGrown
namespace Go.Proofs.Ytaecppkkbdbdbaa
open Go.ChangeShapes Go.WideShapes Go.ChangeAt Go.RowKit Go.ChangeMaps Go.Deep Go.Shelf Go.Sort
set_option linter.unusedVariables false
set_option linter.unusedSimpArgs false
set_option maxRecDepth 100000 in
theorem cmp_any (x y : Opv) (W : World) :
    Calls Try.prog 39 #[.agg (opc x), .agg (opc y)] W fun e W' => e = .returned (.int .i64 (if x.stamp < y.stamp then -1 else 1)) ∧ ∃ q os, W' = grow (W.drewN q) os := by
  obtain ⟨xk, xa, xv, xs, xb⟩ := x
  obtain ⟨yk, ya, yv, ys, yb⟩ := y
  have hx := Box.new W [.int .i64 xk, .string xa, .string xv, .int .i64 xs, .bool xb] 31
  have hy := Box.new (W.alloc (.cells #[.int .i64 xk, .string xa, .string xv, .int .i64 xs, .bool xb] 31)) [.int .i64 yk, .string ya, .string yv, .int .i64 ys, .bool yb] 31
  have hb1 : Below (W.alloc (.cells #[.int .i64 xk, .string xa, .string xv, .int .i64 xs, .bool xb] 31)).heap.size (W.alloc (.cells #[.int .i64 xk, .string xa, .string xv, .int .i64 xs, .bool xb] 31)) ((W.alloc (.cells #[.int .i64 xk, .string xa, .string xv, .int .i64 xs, .bool xb] 31)).alloc (.cells #[.int .i64 yk, .string ya, .string yv, .int .i64 ys, .bool yb] 31)) := (Below.refl _ _).alloc (Nat.le_refl _) _
  have c0 := (hx.keep hb1).cell 3 _ rfl
  have c1 := hy.cell 3 _ rfl
  simp only [World.size_alloc] at c1
  have hfin : ((W.alloc (.cells #[.int .i64 xk, .string xa, .string xv, .int .i64 xs, .bool xb] 31)).alloc (.cells #[.int .i64 yk, .string ya, .string yv, .int .i64 ys, .bool yb] 31)) = grow (W.drewN 0) #[.cells #[.int .i64 xk, .string xa, .string xv, .int .i64 xs, .bool xb] 31, .cells #[.int .i64 yk, .string ya, .string yv, .int .i64 ys, .bool yb] 31] := by
    rw [alloc_eq_grow, alloc_eq_grow, grow_grow]; rfl
  have HF := Lib.hid hfin
  clear hx hy hb1 hfin
  unfold opc
  by_cases h : xs < ys
  · go_enter Try.func39, Try.ntmps39
    go_wp2_with fail
    go_ret
    exact ⟨rfl, 0, _, HF.out⟩
  · go_enter Try.func39, Try.ntmps39
    go_wp2_with fail
    go_ret
    exact ⟨rfl, 0, _, HF.out⟩
theorem grow_below (W : World) (q : Nat) (os : Array Obj) : Below W.heap.size W (grow (W.drewN q) os) :=
  ⟨rfl, rfl, rfl, by show W.heap.size ≤ (W.heap ++ os).size; rw [Array.size_append]; omega, fun k hk => by show (W.heap ++ os)[k]? = _; exact Array.getElem?_append_left hk⟩
theorem cmp_lt (x y : Opv) (W : World) (h : x.stamp < y.stamp) :
    Calls Try.prog 39 #[.agg #[.int .i64 x.kind, .string x.key, .string x.value, .int .i64 x.stamp, .bool x.back], .agg #[.int .i64 y.kind, .string y.key, .string y.value, .int .i64 y.stamp, .bool y.back]] W fun e W' => e = .returned (.int .i64 (-1)) ∧ ∃ q os, W' = grow (W.drewN q) os := by
  have := cmp_any x y W
  rw [if_pos h] at this
  exact this
theorem cmp_ge (x y : Opv) (W : World) (h : ¬ x.stamp < y.stamp) :
    Calls Try.prog 39 #[.agg #[.int .i64 x.kind, .string x.key, .string x.value, .int .i64 x.stamp, .bool x.back], .agg #[.int .i64 y.kind, .string y.key, .string y.value, .int .i64 y.stamp, .bool y.back]] W fun e W' => e = .returned (.int .i64 1) ∧ ∃ q os, W' = grow (W.drewN q) os := by
  have := cmp_any x y W
  rw [if_neg h] at this
  exact this
def srtd (l : List Opv) : Prop := ∀ i (h : i + 1 < l.length), l[i].stamp ≤ l[i + 1].stamp
def SortOut (l : List Opv) (W : World) (e : Ending) (W' : World) : Prop := ∃ b : Bool, e = .returned (.bool b) ∧ (b = true → srtd l) ∧ Below W.heap.size W W'
set_option maxRecDepth 100000 in
set_option maxHeartbeats 1600000 in
theorem sorted_any (v : Value) (l : List Opv) (W : World) (h : OpsArg W v l) (hl : l.length ≤ 1000) :
    Calls Try.prog 38 #[v, .func (.func 39) #[] #[]] W (SortOut l W) := by
  obtain ⟨a, c, rfl, h'⟩ := h
  have HH := Lib.hid h'
  clear h'
  have mixed : Try.prog.follows .mixedOrders = true := by kernel_rfl
  obtain ⟨n, hn⟩ : ∃ n, n = l.length := ⟨_, rfl⟩
  have HN := Lib.hid hn
  rw [← hn] at hl ⊢
  clear hn
  go_enter Try.func38, Try.ntmps38
  have hw0 : IntKind.i64.wrap ((n : Int) - 1) = (n : Int) - 1 := by rw [IntKind.wrap_i64]; omega
  go_wp2_with fail
  go_loopw [5] (fun i wr => ∃ (j : Int) (q : Nat) (os : Array Obj), i = .int .i64 j ∧ -1 ≤ j ∧ j ≤ (n : Int) - 1 ∧ Hid (∀ i (h : i + 1 < l.length), j ≤ i → l[i].stamp ≤ l[i + 1].stamp) ∧ wr = grow (W.drewN q) os) (fun i wr => (iv i) + 1)
  case atStart => exact ⟨_, 0, #[], rfl, by omega, Int.le_refl _, Lib.hid (fun i h h2 => by have := HN.out; omega), by rw [grow_empty]; rfl⟩
  case round =>
    obtain ⟨j, q, os, rfl, hj0, hj1, HS, rfl⟩ := hrel
    by_cases hj : 0 < j
    · obtain ⟨k, rfl⟩ : ∃ k : Nat, j = (k : Int) := ⟨j.toNat, by omega⟩
      obtain ⟨m, hm⟩ : ∃ m : Nat, m + 1 = k := ⟨k - 1, by omega⟩
      have hkl : k < l.length := by have := HN.out; omega
      have hml : m < l.length := by omega
      have hkn : k < n := by omega
      have hmn : m < n := by omega
      obtain ⟨g, o, rfl, hg, hc⟩ := HH.out (by omega)
      obtain ⟨c0, c1, c2, c3, c4⟩ := hc k hkl
      obtain ⟨d0, d1, d2, d3, d4⟩ := hc m hml
      obtain ⟨W1, hW1⟩ : ∃ W1, W1 = grow (W.drewN q) os := ⟨_, rfl⟩
      have hb := grow_below W q os
      rw [← hW1] at hb ⊢
      have hg1 : g < W1.heap.size := Nat.lt_of_lt_of_le hg hb.size
      have hx : ∀ (k : Nat) (v : Value), W.cell? ⟨g, k, none⟩ = some v → ∀ n os, (grow (W1.drewN n) os).cell? ⟨g, k, none⟩ = some v := fun k v h n os => cell_grown (a := ⟨g, k, none⟩) hg1 ((hb.cell (p := ⟨g, k, none⟩) hg).trans h) n os
      have e0 := hx _ _ c0
      have e1 := hx _ _ c1
      have e2 := hx _ _ c2
      have e3 := hx _ _ c3
      have e4 := hx _ _ c4
      have f0 := hx _ _ d0
      have f1 := hx _ _ d1
      have f2 := hx _ _ d2
      have f3 := hx _ _ d3
      have f4 := hx _ _ d4
      have HW := Lib.hid hW1
      have HB1 := Lib.hid hb
      have hw1 : IntKind.i64.wrap ((k : Int) - 1) = (m : Int) := by rw [IntKind.wrap_i64]; omega
      have HM := Lib.hid hm
      have HXY := Lib.hid (And.intro (rfl : l[k] = l[k]) (rfl : l[m] = l[m]))
      clear hc c0 c1 c2 c3 c4 d0 d1 d2 d3 d4 hx hb hW1 hm
      by_cases hlt : l[k].stamp < l[m].stamp
      · generalize l[k] = x at *
        generalize l[m] = y at *
        go_wp2_with fail
        go_quiet_grown ((go_at_call 39; exact Calls.grown_of (cmp_lt x y _ hlt)))
        go_wp2_with fail
        go_ret
        exact ⟨false, rfl, (fun h => by cases h), HB1.out.trans ((grow_below W1 nq osq).mono HB1.out.size)⟩
      · have HS2 : Hid (∀ i (h : i + 1 < l.length), (m : Int) ≤ i → l[i].stamp ≤ l[i + 1].stamp) := Lib.hid (fun i h h2 => by
          by_cases hi : i = m
          · subst hi
            have hm := HM.out
            subst hm
            omega
          · exact HS.out i h (by have := HM.out; omega))
        clear HS
        generalize l[k] = x at *
        generalize l[m] = y at *
        go_wp2_with fail
        go_quiet_grown ((go_at_call 39; exact Calls.grown_of (cmp_ge x y _ (by omega))))
        go_wp2_with fail
        go_roundw
        case rel => exact ⟨m, q + nq, os ++ osq, rfl, by omega, by omega, HS2, by rw [HW.out]; show grow (grow ((W.drewN q).drewN nq) os) osq = _; rw [grow_grow, World.drewN_drewN]⟩
        case measure => show ((m : Int)).toNat + 1 < ((k : Int)).toNat + 1; have := HM.out; omega
    · go_wp2_with fail
      go_ret
      exact ⟨true, rfl, fun _ i h => HS.out i h (by omega), grow_below _ _ _⟩
end Go.Proofs.Ytaecppkkbdbdbaa
