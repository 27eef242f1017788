/- Mvcc: slices.Equal of pairs. -/
import Derived.Test.YtaecppkkbdbdbaaMv20
namespace Go.Proofs.Ytaecppkkbdbdbaa
open Go.ChangeShapes Go.WideShapes Go.ChangeAt Go.RowKit Go.Deep Go.ChangeMaps Go.Shelf Go.Sort
set_option linter.unusedVariables false
set_option linter.unusedSimpArgs false
def eqP (x y : Bs × Ver) : Bool := decide (x.1 = y.1) && (decide (x.2.1 = y.2.1) && (decide (x.2.2.1 = y.2.2.1) && decide (x.2.2.2 = y.2.2.2)))
theorem dec4 (x y : Bs × Ver) : eqP x y = decide (x = y) := by
  obtain ⟨a, b, c, d⟩ := x
  obtain ⟨a', b', c', d'⟩ := y
  unfold eqP
  by_cases h1 : a = a' <;> by_cases h2 : b = b' <;> by_cases h3 : c = c' <;> by_cases h4 : d = d' <;> simp [h1, h2, h3, h4]
theorem inj_toList (a c : Bs) : (a.toList = c.toList) = (a = c) := by
  have h := pk (v := true) (a := a) (c := c)
  by_cases e : a = c
  · subst e; simp
  · rw [decide_eq_false e] at h
    simp only [beq_eq_false_iff_ne, ne_eq] at h
    simp [h, e]
theorem eq56 (a a' : Bs) (b b' : Int) (c c' : Bs) (e e' : Bool) (w : World) : (Op.equalIn 10000 56 (.agg #[.string a, .int .i64 b, .string c, .bool e]) (.agg #[.string a', .int .i64 b', .string c', .bool e'])).run Try.prog w = .ok (decide (a = a') && (decide (b = b') && (decide (c = c') && decide (e = e')))) w := by
  have u9 := und9'
  have hS : Try.prog.underlying 56 = some (.struct (Try.prog.fieldsOf 56)) := by kernel_rfl
  rw [show (10000 : Nat) = 9999 + 1 from rfl, run_equalIn_agg w 9999 _ _ _ hS (by kernel_rfl)]
  simp only [Program.fieldsOf, Try.underlying56]
  go_simp
  simp only [inj_toList]
  by_cases h1 : a = a' <;> by_cases h2 : b = b' <;> by_cases h3 : c = c' <;> by_cases h4 : e = e' <;> simp [h1, h2, h3, h4]
theorem eg56 : Try.prog.eqGuardType Try.prog.depth 56 = false := by kernel_rfl
theorem neq56 (a a' : Bs) (b b' : Int) (c c' : Bs) (e e' : Bool) (w : World) : (binOp .neq 56 (.agg #[.string a, .int .i64 b, .string c, .bool e]) (.agg #[.string a', .int .i64 b', .string c', .bool e'])).run Try.prog w = .ok (.bool (!(decide (a = a') && (decide (b = b') && (decide (c = c') && decide (e = e')))))) w := by
  rw [run_neq_struct, eq56]; rfl
theorem gd56 (x y : Operand) (a a' : Bs) (b b' : Int) (c c' : Bs) (e e' : Bool) (w : World) : (eqGuard .neq 56 x y (.agg #[.string a, .int .i64 b, .string c, .bool e]) (.agg #[.string a', .int .i64 b', .string c', .bool e'])).run Try.prog w = .ok () w := run_eqGuard_agg w _ _ _ _ _ _ eg56
attribute [-go_sem] run_equalIn_agg run_neq_struct
attribute [local go_sem] eg56 neq56 gd56
def RowP (W : World) (v : Value) (L : List (Bs × Ver)) : Prop := ∃ a c, v = .slice a L.length c ∧ L.length ≤ 9223372036854775807 ∧ (0 < L.length → ∃ g, a = some ⟨g, 0, none⟩ ∧ L.length ≤ c ∧ c ≤ 9223372036854775807 ∧ g < W.heap.size ∧ ∀ j (h : j < L.length), W.cell? ⟨g, j * 4, none⟩ = some (.string L[j].1) ∧ W.cell? ⟨g, j * 4 + 1, none⟩ = some (.int .i64 L[j].2.1) ∧ W.cell? ⟨g, j * 4 + 2, none⟩ = some (.string L[j].2.2.1) ∧ W.cell? ⟨g, j * 4 + 3, none⟩ = some (.bool L[j].2.2.2))
set_option maxRecDepth 100000 in
set_option maxHeartbeats 1600000 in
theorem equalP_any (v u : Value) (L M : List (Bs × Ver)) (W : World) (h1 : RowP W v L) (h2 : RowP W u M) :
    Calls Try.prog 27 #[v, u] W fun e W' => e = .returned (.bool (decide (L = M))) ∧ Below W.heap.size W W' := by
  obtain ⟨a, c, rfl, hL, hc⟩ := h1
  obtain ⟨b, d, rfl, hM, hd⟩ := h2
  have HC := Lib.hid (And.intro hc hd)
  clear hc hd
  by_cases hlen : L.length = M.length
  · obtain ⟨n, hn⟩ : ∃ n, n = L.length := ⟨_, rfl⟩
    rw [← hlen, ← hn]
    rw [← hn] at hL hlen
    have HN := Lib.hid (And.intro hn hlen)
    clear hn hlen
    go_enter Try.func27, Try.ntmps27
    go_wp2_with fail
    go_loopw [13] (fun i wr => ∃ j q : Nat, i = .int .i64 j ∧ j ≤ n ∧ Hid (L.take j = M.take j) ∧ wr = W.drewN q) (fun i wr => n - iv i)
    case atStart => exact ⟨0, 0, rfl, Nat.zero_le _, Lib.hid rfl, rfl⟩
    case round =>
      obtain ⟨j, q, rfl, hj, HE, rfl⟩ := hrel
      by_cases hlast : j = n
      · subst hlast
        obtain ⟨hn, hlen⟩ := HN.out
        have e1 : decide (L = M) = true := decide_eq_true (by have := HE.out; rwa [List.take_of_length_le (by omega), List.take_of_length_le (by omega)] at this)
        clear hn hlen
        go_wp2_with fail
        go_ret
        exact ⟨by rw [e1]; rfl, rfl, rfl, rfl, Nat.le_refl _, fun _ _ => rfl⟩
      · have hjn : j < n := by omega
        obtain ⟨g, rfl, g1, g2, g3, g4⟩ := HC.out.1 (by rw [← HN.out.1]; omega)
        obtain ⟨k, rfl, k1, k2, k3, k4⟩ := HC.out.2 (by rw [← HN.out.2]; omega)
        have hjL : j < L.length := by rw [← HN.out.1]; exact hjn
        have hjM : j < M.length := by rw [← HN.out.2]; exact hjn
        rw [← HN.out.1] at g1
        rw [← HN.out.2] at k1
        obtain ⟨c0, c1, c2, c3⟩ := g4 j hjL
        obtain ⟨d0, d1, d2, d3⟩ := k4 j hjM
        have HS := Lib.hid (And.intro (show L.take (j + 1) = L.take j ++ [L[j]] from List.take_succ_eq_append_getElem hjL) (show M.take (j + 1) = M.take j ++ [M[j]] from List.take_succ_eq_append_getElem hjM))
        have HX := Lib.hid (fun h : L = M => (show L[j] = M[j] from by subst h; rfl))
        have hw1 : IntKind.i64.wrap ((j : Int) + 1) = ((j + 1 : Nat) : Int) := by rw [IntKind.wrap_i64]; omega
        clear g4 k4 hlast
        generalize L[j] = x at *
        generalize M[j] = y at *
        by_cases hxy : x = y
        · subst hxy
          have t1 : (decide (x.1 = x.1) && (decide (x.2.1 = x.2.1) && (decide (x.2.2.1 = x.2.2.1) && decide (x.2.2.2 = x.2.2.2)))) = true := by simp
          have HE2 : Hid (L.take (j + 1) = M.take (j + 1)) := Lib.hid (by rw [HS.out.1, HS.out.2, HE.out])
          clear HE HS HX
          go_wp2_with fail
          go_quiet (fail)
          go_wp2_with fail
          go_roundw
          case rel => exact ⟨j + 1, _, by first | rfl | (push_cast; rfl), hjn, HE2, rfl⟩
          case measure => show n - (((j + 1 : Nat) : Int).toNat) < n - ((j : Int)).toNat; omega
        · have t1 : (decide (x.1 = y.1) && (decide (x.2.1 = y.2.1) && (decide (x.2.2.1 = y.2.2.1) && decide (x.2.2.2 = y.2.2.2)))) = false := by have := dec4 x y; unfold eqP at this; rw [this]; exact decide_eq_false hxy
          have e1 : decide (L = M) = false := decide_eq_false (fun h => hxy (HX.out h))
          clear HE HS HX
          go_wp2_with fail
          go_quiet (fail)
          go_wp2_with fail
          go_ret
          exact ⟨by rw [e1]; rfl, rfl, rfl, rfl, Nat.le_refl _, fun _ _ => rfl⟩
  · have e1 : decide (L = M) = false := decide_eq_false (fun h => hlen (by rw [h]))
    have d1 : decide ((L.length : Int) = (M.length : Int)) = false := decide_eq_false (by omega)
    go_enter Try.func27, Try.ntmps27
    go_wp2_with fail
    go_ret
    exact ⟨by rw [e1]; rfl, rfl, rfl, rfl, Nat.le_refl _, fun _ _ => rfl⟩
end Go.Proofs.Ytaecppkkbdbdbaa
