/- Mvcc: slices.Equal of what is read. -/
import Derived.Test.YtaecppkkbdbdbaaMv19
namespace Go.Proofs.Ytaecppkkbdbdbaa
open Go.ChangeShapes Go.WideShapes Go.ChangeAt Go.RowKit Go.Deep Go.ChangeMaps Go.Shelf Go.Sort
set_option linter.unusedVariables false
set_option linter.unusedSimpArgs false
theorem und9' : Try.prog.underlying 9 = some .string := by kernel_rfl
theorem und3' : Try.prog.underlying 3 = some (.int .i64) := by kernel_rfl
theorem und4' : Try.prog.underlying 4 = some .bool := by kernel_rfl
theorem und45' : Try.prog.underlying 45 = some (.array 2 9) := by kernel_rfl
theorem cells9 : Try.prog.cellsOf 9 = 1 := by kernel_rfl
theorem key9 : Try.prog.plainKey 9 = true := by kernel_rfl
theorem pk {v : Bool} {a c : Bs} : (a.toList == c.toList) = decide (a = c) := by
  rw [ByteArray.toList_eq, ByteArray.toList_eq]
  obtain ⟨⟨x⟩⟩ := a
  obtain ⟨⟨y⟩⟩ := c
  by_cases h : x = y
  · subst h; simp
  · have h2 : ¬ (ByteArray.mk ⟨x⟩ = ByteArray.mk ⟨y⟩) := fun e => h (by cases e; rfl)
    rw [decide_eq_false h2]
    simpa using h
theorem dec2 (x y : Bs × Bs) : (decide (x.1 = y.1) && decide (x.2 = y.2)) = decide (x = y) := by
  obtain ⟨a, b⟩ := x
  obtain ⟨c, d⟩ := y
  by_cases h1 : a = c <;> by_cases h2 : b = d <;> simp [h1, h2]
theorem eq45 (a b c e : Bs) (w : World) : (Op.equalIn 10000 45 (.agg #[.string a, .string b]) (.agg #[.string c, .string e])).run Try.prog w = .ok (decide (a = c) && decide (b = e)) w := by
  have hi : ∃ i, Try.prog.info? 9 = some i := info_of_underlying und9'
  obtain ⟨i, hi⟩ := hi
  rw [run_equalIn_array w 9999 _ _ und45' hi, cells9]
  have p0 : (part 9 #[.string a, .string b] 0).run Try.prog w = .ok (.string a) w := run_part_plain w key9 rfl
  have p1 : (part 9 #[.string a, .string b] 1).run Try.prog w = .ok (.string b) w := run_part_plain w key9 rfl
  have q0 : (part 9 #[.string c, .string e] 0).run Try.prog w = .ok (.string c) w := run_part_plain w key9 rfl
  have q1 : (part 9 #[.string c, .string e] 1).run Try.prog w = .ok (.string e) w := run_part_plain w key9 rfl
  have e1 := run_equalIn_string w 9998 9 a c und9'
  have e2 := run_equalIn_string w 9998 9 b e und9'
  rw [pk (v := true)] at e1 e2
  show (Op.eqItems 9999 9 1 #[.string a, .string b] #[.string c, .string e] [0, 1]).run Try.prog w = _
  simp only [Op.eqItems, Sem.run_bind, Nat.zero_mul, Nat.one_mul, p0, q0, p1, q1, Result.andThen_ok, e1, e2]
  cases h1 : decide (a = c) <;> cases h2 : decide (b = e) <;> simp [e1, e2, h1, h2, p1, q1]
attribute [local go_sem] eq45
def RowS (W : World) (v : Value) (L : List (Bs × Bs)) : Prop := ∃ a c, v = .slice a L.length c ∧ L.length ≤ 9223372036854775807 ∧ (0 < L.length → ∃ g, a = some ⟨g, 0, none⟩ ∧ L.length ≤ c ∧ c ≤ 9223372036854775807 ∧ g < W.heap.size ∧ ∀ j (h : j < L.length), W.cell? ⟨g, j * 2, none⟩ = some (.string L[j].1) ∧ W.cell? ⟨g, j * 2 + 1, none⟩ = some (.string L[j].2))
set_option maxRecDepth 100000 in
set_option maxHeartbeats 1600000 in
theorem equalS_any (v u : Value) (L M : List (Bs × Bs)) (W : World) (h1 : RowS W v L) (h2 : RowS W u M) :
    Calls Try.prog 20 #[v, u] W fun e W' => e = .returned (.bool (decide (L = M))) ∧ Below W.heap.size W W' := by
  obtain ⟨a, c, rfl, hL, hc⟩ := h1
  obtain ⟨b, d, rfl, hM, hd⟩ := h2
  have HC := Lib.hid (And.intro hc hd)
  clear hc hd
  by_cases hlen : L.length = M.length
  · obtain ⟨n, hn⟩ : ∃ n, n = L.length := ⟨_, rfl⟩
    rw [← hlen, ← hn]
    rw [← hn] at hL hlen
    have HN := Lib.hid (And.intro hn hlen)
    clear hn hlen
    go_enter Try.func20, Try.ntmps20
    go_wp2_with fail
    go_loopw [13] (fun i wr => ∃ j q : Nat, i = .int .i64 j ∧ j ≤ n ∧ Hid (L.take j = M.take j) ∧ wr = W.drewN q) (fun i wr => n - iv i)
    case atStart => exact ⟨0, 0, rfl, Nat.zero_le _, Lib.hid rfl, rfl⟩
    case round =>
      obtain ⟨j, q, rfl, hj, HE, rfl⟩ := hrel
      by_cases hlast : j = n
      · subst hlast
        obtain ⟨hn, hlen⟩ := HN.out
        have e1 : decide (L = M) = true := decide_eq_true (by have := HE.out; rwa [List.take_of_length_le (by omega), List.take_of_length_le (by omega)] at this)
        clear hn hlen
        go_wp2_with fail
        go_ret
        exact ⟨by rw [e1]; rfl, rfl, rfl, rfl, Nat.le_refl _, fun _ _ => rfl⟩
      · have hjn : j < n := by omega
        obtain ⟨g, rfl, g1, g2, g3, g4⟩ := HC.out.1 (by rw [← HN.out.1]; omega)
        obtain ⟨k, rfl, k1, k2, k3, k4⟩ := HC.out.2 (by rw [← HN.out.2]; omega)
        have hjL : j < L.length := by rw [← HN.out.1]; exact hjn
        have hjM : j < M.length := by rw [← HN.out.2]; exact hjn
        rw [← HN.out.1] at g1
        rw [← HN.out.2] at k1
        obtain ⟨c0, c1⟩ := g4 j hjL
        obtain ⟨d0, d1⟩ := k4 j hjM
        have HS := Lib.hid (And.intro (show L.take (j + 1) = L.take j ++ [L[j]] from List.take_succ_eq_append_getElem hjL) (show M.take (j + 1) = M.take j ++ [M[j]] from List.take_succ_eq_append_getElem hjM))
        have HX := Lib.hid (fun h : L = M => (show L[j] = M[j] from by subst h; rfl))
        have hw1 : IntKind.i64.wrap ((j : Int) + 1) = ((j + 1 : Nat) : Int) := by rw [IntKind.wrap_i64]; omega
        clear g4 k4 hlast
        generalize L[j] = x at *
        generalize M[j] = y at *
        by_cases hxy : x = y
        · subst hxy
          have t1 : (decide (x.1 = x.1) && decide (x.2 = x.2)) = true := by simp
          have HE2 : Hid (L.take (j + 1) = M.take (j + 1)) := Lib.hid (by rw [HS.out.1, HS.out.2, HE.out])
          clear HE HS HX
          go_wp2_with fail
          go_quiet (fail)
          go_wp2_with fail
          go_roundw
          case rel => exact ⟨j + 1, _, by first | rfl | (push_cast; rfl), hjn, HE2, rfl⟩
          case measure => show n - (((j + 1 : Nat) : Int).toNat) < n - ((j : Int)).toNat; omega
        · have t1 : (decide (x.1 = y.1) && decide (x.2 = y.2)) = false := by rw [dec2]; exact decide_eq_false hxy
          have e1 : decide (L = M) = false := decide_eq_false (fun h => hxy (HX.out h))
          clear HE HS HX
          go_wp2_with fail
          go_quiet (fail)
          go_wp2_with fail
          go_ret
          exact ⟨by rw [e1]; rfl, rfl, rfl, rfl, Nat.le_refl _, fun _ _ => rfl⟩
  · have e1 : decide (L = M) = false := decide_eq_false (fun h => hlen (by rw [h]))
    have d1 : decide ((L.length : Int) = (M.length : Int)) = false := decide_eq_false (by omega)
    go_enter Try.func20, Try.ntmps20
    go_wp2_with fail
    go_ret
    exact ⟨by rw [e1]; rfl, rfl, rfl, rfl, Nat.le_refl _, fun _ _ => rfl⟩
end Go.Proofs.Ytaecppkkbdbdbaa
