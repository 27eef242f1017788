/- Btree: Put, Len, Height and Get of a tree whose root is a leaf. -/
import Derived.Test.YtegljepgncicjaaBt5
namespace Go.Proofs.Ytegljepgncicjaa
open Go.ChangeShapes Go.WideShapes Go.ChangeAt Go.RowKit Go.Deep
set_option linter.unusedVariables false
set_option linter.unusedSimpArgs false
theorem Put_any (B T : Nat) (o sz : Int) (r : Bool) (ks vs : List Bs) (key val : Bs) (W : World)
    (h : Calls Try.prog 31 #[.pointer (some ⟨T, 0, none⟩), .string key, .string val] W (TOut B T o sz r ks vs W)) :
    Calls Try.prog 20 #[.pointer (some ⟨T, 0, none⟩), .string key, .string val] W (TOut B T o sz r ks vs W) := by
  have H := Lib.hid h
  clear h
  go_enter Try.func20, Try.ntmps20
  go_wp2_with fail
  refine H.out.mono ?_
  rintro e W1 ⟨rfl, h2, h3, h4⟩
  have H2 := Lib.hid (And.intro h2 (And.intro h3 h4))
  clear h2 h3 h4 H
  go_wp2_with fail
  go_ret
  exact ⟨rfl, H2.out⟩
theorem Len_at (B T N : Nat) (o sz : Int) (kv vv : Value) (ks vs : List Bs) (W : World) (A : TreeAt B W T N o sz kv vv ks vs) :
    Calls Try.prog 13 #[.pointer (some ⟨T, 0, none⟩)] W fun e W' => e = .returned (.int .i64 sz) ∧ W' = W := by
  have a1 : W.cell? ⟨T, 1, none⟩ = some (.int .i64 sz) := A.box.cell 1 _ rfl
  clear A
  go_enter Try.func13, Try.ntmps13
  go_wp2_with fail
  go_ret
  exact ⟨rfl, rfl⟩
set_option maxRecDepth 100000 in
theorem height_at (B T N : Nat) (o sz : Int) (kv vv : Value) (ks vs : List Bs) (W : World) (A : TreeAt B W T N o sz kv vv ks vs) :
    Calls Try.prog 33 #[.pointer (some ⟨T, 0, none⟩)] W fun e W' => e = .returned (.int .i64 1) ∧ W' = W := by
  have a2 : W.cell? ⟨T, 2, none⟩ = some (.pointer (some ⟨N, 0, none⟩)) := A.box.cell 2 _ rfl
  have n2 : W.cell? ⟨N, 2, none⟩ = some (.slice none 0 0) := A.leaf.box.cell 2 _ rfl
  clear A
  go_enter Try.func33, Try.ntmps33
  go_wp2_with fail
  refine wp_loop_rounds 1 ?_
  rw [rounds_succ]
  go_wp2_with fail
  go_ret
  exact ⟨rfl, rfl⟩
set_option maxRecDepth 100000 in
theorem height_0 (T : Nat) (o sz : Int) (W : World) (A : Box W T [.int .i64 o, .int .i64 sz, .pointer none]) :
    Calls Try.prog 33 #[.pointer (some ⟨T, 0, none⟩)] W fun e W' => e = .returned (.int .i64 0) ∧ W' = W := by
  have a2 : W.cell? ⟨T, 2, none⟩ = some (.pointer none) := A.cell 2 _ rfl
  clear A
  go_enter Try.func33, Try.ntmps33
  go_wp2_with fail
  refine wp_loop_rounds 1 ?_
  rw [rounds_succ]
  go_wp2_with fail
  go_ret
  exact ⟨rfl, rfl⟩
theorem Height_of (T : Nat) (n : Int) (W : World) (h : Calls Try.prog 33 #[.pointer (some ⟨T, 0, none⟩)] W fun e W' => e = .returned (.int .i64 n) ∧ W' = W) :
    Calls Try.prog 23 #[.pointer (some ⟨T, 0, none⟩)] W fun e W' => e = .returned (.int .i64 n) ∧ W' = W := by
  have H := Lib.hid h
  clear h
  go_enter Try.func23, Try.ntmps23
  go_wp2_with fail
  refine H.out.mono ?_
  rintro e W1 ⟨rfl, rfl⟩
  go_wp2_with fail
  go_ret
  exact ⟨rfl, rfl⟩
set_option maxRecDepth 100000 in
set_option maxHeartbeats 1600000 in
theorem get_found (B T N : Nat) (o sz : Int) (kv vv : Value) (ks vs : List Bs) (key : Bs) (i : Nat) (W : World) (A : TreeAt B W T N o sz kv vv ks vs) (hl : ks.length ≤ 1000) (hi : bsI ks key = i) (hf : bsF ks key = true) :
    Calls Try.prog 34 #[.pointer (some ⟨T, 0, none⟩), .string key] W fun e W' => e = .returned (.tuple #[.string (sx vs i), .bool true]) ∧ ∃ q, W' = W.drewN q := by
  have hlt : i < vs.length := by
    have := of_decide_eq_true hf
    rw [hi] at this
    have h2 := A.len
    omega
  have hbs := bs_any B kv ks key W A.leaf.rk hl
  rw [hi, hf] at hbs
  have HBS := Lib.hid hbs
  have a2 : W.cell? ⟨T, 2, none⟩ = some (.pointer (some ⟨N, 0, none⟩)) := A.box.cell 2 _ rfl
  have n0 : W.cell? ⟨N, 0, none⟩ = some kv := A.leaf.box.cell 0 _ rfl
  have hl2 : vs.length ≤ 1000 := by have := A.len; omega
  have HL := Lib.hid A.leaf
  obtain ⟨kg, kc, rfl⟩ := A.leaf.rk.len
  rcases A.leaf.rv with ⟨rfl, rfl⟩ | ⟨g, c, rfl, hBg, hnc, hc0, hc63, hR, hc⟩
  · exact absurd hlt (Nat.not_lt_zero _)
  have c0 : W.cell? ⟨g, i, none⟩ = some (.string (sx vs i)) := by rw [hc i hlt, sx_cell hlt]
  have n1 : W.cell? ⟨N, 1, none⟩ = some (.slice (some ⟨g, 0, none⟩) vs.length c) := HL.out.box.cell 1 _ rfl
  clear A hbs hi hf hc hR HL
  go_enter Try.func34, Try.ntmps34
  go_wp2_with fail
  refine wp_loop_rounds 1 ?_
  rw [rounds_succ]
  go_wp2_with fail
  refine HBS.out.mono ?_
  rintro e W1 ⟨rfl, q, rfl⟩
  have b1 : (W.drewN q).cell? ⟨N, 1, none⟩ = some (.slice (some ⟨g, 0, none⟩) vs.length c) := n1
  have b2 : (W.drewN q).cell? ⟨g, i, none⟩ = some (.string (sx vs i)) := c0
  clear n0 n1 a2 c0
  go_wp2_with fail
  go_ret2
  exact ⟨rfl, q, rfl⟩
theorem Get_found (B T N : Nat) (o sz : Int) (kv vv : Value) (ks vs : List Bs) (key : Bs) (i : Nat) (W : World) (A : TreeAt B W T N o sz kv vv ks vs) (hl : ks.length ≤ 1000) (hi : bsI ks key = i) (hf : bsF ks key = true) :
    Calls Try.prog 24 #[.pointer (some ⟨T, 0, none⟩), .string key] W fun e W' => e = .returned (.tuple #[.string (sx vs i), .bool true]) ∧ ∃ q, W' = W.drewN q := by
  have H := Lib.hid (get_found B T N o sz kv vv ks vs key i W A hl hi hf)
  clear A hi hf
  go_enter Try.func24, Try.ntmps24
  go_wp2_with fail
  refine H.out.mono ?_
  rintro e W1 ⟨rfl, q, rfl⟩
  go_wp2_with fail
  go_ret2
  exact ⟨rfl, q, rfl⟩
end Go.Proofs.Ytegljepgncicjaa
