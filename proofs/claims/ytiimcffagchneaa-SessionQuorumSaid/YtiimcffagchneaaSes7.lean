/- Sessions: awake (under way). -/
import Derived.Test.YtiimcffagchneaaSes7b
namespace Go.Proofs.Ytiimcffagchneaa
open Go.ChangeShapes Go.WideShapes Go.ChangeAt Go.RowKit
set_option linter.unusedVariables false
set_option linter.unusedSimpArgs false

theorem bcell {W w1 : World} (hb : Below W.heap.size W w1) : (∀ b o, b < W.heap.size → w1.cell? ⟨b, o, none⟩ = W.cell? ⟨b, o, none⟩) ∧ (∀ b o, b < W.heap.size → w1.frozen? ⟨b, o, none⟩ = W.frozen? ⟨b, o, none⟩) :=
  ⟨fun b o h => hb.cell (p := ⟨b, o, none⟩) h, fun b o h => hb.frozen (p := ⟨b, o, none⟩) h⟩
theorem new_c (w : World) : Calls Try.prog 10 #[.string ⟨#[99]⟩] w fun e w' => e = .returned (.tuple #[ses ⟨#[99]⟩ 0 0 0, .int .i64 0]) ∧ Below w.heap.size w w' := new_yes ⟨#[99]⟩ w (by decide) (by decide +kernel)
theorem new_0 (w : World) : Calls Try.prog 10 #[.string ⟨#[]⟩] w fun e w' => e = .returned (.tuple #[ses ⟨#[]⟩ 0 0 0, .int .i64 9]) ∧ Below w.heap.size w w' := new_no ⟨#[]⟩ w (by decide) (by decide +kernel)

theorem lc1 : logCells[1]? = some (.int .i64 1) := by kernel_rfl
theorem lc83 : logCells[83]? = some (.int .i64 2) := by kernel_rfl
theorem lc165 : logCells[165]? = some (.int .i64 5) := by kernel_rfl
theorem lc247 : logCells[247]? = some (.int .i64 7) := by kernel_rfl
theorem cell_new (w : World) (xs : Array Value) (t k : Nat) (v : Value) (h : xs[k]? = some v) : (w.alloc (.cells xs t)).cell? ⟨w.heap.size, k, none⟩ = some v := by
  rw [World.cell?_alloc_new]; exact h
theorem stamps_log (X W : World) (b : Nat) (hx : X.heap.size = b) (hb : Below (b + 1) (X.alloc (.cells logCells 74)) W) : StampsAt W (.slice (some ⟨b, 0, none⟩) 4 4) [1, 2, 5, 7] := by
  subst hx
  have hs : X.heap.size + 1 ≤ W.heap.size := by have := hb.size; simpa using this
  refine .inr ⟨X.heap.size, 0, 4, rfl, by omega, fun j hj => ?_⟩
  rw [hb.cell (p := ⟨X.heap.size, 0 + j * 82 + 1, none⟩) (Nat.lt_succ_self _)]
  rcases j with _ | _ | _ | _ | j
  · exact cell_new _ _ _ _ _ lc1
  · exact cell_new _ _ _ _ _ lc83
  · exact cell_new _ _ _ _ _ lc165
  · exact cell_new _ _ _ _ _ lc247
  · simp at hj; omega
theorem ints_421 (X W : World) (b : Nat) (hx : X.heap.size = b) (hb : Below (b + 1) (X.alloc (.cells #[.int .i64 4, .int .i64 2, .int .i64 1] 3)) W) : ∀ j (h : j < ([4, 2, 1] : List Int).length), W.cell? ⟨b, 0 + j, none⟩ = some (.int .i64 ([4, 2, 1] : List Int)[j]) := by
  subst hx
  intro j hj
  rw [hb.cell (p := ⟨X.heap.size, 0 + j, none⟩) (Nat.lt_succ_self _)]
  rcases j with _ | _ | _ | j
  · exact cell_new _ _ _ _ _ rfl
  · exact cell_new _ _ _ _ _ rfl
  · exact cell_new _ _ _ _ _ rfl
  · simp at hj; omega

theorem fld2 (n : ByteArray) (t wr nu : Int) (w : World) : (Instr.field 23 (.agg #[.string n, .int .i64 t, .int .i64 wr, .int .i64 nu]) 2).run Try.prog w = .ok (.int .i64 wr) w := by kernel_rfl
theorem wpList_ent {ops : Array Oper} {rest : List Oper} {Q : Exit → Act → World → Prop} (x y : Int) (d : Option Nat) (pos : String) (af) (a : Act) (w : World) (h : wpList Try.prog ops Q rest (a.put d (ent x y)) w) :
    wpList Try.prog ops Q ({ dst := d, op := Op.build 74 #[(0, Operand.const (Value.int IntKind.i64 x)), (1, Operand.const (Value.int IntKind.i64 y))], type := 74, pos := pos, after := af, guard := none } :: rest) a w :=
  wpList_val rfl (exec_ent _ _ _ _ _ _ _) h
theorem wpList_log {ops : Array Oper} {rest : List Oper} {Q : Exit → Act → World → Prop} (i0 i1 i2 i3 : Nat) (d : Option Nat) (pos : String) (af) (a : Act) (w : World) (h0 : a.eval (.tmp i0) = ent 1 1) (h1 : a.eval (.tmp i1) = ent 1 2) (h2 : a.eval (.tmp i2) = ent 1 5) (h3 : a.eval (.tmp i3) = ent 1 7)
    (h : wpList Try.prog ops Q rest (a.put d (.slice (some ⟨w.heap.size, 0, none⟩) 4 4)) (w.alloc (.cells logCells 74))) :
    wpList Try.prog ops Q ({ dst := d, op := Op.buildSlice 34 4 #[(0, Operand.tmp i0), (1, Operand.tmp i1), (2, Operand.tmp i2), (3, Operand.tmp i3)], type := 34, pos := pos, after := af, guard := none } :: rest) a w :=
  wpList_val rfl (exec_log _ _ _ _ _ _ _ _ _ h0 h1 h2 h3) h

set_option maxRecDepth 100000 in
set_option maxHeartbeats 400000 in
theorem awake_any (w : World) : Calls Try.prog 12 #[] w fun e w' => e = .returned (.bool true) ∧ Below w.heap.size w w' := by
  go_enter Try.func12, Try.ntmps12
  go_wp2_with fail
  refine (new_c _).mono ?_
  rintro e w1 ⟨rfl, hb1⟩
  have HW1 := Lib.hid hb1
  have hs1 : w.heap.size ≤ w1.heap.size := hb1.size
  go_wp2_with fail
  refine (new_0 _).mono ?_
  rintro e w2 ⟨rfl, hb2⟩
  have HW2 : Hid (Below w.heap.size w w2) := Lib.hid (Below.trans (by repeat' (first | with_reducible exact HW1.out | with_reducible refine Below.drew ?_ | with_reducible refine Below.setCell ?_ (by first | omega | (simp; omega) | simp) _ | with_reducible refine Below.alloc ?_ (by first | omega | (simp; omega) | simp) _)) (hb2.mono (by first | omega | (simp; omega) | simp)))
  have hs2 : w.heap.size ≤ w2.heap.size := HW2.out.size
  obtain ⟨hc2, hf2⟩ := bcell hb2
  have hz2 : w1.heap.size < w2.heap.size := by have := hb2.size; simp at this; omega
  go_wp2_with fail
  refine (saw_hi _ _ _ _ _ _ (by decide)).mono ?_
  rintro e w3 ⟨rfl, hb3⟩
  have HW3 : Hid (Below w.heap.size w w3) := Lib.hid (Below.trans (by repeat' (first | with_reducible exact HW2.out | with_reducible refine Below.drew ?_ | with_reducible refine Below.setCell ?_ (by first | omega | (simp; omega) | simp) _ | with_reducible refine Below.alloc ?_ (by first | omega | (simp; omega) | simp) _)) (hb3.mono (by first | omega | (simp; omega) | simp)))
  have hs3 : w.heap.size ≤ w3.heap.size := HW3.out.size
  obtain ⟨hc3, hf3⟩ := bcell hb3
  have hz3 : w2.heap.size < w3.heap.size := by have := hb3.size; simp at this; omega
  have hy3 : w1.heap.size < w3.heap.size := by omega
  have hx2 : w1.heap.size < w2.heap.size + 1 := by omega
  go_wp2_with fail
  refine (saw_lo _ _ _ _ _ _ (by decide)).mono ?_
  rintro e w4 ⟨rfl, hb4⟩
  have HW4 : Hid (Below w.heap.size w w4) := Lib.hid (Below.trans (by repeat' (first | with_reducible exact HW3.out | with_reducible refine Below.drew ?_ | with_reducible refine Below.setCell ?_ (by first | omega | (simp; omega) | simp) _ | with_reducible refine Below.alloc ?_ (by first | omega | (simp; omega) | simp) _)) (hb4.mono (by first | omega | (simp; omega) | simp)))
  have hs4 : w.heap.size ≤ w4.heap.size := HW4.out.size
  obtain ⟨hc4, hf4⟩ := bcell hb4
  have hz4 : w3.heap.size ≤ w4.heap.size := hb4.size
  have hy4 : w1.heap.size < w4.heap.size := by omega
  go_wp2_with fail
  refine (retry_old _ _ _ (by decide)).mono ?_
  rintro e w5 ⟨rfl, rfl⟩
  go_wp2_with (first | (with_reducible refine wpList_ent _ _ _ _ _ _ _ ?_) | (with_reducible refine wpList_log _ _ _ _ _ _ _ _ _ rfl rfl rfl rfl ?_))
  refine (point_maj _ _ _ _ _ _ _ _ _ 4 4 _ _ _ [1, 2, 5, 7] _ _ 7 2 _ rfl (by decide) (stamps_log ?X _ _ ?hx ?hb) (by decide) (by decide) (by decide)).mono ?_
  case hb =>
    with_reducible refine Below.alloc ?_ ?_ _
    with_reducible refine Below.alloc ?_ ?_ _
    with_reducible refine Below.alloc ?_ ?_ _
    with_reducible exact Below.refl _ _
    all_goals (simp <;> omega)
  case hx => simp
  rintro e w6 ⟨rfl, hb6⟩
  have HW6 : Hid (Below w.heap.size w w6) := Lib.hid (Below.trans (by repeat' (first | with_reducible exact HW4.out | with_reducible refine Below.drew ?_ | with_reducible refine Below.setCell ?_ (by first | omega | (simp; omega) | simp) _ | with_reducible refine Below.alloc ?_ (by first | omega | (simp; omega) | simp) _)) (hb6.mono (by first | omega | (simp; omega) | simp)))
  have hs6 : w.heap.size ≤ w6.heap.size := HW6.out.size
  obtain ⟨hc6, hf6⟩ := bcell hb6
  have hz6 : w4.heap.size + 4 ≤ w6.heap.size := by have := hb6.size; simp at this; omega
  have A0 : w1.heap.size < w4.heap.size + 1 := by omega
  have A1 : w1.heap.size < w4.heap.size + 1 + 1 := by omega
  have A2 : w1.heap.size < w4.heap.size + 1 + 1 + 1 := by omega
  have A3 : w1.heap.size < w4.heap.size + 1 + 1 + 1 + 1 := by omega
  have q0 : w6.cell? ⟨w1.heap.size, 0, none⟩ = some (.string ⟨#[99]⟩) := by rw [hc6 _ _ (by simpa using A3)]; simp [go_sem, hy4, A0, A1, A2, hc4, hc3, hc2, hz2, hy3, hx2]
  have q1 : w6.cell? ⟨w1.heap.size, 1, none⟩ = some (.int .i64 5) := by rw [hc6 _ _ (by simpa using A3)]; simp [go_sem, hy4, A0, A1, A2, hc4, hc3, hc2, hz2, hy3, hx2]
  have q2 : w6.cell? ⟨w1.heap.size, 2, none⟩ = some (.int .i64 0) := by rw [hc6 _ _ (by simpa using A3)]; simp [go_sem, hy4, A0, A1, A2, hc4, hc3, hc2, hz2, hy3, hx2]
  have q3 : w6.cell? ⟨w1.heap.size, 3, none⟩ = some (.int .i64 0) := by rw [hc6 _ _ (by simpa using A3)]; simp [go_sem, hy4, A0, A1, A2, hc4, hc3, hc2, hz2, hy3, hx2]
  have m6_0 : w6.cell? ⟨w4.heap.size + 1 + 1 + 1, 0, none⟩ = some (.int .i64 0) := by rw [hc6 _ _ (by simp)]; simp [go_sem]
  have m6_1 : w6.cell? ⟨w4.heap.size + 1 + 1 + 1, 1, none⟩ = some (.int .i64 3) := by rw [hc6 _ _ (by simp)]; simp [go_sem]
  have m6_2 : w6.cell? ⟨w4.heap.size + 1 + 1 + 1, 2, none⟩ = some (.int .i64 1) := by rw [hc6 _ _ (by simp)]; simp [go_sem]
  have m6_3 : w6.cell? ⟨w4.heap.size + 1 + 1 + 1, 3, none⟩ = some (.int .i64 0) := by rw [hc6 _ _ (by simp)]; simp [go_sem]
  have m6_4 : w6.cell? ⟨w4.heap.size + 1 + 1 + 1, 4, none⟩ = some (.int .i64 2) := by rw [hc6 _ _ (by simp)]; simp [go_sem]
  have m6_5 : w6.cell? ⟨w4.heap.size + 1 + 1 + 1, 5, none⟩ = some (.int .i64 0) := by rw [hc6 _ _ (by simp)]; simp [go_sem]
  have m6_6 : w6.cell? ⟨w4.heap.size + 1 + 1 + 1, 6, none⟩ = some (.int .i64 0) := by rw [hc6 _ _ (by simp)]; simp [go_sem]
  have m6_7 : w6.cell? ⟨w4.heap.size + 1 + 1 + 1, 7, none⟩ = some (.int .i64 3) := by rw [hc6 _ _ (by simp)]; simp [go_sem]
  have m6_8 : w6.cell? ⟨w4.heap.size + 1 + 1 + 1, 8, none⟩ = some (.slice (some ⟨w4.heap.size, 0, none⟩) 4 4) := by rw [hc6 _ _ (by simp)]; simp [go_sem]
  have m6_9 : w6.cell? ⟨w4.heap.size + 1 + 1 + 1, 9, none⟩ = some (.int .i64 2) := by rw [hc6 _ _ (by simp)]; simp [go_sem]
  have m6_10 : w6.cell? ⟨w4.heap.size + 1 + 1 + 1, 10, none⟩ = some (.slice (some ⟨w4.heap.size + 1, 0, none⟩) 3 3) := by rw [hc6 _ _ (by simp)]; simp [go_sem]
  have m6_11 : w6.cell? ⟨w4.heap.size + 1 + 1 + 1, 11, none⟩ = some (.slice (some ⟨w4.heap.size + 1 + 1, 0, none⟩) 3 3) := by rw [hc6 _ _ (by simp)]; simp [go_sem]
  have I6 : Hid (∀ j (h : j < ([4, 2, 1] : List Int).length), w6.cell? ⟨w4.heap.size + 1 + 1, 0 + j, none⟩ = some (.int .i64 ([4, 2, 1] : List Int)[j])) := Lib.hid (by
    refine ints_421 ?Xy _ _ ?hxy ?hby
    case hby =>
      refine Below.trans ?_ (hb6.mono (by simp <;> omega))
      with_reducible refine Below.alloc ?_ (by simp) _
      with_reducible exact Below.refl _ _
    case hxy => simp)
  go_wp2_with fail
  refine (wrote_hi _ _ _ _ _ _ _ (by decide)).mono ?_
  rintro e w7 ⟨he7, hb7⟩
  simp only [ses] at he7
  subst he7
  have F2 := fld2
  obtain ⟨hc7, hf7⟩ := bcell hb7
  have hz7 : w4.heap.size + 4 ≤ w7.heap.size := by have := hb7.size; omega
  have HW7 : Hid (Below w.heap.size w w7) := Lib.hid (Below.trans (by repeat' (first | with_reducible exact HW6.out | with_reducible refine Below.drew ?_ | with_reducible refine Below.setCell ?_ (by first | omega | (simp; omega) | simp) _ | with_reducible refine Below.alloc ?_ (by first | omega | (simp; omega) | simp) _)) (hb7.mono (by first | omega | (simp; omega) | simp)))
  have hs7 : w.heap.size ≤ w7.heap.size := HW7.out.size
  have m7_0 : w7.cell? ⟨w4.heap.size + 1 + 1 + 1, 0, none⟩ = some (.int .i64 0) := (hc7 _ _ (by omega)).trans m6_0
  have m7_1 : w7.cell? ⟨w4.heap.size + 1 + 1 + 1, 1, none⟩ = some (.int .i64 3) := (hc7 _ _ (by omega)).trans m6_1
  have m7_2 : w7.cell? ⟨w4.heap.size + 1 + 1 + 1, 2, none⟩ = some (.int .i64 1) := (hc7 _ _ (by omega)).trans m6_2
  have m7_3 : w7.cell? ⟨w4.heap.size + 1 + 1 + 1, 3, none⟩ = some (.int .i64 0) := (hc7 _ _ (by omega)).trans m6_3
  have m7_4 : w7.cell? ⟨w4.heap.size + 1 + 1 + 1, 4, none⟩ = some (.int .i64 2) := (hc7 _ _ (by omega)).trans m6_4
  have m7_5 : w7.cell? ⟨w4.heap.size + 1 + 1 + 1, 5, none⟩ = some (.int .i64 0) := (hc7 _ _ (by omega)).trans m6_5
  have m7_6 : w7.cell? ⟨w4.heap.size + 1 + 1 + 1, 6, none⟩ = some (.int .i64 0) := (hc7 _ _ (by omega)).trans m6_6
  have m7_7 : w7.cell? ⟨w4.heap.size + 1 + 1 + 1, 7, none⟩ = some (.int .i64 3) := (hc7 _ _ (by omega)).trans m6_7
  have m7_8 : w7.cell? ⟨w4.heap.size + 1 + 1 + 1, 8, none⟩ = some (.slice (some ⟨w4.heap.size, 0, none⟩) 4 4) := (hc7 _ _ (by omega)).trans m6_8
  have m7_9 : w7.cell? ⟨w4.heap.size + 1 + 1 + 1, 9, none⟩ = some (.int .i64 2) := (hc7 _ _ (by omega)).trans m6_9
  have m7_10 : w7.cell? ⟨w4.heap.size + 1 + 1 + 1, 10, none⟩ = some (.slice (some ⟨w4.heap.size + 1, 0, none⟩) 3 3) := (hc7 _ _ (by omega)).trans m6_10
  have m7_11 : w7.cell? ⟨w4.heap.size + 1 + 1 + 1, 11, none⟩ = some (.slice (some ⟨w4.heap.size + 1 + 1, 0, none⟩) 3 3) := (hc7 _ _ (by omega)).trans m6_11
  have I7 : Hid (∀ j (h : j < ([4, 2, 1] : List Int).length), w7.cell? ⟨w4.heap.size + 1 + 1, 0 + j, none⟩ = some (.int .i64 ([4, 2, 1] : List Int)[j])) := Lib.hid (fun j h => (hc7 _ _ (by omega)).trans (I6.out j h))
  go_wp2_with fail
  refine (acked_zero _ _ _ _ _ _ _ _ _ _ _ _ _ [4, 2, 1] _ _ (by omega) (by decide) (by decide) (by decide) I7.out).mono ?_
  rw [show (decide ((3 : Int) / 2 + 1 ≤ (cnt [4, 2, 1] 2 : Nat))) = true from by decide]
  rintro e w8 ⟨rfl, hb8⟩
  obtain ⟨hc8, hf8⟩ := bcell hb8
  have hz8 : w4.heap.size + 4 ≤ w8.heap.size := by have := hb8.size; omega
  have HW8 : Hid (Below w.heap.size w w8) := Lib.hid (Below.trans (by repeat' (first | with_reducible exact HW7.out | with_reducible refine Below.drew ?_ | with_reducible refine Below.setCell ?_ (by first | omega | (simp; omega) | simp) _ | with_reducible refine Below.alloc ?_ (by first | omega | (simp; omega) | simp) _)) (hb8.mono (by first | omega | (simp; omega) | simp)))
  have hs8 : w.heap.size ≤ w8.heap.size := HW8.out.size
  have m8_0 : w8.cell? ⟨w4.heap.size + 1 + 1 + 1, 0, none⟩ = some (.int .i64 0) := (hc8 _ _ (by omega)).trans m7_0
  have m8_1 : w8.cell? ⟨w4.heap.size + 1 + 1 + 1, 1, none⟩ = some (.int .i64 3) := (hc8 _ _ (by omega)).trans m7_1
  have m8_2 : w8.cell? ⟨w4.heap.size + 1 + 1 + 1, 2, none⟩ = some (.int .i64 1) := (hc8 _ _ (by omega)).trans m7_2
  have m8_3 : w8.cell? ⟨w4.heap.size + 1 + 1 + 1, 3, none⟩ = some (.int .i64 0) := (hc8 _ _ (by omega)).trans m7_3
  have m8_4 : w8.cell? ⟨w4.heap.size + 1 + 1 + 1, 4, none⟩ = some (.int .i64 2) := (hc8 _ _ (by omega)).trans m7_4
  have m8_5 : w8.cell? ⟨w4.heap.size + 1 + 1 + 1, 5, none⟩ = some (.int .i64 0) := (hc8 _ _ (by omega)).trans m7_5
  have m8_6 : w8.cell? ⟨w4.heap.size + 1 + 1 + 1, 6, none⟩ = some (.int .i64 0) := (hc8 _ _ (by omega)).trans m7_6
  have m8_7 : w8.cell? ⟨w4.heap.size + 1 + 1 + 1, 7, none⟩ = some (.int .i64 3) := (hc8 _ _ (by omega)).trans m7_7
  have m8_8 : w8.cell? ⟨w4.heap.size + 1 + 1 + 1, 8, none⟩ = some (.slice (some ⟨w4.heap.size, 0, none⟩) 4 4) := (hc8 _ _ (by omega)).trans m7_8
  have m8_9 : w8.cell? ⟨w4.heap.size + 1 + 1 + 1, 9, none⟩ = some (.int .i64 2) := (hc8 _ _ (by omega)).trans m7_9
  have m8_10 : w8.cell? ⟨w4.heap.size + 1 + 1 + 1, 10, none⟩ = some (.slice (some ⟨w4.heap.size + 1, 0, none⟩) 3 3) := (hc8 _ _ (by omega)).trans m7_10
  have m8_11 : w8.cell? ⟨w4.heap.size + 1 + 1 + 1, 11, none⟩ = some (.slice (some ⟨w4.heap.size + 1 + 1, 0, none⟩) 3 3) := (hc8 _ _ (by omega)).trans m7_11
  have I8 : Hid (∀ j (h : j < ([4, 2, 1] : List Int).length), w8.cell? ⟨w4.heap.size + 1 + 1, 0 + j, none⟩ = some (.int .i64 ([4, 2, 1] : List Int)[j])) := Lib.hid (fun j h => (hc8 _ _ (by omega)).trans (I7.out j h))
  go_wp2_with fail
  refine (acked_zero _ _ _ _ _ _ _ _ _ _ _ _ _ [4, 2, 1] _ _ (by omega) (by decide) (by decide) (by decide) I8.out).mono ?_
  rw [show (decide ((3 : Int) / 2 + 1 ≤ (cnt [4, 2, 1] 3 : Nat))) = false from by decide]
  rintro e w9 ⟨rfl, hb9⟩
  have HW9 : Hid (Below w.heap.size w w9) := Lib.hid (Below.trans (by repeat' (first | with_reducible exact HW8.out | with_reducible refine Below.drew ?_ | with_reducible refine Below.setCell ?_ (by first | omega | (simp; omega) | simp) _ | with_reducible refine Below.alloc ?_ (by first | omega | (simp; omega) | simp) _)) (hb9.mono (by first | omega | (simp; omega) | simp)))
  have hs9 : w.heap.size ≤ w9.heap.size := HW9.out.size
  go_wp2_with fail
  go_ret
  exact ⟨rfl, HW9.out⟩
end Go.Proofs.Ytiimcffagchneaa
