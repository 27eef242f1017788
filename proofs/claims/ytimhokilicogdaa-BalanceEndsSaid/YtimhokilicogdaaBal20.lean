/- Balance: awake. -/
import Derived.Test.YtimhokilicogdaaBal19
import Derived.Outline
namespace Go.Proofs.Ytimhokilicogdaa
open Go.ChangeShapes Go.WideShapes Go.ChangeAt Go.RowKit
set_option linter.unusedVariables false
set_option linter.unusedSimpArgs false
/-- a boxed proposal -/
def PB (W : World) (B : Nat) (lo : ByteArray) (f t : Int) : Prop := W.cell? ⟨B, 0, none⟩ = some (.string lo) ∧ W.cell? ⟨B, 1, none⟩ = some (.int .i64 f) ∧ W.cell? ⟨B, 2, none⟩ = some (.int .i64 t) ∧ B < W.heap.size
theorem PB.next {W W' : World} {B : Nat} {lo : ByteArray} {f t : Int} (h : PB W B lo f t) (hb : Below W.heap.size W W') : PB W' B lo f t :=
  ⟨((bcell hb).1 _ _ h.2.2.2).trans h.1, ((bcell hb).1 _ _ h.2.2.2).trans h.2.1, ((bcell hb).1 _ _ h.2.2.2).trans h.2.2.1, Nat.lt_of_lt_of_le h.2.2.2 hb.size⟩
theorem PB.new (W : World) (lo : ByteArray) (f t : Int) (ty : TypeId) : PB (W.alloc (.cells #[.string lo, .int .i64 f, .int .i64 t] ty)) W.heap.size lo f t :=
  ⟨by simp [go_sem], by simp [go_sem], by simp [go_sem], by simp⟩
theorem ints1_new (W : World) : IntsIn (W.alloc (.cells #[.int .i64 1] 3)) (.slice (some ⟨W.heap.size, 0, none⟩) 1 1) [1] :=
  .inr ⟨W.heap.size, 0, 1, rfl, by simp, by decide, by decide, fun j hj => by
    rcases j with _ | j
    · simp [go_sem]
    · simp at hj⟩
set_option maxRecDepth 100000 in
set_option maxHeartbeats 1000000 in
theorem awake_any (w : World) : Calls Try.prog 8 #[] w fun e w' => e = .returned (.bool true) ∧ Below w.heap.size w w' := by
  go_enter Try.func8, Try.ntmps8
  go_wp2_with fail
  refine (three_out _).mono ?_
  rintro e w1 ⟨⟨b1, ks1, he1, hb1, hz1, hf1, hc1⟩, hw1⟩
  subst he1
  have HW1 : Hid (Below w.heap.size w w1) := Lib.hid hw1
  have hs1 := hw1.size
  go_wp2_with fail
  refine (next_any _ _ _ _ _ _ threeCs 2 _ [] _ (by decide) hc1 (.inl ⟨rfl, _, _, rfl⟩)).mono ?_
  rintro e w2 ⟨he2, hw2⟩
  rw [prop1] at he2
  subst he2
  have HW2 : Hid (Below w.heap.size w w2) := Lib.hid (HW1.out.trans (hw2.mono hs1))
  have hs2 := HW2.out.size
  clear hw1 hw2 hc1 hf1
  go_wp2_with fail
  refine calls_named (fun W => PB W w2.heap.size ⟨#[]⟩ 0 1 ∧ Below w.heap.size w W) ⟨PB.new _ _ _ _ _, HW2.out.alloc hs2 _⟩ ?_
  rintro w3 ⟨hp3, hw3⟩
  have HP3 := Lib.hid hp3
  have HW3 := Lib.hid hw3
  have hs3 := hw3.size
  refine (three_out _).mono ?_
  rintro e w4 ⟨⟨b4, ks4, he4, hb4, hz4, hf4, hc4⟩, hw4⟩
  subst he4
  have HP4 := Lib.hid (HP3.out.next hw4)
  have HW4 : Hid (Below w.heap.size w w4) := Lib.hid (HW3.out.trans (hw4.mono hs3))
  have hs4 := HW4.out.size
  have HC4 := Lib.hid hc4
  clear hp3 hw3 hw4 hc4 hf4
  go_wp2_with fail
  refine calls_named (fun W => PB W w2.heap.size ⟨#[]⟩ 0 1 ∧ Below w.heap.size w W ∧ IntsIn W (.slice (some ⟨w4.heap.size, 0, none⟩) 1 1) [1] ∧ ChsIn W (.slice (some ⟨b4, 0, none⟩) 3 3) threeCs) ⟨HP4.out.next ((Below.refl _ _).alloc (Nat.le_refl _) _), HW4.out.alloc hs4 _, ints1_new _, HC4.out.below ((Below.refl _ _).alloc (Nat.le_refl _) _)⟩ ?_
  rintro w5 ⟨hp5, hw5, hi5, hc5⟩
  have HP5 := Lib.hid hp5
  have HW5 := Lib.hid hw5
  have hs5 := hw5.size
  refine (next_any _ _ _ _ _ _ threeCs 2 _ [1] _ (by decide) hc5 hi5).mono ?_
  rintro e w6 ⟨he6, hw6⟩
  rw [prop2] at he6
  subst he6
  have HP6 := Lib.hid (HP5.out.next hw6)
  have HW6 : Hid (Below w.heap.size w w6) := Lib.hid (HW5.out.trans (hw6.mono hs5))
  have hs6 := HW6.out.size
  clear hp5 hw5 hi5 hc5 hw6
  go_wp2_with fail
  refine calls_named (fun W => PB W w2.heap.size ⟨#[]⟩ 0 1 ∧ PB W w6.heap.size ⟨#[]⟩ 0 0 ∧ Below w.heap.size w W) ⟨HP6.out.next ((Below.refl _ _).alloc (Nat.le_refl _) _), PB.new _ _ _ _ _, HW6.out.alloc hs6 _⟩ ?_
  rintro w7 ⟨hp7, hq7, hw7⟩
  have HP7 := Lib.hid hp7
  have HQ7 := Lib.hid hq7
  have HW7 := Lib.hid hw7
  have hs7 := hw7.size
  refine (three_out _).mono ?_
  rintro e w8 ⟨⟨b8, ks8, he8, hb8, hz8, hf8, hc8⟩, hw8⟩
  subst he8
  have HP8 := Lib.hid (HP7.out.next hw8)
  have HQ8 := Lib.hid (HQ7.out.next hw8)
  have HW8 : Hid (Below w.heap.size w w8) := Lib.hid (HW7.out.trans (hw8.mono hs7))
  have hs8 := HW8.out.size
  have HC8 := Lib.hid hc8
  have c8 : w8.cell? ⟨b8, 4, none⟩ = some (.bool false) := by
    rcases hc8 with ⟨h, _⟩ | ⟨B, o, cap, h1, h2, h3, h4, h5⟩
    · simp [threeCs] at h
    · injection h1 with e1 e2 e3
      injection e1 with e1
      injection e1 with e1 e4
      subst e1 e4
      exact h5 0 (by decide) 4 _ rfl
  have HW78 := Lib.hid hw8
  clear hp7 hq7 hw7 hw8 hc8
  go_wp2_with fail
  refine calls_named (fun W => PB W w2.heap.size ⟨#[]⟩ 0 1 ∧ PB W w6.heap.size ⟨#[]⟩ 0 0 ∧ Below w.heap.size w W ∧ ChsIn W (.slice (some ⟨b8, 0, none⟩) 3 3) jumboCs) ⟨HP7.out.next ((HW78.out.setCell hb8 _).alloc (by have := HW78.out.size; simp; omega) _), HQ7.out.next ((HW78.out.setCell hb8 _).alloc (by have := HW78.out.size; simp; omega) _), (HW8.out.setCell (by simp; omega) _).alloc (by simp; omega) _, (jumbo_in HC8.out).below ((Below.refl _ _).alloc (Nat.le_refl _) _)⟩ ?_
  rintro w9 ⟨hp9, hq9, hw9, hc9⟩
  have HP9 := Lib.hid hp9
  have HQ9 := Lib.hid hq9
  have HW9 := Lib.hid hw9
  have hs9 := hw9.size
  refine (next_any _ _ _ _ _ _ jumboCs 2 _ [] _ (by decide) hc9 (.inl ⟨rfl, _, _, rfl⟩)).mono ?_
  rintro e w10 ⟨he10, hw10⟩
  rw [prop3] at he10
  subst he10
  have HP10 := Lib.hid (HP9.out.next hw10)
  have HQ10 := Lib.hid (HQ9.out.next hw10)
  have HW10 : Hid (Below w.heap.size w w10) := Lib.hid (HW9.out.trans (hw10.mono hs9))
  have hs10 := HW10.out.size
  clear hp9 hq9 hw9 hc9 hw10 HC8 HP8 HQ8 c8 hf8
  go_wp2_with fail
  refine calls_named (fun W => PB W w2.heap.size ⟨#[]⟩ 0 1 ∧ PB W w6.heap.size ⟨#[]⟩ 0 0 ∧ PB W w10.heap.size ⟨#[99]⟩ 0 1 ∧ Below w.heap.size w W) ⟨HP10.out.next ((Below.refl _ _).alloc (Nat.le_refl _) _), HQ10.out.next ((Below.refl _ _).alloc (Nat.le_refl _) _), PB.new _ _ _ _ _, HW10.out.alloc hs10 _⟩ ?_
  rintro w11 ⟨hp11, hq11, hx11, hw11⟩
  have HP11 := Lib.hid hp11
  have HQ11 := Lib.hid hq11
  have HX11 := Lib.hid hx11
  have HW11 := Lib.hid hw11
  have hs11 := hw11.size
  refine (three_out _).mono ?_
  rintro e w12 ⟨⟨b12, ks12, he12, hb12, hz12, hf12, hc12⟩, hw12⟩
  subst he12
  have HP12 := Lib.hid (HP11.out.next hw12)
  have HQ12 := Lib.hid (HQ11.out.next hw12)
  have HX12 := Lib.hid (HX11.out.next hw12)
  have HW12 : Hid (Below w.heap.size w w12) := Lib.hid (HW11.out.trans (hw12.mono hs11))
  have hs12 := HW12.out.size
  have HC12 := Lib.hid hc12
  clear hp11 hq11 hx11 hw11 hw12 hc12 hf12
  go_wp2_with fail
  refine (Counts_any _ _ _ _ _ _ threeCs 2 _ (by decide) (by decide) HC12.out).mono ?_
  rintro e w13 ⟨⟨bl, he13, hbl, hzl, hN⟩, hw13⟩
  rw [cnt2] at he13 hN
  subst he13
  have l0 := hN.cell 0 (by decide)
  have l1 := hN.cell 1 (by decide)
  have P13 := HP12.out.next hw13
  have Q13 := HQ12.out.next hw13
  have X13 := HX12.out.next hw13
  have HW13 : Hid (Below w.heap.size w w13) := Lib.hid (HW12.out.trans (hw13.mono hs12))
  have hs13 := HW13.out.size
  obtain ⟨p0, p1, p2, pz⟩ := P13
  obtain ⟨q0, q1, q2, qz⟩ := Q13
  obtain ⟨x0, x1, x2, xz⟩ := X13
  simp at l0 l1
  clear hN hw13 HC12
  go_wp2_with fail
  refine (three_out _).mono ?_
  rintro e w14 ⟨⟨b14, ks14, he14, hb14, hz14, hf14, hc14⟩, hw14⟩
  subst he14
  have HW14 : Hid (Below w.heap.size w w14) := Lib.hid (HW13.out.trans (hw14.mono hs13))
  have hs14 := HW14.out.size
  have HC14 := Lib.hid hc14
  clear hw14 hc14 hf14
  go_wp2_with fail
  refine (even_any _ _ _ _ _ _ threeCs 1 _ [] _ (by decide) HC14.out (.inl ⟨rfl, _, _, rfl⟩)).mono ?_
  rintro e w15 ⟨he15, hw15⟩
  rw [way4] at he15
  subst he15
  have HW15 : Hid (Below w.heap.size w w15) := Lib.hid (HW14.out.trans (hw15.mono hs14))
  clear hw15
  go_wp2_with fail
  go_ret
  exact ⟨rfl, HW15.out⟩
end Go.Proofs.Ytimhokilicogdaa
