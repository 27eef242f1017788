/- Balance: plain: the reference picks what Next picks; boxed routes beside a result's box. -/
import Derived.Test.YtimhokilicogdaaBal23
namespace Go.Proofs.Ytimhokilicogdaa
open Go.ChangeShapes Go.WideShapes Go.ChangeAt Go.RowKit
set_option linter.unusedVariables false
set_option linter.unusedSimpArgs false
theorem wrap_id {x : Int} (h1 : -9223372036854775808 ≤ x) (h2 : x < 9223372036854775808) : IntKind.i64.wrap x = x := by
  simp [IntKind.wrap, IntKind.bits, IntKind.signed]; omega
theorem most_false (cs : List Ch) (xs : List Int) (k : Nat) : mostOf cs xs false k = fullOf cs xs k := by
  unfold mostOf fullOf
  congr 1
  funext s
  cases drn xs s <;> rfl
theorem empty_eq (cs : List Ch) (xs : List Int) : ∀ k, emptyOf cs xs k = match mostOf cs xs true k with
    | none => none
    | some m => if ldf cs m = 0 then none else some m := by
  intro k
  induction k with
  | zero => rfl
  | succ k ih =>
    have hk := ldf_nonneg cs k
    by_cases hd : drn xs k = true
    · cases hm : mostOf cs xs true k with
      | none =>
        rw [hm] at ih
        have e1 : mostOf cs xs true (k + 1) = some k := pick_first (by simp [hd]) hm
        rw [e1]
        by_cases h0 : ldf cs k = 0
        · simp only [h0, if_true]
          exact (pick_no (by simp [h0])).trans ih
        · simp only [h0, if_false]
          exact pick_first (by simp [hd]; omega) ih
      | some m =>
        rw [hm] at ih
        have hmn := ldf_nonneg cs m
        by_cases hb : ldf cs m < ldf cs k
        · have e1 : mostOf cs xs true (k + 1) = some k := pick_better (by simp [hd]) hm (by simp [more, hb])
          rw [e1]
          have h0 : ldf cs k ≠ 0 := by omega
          simp only [h0, if_false]
          by_cases hm0 : ldf cs m = 0
          · simp only [hm0, if_true] at ih
            exact pick_first (by simp [hd]; omega) ih
          · simp only [hm0, if_false] at ih
            exact pick_better (by simp [hd]; omega) ih (by simp [more, hb])
        · have e1 : mostOf cs xs true (k + 1) = some m := pick_worse hm (by simp [more, hb])
          rw [e1]
          by_cases hm0 : ldf cs m = 0
          · simp only [hm0, if_true] at ih ⊢
            have h0 : ldf cs k = 0 := by omega
            exact (pick_no (by simp [h0])).trans ih
          · simp only [hm0, if_false] at ih ⊢
            exact pick_worse ih (by simp [more, hb])
    · have hd' : drn xs k = false := by simpa using hd
      have e1 : mostOf cs xs true (k + 1) = mostOf cs xs true k := pick_no (by simp [hd'])
      rw [e1, ← ih]
      exact pick_no (by simp [hd'])
/-- boxed routes and the result's box behind it stand as they were made -/
def RX (w : World) (sp : ByteArray) (ks : Value) (hs : Bool) (ep vr : Int) (ch : Value) (W : World) : Prop := W.cell? ⟨w.heap.size, 0, none⟩ = some (.string sp) ∧ W.cell? ⟨w.heap.size, 1, none⟩ = some (ks) ∧ W.cell? ⟨w.heap.size, 2, none⟩ = some (.bool hs) ∧ W.cell? ⟨w.heap.size, 3, none⟩ = some (.int .i64 ep) ∧ W.cell? ⟨w.heap.size, 4, none⟩ = some (.int .i64 vr) ∧ W.cell? ⟨w.heap.size, 5, none⟩ = some (ch) ∧ W.cell? ⟨w.heap.size + 1, 0, none⟩ = some (.string ⟨#[]⟩) ∧ W.cell? ⟨w.heap.size + 1, 1, none⟩ = some (.int .i64 0) ∧ W.cell? ⟨w.heap.size + 1, 2, none⟩ = some (.int .i64 0) ∧ W.frozen? ⟨w.heap.size + 1, 0, none⟩ = false ∧ W.frozen? ⟨w.heap.size + 1, 1, none⟩ = false ∧ W.frozen? ⟨w.heap.size + 1, 2, none⟩ = false ∧ w.heap.size < W.heap.size ∧ w.heap.size + 1 < W.heap.size ∧ Below w.heap.size w W
theorem RX.keep {w : World} {sp : ByteArray} {ks : Value} {hs : Bool} {ep vr : Int} {ch : Value} {W W' : World} (h : RX w sp ks hs ep vr ch W) (hb : Below W.heap.size W W') : RX w sp ks hs ep vr ch W' := by
  obtain ⟨c0, c1, c2, c3, c4, c5, r0, r1, r2, f0, f1, f2, hz, hz1, hB⟩ := h
  obtain ⟨g, gf⟩ := bcell hb
  exact ⟨(g _ _ hz).trans c0, (g _ _ hz).trans c1, (g _ _ hz).trans c2, (g _ _ hz).trans c3, (g _ _ hz).trans c4, (g _ _ hz).trans c5, (g _ _ hz1).trans r0, (g _ _ hz1).trans r1, (g _ _ hz1).trans r2, (gf _ _ hz1).trans f0, (gf _ _ hz1).trans f1, (gf _ _ hz1).trans f2, Nat.lt_of_lt_of_le hz hb.size, Nat.lt_of_lt_of_le hz1 hb.size, hB.trans (hb.mono (Nat.le_of_lt hz))⟩
theorem RX.next {w : World} {sp : ByteArray} {ks : Value} {hs : Bool} {ep vr : Int} {ch : Value} {W : World} (h : RX w sp ks hs ep vr ch W) {P : Program} {f : Nat} {args : Array Value} {F : Ending → Prop} (hc : Calls P f args W fun e w' => F e ∧ Below W.heap.size W w') :
    Calls P f args W fun e w' => F e ∧ RX w sp ks hs ep vr ch w' := hc.mono fun e W' ⟨he, hb⟩ => ⟨he, h.keep hb⟩
theorem RX.start (w : World) (sp : ByteArray) (ks : Value) (hs : Bool) (ep vr : Int) (ch : Value) (T : TypeId) : RX w sp ks hs ep vr ch ((w.alloc (.cells #[.string sp, ks, .bool hs, .int .i64 ep, .int .i64 vr, ch] 27)).alloc (.cells #[.string ⟨#[]⟩, .int .i64 0, .int .i64 0] T)) :=
  ⟨by simp [go_sem], by simp [go_sem], by simp [go_sem], by simp [go_sem], by simp [go_sem], by simp [go_sem], by simp [go_sem], by simp [go_sem], by simp [go_sem], by simp [go_sem], by simp [go_sem], by simp [go_sem], by simp; omega, by simp, ((Below.refl _ _).alloc (Nat.le_refl _) _).alloc (by simp) _⟩
end Go.Proofs.Ytimhokilicogdaa
