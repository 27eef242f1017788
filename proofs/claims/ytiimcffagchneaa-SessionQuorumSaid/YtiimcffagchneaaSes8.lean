/- Sessions: the laws SessionNew and SessionWrites return true. -/
import Derived.Test.YtiimcffagchneaaSes7
import Derived.Deep.RegionHeld3
namespace Go.Proofs.Ytiimcffagchneaa
open Go.ChangeShapes Go.WideShapes Go.ChangeAt Go.RowKit
set_option linter.unusedVariables false
set_option linter.unusedSimpArgs false

set_option maxRecDepth 100000 in
set_option maxHeartbeats 400000 in
theorem sesnew_law (s : ByteArray) (hs : s.size ≤ maxLen) (w : World) : Calls Try.prog 3 #[.string s] w fun e w' => e = .returned (.bool true) ∧ Below w.heap.size w w' := by
  cases h : Nm.nameB s.data.toList with
  | true =>
    have HT := Lib.hid h
    clear h
    go_enter Try.func3, Try.ntmps3
    go_wp2_with fail
    refine (new_yes s _ hs HT.out).mono ?_
    rintro e w1 ⟨he1, hb1⟩
    simp only [ses] at he1
    subst he1
    obtain ⟨hc1, hf1⟩ := bcell hb1
    have HW1 : Hid (Below w.heap.size w w1) := Lib.hid (Below.trans (by repeat' (first | with_reducible exact Below.refl _ _ | with_reducible refine Below.drew ?_ | with_reducible refine Below.setCell ?_ (by first | omega | (simp; omega) | simp) _ | with_reducible refine Below.alloc ?_ (by first | omega | (simp; omega) | simp) _)) (hb1.mono (by first | omega | (simp; omega) | simp)))
    have hs1 : w.heap.size ≤ w1.heap.size := HW1.out.size
    go_wp2_with fail
    refine (rnew_yes s _ hs HT.out).mono ?_
    rintro e w2 ⟨he2, hb2⟩
    simp only [ses] at he2
    subst he2
    obtain ⟨hc2, hf2⟩ := bcell hb2
    have HW2 : Hid (Below w.heap.size w w2) := Lib.hid (Below.trans (by repeat' (first | with_reducible exact HW1.out | with_reducible refine Below.drew ?_ | with_reducible refine Below.setCell ?_ (by first | omega | (simp; omega) | simp) _ | with_reducible refine Below.alloc ?_ (by first | omega | (simp; omega) | simp) _)) (hb2.mono (by first | omega | (simp; omega) | simp)))
    have hs2 : w.heap.size ≤ w2.heap.size := HW2.out.size
    have hz1_2 : w1.heap.size < w2.heap.size := by have := hb2.size; simp at this; omega
    go_wp2_with fail
    refine (awake_any _).mono ?_
    rintro e w3 ⟨he3, hb3⟩
    subst he3
    obtain ⟨hc3, hf3⟩ := bcell hb3
    have HW3 : Hid (Below w.heap.size w w3) := Lib.hid (Below.trans (by repeat' (first | with_reducible exact HW2.out | with_reducible refine Below.drew ?_ | with_reducible refine Below.setCell ?_ (by first | omega | (simp; omega) | simp) _ | with_reducible refine Below.alloc ?_ (by first | omega | (simp; omega) | simp) _)) (hb3.mono (by first | omega | (simp; omega) | simp)))
    have hs3 : w.heap.size ≤ w3.heap.size := HW3.out.size
    have hz1_3 : w1.heap.size < w3.heap.size := by have := hb3.size; simp at this; omega
    have hz2_3 : w2.heap.size < w3.heap.size := by have := hb3.size; simp at this; omega
    go_wp2_with fail
    go_ret
    exact ⟨rfl, HW3.out⟩
  | false =>
    have HT := Lib.hid h
    clear h
    go_enter Try.func3, Try.ntmps3
    go_wp2_with fail
    refine (new_no s _ hs HT.out).mono ?_
    rintro e w1 ⟨he1, hb1⟩
    simp only [ses] at he1
    subst he1
    obtain ⟨hc1, hf1⟩ := bcell hb1
    have HW1 : Hid (Below w.heap.size w w1) := Lib.hid (Below.trans (by repeat' (first | with_reducible exact Below.refl _ _ | with_reducible refine Below.drew ?_ | with_reducible refine Below.setCell ?_ (by first | omega | (simp; omega) | simp) _ | with_reducible refine Below.alloc ?_ (by first | omega | (simp; omega) | simp) _)) (hb1.mono (by first | omega | (simp; omega) | simp)))
    have hs1 : w.heap.size ≤ w1.heap.size := HW1.out.size
    go_wp2_with fail
    refine (rnew_no s _ hs HT.out).mono ?_
    rintro e w2 ⟨he2, hb2⟩
    simp only [ses] at he2
    subst he2
    obtain ⟨hc2, hf2⟩ := bcell hb2
    have HW2 : Hid (Below w.heap.size w w2) := Lib.hid (Below.trans (by repeat' (first | with_reducible exact HW1.out | with_reducible refine Below.drew ?_ | with_reducible refine Below.setCell ?_ (by first | omega | (simp; omega) | simp) _ | with_reducible refine Below.alloc ?_ (by first | omega | (simp; omega) | simp) _)) (hb2.mono (by first | omega | (simp; omega) | simp)))
    have hs2 : w.heap.size ≤ w2.heap.size := HW2.out.size
    have hz1_2 : w1.heap.size < w2.heap.size := by have := hb2.size; simp at this; omega
    go_wp2_with fail
    refine (awake_any _).mono ?_
    rintro e w3 ⟨he3, hb3⟩
    subst he3
    obtain ⟨hc3, hf3⟩ := bcell hb3
    have HW3 : Hid (Below w.heap.size w w3) := Lib.hid (Below.trans (by repeat' (first | with_reducible exact HW2.out | with_reducible refine Below.drew ?_ | with_reducible refine Below.setCell ?_ (by first | omega | (simp; omega) | simp) _ | with_reducible refine Below.alloc ?_ (by first | omega | (simp; omega) | simp) _)) (hb3.mono (by first | omega | (simp; omega) | simp)))
    have hs3 : w.heap.size ≤ w3.heap.size := HW3.out.size
    have hz1_3 : w1.heap.size < w3.heap.size := by have := hb3.size; simp at this; omega
    have hz2_3 : w2.heap.size < w3.heap.size := by have := hb3.size; simp at this; omega
    go_wp2_with fail
    go_ret
    exact ⟨rfl, HW3.out⟩

/-- the boxed session stands in its block; nothing of before has turned -/
def SesAt (w : World) (n : ByteArray) (t wr nu : Int) (W : World) : Prop :=
  W.cell? ⟨w.heap.size, 0, none⟩ = some (.string n) ∧ W.cell? ⟨w.heap.size, 1, none⟩ = some (.int .i64 t) ∧ W.cell? ⟨w.heap.size, 2, none⟩ = some (.int .i64 wr) ∧ W.cell? ⟨w.heap.size, 3, none⟩ = some (.int .i64 nu) ∧ w.heap.size < W.heap.size ∧ Below w.heap.size w W
theorem SesAt.next {w : World} {n : ByteArray} {t wr nu : Int} {W : World} (h : SesAt w n t wr nu W) {P : Program} {f : Nat} {args : Array Value} {v : Value} (hc : Calls P f args W fun e w' => e = .returned v ∧ Below W.heap.size W w') :
    Calls P f args W fun e w' => e = .returned v ∧ SesAt w n t wr nu w' := by
  refine hc.mono ?_
  rintro e W' ⟨he, hb⟩
  obtain ⟨c0, c1, c2, c3, hz, hB⟩ := h
  obtain ⟨g, _⟩ := bcell hb
  exact ⟨he, (g _ _ hz).trans c0, (g _ _ hz).trans c1, (g _ _ hz).trans c2, (g _ _ hz).trans c3, Nat.lt_of_lt_of_le hz hb.size, hB.trans (hb.mono (Nat.le_of_lt hz))⟩
theorem wp_named {P : Program} {c : Code} {Q : Exit → Act → World → Prop} {a : Act} {w : World} (F : World → Prop) (hF : F w) (h : ∀ w', F w' → Code.wp P c Q a w') : Code.wp P c Q a w := h w hF

set_option maxRecDepth 100000 in
set_option maxHeartbeats 800000 in
theorem seswrites_law (n : ByteArray) (t wr nu m x : Int) (w : World) : Calls Try.prog 4 #[ses n t wr nu, .int .i64 m, .int .i64 x] w fun e w' => e = .returned (.bool true) ∧ Below w.heap.size w w' := by
  by_cases h : m < nu
  · have HH := Lib.hid h
    clear h
    go_enter Try.func4, Try.ntmps4
    go_wp2_with fail
    refine (retry_old _ _ _ (by have := HH.out; omega)).mono ?_
    rintro e w1 ⟨rfl, rfl⟩
    go_wp2_with fail
    refine (rretry_old _ _ _ (by have := HH.out; omega)).mono ?_
    rintro e w1 ⟨rfl, rfl⟩
    go_wp2_with fail
    refine wp_named (fun W => W.cell? ⟨w.heap.size, 0, none⟩ = some (.string n) ∧ W.cell? ⟨w.heap.size, 1, none⟩ = some (.int .i64 t) ∧ W.cell? ⟨w.heap.size, 2, none⟩ = some (.int .i64 wr) ∧ W.cell? ⟨w.heap.size, 3, none⟩ = some (.int .i64 nu) ∧ w.heap.size < W.heap.size ∧ Below w.heap.size w W) ⟨by simp [go_sem], by simp [go_sem], by simp [go_sem], by simp [go_sem], by simp, (by repeat' (first | with_reducible exact Below.refl _ _ | with_reducible refine Below.drew ?_ | with_reducible refine Below.setCell ?_ (by first | omega | (simp; omega) | simp) _ | with_reducible refine Below.alloc ?_ (by first | omega | (simp; omega) | simp) _))⟩ ?_
    rintro W ⟨c0, c1, c2, c3, hz, hB⟩
    have hBd := hB.drew
    go_region_held3 (fun W => W.cell? ⟨w.heap.size, 0, none⟩ = some (.string n) ∧ W.cell? ⟨w.heap.size, 1, none⟩ = some (.int .i64 t) ∧ W.cell? ⟨w.heap.size, 2, none⟩ = some (.int .i64 wr) ∧ W.cell? ⟨w.heap.size, 3, none⟩ = some (.int .i64 nu) ∧ w.heap.size < W.heap.size ∧ Below w.heap.size w W) (refine ⟨?_, ?_, ?_, ?_, ?_, ?_⟩ <;> assumption) (first | (go_at_call 15; refine (SesAt.next (w := w) (n := n) (t := t) (wr := wr) (nu := nu) ⟨by assumption, by assumption, by assumption, by assumption, by assumption, by assumption⟩ (saw_any _ _ _ _ _ _)).mono ?_; rintro e wn ⟨hee, d0, d1, d2, d3, dz, dB⟩; subst hee) | (go_at_call 16; refine (SesAt.next (w := w) (n := n) (t := t) (wr := wr) (nu := nu) ⟨by assumption, by assumption, by assumption, by assumption, by assumption, by assumption⟩ (rsaw_any _ _ _ _ _ _)).mono ?_; rintro e wn ⟨hee, d0, d1, d2, d3, dz, dB⟩; subst hee) | (go_at_call 17; refine (SesAt.next (w := w) (n := n) (t := t) (wr := wr) (nu := nu) ⟨by assumption, by assumption, by assumption, by assumption, by assumption, by assumption⟩ (wrote_any _ _ _ _ _ _ _)).mono ?_; rintro e wn ⟨hee, d0, d1, d2, d3, dz, dB⟩; subst hee) | (go_at_call 18; refine (SesAt.next (w := w) (n := n) (t := t) (wr := wr) (nu := nu) ⟨by assumption, by assumption, by assumption, by assumption, by assumption, by assumption⟩ (rwrote_any _ _ _ _ _ _ _)).mono ?_; rintro e wn ⟨hee, d0, d1, d2, d3, dz, dB⟩; subst hee) | (go_at_call 12; refine (SesAt.next (w := w) (n := n) (t := t) (wr := wr) (nu := nu) ⟨by assumption, by assumption, by assumption, by assumption, by assumption, by assumption⟩ (awake_any _)).mono ?_; rintro e wn ⟨hee, d0, d1, d2, d3, dz, dB⟩; subst hee))
    all_goals go_wp2_with fail
    go_ways
    all_goals (go_ret; exact ⟨rfl, by assumption⟩)
  · have HH := Lib.hid h
    clear h
    go_enter Try.func4, Try.ntmps4
    go_wp2_with fail
    refine (retry_new _ _ _ (by have := HH.out; omega)).mono ?_
    rintro e w1 ⟨rfl, rfl⟩
    go_wp2_with fail
    refine (rretry_new _ _ _ (by have := HH.out; omega)).mono ?_
    rintro e w1 ⟨rfl, rfl⟩
    go_wp2_with fail
    refine wp_named (fun W => W.cell? ⟨w.heap.size, 0, none⟩ = some (.string n) ∧ W.cell? ⟨w.heap.size, 1, none⟩ = some (.int .i64 t) ∧ W.cell? ⟨w.heap.size, 2, none⟩ = some (.int .i64 wr) ∧ W.cell? ⟨w.heap.size, 3, none⟩ = some (.int .i64 nu) ∧ w.heap.size < W.heap.size ∧ Below w.heap.size w W) ⟨by simp [go_sem], by simp [go_sem], by simp [go_sem], by simp [go_sem], by simp, (by repeat' (first | with_reducible exact Below.refl _ _ | with_reducible refine Below.drew ?_ | with_reducible refine Below.setCell ?_ (by first | omega | (simp; omega) | simp) _ | with_reducible refine Below.alloc ?_ (by first | omega | (simp; omega) | simp) _))⟩ ?_
    rintro W ⟨c0, c1, c2, c3, hz, hB⟩
    have hBd := hB.drew
    go_region_held3 (fun W => W.cell? ⟨w.heap.size, 0, none⟩ = some (.string n) ∧ W.cell? ⟨w.heap.size, 1, none⟩ = some (.int .i64 t) ∧ W.cell? ⟨w.heap.size, 2, none⟩ = some (.int .i64 wr) ∧ W.cell? ⟨w.heap.size, 3, none⟩ = some (.int .i64 nu) ∧ w.heap.size < W.heap.size ∧ Below w.heap.size w W) (refine ⟨?_, ?_, ?_, ?_, ?_, ?_⟩ <;> assumption) (first | (go_at_call 15; refine (SesAt.next (w := w) (n := n) (t := t) (wr := wr) (nu := nu) ⟨by assumption, by assumption, by assumption, by assumption, by assumption, by assumption⟩ (saw_any _ _ _ _ _ _)).mono ?_; rintro e wn ⟨hee, d0, d1, d2, d3, dz, dB⟩; subst hee) | (go_at_call 16; refine (SesAt.next (w := w) (n := n) (t := t) (wr := wr) (nu := nu) ⟨by assumption, by assumption, by assumption, by assumption, by assumption, by assumption⟩ (rsaw_any _ _ _ _ _ _)).mono ?_; rintro e wn ⟨hee, d0, d1, d2, d3, dz, dB⟩; subst hee) | (go_at_call 17; refine (SesAt.next (w := w) (n := n) (t := t) (wr := wr) (nu := nu) ⟨by assumption, by assumption, by assumption, by assumption, by assumption, by assumption⟩ (wrote_any _ _ _ _ _ _ _)).mono ?_; rintro e wn ⟨hee, d0, d1, d2, d3, dz, dB⟩; subst hee) | (go_at_call 18; refine (SesAt.next (w := w) (n := n) (t := t) (wr := wr) (nu := nu) ⟨by assumption, by assumption, by assumption, by assumption, by assumption, by assumption⟩ (rwrote_any _ _ _ _ _ _ _)).mono ?_; rintro e wn ⟨hee, d0, d1, d2, d3, dz, dB⟩; subst hee) | (go_at_call 12; refine (SesAt.next (w := w) (n := n) (t := t) (wr := wr) (nu := nu) ⟨by assumption, by assumption, by assumption, by assumption, by assumption, by assumption⟩ (awake_any _)).mono ?_; rintro e wn ⟨hee, d0, d1, d2, d3, dz, dB⟩; subst hee))
    all_goals go_wp2_with fail
    go_ways
    all_goals (go_ret; exact ⟨rfl, by assumption⟩)
end Go.Proofs.Ytiimcffagchneaa
