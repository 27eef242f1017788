/- Balance: Next and Even in every case. -/
import Derived.Test.YtimhokilicogdaaBal17
namespace Go.Proofs.Ytimhokilicogdaa
open Go.ChangeShapes Go.WideShapes Go.ChangeAt Go.RowKit
set_option linter.unusedVariables false
set_option linter.unusedSimpArgs false
set_option maxRecDepth 100000 in
theorem next_no (sp : ByteArray) (ks : Value) (hs : Bool) (ep vr : Int) (ch : Value) (cs : List Ch) (n : Int) (dr : Value) (w : World) (h : ¬ (1 ≤ n ∧ n ≤ 8)) :
    Calls Try.prog 11 #[rts sp ks hs ep vr ch, .int .i64 n, dr] w fun e w' => e = .returned (propV cs none) ∧ Below w.heap.size w w' := by
  have HH := Lib.hid h
  clear h
  go_enter Try.func11, Try.ntmps11
  go_wp2_with fail
  have HW0 : Hid (Below w.heap.size w ((w.alloc (.cells #[.string sp, ks, .bool hs, .int .i64 ep, .int .i64 vr, ch] 27)).alloc (.cells #[.string ⟨#[]⟩, .int .i64 0, .int .i64 0] 34))) := Lib.hid (((Below.refl _ _).alloc (Nat.le_refl _) _).alloc (by simp) _)
  refine (count_no sp ks hs ep vr ch n false _ HH.out).mono ?_
  rintro e w1 ⟨rfl, hb⟩
  have hz : w.heap.size + 2 ≤ w1.heap.size := by have := hb.size; simpa using this
  have r0 : w1.cell? ⟨w.heap.size + 1, 0, none⟩ = some (.string ⟨#[]⟩) := by rw [(bcell hb).1 _ _ (by simp)]; simp [go_sem]
  have r1 : w1.cell? ⟨w.heap.size + 1, 1, none⟩ = some (.int .i64 0) := by rw [(bcell hb).1 _ _ (by simp)]; simp [go_sem]
  have r2 : w1.cell? ⟨w.heap.size + 1, 2, none⟩ = some (.int .i64 0) := by rw [(bcell hb).1 _ _ (by simp)]; simp [go_sem]
  have f0 : w1.frozen? ⟨w.heap.size + 1, 0, none⟩ = false := by rw [(bcell hb).2 _ _ (by simp)]; simp [go_sem]
  have f1 : w1.frozen? ⟨w.heap.size + 1, 1, none⟩ = false := by rw [(bcell hb).2 _ _ (by simp)]; simp [go_sem]
  have f2 : w1.frozen? ⟨w.heap.size + 1, 2, none⟩ = false := by rw [(bcell hb).2 _ _ (by simp)]; simp [go_sem]
  have HB : Hid (Below w.heap.size w w1) := Lib.hid (HW0.out.trans (hb.mono (by simp; omega)))
  have hy1 : w.heap.size + 1 < w1.heap.size := by omega
  clear hb HW0 HH
  go_wp2_with fail
  go_loop [9, 10, 11, 21] (fun t f e i => i = .int .i64 0 ∧ t = .int .i64 (-1) ∧ f = .int .i64 (-1) ∧ e = .int .i64 (-1)) (fun _ _ _ _ => 0)
  case atStart => exact ⟨rfl, rfl, rfl, rfl⟩
  case round =>
    obtain ⟨rfl, rfl, rfl, rfl⟩ := hrel
    go_wp2_with fail
    refine bodyPost_ret (v := propV cs none) (by simp [results, Try.results11, go_sem, propV, r0, r1, r2, hy1]) rfl ⟨rfl, ?_⟩
    exact ((HB.out.setCell (by simp) _).setCell (by simp) _).setCell (by simp) _
/-- from where and to where, whatever n -/
def way (cs : List Ch) (xs : List Int) (n : Int) : Option (Nat × Nat) := if 1 ≤ n ∧ n ≤ 8 then wayOf cs xs n.toNat else none
theorem next_any (sp : ByteArray) (ks : Value) (hs : Bool) (ep vr : Int) (ch : Value) (cs : List Ch) (n : Int) (dr : Value) (xs : List Int) (w : World) (hsm : cs.length ≤ 1000000) (hc : ChsIn w ch cs) (hd : IntsIn w dr xs) :
    Calls Try.prog 11 #[rts sp ks hs ep vr ch, .int .i64 n, dr] w fun e w' => e = .returned (propV cs (way cs xs n)) ∧ Below w.heap.size w w' := by
  by_cases h : 1 ≤ n ∧ n ≤ 8
  · obtain ⟨m, rfl⟩ := Int.eq_ofNat_of_zero_le (a := n) (by omega)
    have e : way cs xs (m : Int) = wayOf cs xs m := by simp only [way]; rw [if_pos h]; simp
    rw [e]
    exact next_yes sp ks hs ep vr ch cs m dr xs w (by omega) (by omega) hsm hc hd
  · have e : way cs xs n = none := by simp only [way]; rw [if_neg h]
    rw [e]
    exact next_no sp ks hs ep vr ch cs n dr w h
theorem even_any (sp : ByteArray) (ks : Value) (hs : Bool) (ep vr : Int) (ch : Value) (cs : List Ch) (n : Int) (dr : Value) (xs : List Int) (w : World) (hsm : cs.length ≤ 1000000) (hc : ChsIn w ch cs) (hd : IntsIn w dr xs) :
    Calls Try.prog 13 #[rts sp ks hs ep vr ch, .int .i64 n, dr] w fun e w' => e = .returned (.bool (way cs xs n).isNone) ∧ Below w.heap.size w w' := by
  have HC := Lib.hid hc
  have HD := Lib.hid hd
  clear hc hd
  have HB := Lib.hid (RB.start w sp ks hs ep vr ch).2.2.2.2.2.2.2
  go_enter Try.func13, Try.ntmps13
  go_wp2_with fail
  refine (next_any _ _ _ _ _ _ cs n _ xs _ hsm (HC.out.below HB.out) (HD.out.below HB.out)).mono ?_
  rintro e w1 ⟨he, hb⟩
  have HBN := Lib.hid hb
  clear hb
  rcases hw : way cs xs n with _ | ⟨f, t⟩
  · rw [hw] at he; simp only [propV] at he
    subst he
    go_wp2_with fail
    go_ret
    exact ⟨by rw [hw]; rfl, by repeat' (first | exact HB.out.trans (HBN.out.mono (by simp)) | refine Below.drew ?_ | refine Below.alloc ?_ (by have := HBN.out.size; simp at this; first | omega | (simp; omega)) _)⟩
  · rw [hw] at he; simp only [propV] at he
    subst he
    go_wp2_with fail
    go_ret
    exact ⟨by rw [hw]; rfl, by repeat' (first | exact HB.out.trans (HBN.out.mono (by simp)) | refine Below.drew ?_ | refine Below.alloc ?_ (by have := HBN.out.size; simp at this; first | omega | (simp; omega)) _)⟩
end Go.Proofs.Ytimhokilicogdaa
