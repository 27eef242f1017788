/- Balance: Counts. -/
import Derived.Test.YtimhokilicogdaaBal4
namespace Go.Proofs.Ytimhokilicogdaa
open Go.ChangeShapes Go.WideShapes Go.ChangeAt Go.RowKit
set_option linter.unusedVariables false
set_option linter.unusedSimpArgs false
set_option maxRecDepth 100000 in
theorem Counts_any (sp : ByteArray) (ks : Value) (hs : Bool) (ep vr : Int) (ch : Value) (cs : List Ch) (n : Nat) (w : World) (h1 : 1 ≤ n) (h8 : n ≤ 8) (hc : ChsIn w ch cs) :
    Calls Try.prog 9 #[rts sp ks hs ep vr ch, .int .i64 n] w fun e w' => NumsOut w w' (counts cs true n) e ∧ Below w.heap.size w w' := by
  have HC := Lib.hid hc
  clear hc
  have hbw : Below w.heap.size w (w.alloc (.cells #[.string sp, ks, .bool hs, .int .i64 ep, .int .i64 vr, ch] 27)) := (Below.refl _ _).alloc (Nat.le_refl _) _
  have HB := Lib.hid hbw
  clear hbw
  go_enter Try.func9, Try.ntmps9
  go_wp2_with fail
  refine (count_any _ _ _ _ _ _ cs n true _ h1 h8 (HC.out.below (by first | exact HB.out | exact Below.refl _ _))).mono ?_
  rintro e w1 ⟨⟨b, hee, hb1, hb2, hN⟩, hb⟩
  subst hee
  have HN := Lib.hid hN
  have HBN := Lib.hid hb
  have hle : w.heap.size ≤ b := by simp at hb1; omega
  clear hN hb hb1
  go_wp2_with fail
  go_ret
  exact ⟨⟨b, rfl, hle, hb2, HN.out⟩, by first | exact HB.out.trans (HBN.out.mono (by simp)) | exact HBN.out⟩
set_option maxRecDepth 100000 in
theorem Counts_no (sp : ByteArray) (ks : Value) (hs : Bool) (ep vr : Int) (ch : Value) (n : Int) (w : World) (h : ¬ (1 ≤ n ∧ n ≤ 8)) :
    Calls Try.prog 9 #[rts sp ks hs ep vr ch, .int .i64 n] w fun e w' => e = .returned (.slice none 0 0) ∧ Below w.heap.size w w' := by
  have HH := Lib.hid h
  clear h
  have hbw : Below w.heap.size w (w.alloc (.cells #[.string sp, ks, .bool hs, .int .i64 ep, .int .i64 vr, ch] 27)) := (Below.refl _ _).alloc (Nat.le_refl _) _
  have HB := Lib.hid hbw
  clear hbw
  go_enter Try.func9, Try.ntmps9
  go_wp2_with fail
  refine (count_no _ _ _ _ _ _ n true _ HH.out).mono ?_
  rintro e w1 ⟨rfl, hb⟩
  have HBN := Lib.hid hb
  clear hb
  go_wp2_with fail
  go_ret
  exact ⟨rfl, by first | exact HB.out.trans (HBN.out.mono (by simp)) | exact HBN.out⟩
end Go.Proofs.Ytimhokilicogdaa
