/- Balance: the law about ends in every case. -/
import Derived.Test.YtimhokilicogdaaBal37
import Derived.Test.YtimhokilicogdaaBal38
namespace Go.Proofs.Ytimhokilicogdaa
open Go.ChangeShapes Go.WideShapes Go.ChangeAt Go.RowKit Go.Joins Go.Deep Go.ChangeMaps
set_option linter.unusedVariables false
set_option linter.unusedSimpArgs false
set_option maxRecDepth 100000 in
set_option maxHeartbeats 1000000 in
theorem ends_law (sp : ByteArray) (ka : Option Addr) (kl kc : Nat) (hs : Bool) (ep vr : Int) (ch : Value) (cs : List Ch) (os : List Ord) (n : Int) (dr : Value) (xs : List Int) (w : World) (hsp : sp.size ≤ maxLen) (hcap : ∀ a len cap, ch = .slice a len cap → len ≤ cap)
    (hc : ChsIn w ch cs) (hk : OrdIn w (.slice ka kl kc) os) (hd : IntsIn w dr xs) :
    Calls Try.prog 6 #[rts sp (.slice ka kl kc) hs ep vr ch, .int .i64 n, dr] w fun e w' => e = .returned (.bool true) ∧ Below w.heap.size w w' := by
  by_cases hf : cs.length ≤ 80 ∧ xs.length ≤ 20
  · exact ends_in sp ka kl kc hs ep vr ch cs os n dr xs w hsp hf hcap hc hk hd
  · obtain ⟨a, cap, rfl⟩ := hc.slice
    obtain ⟨a2, cap2, rfl⟩ := hd.slice
    have HS := Lib.hid (RB.start w sp (.slice ka kl kc) hs ep vr (.slice a cs.length cap))
    have HFW := Lib.hid (few_any sp (.slice ka kl kc) hs ep vr a cs.length cap a2 xs.length cap2)
    clear hc hk hd hcap
    go_enter Try.func6, Try.ntmps6
    go_wp2_with fail
    refine (HS.out.next (HFW.out _)).mono ?_
    rintro e w1 ⟨he1, hR1⟩
    rw [decide_eq_false hf] at he1
    subst he1
    have HB := Lib.hid hR1.2.2.2.2.2.2.2
    have hs1 := HB.out.size
    clear hf HFW HS hR1
    go_wp2_with fail
    refine (awake_any _).mono ?_
    rintro e w2 ⟨rfl, hb2⟩
    go_wp2_with fail
    go_ret
    exact ⟨rfl, HB.out.trans (hb2.mono hs1)⟩
end Go.Proofs.Ytimhokilicogdaa
