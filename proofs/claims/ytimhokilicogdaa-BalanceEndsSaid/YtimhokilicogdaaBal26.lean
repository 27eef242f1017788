/- Balance: the reference's Next in every case; the law about Next. -/
import Derived.Test.YtimhokilicogdaaBal25
import Derived.Test.YtimhokilicogdaaBal21
namespace Go.Proofs.Ytimhokilicogdaa
open Go.ChangeShapes Go.WideShapes Go.ChangeAt Go.RowKit Go.Deep Go.Joins Go.ChangeMaps
set_option linter.unusedVariables false
set_option linter.unusedSimpArgs false
theorem intsArg_of {H : Type} {enc : TypeId × Value → H} {w : World} {v : Value} {d : DataW H} {ps : List MemPlace} {r : Reach} {b0 : Nat}
    (hv : Value.okWide Try.prog w r b0 30 v) (h : DataW.Trod enc Try.prog w 0 (fun _ => true) true 30 v d ps) : ∃ xs, IntsIn w v xs := by
  obtain ⟨a, len, cap, rfl⟩ := okWide_slice Try.underlying30 hv
  obtain ⟨fuel, hf⟩ := h
  exact ints_trod Try.underlying30 Try.underlying3 (by kernel_rfl) (by simpa [Value.cells] using hf)
set_option maxRecDepth 100000 in
theorem rnext_no (sp : ByteArray) (ks : Value) (hs : Bool) (ep vr : Int) (ch : Value) (cs : List Ch) (n : Int) (dr : Value) (w : World) (h : ¬ (1 ≤ n ∧ n ≤ 8)) :
    Calls Try.prog 12 #[rts sp ks hs ep vr ch, .int .i64 n, dr] w fun e w' => e = .returned (propV cs none) ∧ Below w.heap.size w w' := by
  by_cases h1 : n < 1
  · clear h
    go_enter Try.func12, Try.ntmps12
    go_wp2_with fail
    refine bodyPost_ret (v := propV cs none) (by simp [results, Try.results12, go_sem, propV]) rfl ⟨rfl, ?_⟩
    repeat' (first | exact Below.refl _ _ | refine Below.setCell ?_ (by simp) _ | refine Below.alloc ?_ (by simp) _)
  · have h2 : 8 < n := by omega
    clear h
    go_enter Try.func12, Try.ntmps12
    go_wp2_with fail
    refine bodyPost_ret (v := propV cs none) (by simp [results, Try.results12, go_sem, propV]) rfl ⟨rfl, ?_⟩
    repeat' (first | exact Below.refl _ _ | refine Below.setCell ?_ (by simp) _ | refine Below.alloc ?_ (by simp) _)
theorem rnext_any (sp : ByteArray) (ks : Value) (hs : Bool) (ep vr : Int) (ch : Value) (cs : List Ch) (n : Int) (dr : Value) (xs : List Int) (w : World) (hsm : cs.length ≤ 1000000) (hc : ChsIn w ch cs) (hd : IntsIn w dr xs) :
    Calls Try.prog 12 #[rts sp ks hs ep vr ch, .int .i64 n, dr] w fun e w' => e = .returned (propV cs (way cs xs n)) ∧ Below w.heap.size w w' := by
  by_cases h : 1 ≤ n ∧ n ≤ 8
  · obtain ⟨m, rfl⟩ := Int.eq_ofNat_of_zero_le (a := n) (by omega)
    have e : way cs xs (m : Int) = wayOf cs xs m := by simp only [way]; rw [if_pos h]; simp
    rw [e]
    exact rnext_yes sp ks hs ep vr ch cs m dr xs w (by omega) (by omega) hsm hc hd
  · have e : way cs xs n = none := by simp only [way]; rw [if_neg h]
    rw [e]
    exact rnext_no sp ks hs ep vr ch cs n dr w h
theorem prop_form (cs : List Ch) (o : Option (Nat × Nat)) : ∃ lo f t b, propV cs o = .tuple #[.agg #[.string lo, .int .i64 f, .int .i64 t], .bool b] ∧ o.isNone = !b := by
  rcases o with _ | ⟨f, t⟩
  · exact ⟨_, _, _, _, rfl, rfl⟩
  · exact ⟨_, _, _, _, rfl, rfl⟩
theorem RB.keep {w : World} {sp : ByteArray} {ks : Value} {hs : Bool} {ep vr : Int} {ch : Value} {W W' : World} (h : RB w sp ks hs ep vr ch W) (hb : Below W.heap.size W W') : RB w sp ks hs ep vr ch W' := by
  obtain ⟨c0, c1, c2, c3, c4, c5, hz, hB⟩ := h
  obtain ⟨g, _⟩ := bcell hb
  exact ⟨(g _ _ hz).trans c0, (g _ _ hz).trans c1, (g _ _ hz).trans c2, (g _ _ hz).trans c3, (g _ _ hz).trans c4, (g _ _ hz).trans c5, Nat.lt_of_lt_of_le hz hb.size, hB.trans (hb.mono (Nat.le_of_lt hz))⟩
theorem RB.new {w : World} {sp : ByteArray} {ks : Value} {hs : Bool} {ep vr : Int} {ch : Value} {W : World} (h : RB w sp ks hs ep vr ch W) (o : Obj) : RB w sp ks hs ep vr ch (W.alloc o) := h.keep ((Below.refl _ _).alloc (Nat.le_refl _) _)
set_option maxRecDepth 100000 in
set_option maxHeartbeats 1000000 in
theorem bnext_law (sp : ByteArray) (ks : Value) (hs : Bool) (ep vr : Int) (ch : Value) (cs : List Ch) (n : Int) (dr : Value) (xs : List Int) (w : World) (hc : ChsIn w ch cs) (hd : IntsIn w dr xs) :
    Calls Try.prog 4 #[rts sp ks hs ep vr ch, .int .i64 n, dr] w fun e w' => e = .returned (.bool true) ∧ Below w.heap.size w w' := by
  obtain ⟨a, cap, rfl⟩ := hc.slice
  obtain ⟨a2, cap2, rfl⟩ := hd.slice
  have HC := Lib.hid hc
  have HD := Lib.hid hd
  clear hc hd
  have HS := Lib.hid (RB.start w sp ks hs ep vr (.slice a cs.length cap))
  go_enter Try.func4, Try.ntmps4
  go_wp2_with fail
  refine (HS.out.next (few_any sp ks hs ep vr a cs.length cap a2 xs.length cap2 _)).mono ?_
  rintro e w1 ⟨he1, hR1⟩
  by_cases hf : cs.length ≤ 80 ∧ xs.length ≤ 20
  · rw [decide_eq_true hf] at he1
    subst he1
    have hsm : cs.length ≤ 1000000 := by omega
    have HR1 := Lib.hid hR1
    obtain ⟨a0, a1, a2', a3, a4, a5, hz1, hb1⟩ := hR1
    clear hf HS
    go_wp2_with fail
    refine (HR1.out.next (next_any sp ks hs ep vr (.slice a cs.length cap) cs n _ xs _ hsm (HC.out.below hb1) (HD.out.below hb1))).mono ?_
    rintro e w2 ⟨he2, hR2⟩
    obtain ⟨lo, f, t, bb, hpr, hev⟩ := prop_form cs (way cs xs n)
    rw [hpr] at he2
    subst he2
    have HR2 := Lib.hid hR2
    clear HR1 a0 a1 a2' a3 a4 a5 hz1 hb1 hR2
    obtain ⟨a0, a1, a2', a3, a4, a5, hz1, hb1⟩ := HR2.out
    go_wp2_with fail
    refine calls_named (fun W => PB W w2.heap.size lo f t ∧ RB w sp ks hs ep vr (.slice a cs.length cap) W) ⟨PB.new _ _ _ _ _, HR2.out.new _⟩ ?_
    rintro w3 ⟨hp3, hr3⟩
    have HP3 := Lib.hid hp3
    have HR3 := Lib.hid hr3
    clear HR2 a0 a1 a2' a3 a4 a5 hz1 hb1 hp3 hr3
    refine (rnext_any sp ks hs ep vr (.slice a cs.length cap) cs n _ xs _ hsm (HC.out.below HR3.out.2.2.2.2.2.2.2) (HD.out.below HR3.out.2.2.2.2.2.2.2)).mono ?_
    rintro e w4 ⟨he4, hb4⟩
    rw [hpr] at he4
    subst he4
    have HP4 := Lib.hid (HP3.out.next hb4)
    have HR4 := Lib.hid (HR3.out.keep hb4)
    clear HP3 HR3 hb4
    obtain ⟨a0, a1, a2', a3, a4, a5, hz1, hb1⟩ := HR4.out
    obtain ⟨p0, p1, p2, pz⟩ := HP4.out
    have HB4 := Lib.hid hb1
    clear hb1
    cases bb
    · go_wp2_with fail
      refine calls_named (fun W => Below w.heap.size w W) (HB4.out.alloc HB4.out.size _) ?_
      rintro w5 hb5
      refine (even_any sp ks hs ep vr (.slice a cs.length cap) cs n _ xs _ hsm (HC.out.below hb5) (HD.out.below hb5)).mono ?_
      rintro e w6 ⟨he6, hb6⟩
      rw [hev] at he6
      subst he6
      have HB6 : Hid (Below w.heap.size w w6) := Lib.hid (hb5.trans (hb6.mono hb5.size))
      clear hb5 hb6
      go_wp2_with fail
      refine (awake_any _).mono ?_
      rintro e w7 ⟨rfl, hb7⟩
      have HB7 : Hid (Below w.heap.size w w7) := Lib.hid (HB6.out.trans (hb7.mono HB6.out.size))
      clear hb7
      go_wp2_with fail
      go_ret
      exact ⟨rfl, HB7.out⟩
    · go_wp2_with fail
      refine calls_named (fun W => Below w.heap.size w W) (HB4.out.alloc HB4.out.size _) ?_
      rintro w5 hb5
      refine (even_any sp ks hs ep vr (.slice a cs.length cap) cs n _ xs _ hsm (HC.out.below hb5) (HD.out.below hb5)).mono ?_
      rintro e w6 ⟨he6, hb6⟩
      rw [hev] at he6
      subst he6
      have HB6 : Hid (Below w.heap.size w w6) := Lib.hid (hb5.trans (hb6.mono hb5.size))
      clear hb5 hb6
      go_wp2_with fail
      refine (awake_any _).mono ?_
      rintro e w7 ⟨rfl, hb7⟩
      have HB7 : Hid (Below w.heap.size w w7) := Lib.hid (HB6.out.trans (hb7.mono HB6.out.size))
      clear hb7
      go_wp2_with fail
      go_ret
      exact ⟨rfl, HB7.out⟩
  · rw [decide_eq_false hf] at he1
    subst he1
    have HB1 := Lib.hid hR1.2.2.2.2.2.2.2
    have hs1 := HB1.out.size
    clear hR1
    go_wp2_with fail
    refine (awake_any _).mono ?_
    rintro e w2 ⟨rfl, hb2⟩
    have HB2 : Hid (Below w.heap.size w w2) := Lib.hid (HB1.out.trans (hb2.mono hs1))
    clear hb2
    go_wp2_with fail
    go_ret
    exact ⟨rfl, HB2.out⟩
end Go.Proofs.Ytimhokilicogdaa
