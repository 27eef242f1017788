/- Balance: routes that came in; the law about moves in every case. -/
import Derived.Test.YtimhokilicogdaaBal35
namespace Go.Proofs.Ytimhokilicogdaa
open Go.ChangeShapes Go.WideShapes Go.ChangeAt Go.RowKit Go.Joins Go.Deep Go.ChangeMaps
set_option linter.unusedVariables false
set_option linter.unusedSimpArgs false
/-- routes that came in, with all that is known of them -/
theorem rtsArg2_of {H : Type} {enc : TypeId × Value → H} {w : World} {v : Value} {d : DataW H} {ps : List MemPlace} {r : Reach} {b0 : Nat}
    (hv : Value.okWide Try.prog w r b0 27 v) (h : DataW.Trod enc Try.prog w 0 (fun _ => true) true 27 v d ps) :
    ∃ sp ka kl kc hs ep vr ch cs os, v = rts sp (.slice ka kl kc) hs ep vr ch ∧ ChsIn w ch cs ∧ sp.size ≤ maxLen ∧ OrdIn w (.slice ka kl kc) os ∧ ∀ a len cap, ch = .slice a len cap → len ≤ cap := by
  obtain ⟨cs0, rfl, hsz⟩ := okWide_struct Try.underlying27 hv
  obtain ⟨l⟩ := cs0
  match l, hsz.trans cellsRts with
  | [c0, c1, c2, c3, c4, c5], _ =>
    obtain ⟨fuel, hf⟩ := h
    obtain ⟨xs, n', _, hx, hl, hxs, hg⟩ := DataW.trod_struct Try.underlying27 hf
    have hx5 : xs.length = 5 := hxs
    have h0 := hg 0 { name := "Space", type := 9, offset := 0, embedded := false, tag := "", pkgPath := "", byteOffset := 0 } rfl
    have h1 := hg 1 { name := "Key", type := 24, offset := 1, embedded := false, tag := "", pkgPath := "", byteOffset := 16 } rfl
    have h2 := hg 2 { name := "Epoch", type := 3, offset := 3, embedded := false, tag := "", pkgPath := "", byteOffset := 48 } rfl
    have h3 := hg 3 { name := "Version", type := 3, offset := 4, embedded := false, tag := "", pkgPath := "", byteOffset := 56 } rfl
    have h4 := hg 4 { name := "Chunks", type := 25, offset := 5, embedded := false, tag := "", pkgPath := "", byteOffset := 64 } rfl
    rw [List.getElem?_eq_getElem (by omega)] at h0 h1 h2 h3 h4
    have e9 : Try.prog.cellsOf 9 = 1 := by kernel_rfl
    have e3 : Try.prog.cellsOf 3 = 1 := by kernel_rfl
    have e4 : Try.prog.cellsOf 4 = 1 := by kernel_rfl
    have eO : Try.prog.cellsOf 22 = 1 := by kernel_rfl
    have eC : Try.prog.cellsOf 25 = 1 := by kernel_rfl
    dsimp only at h0 h1 h2 h3 h4
    rw [e9] at h0
    rw [cellsKey] at h1
    rw [e3] at h2 h3
    rw [eC] at h4
    simp [Value.cells] at h0 h1 h2 h3 h4
    obtain ⟨ys, n2, _, _, hl2, hys, hg2⟩ := DataW.trod_struct Try.underlying24 h1
    have hy2 : ys.length = 2 := hys
    have k0 := hg2 0 { name := "Keys", type := 22, offset := 0, embedded := false, tag := "", pkgPath := "", byteOffset := 0 } rfl
    have k1 := hg2 1 { name := "Hashed", type := 4, offset := 1, embedded := false, tag := "", pkgPath := "", byteOffset := 24 } rfl
    rw [List.getElem?_eq_getElem (by omega)] at k0 k1
    dsimp only at k0 k1
    rw [eO] at k0
    rw [e4] at k1
    simp at k0 k1
    obtain ⟨s0, g0, _, w0⟩ := DataW.trod_string Try.underlying9 h0
    obtain ⟨s2, g2, _⟩ := DataW.trod_int Try.underlying3 h2
    obtain ⟨s3, g3, _, w3⟩ := DataW.trod_int Try.underlying3 h3
    obtain ⟨s1, g1, _⟩ := DataW.trod_bool Try.underlying4 k1
    obtain ⟨cs, hcs⟩ := chs_trod h4
    simp at g0 g1 g2 g3
    subst g0 g1 g2 g3
    obtain ⟨os, hos⟩ := ords_trod k0
    obtain ⟨ka, kc, rfl⟩ := hos.slice
    have hcap : ∀ a len cap, c5 = .slice a len cap → len ≤ cap := by
      rintro a len cap rfl
      rcases DataW.trod_slice Try.underlying25 h4 with ⟨hcs2, _⟩ | ⟨a', len', cap', el, re, n, _, hcs2, _, _, hl', _⟩
      · have h5 := (List.cons.inj hcs2).1
        injection h5 with _ h6 h7
        omega
      · have h5 := (List.cons.inj hcs2).1
        injection h5 with _ h6 h7
        omega
    exact ⟨s0, ka, os.length, kc, s1, s2, s3, c5, cs, os, rfl, hcs, w0, hos, hcap⟩
set_option maxRecDepth 100000 in
set_option maxHeartbeats 1000000 in
theorem moves_law (sp : ByteArray) (ka : Option Addr) (kl kc : Nat) (hs : Bool) (ep vr : Int) (ch : Value) (cs : List Ch) (os : List Ord) (n : Int) (dr : Value) (xs : List Int) (w : World) (hsp : sp.size ≤ maxLen) (hcap : ∀ a len cap, ch = .slice a len cap → len ≤ cap)
    (hc : ChsIn w ch cs) (hk : OrdIn w (.slice ka kl kc) os) (hd : IntsIn w dr xs) :
    Calls Try.prog 5 #[rts sp (.slice ka kl kc) hs ep vr ch, .int .i64 n, dr] w fun e w' => e = .returned (.bool true) ∧ Below w.heap.size w w' := by
  by_cases hf : cs.length ≤ 80 ∧ xs.length ≤ 20
  · exact moves_in sp ka kl kc hs ep vr ch cs os n dr xs w hsp hf hcap hc hk hd
  · obtain ⟨a, cap, rfl⟩ := hc.slice
    obtain ⟨a2, cap2, rfl⟩ := hd.slice
    have HS := Lib.hid (RB.start w sp (.slice ka kl kc) hs ep vr (.slice a cs.length cap))
    have HFW := Lib.hid (few_any sp (.slice ka kl kc) hs ep vr a cs.length cap a2 xs.length cap2)
    clear hc hk hd hcap
    go_enter Try.func5, Try.ntmps5
    go_wp2_with fail
    refine (HS.out.next (HFW.out _)).mono ?_
    rintro e w1 ⟨he1, hR1⟩
    rw [decide_eq_false hf] at he1
    subst he1
    have HB := Lib.hid hR1.2.2.2.2.2.2.2
    have hs1 := HB.out.size
    clear hf HFW HS hR1
    go_wp2_with fail
    refine (awake_any _).mono ?_
    rintro e w2 ⟨rfl, hb2⟩
    go_wp2_with fail
    go_ret
    exact ⟨rfl, HB.out.trans (hb2.mono hs1)⟩
end Go.Proofs.Ytimhokilicogdaa
