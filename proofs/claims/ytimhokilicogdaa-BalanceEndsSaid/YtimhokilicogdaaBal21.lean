/- Balance: the routes argument; few; the law about counts. -/
import Derived.Test.YtimhokilicogdaaBal20
import Derived.RangeFuncBox
import Derived.Deep.RegionHeld3
import Derived.Outline
namespace Go.Proofs.Ytimhokilicogdaa
open Go.ChangeShapes Go.WideShapes Go.ChangeAt Go.RowKit Go.Joins Go.Deep Go.ChangeMaps
set_option linter.unusedVariables false
set_option linter.unusedSimpArgs false
theorem cellsRts : Try.prog.cellsOf 27 = 6 := by kernel_rfl
theorem cellsKey : Try.prog.cellsOf 24 = 2 := by kernel_rfl
/-- routes that came in -/
theorem rtsArg_of {H : Type} {enc : TypeId × Value → H} {w : World} {v : Value} {d : DataW H} {ps : List MemPlace} {r : Reach} {b0 : Nat}
    (hv : Value.okWide Try.prog w r b0 27 v) (h : DataW.Trod enc Try.prog w 0 (fun _ => true) true 27 v d ps) :
    ∃ sp ks hs ep vr ch cs, v = rts sp ks hs ep vr ch ∧ ChsIn w ch cs ∧ (Lit.int .i64 vr).wf = true ∧ ∃ n y, DataW.trod enc Try.prog w 0 (fun _ => true) true n 22 [ks] = some y := by
  obtain ⟨cs0, rfl, hsz⟩ := okWide_struct Try.underlying27 hv
  obtain ⟨l⟩ := cs0
  match l, hsz.trans cellsRts with
  | [c0, c1, c2, c3, c4, c5], _ =>
    obtain ⟨fuel, hf⟩ := h
    obtain ⟨xs, n', _, hx, hl, hxs, hg⟩ := DataW.trod_struct Try.underlying27 hf
    have hx5 : xs.length = 5 := hxs
    have h0 := hg 0 { name := "Space", type := 9, offset := 0, embedded := false, tag := "", pkgPath := "", byteOffset := 0 } rfl
    have h1 := hg 1 { name := "Key", type := 24, offset := 1, embedded := false, tag := "", pkgPath := "", byteOffset := 16 } rfl
    have h2 := hg 2 { name := "Epoch", type := 3, offset := 3, embedded := false, tag := "", pkgPath := "", byteOffset := 48 } rfl
    have h3 := hg 3 { name := "Version", type := 3, offset := 4, embedded := false, tag := "", pkgPath := "", byteOffset := 56 } rfl
    have h4 := hg 4 { name := "Chunks", type := 25, offset := 5, embedded := false, tag := "", pkgPath := "", byteOffset := 64 } rfl
    rw [List.getElem?_eq_getElem (by omega)] at h0 h1 h2 h3 h4
    have e9 : Try.prog.cellsOf 9 = 1 := by kernel_rfl
    have e3 : Try.prog.cellsOf 3 = 1 := by kernel_rfl
    have e4 : Try.prog.cellsOf 4 = 1 := by kernel_rfl
    have eO : Try.prog.cellsOf 22 = 1 := by kernel_rfl
    have eC : Try.prog.cellsOf 25 = 1 := by kernel_rfl
    dsimp only at h0 h1 h2 h3 h4
    rw [e9] at h0
    rw [cellsKey] at h1
    rw [e3] at h2 h3
    rw [eC] at h4
    simp [Value.cells] at h0 h1 h2 h3 h4
    obtain ⟨ys, n2, _, _, hl2, hys, hg2⟩ := DataW.trod_struct Try.underlying24 h1
    have hy2 : ys.length = 2 := hys
    have k0 := hg2 0 { name := "Keys", type := 22, offset := 0, embedded := false, tag := "", pkgPath := "", byteOffset := 0 } rfl
    have k1 := hg2 1 { name := "Hashed", type := 4, offset := 1, embedded := false, tag := "", pkgPath := "", byteOffset := 24 } rfl
    rw [List.getElem?_eq_getElem (by omega)] at k0 k1
    dsimp only at k0 k1
    rw [eO] at k0
    rw [e4] at k1
    simp at k0 k1
    obtain ⟨s0, g0, _⟩ := DataW.trod_string Try.underlying9 h0
    obtain ⟨s2, g2, _⟩ := DataW.trod_int Try.underlying3 h2
    obtain ⟨s3, g3, _, w3⟩ := DataW.trod_int Try.underlying3 h3
    obtain ⟨s1, g1, _⟩ := DataW.trod_bool Try.underlying4 k1
    obtain ⟨cs, hcs⟩ := chs_trod h4
    simp at g0 g1 g2 g3
    subst g0 g1 g2 g3
    exact ⟨s0, c1, s1, s2, s3, c5, cs, rfl, hcs, w3, _, _, k0⟩
theorem ChsIn.slice {w : World} {v : Value} {cs : List Ch} (h : ChsIn w v cs) : ∃ a cap, v = .slice a cs.length cap := by
  rcases h with ⟨rfl, a, cap, rfl⟩ | ⟨B, o, cap, h1, _⟩
  · exact ⟨a, cap, rfl⟩
  · exact ⟨_, cap, h1⟩
theorem IntsIn.slice {w : World} {v : Value} {xs : List Int} (h : IntsIn w v xs) : ∃ a cap, v = .slice a xs.length cap := by
  rcases h with ⟨rfl, a, cap, rfl⟩ | ⟨B, o, cap, h1, _⟩
  · exact ⟨a, cap, rfl⟩
  · exact ⟨_, cap, h1⟩
theorem few_any (sp : ByteArray) (ks : Value) (hs : Bool) (ep vr : Int) (a : Option Addr) (l cap : Nat) (a2 : Option Addr) (m cap2 : Nat) (w : World) :
    Calls Try.prog 7 #[rts sp ks hs ep vr (.slice a l cap), .slice a2 m cap2] w fun e w' => e = .returned (.bool (decide (l ≤ 80 ∧ m ≤ 20))) ∧ Below w.heap.size w w' := by
  have hb : Below w.heap.size w (w.alloc (.cells #[.string sp, ks, .bool hs, .int .i64 ep, .int .i64 vr, .slice a l cap] 27)) := (Below.refl _ _).alloc (Nat.le_refl _) _
  by_cases h1 : l ≤ 80
  · by_cases h2 : m ≤ 20
    · have i1 : (l : Int) ≤ 80 := by omega
      have i2 : (m : Int) ≤ 20 := by omega
      go_enter Try.func7, Try.ntmps7
      go_wp2_with fail
      go_ret
      exact ⟨by simp [h1, h2, i1, i2], hb⟩
    · have i1 : (l : Int) ≤ 80 := by omega
      have i2 : ¬ (m : Int) ≤ 20 := by omega
      go_enter Try.func7, Try.ntmps7
      go_wp2_with fail
      go_ret
      exact ⟨by simp [h1, h2, i1, i2], hb⟩
  · have i1 : ¬ (l : Int) ≤ 80 := by omega
    go_enter Try.func7, Try.ntmps7
    go_wp2_with fail
    go_ret
    exact ⟨by simp [h1, i1], hb⟩
theorem RB.nextG {w : World} {sp : ByteArray} {ks : Value} {hs : Bool} {ep vr : Int} {ch : Value} {W : World} (h : RB w sp ks hs ep vr ch W) {P : Program} {f : Nat} {args : Array Value} {G : Ending → World → Prop} (hc : Calls P f args W fun e w' => G e w' ∧ Below W.heap.size W w') :
    Calls P f args W fun e w' => G e w' ∧ Below W.heap.size W w' ∧ RB w sp ks hs ep vr ch w' := by
  refine hc.mono ?_
  rintro e W' ⟨he, hb⟩
  obtain ⟨c0, c1, c2, c3, c4, c5, hz, hB⟩ := h
  obtain ⟨g, _⟩ := bcell hb
  exact ⟨he, hb, (g _ _ hz).trans c0, (g _ _ hz).trans c1, (g _ _ hz).trans c2, (g _ _ hz).trans c3, (g _ _ hz).trans c4, (g _ _ hz).trans c5, Nat.lt_of_lt_of_le hz hb.size, hB.trans (hb.mono (Nat.le_of_lt hz))⟩
set_option maxRecDepth 100000 in
set_option maxHeartbeats 1000000 in
theorem bcounts_law (sp : ByteArray) (ks : Value) (hs : Bool) (ep vr : Int) (ch : Value) (cs : List Ch) (n : Int) (w : World) (hc : ChsIn w ch cs) :
    Calls Try.prog 3 #[rts sp ks hs ep vr ch, .int .i64 n] w fun e w' => e = .returned (.bool true) ∧ Below w.heap.size w w' := by
  obtain ⟨a, cap, rfl⟩ := hc.slice
  have HC := Lib.hid hc
  clear hc
  have HS := Lib.hid (RB.start w sp ks hs ep vr (.slice a cs.length cap))
  have HB := Lib.hid HS.out.2.2.2.2.2.2.2
  go_enter Try.func3, Try.ntmps3
  go_wp2_with fail
  refine (HS.out.next (few_any sp ks hs ep vr a cs.length cap none 0 0 _)).mono ?_
  rintro e w1 ⟨he1, hR1⟩
  by_cases hf : cs.length ≤ 80 ∧ 0 ≤ 20
  · rw [decide_eq_true hf] at he1
    subst he1
    obtain ⟨a0, a1, a2, a3, a4, a5, hz1, hb1⟩ := hR1
    have hBd := hb1.drew
    clear HS HB hf
    by_cases hn : 1 ≤ n ∧ n ≤ 8
    · obtain ⟨m, rfl⟩ := Int.eq_ofNat_of_zero_le (a := n) (by omega)
      obtain ⟨q, rfl⟩ : ∃ q, m = q + 1 := ⟨m - 1, by omega⟩
      have hm1 : 1 ≤ q + 1 := by omega
      have hm8 : q + 1 ≤ 8 := by omega
      clear hn
      go_wp2_with fail
      go_region_held3 (fun W => W.cell? ⟨w.heap.size, 0, none⟩ = some (.string sp) ∧ W.cell? ⟨w.heap.size, 1, none⟩ = some (ks) ∧ W.cell? ⟨w.heap.size, 2, none⟩ = some (.bool hs) ∧ W.cell? ⟨w.heap.size, 3, none⟩ = some (.int .i64 ep) ∧ W.cell? ⟨w.heap.size, 4, none⟩ = some (.int .i64 vr) ∧ W.cell? ⟨w.heap.size, 5, none⟩ = some (.slice a cs.length cap) ∧ w.heap.size < W.heap.size ∧ Below w.heap.size w W) (refine ⟨?_, ?_, ?_, ?_, ?_, ?_, ?_, ?_⟩ <;> assumption) (first | (go_at_call 9; refine (RB.nextG (w := w) (sp := sp) (ks := ks) (hs := hs) (ep := ep) (vr := vr) (ch := .slice a cs.length cap) ⟨by assumption, by assumption, by assumption, by assumption, by assumption, by assumption, by assumption, by assumption⟩ (Counts_any sp ks hs ep vr (.slice a cs.length cap) cs (q + 1) _ hm1 hm8 (HC.out.below (by assumption)))).mono ?_; rintro e w2 ⟨⟨bl, he2, hbl, hzl, hN⟩, hb2, d0, d1, d2, d3, d4, d5, dz, dB⟩; rw [counts_len] at he2; subst he2) | (go_at_call 10; refine (RB.nextG (w := w) (sp := sp) (ks := ks) (hs := hs) (ep := ep) (vr := vr) (ch := .slice a cs.length cap) ⟨by assumption, by assumption, by assumption, by assumption, by assumption, by assumption, by assumption, by assumption⟩ (rCounts_any sp ks hs ep vr (.slice a cs.length cap) cs (q + 1) _ hm1 hm8 (HC.out.below (by assumption)))).mono ?_; rintro e w3 ⟨⟨v, he3, hO⟩, hb3, d0, d1, d2, d3, d4, d5, dz, dB⟩; subst he3; have hN3 := NumsAt.below (by assumption) hb3 (by assumption); obtain ⟨g, cap3, hv3⟩ := ownsRow_succ hO; subst hv3))
      have HB3 := Lib.hid dB
      have HX : Hid (∀ j, j < q + 1 → ∃ x : Int, w3.cell? ⟨bl, j, none⟩ = some (.int .i64 x) ∧ w3.cell? ⟨g, j, none⟩ = some (.int .i64 x)) := Lib.hid (fun j hj => by
        have hl : j < (counts cs true (q + 1)).length := by rw [counts_len]; exact hj
        refine ⟨(counts cs true (q + 1))[j]'hl, hN3.cell j hl, ?_⟩
        rw [hO.cellAt j (by omega)]; simp [ints, hl])
      clear hN3 hO a0 a1 a2 a3 a4 a5 hz1 hb1 hBd d0 d1 d2 d3 d4 d5 dz dB hb3 HC
      go_wp2_with fail
      go_loopw [7] (fun i W => ∃ k : Nat, k ≤ q + 1 ∧ i = .int .i64 k ∧ Below w.heap.size w W ∧ ∀ j, j < q + 1 → ∃ x : Int, W.cell? ⟨bl, j, none⟩ = some (.int .i64 x) ∧ W.cell? ⟨g, j, none⟩ = some (.int .i64 x)) (fun i _ => (q + 1) - (intOf i).toNat)
      case atStart => exact ⟨0, Nat.zero_le _, rfl, HB3.out, HX.out⟩
      case round =>
        obtain ⟨k, hk, rfl, hbk, hxk⟩ := hrel
        have HBK := Lib.hid hbk
        have HXK := Lib.hid hxk
        clear hbk hxk HX HB3
        by_cases hlt : k < q + 1
        · obtain ⟨x, cx, cy⟩ := HXK.out k hlt
          go_wp2_with fail
          go_region
          all_goals (try go_wp2_with fail)
          go_roundw
          case rel => exact ⟨k + 1, by omega, by go_num, HBK.out.drew, HXK.out⟩
          case measure => simp [intOf]; omega
        · go_wp2_with fail
          refine (awake_any _).mono ?_
          rintro e w4 ⟨rfl, hb4⟩
          have HB4 : Hid (Below w.heap.size w w4) := Lib.hid (HBK.out.trans (hb4.mono HBK.out.size))
          clear hb4
          go_wp2_with fail
          go_ret
          exact ⟨rfl, HB4.out⟩
    · go_wp2_with fail
      go_region_held3 (fun W => W.cell? ⟨w.heap.size, 0, none⟩ = some (.string sp) ∧ W.cell? ⟨w.heap.size, 1, none⟩ = some (ks) ∧ W.cell? ⟨w.heap.size, 2, none⟩ = some (.bool hs) ∧ W.cell? ⟨w.heap.size, 3, none⟩ = some (.int .i64 ep) ∧ W.cell? ⟨w.heap.size, 4, none⟩ = some (.int .i64 vr) ∧ W.cell? ⟨w.heap.size, 5, none⟩ = some (.slice a cs.length cap) ∧ w.heap.size < W.heap.size ∧ Below w.heap.size w W) (refine ⟨?_, ?_, ?_, ?_, ?_, ?_, ?_, ?_⟩ <;> assumption) (first | (go_at_call 9; refine (RB.nextG (w := w) (sp := sp) (ks := ks) (hs := hs) (ep := ep) (vr := vr) (ch := .slice a cs.length cap) ⟨by assumption, by assumption, by assumption, by assumption, by assumption, by assumption, by assumption, by assumption⟩ (Counts_no sp ks hs ep vr (.slice a cs.length cap) n _ hn)).mono ?_; rintro e w2 ⟨he2, hb2, d0, d1, d2, d3, d4, d5, dz, dB⟩; subst he2) | (go_at_call 10; refine (RB.nextG (w := w) (sp := sp) (ks := ks) (hs := hs) (ep := ep) (vr := vr) (ch := .slice a cs.length cap) ⟨by assumption, by assumption, by assumption, by assumption, by assumption, by assumption, by assumption, by assumption⟩ (rCounts_no sp ks hs ep vr (.slice a cs.length cap) n _ hn)).mono ?_; rintro e w3 ⟨he3, hb3, d0, d1, d2, d3, d4, d5, dz, dB⟩; subst he3))
      have HB3 := Lib.hid dB
      clear a0 a1 a2 a3 a4 a5 hz1 hb1 hBd d0 d1 d2 d3 d4 d5 dz dB hb3 HC
      go_wp2_with fail
      go_loop [7] (fun i => i = .int .i64 0) (fun i => 0)
      case atStart => rfl
      case round =>
        subst hrel
        go_wp2_with fail
        refine (awake_any _).mono ?_
        rintro e w4 ⟨rfl, hb4⟩
        have HB4 : Hid (Below w.heap.size w w4) := Lib.hid (HB3.out.trans (hb4.mono HB3.out.size))
        clear hb4
        go_wp2_with fail
        go_ret
        exact ⟨rfl, HB4.out⟩
  · rw [decide_eq_false hf] at he1
    subst he1
    have HB1 := Lib.hid hR1.2.2.2.2.2.2.2
    have hs1 := HB1.out.size
    clear hR1
    go_wp2_with fail
    refine (awake_any _).mono ?_
    rintro e w2 ⟨rfl, hb2⟩
    have HB2 : Hid (Below w.heap.size w w2) := Lib.hid (HB1.out.trans (hb2.mono hs1))
    clear hb2
    go_wp2_with fail
    go_ret
    exact ⟨rfl, HB2.out⟩
end Go.Proofs.Ytimhokilicogdaa
