/- Mvcc: Scan, and what the law's 'scan' returns. -/
import Derived.Test.YtaecppkkbdbdbaaMv17
namespace Go.Proofs.Ytaecppkkbdbdbaa
open Go.ChangeShapes Go.WideShapes Go.ChangeAt Go.RowKit Go.Deep Go.ChangeMaps Go.Shelf Go.Sort
set_option linter.unusedVariables false
set_option linter.unusedSimpArgs false
attribute [local go_sem] Oper.semAt_some
attribute [local go_sem, local simp] wide_fn
def prS (L : List (Bs × Bs)) : List Value := L.flatMap fun x => [.string x.1, .string x.2]
theorem prS_snoc (L : List (Bs × Bs)) (x : Bs × Bs) : prS (L ++ [x]) = prS L ++ [.string x.1, .string x.2] := by simp [prS]
theorem infoB : (Try.prog.info? 45).map (fun i => (i.zero, i.size, i.bytes)) = some (some (.agg #[.string ⟨#[]⟩, .string ⟨#[]⟩]), 2, 32) := by kernel_rfl
/-- the boxes that Scan makes -/
structure SBox (W : World) (b S : Nat) (lo hi : Bs) (t : Int) (back : Bool) : Prop where
  c0 : W.cell? ⟨b, 0, none⟩ = some (.pointer (some ⟨S, 0, none⟩))
  c1 : W.cell? ⟨b + 1, 0, none⟩ = some (.string lo)
  c2 : W.cell? ⟨b + 2, 0, none⟩ = some (.string hi)
  c3 : W.cell? ⟨b + 4, 0, none⟩ = some (.bool back)
  c4 : W.cell? ⟨b + 3, 0, none⟩ = some (.int .i64 t)
theorem seek_in (n S : Nat) (lo hi : Bs) (t : Int) (back : Bool) (w : World) :
    CallsIn Fence.wide n Try.prog 36 #[.pointer (some ⟨S, 0, none⟩), .string lo, .string hi, .int .i64 t, .bool back] w fun e w' => e = .returned (.func (.func 51) #[] #[.pointer (some ⟨w.heap.size, 0, none⟩), .pointer (some ⟨w.heap.size + 1, 0, none⟩), .pointer (some ⟨w.heap.size + 2, 0, none⟩), .pointer (some ⟨w.heap.size + 4, 0, none⟩), .pointer (some ⟨w.heap.size + 3, 0, none⟩)]) ∧ SBox w' w.heap.size S lo hi t back ∧ w'.heap.size = w.heap.size + 5 ∧ Below w.heap.size w w' ∧ KeepsOthers w w' := by
  refine callsIn_of_wp Try.func36 rfl trivial ?_ rfl
  simp only [Try.ntmps36, List.size_toArray, List.length_cons, List.length_nil, Nat.reduceAdd, Nat.reduceSub, Array.replicate_succ, Array.replicate_zero, List.push_toArray, List.append_toArray, List.nil_append, List.cons_append]
  gi_wp2
  go_ret
  have b0 := Boxed.new w 24 (.pointer (some ⟨S, 0, none⟩))
  have b1 := Boxed.new (w.alloc (.cells #[.pointer (some ⟨S, 0, none⟩)] 24)) 9 (.string lo)
  have b2 := Boxed.new ((w.alloc (.cells #[.pointer (some ⟨S, 0, none⟩)] 24)).alloc (.cells #[.string lo] 9)) 9 (.string hi)
  have b3 := Boxed.new (((w.alloc (.cells #[.pointer (some ⟨S, 0, none⟩)] 24)).alloc (.cells #[.string lo] 9)).alloc (.cells #[.string hi] 9)) 3 (.int .i64 t)
  have b4 := Boxed.new ((((w.alloc (.cells #[.pointer (some ⟨S, 0, none⟩)] 24)).alloc (.cells #[.string lo] 9)).alloc (.cells #[.string hi] 9)).alloc (.cells #[.int .i64 t] 3)) 4 (.bool back)
  simp only [World.size_alloc] at b1 b2 b3 b4
  refine ⟨rfl, ⟨((((b0.alloc _).alloc _).alloc _).alloc _).cell, (((b1.alloc _).alloc _).alloc _).cell, ((b2.alloc _).alloc _).cell, b4.cell, (b3.alloc _).cell⟩, by simp, ?_, ?_⟩
  · exact (((((Below.refl _ w).alloc (Nat.le_refl _) _).alloc (by simp) _).alloc (by simp; omega) _).alloc (by simp; omega) _).alloc (by simp; omega) _
  · exact ((((KeepsOthers.alloc _ _).trans (KeepsOthers.alloc _ _)).trans (KeepsOthers.alloc _ _)).trans (KeepsOthers.alloc _ _)).trans (KeepsOthers.alloc _ _)
theorem und69 : (Try.prog.underlying 69).map (fun d => match d with | .func _ _ _ => true | _ => false) = some true := by kernel_rfl
theorem eql69 (f : Fn) (a b : Array Value) (w : World) : (binOp .eql 69 (.func f a b) .nilFunc).run Try.prog w = .ok (.bool false) w := eql_nilFunc und69 f a b w
attribute [local go_sem] eql69
theorem SBox.below {W W' : World} {b S : Nat} {lo hi : Bs} {t : Int} {back : Bool} (h : SBox W b S lo hi t back) (hb : Below W.heap.size W W') (hl : b + 5 ≤ W.heap.size) : SBox W' b S lo hi t back :=
  ⟨(hb.cell (p := ⟨b, 0, none⟩) (by show b < _; omega)).trans h.c0, (hb.cell (p := ⟨b + 1, 0, none⟩) (by show b + 1 < _; omega)).trans h.c1, (hb.cell (p := ⟨b + 2, 0, none⟩) (by show b + 2 < _; omega)).trans h.c2, (hb.cell (p := ⟨b + 4, 0, none⟩) (by show b + 4 < _; omega)).trans h.c3, (hb.cell (p := ⟨b + 3, 0, none⟩) (by show b + 3 < _; omega)).trans h.c4⟩
theorem stops_scan (n n₀ B S mp clock b : Nat) (E : List En) (lo hi : Bs) (t : Int) (back : Bool) (W : World) (h : Sto B W S mp E clock) (hfoot : ∀ k, Foot S mp E k → k < n₀) (hn0 : n₀ ≤ W.heap.size) (hT : E.length ≤ 100000) (c : SBox W b S lo hi t back) (hbl : b + 5 ≤ W.heap.size) :
    SeqStopsK Fence.wide n Try.prog 51 #[.pointer (some ⟨b, 0, none⟩), .pointer (some ⟨b + 1, 0, none⟩), .pointer (some ⟨b + 2, 0, none⟩), .pointer (some ⟨b + 4, 0, none⟩), .pointer (some ⟨b + 3, 0, none⟩)] encP (KpS n₀ b (b + 5)) (fun xs => xs = scanK E t (scanT E lo hi back)) (fun pre => pre <+: scanK E t (scanT E lo hi back)) (scanK E t (scanT E lo hi back)).length W := fun l J Jx W1 hW hJ _ hY h0 =>
  have c' := c.below hW hbl
  scan1_any n l n₀ _ b B S mp clock E lo hi t back J Jx (fun m pre x W hj hl => yieldAt_any (hY pre x W hj hl)) (fun pre W W' hj hb => abides_below hJ pre W W' hj hb) W1 (h.below hW) hfoot (Nat.le_trans hn0 hW.size) hT c'.c0 c'.c1 c'.c2 c'.c3 c'.c4 (Nat.le_trans hbl hW.size) h0 (Nat.le_refl _)
theorem two_cells_new (W : World) (a b : Value) (t : TypeId) : ∀ j z, [a, b][j]? = some z → (W.alloc (.cells #[a, b] t)).cell? ((⟨W.heap.size, 0, none⟩ : Addr).add j) = some z := fun j z hz => by
  rw [addr_add', Nat.zero_add]
  exact (Box.new W [a, b] t).cell j z hz
def ScanOut (L : List (Bs × Bs)) (w : World) (e : Ending) (W' : World) : Prop :=
  ∃ v, e = .returned v ∧ W'.ownsRow w.heap.size 45 2 v L.length (prS L) ∧ Below w.heap.size w W'
set_option maxRecDepth 100000 in
set_option maxHeartbeats 3200000 in
theorem scan_law_in (n B S mp clock : Nat) (E : List En) (lo hi : Bs) (t : Int) (back : Bool) (w : World) (h : Sto B w S mp E clock) (hT : E.length ≤ 100000) (h1 : 1 ≤ n) (hL : (scanK E t (scanT E lo hi back)).length ≤ 100000) :
    CallsIn Fence.wide n Try.prog 21 #[.pointer (some ⟨S, 0, none⟩), .string lo, .string hi, .int .i64 t, .bool back] w (ScanOut (scanK E t (scanT E lo hi back)) w) := by
  have HH := Lib.hid h
  have hro : Fence.wide.round = none := rfl
  obtain ⟨i0, hi0, hz0, hz1, hz2⟩ := info_parts infoB
  clear h
  refine callsIn_of_wp_marks Try.func21 rfl trivial ?_ rfl
  simp only [Try.ntmps21, List.size_toArray, List.length_cons, List.length_nil, Nat.reduceAdd, Nat.reduceSub, Array.replicate_succ, Array.replicate_zero, List.push_toArray, List.append_toArray, List.nil_append, List.cons_append]
  gi_wp2_with (gi_at_call 36; refine (seek_in (n - 1) S _ _ _ _ _).mono ?_; rintro e w' ⟨rfl, hcb, hsz, hbl, hko⟩)
  have hsz2 : w'.heap.size = w.heap.size + 6 := by rw [hsz]; simp
  have hbl0 : Below w.heap.size w w' := ((Below.refl _ w).alloc (Nat.le_refl _) _).trans (hbl.mono (by simp))
  have bO : Boxed w' w.heap.size 44 (.slice none 0 0) := (hbl.block _ (by simp)).trans (Boxed.new w 44 (.slice none 0 0))
  have hcb2 : SBox w' (w.heap.size + 1) S lo hi t back := by simpa using hcb
  have hst := stops_scan (n - 1) w.heap.size B S mp clock (w.heap.size + 1) E lo hi t back w' (HH.out.below hbl0) (fun k hk => (HH.out.foot hk).2) hbl0.size hT hcb2 (by omega)
  clear hcb hsz hbl hko hcb2
  refine wpIn_rangeFunc_ownH hro h1 (gf := 51) (lb := #[.pointer (some ⟨w.heap.size + 1, 0, none⟩), .pointer (some ⟨w.heap.size + 2, 0, none⟩), .pointer (some ⟨w.heap.size + 3, 0, none⟩), .pointer (some ⟨w.heap.size + 5, 0, none⟩), .pointer (some ⟨w.heap.size + 4, 0, none⟩)]) rfl trivial (enters_of Try.func51 (by kernel_rfl) rfl)
    hst (fun h k => h.t k) (kpS_b (by omega) (by omega)) (Below.refl _ _) (fun _ => rfl)
    (fun pre W => (∃ v, Boxed W w.heap.size 44 v ∧ W.ownsRow (w.heap.size + 6) 45 2 v pre.length (prS pre) ∧ True) ∧ Below w.heap.size w' W)
    (fun _ _ _ => False)
    (OwnFrom.and (Own.from (holdsRow_own (β := List (Bs × Bs)) (w.heap.size + 6) w.heap.size 44 45 2 (fun pre => pre.length) prS (fun _ _ => True)) _) (ownFrom_below (by omega) (by omega)))
    (fun _ _ _ _ _ hs _ _ => hs)
    ⟨⟨_, bO, World.ownsRow_nil _ _ _ _, trivial⟩, Below.refl _ _⟩
    (fun x a' W => a' = { tmps := #[.pointer (some ⟨S, 0, none⟩), .string lo, .string hi, .int .i64 t, .bool back, undef, undef, undef, undef, undef, .slice none 0 0, .pointer (some ⟨w.heap.size, 0, none⟩), .func (.func 51) #[] #[.pointer (some ⟨w.heap.size + 1, 0, none⟩), .pointer (some ⟨w.heap.size + 2, 0, none⟩), .pointer (some ⟨w.heap.size + 3, 0, none⟩), .pointer (some ⟨w.heap.size + 5, 0, none⟩), .pointer (some ⟨w.heap.size + 4, 0, none⟩)], .string x.1, .string x.2, .pointer (some ⟨S, 0, none⟩), .string lo, .string hi, .int .i64 t, .bool back, .func (.func 51) #[] #[.pointer (some ⟨w.heap.size + 1, 0, none⟩), .pointer (some ⟨w.heap.size + 2, 0, none⟩), .pointer (some ⟨w.heap.size + 3, 0, none⟩), .pointer (some ⟨w.heap.size + 5, 0, none⟩), .pointer (some ⟨w.heap.size + 4, 0, none⟩)], .func (.func 51) #[] #[.pointer (some ⟨w.heap.size + 1, 0, none⟩), .pointer (some ⟨w.heap.size + 2, 0, none⟩), .pointer (some ⟨w.heap.size + 3, 0, none⟩), .pointer (some ⟨w.heap.size + 5, 0, none⟩), .pointer (some ⟨w.heap.size + 4, 0, none⟩)], .bool false, undef, undef, .func (.func 51) #[] #[.pointer (some ⟨w.heap.size + 1, 0, none⟩), .pointer (some ⟨w.heap.size + 2, 0, none⟩), .pointer (some ⟨w.heap.size + 3, 0, none⟩), .pointer (some ⟨w.heap.size + 5, 0, none⟩), .pointer (some ⟨w.heap.size + 4, 0, none⟩)], .string x.1, .string x.2, undef, undef, undef, undef, undef, undef, undef], defers := [] })
    (fun x a' _ W W' row hs hg hr => hs) ?assign ?body ?done ?stop
  case assign =>
    rintro l pre ⟨k, s⟩ W K ⟨⟨v, hv, hrow, _⟩, hB⟩ hK
    unfold encP
    gi_wp2
    exact hK _ _ ((KeepsOthers.refl W).from _) (KpS.below (Below.refl _ W) (by have := hB.size; omega)) ⟨⟨v, hv, hrow, trivial⟩, hB⟩ rfl
  case body =>
    rintro l pre ⟨k, s⟩ a' W hl _ ⟨⟨v, hv, hrow, _⟩, hB⟩ rfl hlt
    have hc := hv.cell
    have hl63 : pre.length ≤ 100000 := by omega
    obtain ⟨va, vc, rfl⟩ : ∃ a c, v = .slice a pre.length c := by
      rcases hrow.2 with ⟨rfl, h0⟩ | ⟨g, cap, cur, rfl, _⟩
      · exact ⟨none, 0, by rw [h0]⟩
      · exact ⟨_, _, rfl⟩
    have hrow0 := own_base hrow (show w.heap.size ≤ w.heap.size + 6 by omega)
    gi_wp2_with (gi_at_builtin; refine wpListIn_append_own _ rfl _ _ 44 rfl (w.heap.size + 6) 45 i0 (.agg #[.string ⟨#[]⟩, .string ⟨#[]⟩]) 2 32 Try.underlying44 hi0 hz0 hz1 hz2 rfl (by decide) _ _ _ rfl (World.ownsRow.alloc hrow _) ⟨W.heap.size, 0, none⟩ 1 1 [.string k, .string s] rfl rfl (two_cells_new _ _ _ _) (by simp [Value.oneCell']) (by unfold maxLen; omega) (by omega) (by have := hB.size; simp; omega) ?_; intro v' w1 hown' hgrow _; obtain ⟨g', cap', rfl⟩ := ownsRow_succ hown'; obtain ⟨hv1, hv2, hr2, hk2, hb2⟩ := hv.appended (by decide) hrow0 (by have := hB.size; omega) (Nat.le_refl _) (own_base hown' (show w.heap.size ≤ w.heap.size + 6 by omega)) hgrow; have hc1 := hv1.cell; have hf1 := hv1.frozen)
    have hkp := kps_app (n₀ := w.heap.size) (b := w.heap.size + 1) (c := w.heap.size + 1 + 5) (u := .slice (some ⟨g', 0, none⟩) (pre.length + 1) cap') hv hrow hgrow (by omega) (by decide) (by decide) (Nat.le_refl _) (by omega)
    refine ⟨hk2.from _, hkp, ⟨⟨_, hv2, ?_⟩, hB.trans hb2⟩⟩
    rw [prS_snoc, List.length_append]
    exact ⟨hown'.kept (grownBy_setCell' w1 w.heap.size _) (.inr (hv1.not_row (by decide) hown').symm), trivial⟩
  case done =>
    rintro D ys W hD rfl ⟨⟨v, hv, hrow, _⟩, hB⟩ hK
    have hc := hv.cell
    gi_wp2
    refine ⟨by simp, .inl ⟨_, _, rfl, run_takeDeferred hK, ?_⟩⟩
    exact ⟨_, results_tmp rfl _ _ _, v, rfl, ownsRow_putObj (own_base hrow (show w.heap.size ≤ w.heap.size + 6 by omega)) _ hK rfl, hbl0.trans (hB.trans (belowK_b (w := w) (Nat.le_refl _) W D _ _ (by omega) hK rfl rfl))⟩
  case stop =>
    rintro D c pre W _ _ h _
    exact h.elim
end Go.Proofs.Ytaecppkkbdbdbaa
