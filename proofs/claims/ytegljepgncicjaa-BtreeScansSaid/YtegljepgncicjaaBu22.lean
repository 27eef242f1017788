/- Btree: pairs, up to 'most' of them. -/
import Derived.Test.YtegljepgncicjaaBu21
namespace Go.Proofs.Ytegljepgncicjaa
open Go.ChangeShapes Go.WideShapes Go.ChangeAt Go.RowKit Go.Deep Go.Shelf
set_option linter.unusedVariables false
set_option linter.unusedSimpArgs false
attribute [local go_sem] Oper.semAt_some
attribute [local go_sem, local simp] wide_fn
attribute [local go_sem] eql_nilFunc
set_option maxRecDepth 100000 in
set_option maxHeartbeats 1600000 in
theorem pairs_take (n : Nat) (tp : Option Addr) (lo hi : Bs) (back : Bool) (most : Nat) (L : List (Bs × Bs)) (w : World) (hL2 : L.length ≤ 1000) (h1 : 1 ≤ n)
    (hS : ∀ (W : World) (b m : Nat), Below w.heap.size w W → ScanBoxes W b tp lo hi back → SeqStopsK Fence.wide m Try.prog 39 (scanLb b) encP (Below w.heap.size) (fun ys => ys = L) (fun pre => pre <+: L) L.length W) :
    CallsIn Fence.wide n Try.prog 19 #[.pointer tp, .string lo, .string hi, .bool back, .int .i64 most] w (PairsOut (L.take most) w) := by
  have HS := Lib.hid hS
  have hro : Fence.wide.round = none := rfl
  obtain ⟨i0, hi0, hz0, hz1, hz2⟩ := info_parts info59
  clear hS
  refine callsIn_of_wp_marks Try.func19 rfl trivial ?_ rfl
  simp only [Try.ntmps19, List.size_toArray, List.length_cons, List.length_nil, Nat.reduceAdd, Nat.reduceSub, Array.replicate_succ, Array.replicate_zero, List.push_toArray, List.append_toArray, List.nil_append, List.cons_append]
  gi_wp2_with (gi_at_call 30; refine (scan_inn (n - 1) tp lo _ back _).mono ?_; rintro e w' ⟨rfl, hsb, hsz, hbl, hko⟩)
  have hsz2 : w'.heap.size = w.heap.size + 6 := by rw [hsz]; simp
  have hbl0 : Below w.heap.size w w' := ((((Below.refl _ w).alloc (Nat.le_refl _) _).alloc (by simp) _)).trans (hbl.mono (by simp <;> omega))
  have bM : Boxed w' w.heap.size 3 (.int .i64 most) := (hbl.block _ (by simp <;> omega)).trans ((Boxed.new w 3 (.int .i64 most)).alloc _)
  have bO : Boxed w' (w.heap.size + 1) 28 (.slice none 0 0) := by
    have := Boxed.new (w.alloc (.cells #[.int .i64 most] 3)) 28 (.slice none 0 0)
    rw [World.size_alloc] at this
    exact (hbl.block _ (by simp)).trans this
  have hst := HS.out w' (w.heap.size + 1 + 1) (n - 1) hbl0 (by simpa using hsb)
  clear HS hsb hbl hko hsz
  refine wpIn_rangeFunc_ownG hro h1 (gf := 39) (lb := scanLb (w.heap.size + 1 + 1)) rfl trivial (enters_of Try.func39 (by kernel_rfl) rfl)
    hst belowK_t (belowK_b (by omega)) (Below.refl _ _) (fun _ => rfl)
    (fun pre W => pre.length ≤ most ∧ (Boxed W w.heap.size 3 (.int .i64 most) ∧ (∃ v, Boxed W (w.heap.size + 1) 28 v ∧ W.ownsRow w.heap.size 59 2 v pre.length (prv pre) ∧ True)) ∧ Below w.heap.size w W)
    (fun c pre W => (c = .exit 0 ∧ pre.length = most + 1) ∧ (∃ v, Boxed W (w.heap.size + 1) 28 v ∧ W.ownsRow w.heap.size 59 2 v pre.dropLast.length (prv pre.dropLast) ∧ True) ∧ Below w.heap.size w W)
    (OwnFrom.and (fun _ _ _ _ h _ _ => h) (OwnFrom.and (Own.from (fun s X Y row hs hg hr => ⟨boxed_own (β := List (Bs × Bs)) w.heap.size 3 (fun _ => .int .i64 most) s X Y row hs.1 hg hr, holdsRow_own (β := List (Bs × Bs)) w.heap.size (w.heap.size + 1) 28 59 2 (fun pre => pre.length) prv (fun _ _ => True) s X Y row hs.2 hg hr⟩) _) (ownFrom_below (Nat.le_refl _) (by omega))))
    (fun c => OwnFrom.and (fun _ _ _ _ h _ _ => h) (OwnFrom.and (Own.from (fun s X Y row hs hg hr => holdsRow_own (β := List (Bs × Bs)) w.heap.size (w.heap.size + 1) 28 59 2 (fun pre => pre.dropLast.length) (fun pre => prv pre.dropLast) (fun _ _ => True) s X Y row hs hg hr) _) (ownFrom_below (Nat.le_refl _) (by omega))))
    ⟨Nat.zero_le _, ⟨bM, _, bO, World.ownsRow_nil _ _ _ _, trivial⟩, hbl0⟩
    (fun x => { tmps := #[.pointer tp, .string lo, .string hi, .bool back, .int .i64 most, undef, undef, undef, undef, .pointer (some ⟨w.heap.size, 0, none⟩), .slice none 0 0, .pointer (some ⟨w.heap.size + 1, 0, none⟩), .func (.func 39) #[] (scanLb (w.heap.size + 1 + 1)), .string x.1, .string x.2, .pointer tp, .string lo, .string hi, .bool back, .func (.func 39) #[] (scanLb (w.heap.size + 1 + 1)), .func (.func 39) #[] (scanLb (w.heap.size + 1 + 1)), .bool false, .func (.func 39) #[] (scanLb (w.heap.size + 1 + 1)), .string x.1, .string x.2, undef, undef, undef, undef, undef, undef, undef, undef, undef, undef, undef], defers := [] }) ?assign ?body ?done ?stop
  case assign =>
    intro l x W K hK
    gi_wp2
    exact hK
  case body =>
    rintro l pre x W ⟨hmo, ⟨hm, v, hv, hrow, _⟩, hB⟩ hlt
    have hc := hv.cell
    have hcm := hm.cell
    have hl63 : pre.length ≤ 1000 := by omega
    obtain ⟨va, vc, rfl⟩ : ∃ a c, v = .slice a pre.length c := by
      rcases hrow.2 with ⟨rfl, h0⟩ | ⟨g, cap, cur, rfl, _⟩
      · exact ⟨none, 0, by rw [h0]⟩
      · exact ⟨_, _, rfl⟩
    by_cases hcase : most ≤ pre.length
    · have hge : decide ((most : Int) ≤ (pre.length : Int)) = true := decide_eq_true (by omega)
      have hmx : pre.length = most := Nat.le_antisymm hmo hcase
      gi_wp2
      refine ⟨KeepsFrom.refl _ _, ⟨rfl, by rw [List.length_append, hmx]; rfl⟩, ⟨_, hv, ?_, trivial⟩, hB⟩
      rw [List.dropLast_concat]
      exact hrow
    · have hge : decide ((most : Int) ≤ (pre.length : Int)) = false := decide_eq_false (by omega)
      gi_wp2_with (gi_at_builtin; refine wpListIn_append_own _ rfl _ _ 28 rfl w.heap.size 59 i0 (.agg #[.string ⟨#[]⟩, .string ⟨#[]⟩]) 2 32 Try.underlying28 hi0 hz0 hz1 hz2 rfl (by decide) _ _ _ rfl (hrow.alloc _) ⟨W.heap.size, 0, none⟩ 1 1 [.string x.1, .string x.2] rfl rfl (cell_two_new _ _ _ _) (by simp [Value.oneCell']) (by unfold maxLen; omega) (by omega) (by have := hB.size; simp; omega) ?_; intro v' w1 hown' hgrow _; obtain ⟨g', cap', rfl⟩ := ownsRow_succ hown'; obtain ⟨hv1, hv2, hr2, hk2, hb2⟩ := hv.appended (by decide) hrow hB.size (by omega) hown' hgrow; have hc1 := hv1.cell; have hf1 := hv1.frozen)
      have hm1 := ((hm.alloc (.cells #[.string x.1, .string x.2] 59)).kept hgrow (hm.not_row (by decide) hrow)).other (B' := w.heap.size + 1) (by omega) (.slice (some ⟨g', 0, none⟩) (pre.length + 1) cap')
      refine ⟨hk2.from _, hb2, by rw [List.length_append]; exact Nat.lt_of_not_le hcase, ⟨hm1, _, hv2, ?_, trivial⟩, hB.trans hb2⟩
      rw [prv_snoc, List.length_append]
      exact hr2
  case done =>
    rintro D ys W hD rfl ⟨hmo, ⟨_, v, hv, hrow, _⟩, hB⟩ hK
    have hrow2 : W.ownsRow w.heap.size 59 2 v (ys.take most).length (prv (ys.take most)) := by rw [List.take_of_length_le hmo]; exact hrow
    have hc := hv.cell
    gi_wp2
    refine ⟨by simp, .inl ⟨_, _, rfl, run_takeDeferred hK, ?_⟩⟩
    exact ⟨_, results_tmp rfl _ _ _, v, rfl, ownsRow_putObj hrow2 _ hK rfl, hB.trans (belowK_b (w := w) (Nat.le_refl _) W D _ _ (by omega) hK rfl rfl)⟩
  case stop =>
    rintro D c pre W hD hSp ⟨⟨rfl, hlen⟩, ⟨v, hv, hrow, _⟩, hB⟩ hK
    have hpre : pre.dropLast = L.take most := by
      obtain ⟨t, ht⟩ := hSp
      rw [← ht, List.take_append_of_le_length (by omega), List.dropLast_eq_take, hlen]
      rfl
    rw [hpre] at hrow
    have hc := hv.cell
    gi_wp2
    refine ⟨by simp, .inl ⟨_, _, rfl, run_takeDeferred hK, ?_⟩⟩
    exact ⟨_, results_tmp rfl _ _ _, v, rfl, ownsRow_putObj hrow _ hK rfl, hB.trans (belowK_b (w := w) (Nat.le_refl _) W D _ _ (by omega) hK rfl rfl)⟩
theorem scanL_len (lo hi : Bs) (back : Bool) (L : List Pr) : (scanL lo hi back L).length ≤ L.length := by
  unfold scanL dirL
  refine Nat.le_trans (List.length_filter_le ..) ?_
  split
  · rw [List.length_reverse]; exact Nat.le_refl _
  · exact Nat.le_refl _
theorem pairs_T (T o : Nat) (lo hi : Bs) (back : Bool) (most : Nat) (L : List Pr) (Y : Nat → Prop) (w : World) (h : Tr w T o L Y) (hl : L.length ≤ 1000) :
    Calls Try.prog 19 #[.pointer (some ⟨T, 0, none⟩), .string lo, .string hi, .bool back, .int .i64 most] w (PairsOut ((scanL lo hi back L).take most) w) :=
  callsIn_wide.1 (pairs_take 1 (some ⟨T, 0, none⟩) lo hi back most (scanL lo hi back L) w (Nat.le_trans (scanL_len lo hi back L) hl) (by decide) (fun W b m hW hsb => stops_T m b T o lo hi back L Y w W h hW hsb))
end Go.Proofs.Ytegljepgncicjaa
