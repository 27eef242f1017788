/- Btree: pairs, when no more than 'most' come. -/
import Derived.Test.YtegljepgncicjaaBt10
namespace Go.Proofs.Ytegljepgncicjaa
open Go.ChangeShapes Go.WideShapes Go.ChangeAt Go.RowKit Go.Deep Go.Shelf
set_option linter.unusedVariables false
set_option linter.unusedSimpArgs false
attribute [local go_sem] Oper.semAt_some
attribute [local go_sem, local simp] wide_fn
def prv (L : List (Bs × Bs)) : List Value := L.flatMap (fun x => [.string x.1, .string x.2])
theorem prv_snoc (L : List (Bs × Bs)) (x : Bs × Bs) : prv (L ++ [x]) = prv L ++ [.string x.1, .string x.2] := by simp [prv]
theorem info59 : (Try.prog.info? 59).map (fun i => (i.zero, i.size, i.bytes)) = some (some (.agg #[.string ⟨#[]⟩, .string ⟨#[]⟩]), 2, 32) := by kernel_rfl
theorem cell_two_new (W : World) (u v : Value) (t : TypeId) : ∀ j z, [u, v][j]? = some z → (W.alloc (.cells #[u, v] t)).cell? ((⟨W.heap.size, 0, none⟩ : Addr).add j) = some z := by
  intro j z hz
  have e := heap_new W (.cells #[u, v] t)
  match j with
  | 0 => simp at hz; subst hz; unfold World.cell?; rw [show ((⟨W.heap.size, 0, none⟩ : Addr).add 0).block = W.heap.size from rfl, e]; rfl
  | 1 => simp at hz; subst hz; unfold World.cell?; rw [show ((⟨W.heap.size, 0, none⟩ : Addr).add 1).block = W.heap.size from rfl, e]; rfl
  | j + 2 => simp at hz
theorem und73 : (Try.prog.underlying 73).map (fun d => match d with | .func _ _ _ => true | _ => false) = some true := by kernel_rfl
theorem equalIn_nilFunc {P : Program} (w : World) (d : Nat) (t : TypeId) (f : Fn) (a b : Array Value) (p r : Array TypeId) (v : Bool) (h : P.underlying t = some (.func p r v)) : (Op.equalIn (d + 1) t (.func f a b) .nilFunc).run P w = .ok false w := by
  simp [Op.equalIn, run_underlying h]
theorem equal_nilFunc {P : Program} (w : World) (t : TypeId) (f : Fn) (a b : Array Value) (p r : Array TypeId) (v : Bool) (h : P.underlying t = some (.func p r v)) : (Op.equal t (.func f a b) .nilFunc).run P w = .ok false w := equalIn_nilFunc w 9999 t f a b p r v h
theorem eql_nilFunc (f : Fn) (a b : Array Value) (w : World) : (binOp .eql 73 (.func f a b) .nilFunc).run Try.prog w = .ok (.bool false) w := by
  obtain ⟨p, r, v, h⟩ : ∃ p r v, Try.prog.underlying 73 = some (.func p r v) := by
    have h := und73
    cases hu : Try.prog.underlying 73 with
    | none => rw [hu] at h; simp at h
    | some d =>
      rw [hu] at h
      cases d <;> first | (simp at h; done) | exact ⟨_, _, _, rfl⟩
  simp only [binOp]
  simp [equal_nilFunc w 73 f a b p r v h]
attribute [local go_sem] eql_nilFunc
def PairsOut (L : List (Bs × Bs)) (w : World) (e : Ending) (W' : World) : Prop :=
  ∃ v, e = .returned v ∧ W'.ownsRow w.heap.size 59 2 v L.length (prv L) ∧ Below w.heap.size w W'
set_option maxRecDepth 100000 in
set_option maxHeartbeats 1600000 in
theorem pairs_in (n : Nat) (tp : Option Addr) (lo hi : Bs) (back : Bool) (most : Int) (L : List (Bs × Bs)) (w : World) (hL : (L.length : Int) ≤ most) (hL2 : L.length ≤ 1000) (h1 : 1 ≤ n)
    (hS : ∀ (W : World) (b m : Nat), Below w.heap.size w W → ScanBoxes W b tp lo hi back → SeqStopsK Fence.wide m Try.prog 39 (scanLb b) encP (Below w.heap.size) (fun ys => ys = L) (fun pre => pre <+: L) L.length W) :
    CallsIn Fence.wide n Try.prog 19 #[.pointer tp, .string lo, .string hi, .bool back, .int .i64 most] w (PairsOut L w) := by
  have HS := Lib.hid hS
  have hro : Fence.wide.round = none := rfl
  obtain ⟨i0, hi0, hz0, hz1, hz2⟩ := info_parts info59
  clear hS
  refine callsIn_of_wp_marks Try.func19 rfl trivial ?_ rfl
  simp only [Try.ntmps19, List.size_toArray, List.length_cons, List.length_nil, Nat.reduceAdd, Nat.reduceSub, Array.replicate_succ, Array.replicate_zero, List.push_toArray, List.append_toArray, List.nil_append, List.cons_append]
  gi_wp2_with (gi_at_call 30; refine (scan_inn (n - 1) tp lo _ back _).mono ?_; rintro e w' ⟨rfl, hsb, hsz, hbl, hko⟩)
  have hsz2 : w'.heap.size = w.heap.size + 6 := by rw [hsz]; simp
  have hbl0 : Below w.heap.size w w' := ((((Below.refl _ w).alloc (Nat.le_refl _) _).alloc (by simp) _)).trans (hbl.mono (by simp <;> omega))
  have bM : Boxed w' w.heap.size 3 (.int .i64 most) := (hbl.block _ (by simp <;> omega)).trans ((Boxed.new w 3 (.int .i64 most)).alloc _)
  have bO : Boxed w' (w.heap.size + 1) 28 (.slice none 0 0) := by
    have := Boxed.new (w.alloc (.cells #[.int .i64 most] 3)) 28 (.slice none 0 0)
    rw [World.size_alloc] at this
    exact (hbl.block _ (by simp)).trans this
  have hst := HS.out w' (w.heap.size + 1 + 1) (n - 1) hbl0 (by simpa using hsb)
  clear HS hsb hbl hko hsz
  refine wpIn_rangeFunc_ownG hro h1 (gf := 39) (lb := scanLb (w.heap.size + 1 + 1)) rfl trivial (enters_of Try.func39 (by kernel_rfl) rfl)
    hst belowK_t (belowK_b (by omega)) (Below.refl _ _) (fun _ => rfl)
    (fun pre W => (Boxed W w.heap.size 3 (.int .i64 most) ∧ (∃ v, Boxed W (w.heap.size + 1) 28 v ∧ W.ownsRow w.heap.size 59 2 v pre.length (prv pre) ∧ True)) ∧ Below w.heap.size w W)
    (fun _ _ _ => False)
    (OwnFrom.and (Own.from (fun s X Y row hs hg hr => ⟨boxed_own (β := List (Bs × Bs)) w.heap.size 3 (fun _ => .int .i64 most) s X Y row hs.1 hg hr, holdsRow_own (β := List (Bs × Bs)) w.heap.size (w.heap.size + 1) 28 59 2 (fun pre => pre.length) prv (fun _ _ => True) s X Y row hs.2 hg hr⟩) _) (ownFrom_below (Nat.le_refl _) (by omega)))
    (fun _ _ _ _ _ hs _ _ => hs)
    ⟨⟨bM, _, bO, World.ownsRow_nil _ _ _ _, trivial⟩, hbl0⟩
    (fun x => { tmps := #[.pointer tp, .string lo, .string hi, .bool back, .int .i64 most, undef, undef, undef, undef, .pointer (some ⟨w.heap.size, 0, none⟩), .slice none 0 0, .pointer (some ⟨w.heap.size + 1, 0, none⟩), .func (.func 39) #[] (scanLb (w.heap.size + 1 + 1)), .string x.1, .string x.2, .pointer tp, .string lo, .string hi, .bool back, .func (.func 39) #[] (scanLb (w.heap.size + 1 + 1)), .func (.func 39) #[] (scanLb (w.heap.size + 1 + 1)), .bool false, .func (.func 39) #[] (scanLb (w.heap.size + 1 + 1)), .string x.1, .string x.2, undef, undef, undef, undef, undef, undef, undef, undef, undef, undef, undef], defers := [] }) ?assign ?body ?done ?stop
  case assign =>
    intro l x W K hK
    gi_wp2
    exact hK
  case body =>
    rintro l pre x W ⟨⟨hm, v, hv, hrow, _⟩, hB⟩ hlt
    have hc := hv.cell
    have hcm := hm.cell
    have hge : decide (most ≤ (pre.length : Int)) = false := decide_eq_false (by omega)
    have hl63 : pre.length ≤ 1000 := by omega
    obtain ⟨va, vc, rfl⟩ : ∃ a c, v = .slice a pre.length c := by
      rcases hrow.2 with ⟨rfl, h0⟩ | ⟨g, cap, cur, rfl, _⟩
      · exact ⟨none, 0, by rw [h0]⟩
      · exact ⟨_, _, rfl⟩
    gi_wp2_with (gi_at_builtin; refine wpListIn_append_own _ rfl _ _ 28 rfl w.heap.size 59 i0 (.agg #[.string ⟨#[]⟩, .string ⟨#[]⟩]) 2 32 Try.underlying28 hi0 hz0 hz1 hz2 rfl (by decide) _ _ _ rfl (hrow.alloc _) ⟨W.heap.size, 0, none⟩ 1 1 [.string x.1, .string x.2] rfl rfl (cell_two_new _ _ _ _) (by simp [Value.oneCell']) (by unfold maxLen; omega) (by omega) (by have := hB.size; simp; omega) ?_; intro v' w1 hown' hgrow _; obtain ⟨g', cap', rfl⟩ := ownsRow_succ hown'; obtain ⟨hv1, hv2, hr2, hk2, hb2⟩ := hv.appended (by decide) hrow hB.size (by omega) hown' hgrow; have hc1 := hv1.cell; have hf1 := hv1.frozen)
    have hm1 := ((hm.alloc (.cells #[.string x.1, .string x.2] 59)).kept hgrow (hm.not_row (by decide) hrow)).other (B' := w.heap.size + 1) (by omega) (.slice (some ⟨g', 0, none⟩) (pre.length + 1) cap')
    refine ⟨hk2.from _, hb2, ⟨hm1, _, hv2, ?_, trivial⟩, hB.trans hb2⟩
    rw [prv_snoc, List.length_append]
    exact hr2
  case done =>
    rintro D ys W hD rfl ⟨⟨_, v, hv, hrow, _⟩, hB⟩ hK
    have hc := hv.cell
    gi_wp2
    refine ⟨by simp, .inl ⟨_, _, rfl, run_takeDeferred hK, ?_⟩⟩
    exact ⟨_, results_tmp rfl _ _ _, v, rfl, ownsRow_putObj hrow _ hK rfl, hB.trans (belowK_b (w := w) (Nat.le_refl _) W D _ _ (by omega) hK rfl rfl)⟩
  case stop =>
    rintro D c pre W _ _ h _
    exact h.elim
end Go.Proofs.Ytegljepgncicjaa
