/- Merged texts: Bu21, Bu22, Bu23, Bu24, Bu25, Bu26, Bu27, Bu28, Bu29, Bu30, Bu32, Bu69, Bu54, Bu55, Bu56, Bu57, Bu58, Bu31, Bu60, Bu59, Bu61, Bu70, Close2. -/
import Derived.Test.YtegljepgncicjaaMc3
import Derived.Laws.StructEq
import Derived.Maps.AppendAt
import Derived.ProofKit
import Derived.WideKeyArgs
import Derived.SliceStrings
import Derived.Lib.SmallJoins
import Derived.Deep.Slices
import Derived.Deep.Fields
import Derived.Test.YtegljepgncicjaaRows
import Derived.Below
import Derived.ChangeSame
import Derived.OpenShut
/- Btree: the iterator that Scan returns, on any tree. -/
namespace Go.Proofs.Ytegljepgncicjaa
open Go.ChangeShapes Go.WideShapes Go.ChangeAt Go.RowKit Go.Deep Go.Shelf
set_option linter.unusedVariables false
set_option linter.unusedSimpArgs false
attribute [local go_sem] Oper.semAt_some
attribute [local go_sem, local simp] wide_fn
def bdOf (hi : Bs) : Bool := !(hi.toList).isEmpty
def dirL (back : Bool) (L : List Pr) : List Pr := if back = true then L.reverse else L
def scanL (lo hi : Bs) (back : Bool) (L : List Pr) : List Pr := (dirL back L).filter (inU lo hi (bdOf hi))
def ScanPost (lo hi : Bs) (back : Bool) (L : List Pr) (J Jx : List Pr → World → Prop) : Ending → World → Prop := SeqOut (fun ys => ys = scanL lo hi back L) (fun pre => pre <+: scanL lo hi back L) J Jx
theorem scan_post {n₀ : Nat} {J Jx : List Pr → World → Prop} {Y : List Pr} {stop : Bool} {W : World} {e : Ending} {W' : World} (h : SOut n₀ J Jx [] Y stop W e W') : (∃ b, e = .returned (.bool b)) ∧ ((∃ xs, xs = Y ∧ J xs W') ∨ (∃ pre, pre <+: Y ∧ Jx pre W')) := by
  rcases h with ⟨_, rfl, h, _⟩ | ⟨_, rfl, h, _⟩ | ⟨rfl, pre, hp, hx⟩
  · exact ⟨⟨_, rfl⟩, .inl ⟨_, rfl, h⟩⟩
  · exact ⟨⟨_, rfl⟩, .inl ⟨_, rfl, h⟩⟩
  · exact ⟨⟨_, rfl⟩, .inr ⟨_, hp, hx⟩⟩
set_option maxRecDepth 100000 in
set_option maxHeartbeats 1600000 in
theorem scan1_up (m l n₀ N T bt bb bl bh : Nat) (lo hi : Bs) (L : List Pr) (J Jx : List Pr → World → Prop) (W : World)
    (hup : CallsIn Fence.wide (m - 1) Try.prog 41 (upArgs N l lo hi (bdOf hi)) W.drew (SOut n₀ J Jx [] (L.filter (inU lo hi (bdOf hi))) (L.any (ovU lo hi (bdOf hi))) W.drew))
    (c1 : W.cell? ⟨bt, 0, none⟩ = some (.pointer (some ⟨T, 0, none⟩))) (c2 : W.cell? ⟨bb, 0, none⟩ = some (.bool false)) (c3 : W.cell? ⟨bl, 0, none⟩ = some (.string lo)) (c4 : W.cell? ⟨bh, 0, none⟩ = some (.string hi))
    (cT : W.cell? ⟨T, 2, none⟩ = some (.pointer (some ⟨N, 0, none⟩))) :
    CallsIn Fence.wide m Try.prog 39 #[.func (.yield l) #[] #[], .pointer (some ⟨bt, 0, none⟩), .pointer (some ⟨bb, 0, none⟩), .pointer (some ⟨bl, 0, none⟩), .pointer (some ⟨bh, 0, none⟩)] W
      (ScanPost lo hi false L J Jx) := by
  have HP := Lib.hid hup
  have hbd : (!(ByteArray.toList hi).isEmpty) = bdOf hi := rfl
  clear hup
  refine callsIn_of_wp Try.func39 rfl trivial ?_ rfl
  simp only [Try.ntmps39, List.size_toArray, List.length_cons, List.length_nil, Nat.reduceAdd, Nat.reduceSub, Array.replicate_succ, Array.replicate_zero, List.push_toArray, List.append_toArray, List.nil_append, List.cons_append]
  gi_wp2
  refine wpIn_region_stI 10 (by kernel_rfl) (by kernel_rfl) ?_
  simp only [List.take_succ_cons, List.take_zero, List.drop_succ_cons, List.drop_zero]
  refine stI_go (by kernel_rfl) (fun K hK => ?_)
  go_simp
  refine hK _ ?_
  clear hK K
  refine stI_go (by kernel_rfl) (fun K hK => ?_)
  go_simp
  refine hK _ ?_
  clear hK K
  refine stI_go (by kernel_rfl) (fun K hK => ?_)
  go_simp
  refine hK _ ?_
  clear hK K
  refine stI_go (by kernel_rfl) (fun K hK => ?_)
  go_simp
  refine hK _ ?_
  clear hK K
  refine stI_go (by kernel_rfl) (fun K hK => ?_)
  go_simp
  refine hK _ ?_
  clear hK K
  refine stI_go (by kernel_rfl) (fun K hK => ?_)
  go_simp
  refine hK _ ?_
  clear hK K
  refine stI_go (by kernel_rfl) (fun K hK => ?_)
  go_simp
  refine hK _ ?_
  clear hK K
  refine stI_go (by kernel_rfl) (fun K hK => ?_)
  go_simp
  refine hK _ ?_
  clear hK K
  refine stI_go (by kernel_rfl) (fun K hK => ?_)
  go_simp
  refine hK _ ?_
  clear hK K
  refine stI_go (by kernel_rfl) (fun K hK => ?_)
  go_simp
  refine hK _ ?_
  clear hK K
  refine stI_nil ?_
  clear c1 c2 c3 c4 cT
  gi_wp2
  refine ⟨fun h => (by cases h), HP.out.mono ?_⟩
  clear HP
  rintro e W1 hr
  obtain ⟨⟨b, rfl⟩, hr2⟩ := scan_post hr
  have HR := Lib.hid hr2
  clear hr hr2
  gi_wp2
  go_end0
  exact ⟨⟨_, rfl⟩, HR.out⟩
set_option maxRecDepth 100000 in
set_option maxHeartbeats 1600000 in
theorem scan1_dn (m l n₀ N T bt bb bl bh : Nat) (lo hi : Bs) (L : List Pr) (J Jx : List Pr → World → Prop) (W : World)
    (hup : CallsIn Fence.wide (m - 1) Try.prog 40 (upArgs N l lo hi (bdOf hi)) W.drew (SOut n₀ J Jx [] (L.reverse.filter (inU lo hi (bdOf hi))) (L.reverse.any (ovD lo hi (bdOf hi))) W.drew))
    (c1 : W.cell? ⟨bt, 0, none⟩ = some (.pointer (some ⟨T, 0, none⟩))) (c2 : W.cell? ⟨bb, 0, none⟩ = some (.bool true)) (c3 : W.cell? ⟨bl, 0, none⟩ = some (.string lo)) (c4 : W.cell? ⟨bh, 0, none⟩ = some (.string hi))
    (cT : W.cell? ⟨T, 2, none⟩ = some (.pointer (some ⟨N, 0, none⟩))) :
    CallsIn Fence.wide m Try.prog 39 #[.func (.yield l) #[] #[], .pointer (some ⟨bt, 0, none⟩), .pointer (some ⟨bb, 0, none⟩), .pointer (some ⟨bl, 0, none⟩), .pointer (some ⟨bh, 0, none⟩)] W
      (ScanPost lo hi true L J Jx) := by
  have HP := Lib.hid hup
  have hbd : (!(ByteArray.toList hi).isEmpty) = bdOf hi := rfl
  clear hup
  refine callsIn_of_wp Try.func39 rfl trivial ?_ rfl
  simp only [Try.ntmps39, List.size_toArray, List.length_cons, List.length_nil, Nat.reduceAdd, Nat.reduceSub, Array.replicate_succ, Array.replicate_zero, List.push_toArray, List.append_toArray, List.nil_append, List.cons_append]
  gi_wp2
  refine wpIn_region_stI 10 (by kernel_rfl) (by kernel_rfl) ?_
  simp only [List.take_succ_cons, List.take_zero, List.drop_succ_cons, List.drop_zero]
  refine stI_go (by kernel_rfl) (fun K hK => ?_)
  go_simp
  refine hK _ ?_
  clear hK K
  refine stI_go (by kernel_rfl) (fun K hK => ?_)
  go_simp
  refine hK _ ?_
  clear hK K
  refine stI_go (by kernel_rfl) (fun K hK => ?_)
  go_simp
  refine hK _ ?_
  clear hK K
  refine stI_go (by kernel_rfl) (fun K hK => ?_)
  go_simp
  refine hK _ ?_
  clear hK K
  refine stI_go (by kernel_rfl) (fun K hK => ?_)
  go_simp
  refine hK _ ?_
  clear hK K
  refine stI_go (by kernel_rfl) (fun K hK => ?_)
  go_simp
  refine hK _ ?_
  clear hK K
  refine stI_go (by kernel_rfl) (fun K hK => ?_)
  go_simp
  refine hK _ ?_
  clear hK K
  refine stI_go (by kernel_rfl) (fun K hK => ?_)
  go_simp
  refine hK _ ?_
  clear hK K
  refine stI_go (by kernel_rfl) (fun K hK => ?_)
  go_simp
  refine hK _ ?_
  clear hK K
  refine stI_go (by kernel_rfl) (fun K hK => ?_)
  go_simp
  refine hK _ ?_
  clear hK K
  refine stI_nil ?_
  clear c1 c2 c3 c4 cT
  gi_wp2
  refine ⟨fun h => (by cases h), HP.out.mono ?_⟩
  clear HP
  rintro e W1 hr
  obtain ⟨⟨b, rfl⟩, hr2⟩ := scan_post hr
  have HR := Lib.hid hr2
  clear hr hr2
  gi_wp2
  go_end0
  exact ⟨⟨_, rfl⟩, HR.out⟩
set_option maxRecDepth 100000 in
theorem scan1_none (m l T bt bb bl bh : Nat) (lo hi : Bs) (back : Bool) (J Jx : List Pr → World → Prop) (W : World)
    (c1 : W.cell? ⟨bt, 0, none⟩ = some (.pointer (some ⟨T, 0, none⟩))) (cT : W.cell? ⟨T, 2, none⟩ = some (.pointer none)) (hj : J [] W) :
    CallsIn Fence.wide m Try.prog 39 #[.func (.yield l) #[] #[], .pointer (some ⟨bt, 0, none⟩), .pointer (some ⟨bb, 0, none⟩), .pointer (some ⟨bl, 0, none⟩), .pointer (some ⟨bh, 0, none⟩)] W
      (ScanPost lo hi back [] J Jx) := by
  have HJ := Lib.hid hj
  clear hj
  refine callsIn_of_wp Try.func39 rfl trivial ?_ rfl
  simp only [Try.ntmps39, List.size_toArray, List.length_cons, List.length_nil, Nat.reduceAdd, Nat.reduceSub, Array.replicate_succ, Array.replicate_zero, List.push_toArray, List.append_toArray, List.nil_append, List.cons_append]
  gi_wp2
  refine bodyPost_ret (results_none rfl _ _ _) rfl ?_
  exact ⟨⟨_, rfl⟩, .inl ⟨_, by unfold scanL dirL; cases back <;> rfl, HJ.out⟩⟩
theorem stops_T (n b T o : Nat) (lo hi : Bs) (back : Bool) (L : List Pr) (Y : Nat → Prop) (W0 W : World) (h : Tr W0 T o L Y) (hb0 : Below W0.heap.size W0 W) (hb : ScanBoxes W b (some ⟨T, 0, none⟩) lo hi back) :
    SeqStopsK Fence.wide n Try.prog 39 (scanLb b) encP (Below W0.heap.size) (fun ys => ys = scanL lo hi back L) (fun pre => pre <+: scanL lo hi back L) (scanL lo hi back L).length W := fun l J Jx W1 hW hJ _ hY hj => by
  have hb1 := hb.below hW
  have hb2 : Below W0.heap.size W0 W1 := hb0.trans (hW.mono hb0.size)
  have hYY : Yields l W0.heap.size (scanL lo hi back L).length J Jx := ⟨fun m pre x W hj hl => yieldAt_any (hY pre x W hj hl), fun pre W q h => abides_drewN hJ pre W q h⟩
  obtain ⟨r, σ, hbox, hq, hR, hs, h4, h6⟩ := h.hq
  have cT := (hb2.cell (p := ⟨T, 2, none⟩) hbox.lt).trans (hbox.cell 2 _ rfl)
  have hq1 := (hq.below hb2).drewN 1
  cases r with
  | none =>
    have hL : L = [] := hR
    subst hL
    exact scan1_none n l T b (b + 3) (b + 1) (b + 2) lo hi back J Jx W1 hb1.c1 cT hj
  | some N =>
    obtain ⟨hh, S, hT⟩ := hR
    cases back with
    | false => exact scan1_up n l W0.heap.size N T b (b + 3) (b + 1) (b + 2) lo hi L J Jx W1 (up_T l W0.heap.size _ o lo hi (bdOf hi) J Jx hYY σ h6 hh 1 o N L S hT h6 hs (n - 1) [] W1.drew hq1 (hYY.2 _ _ 1 hj) (by simp [scanL, dirL])) hb1.c1 hb1.c4 hb1.c2 hb1.c3 cT
    | true => exact scan1_dn n l W0.heap.size N T b (b + 3) (b + 1) (b + 2) lo hi L J Jx W1 (down_T l W0.heap.size _ o lo hi (bdOf hi) J Jx hYY σ h6 hh 1 o N L S hT h6 hs (n - 1) [] W1.drew hq1 (hYY.2 _ _ 1 hj) (by simp [scanL, dirL])) hb1.c1 hb1.c4 hb1.c2 hb1.c3 cT
end Go.Proofs.Ytegljepgncicjaa
/- Btree: pairs, up to 'most' of them. -/
namespace Go.Proofs.Ytegljepgncicjaa
open Go.ChangeShapes Go.WideShapes Go.ChangeAt Go.RowKit Go.Deep Go.Shelf
set_option linter.unusedVariables false
set_option linter.unusedSimpArgs false
attribute [local go_sem] Oper.semAt_some
attribute [local go_sem, local simp] wide_fn
attribute [local go_sem] eql_nilFunc
set_option maxRecDepth 100000 in
set_option maxHeartbeats 1600000 in
theorem pairs_take (n : Nat) (tp : Option Addr) (lo hi : Bs) (back : Bool) (most : Nat) (L : List (Bs × Bs)) (w : World) (hL2 : L.length ≤ 1000) (h1 : 1 ≤ n)
    (hS : ∀ (W : World) (b m : Nat), Below w.heap.size w W → ScanBoxes W b tp lo hi back → SeqStopsK Fence.wide m Try.prog 39 (scanLb b) encP (Below w.heap.size) (fun ys => ys = L) (fun pre => pre <+: L) L.length W) :
    CallsIn Fence.wide n Try.prog 19 #[.pointer tp, .string lo, .string hi, .bool back, .int .i64 most] w (PairsOut (L.take most) w) := by
  have HS := Lib.hid hS
  have hro : Fence.wide.round = none := rfl
  obtain ⟨i0, hi0, hz0, hz1, hz2⟩ := info_parts info59
  clear hS
  refine callsIn_of_wp_marks Try.func19 rfl trivial ?_ rfl
  simp only [Try.ntmps19, List.size_toArray, List.length_cons, List.length_nil, Nat.reduceAdd, Nat.reduceSub, Array.replicate_succ, Array.replicate_zero, List.push_toArray, List.append_toArray, List.nil_append, List.cons_append]
  gi_wp2_with (gi_at_call 30; refine (scan_inn (n - 1) tp lo _ back _).mono ?_; rintro e w' ⟨rfl, hsb, hsz, hbl, hko⟩)
  have hsz2 : w'.heap.size = w.heap.size + 6 := by rw [hsz]; simp
  have hbl0 : Below w.heap.size w w' := ((((Below.refl _ w).alloc (Nat.le_refl _) _).alloc (by simp) _)).trans (hbl.mono (by simp <;> omega))
  have bM : Boxed w' w.heap.size 3 (.int .i64 most) := (hbl.block _ (by simp <;> omega)).trans ((Boxed.new w 3 (.int .i64 most)).alloc _)
  have bO : Boxed w' (w.heap.size + 1) 28 (.slice none 0 0) := by
    have := Boxed.new (w.alloc (.cells #[.int .i64 most] 3)) 28 (.slice none 0 0)
    rw [World.size_alloc] at this
    exact (hbl.block _ (by simp)).trans this
  have hst := HS.out w' (w.heap.size + 1 + 1) (n - 1) hbl0 (by simpa using hsb)
  clear HS hsb hbl hko hsz
  refine wpIn_rangeFunc_ownG hro h1 (gf := 39) (lb := scanLb (w.heap.size + 1 + 1)) rfl trivial (enters_of Try.func39 (by kernel_rfl) rfl)
    hst belowK_t (belowK_b (by omega)) (Below.refl _ _) (fun _ => rfl)
    (fun pre W => pre.length ≤ most ∧ (Boxed W w.heap.size 3 (.int .i64 most) ∧ (∃ v, Boxed W (w.heap.size + 1) 28 v ∧ W.ownsRow w.heap.size 59 2 v pre.length (prv pre) ∧ True)) ∧ Below w.heap.size w W)
    (fun c pre W => (c = .exit 0 ∧ pre.length = most + 1) ∧ (∃ v, Boxed W (w.heap.size + 1) 28 v ∧ W.ownsRow w.heap.size 59 2 v pre.dropLast.length (prv pre.dropLast) ∧ True) ∧ Below w.heap.size w W)
    (OwnFrom.and (fun _ _ _ _ h _ _ => h) (OwnFrom.and (Own.from (fun s X Y row hs hg hr => ⟨boxed_own (β := List (Bs × Bs)) w.heap.size 3 (fun _ => .int .i64 most) s X Y row hs.1 hg hr, holdsRow_own (β := List (Bs × Bs)) w.heap.size (w.heap.size + 1) 28 59 2 (fun pre => pre.length) prv (fun _ _ => True) s X Y row hs.2 hg hr⟩) _) (ownFrom_below (Nat.le_refl _) (by omega))))
    (fun c => OwnFrom.and (fun _ _ _ _ h _ _ => h) (OwnFrom.and (Own.from (fun s X Y row hs hg hr => holdsRow_own (β := List (Bs × Bs)) w.heap.size (w.heap.size + 1) 28 59 2 (fun pre => pre.dropLast.length) (fun pre => prv pre.dropLast) (fun _ _ => True) s X Y row hs hg hr) _) (ownFrom_below (Nat.le_refl _) (by omega))))
    ⟨Nat.zero_le _, ⟨bM, _, bO, World.ownsRow_nil _ _ _ _, trivial⟩, hbl0⟩
    (fun x => { tmps := #[.pointer tp, .string lo, .string hi, .bool back, .int .i64 most, undef, undef, undef, undef, .pointer (some ⟨w.heap.size, 0, none⟩), .slice none 0 0, .pointer (some ⟨w.heap.size + 1, 0, none⟩), .func (.func 39) #[] (scanLb (w.heap.size + 1 + 1)), .string x.1, .string x.2, .pointer tp, .string lo, .string hi, .bool back, .func (.func 39) #[] (scanLb (w.heap.size + 1 + 1)), .func (.func 39) #[] (scanLb (w.heap.size + 1 + 1)), .bool false, .func (.func 39) #[] (scanLb (w.heap.size + 1 + 1)), .string x.1, .string x.2, undef, undef, undef, undef, undef, undef, undef, undef, undef, undef, undef], defers := [] }) ?assign ?body ?done ?stop
  case assign =>
    intro l x W K hK
    gi_wp2
    exact hK
  case body =>
    rintro l pre x W ⟨hmo, ⟨hm, v, hv, hrow, _⟩, hB⟩ hlt
    have hc := hv.cell
    have hcm := hm.cell
    have hl63 : pre.length ≤ 1000 := by omega
    obtain ⟨va, vc, rfl⟩ : ∃ a c, v = .slice a pre.length c := by
      rcases hrow.2 with ⟨rfl, h0⟩ | ⟨g, cap, cur, rfl, _⟩
      · exact ⟨none, 0, by rw [h0]⟩
      · exact ⟨_, _, rfl⟩
    by_cases hcase : most ≤ pre.length
    · have hge : decide ((most : Int) ≤ (pre.length : Int)) = true := decide_eq_true (by omega)
      have hmx : pre.length = most := Nat.le_antisymm hmo hcase
      gi_wp2
      refine ⟨KeepsFrom.refl _ _, ⟨rfl, by rw [List.length_append, hmx]; rfl⟩, ⟨_, hv, ?_, trivial⟩, hB⟩
      rw [List.dropLast_concat]
      exact hrow
    · have hge : decide ((most : Int) ≤ (pre.length : Int)) = false := decide_eq_false (by omega)
      gi_wp2_with (gi_at_builtin; refine wpListIn_append_own _ rfl _ _ 28 rfl w.heap.size 59 i0 (.agg #[.string ⟨#[]⟩, .string ⟨#[]⟩]) 2 32 Try.underlying28 hi0 hz0 hz1 hz2 rfl (by decide) _ _ _ rfl (hrow.alloc _) ⟨W.heap.size, 0, none⟩ 1 1 [.string x.1, .string x.2] rfl rfl (cell_two_new _ _ _ _) (by simp [Value.oneCell']) (by unfold maxLen; omega) (by omega) (by have := hB.size; simp; omega) ?_; intro v' w1 hown' hgrow _; obtain ⟨g', cap', rfl⟩ := ownsRow_succ hown'; obtain ⟨hv1, hv2, hr2, hk2, hb2⟩ := hv.appended (by decide) hrow hB.size (by omega) hown' hgrow; have hc1 := hv1.cell; have hf1 := hv1.frozen)
      have hm1 := ((hm.alloc (.cells #[.string x.1, .string x.2] 59)).kept hgrow (hm.not_row (by decide) hrow)).other (B' := w.heap.size + 1) (by omega) (.slice (some ⟨g', 0, none⟩) (pre.length + 1) cap')
      refine ⟨hk2.from _, hb2, by rw [List.length_append]; exact Nat.lt_of_not_le hcase, ⟨hm1, _, hv2, ?_, trivial⟩, hB.trans hb2⟩
      rw [prv_snoc, List.length_append]
      exact hr2
  case done =>
    rintro D ys W hD rfl ⟨hmo, ⟨_, v, hv, hrow, _⟩, hB⟩ hK
    have hrow2 : W.ownsRow w.heap.size 59 2 v (ys.take most).length (prv (ys.take most)) := by rw [List.take_of_length_le hmo]; exact hrow
    have hc := hv.cell
    gi_wp2
    refine ⟨by simp, .inl ⟨_, _, rfl, run_takeDeferred hK, ?_⟩⟩
    exact ⟨_, results_tmp rfl _ _ _, v, rfl, ownsRow_putObj hrow2 _ hK rfl, hB.trans (belowK_b (w := w) (Nat.le_refl _) W D _ _ (by omega) hK rfl rfl)⟩
  case stop =>
    rintro D c pre W hD hSp ⟨⟨rfl, hlen⟩, ⟨v, hv, hrow, _⟩, hB⟩ hK
    have hpre : pre.dropLast = L.take most := by
      obtain ⟨t, ht⟩ := hSp
      rw [← ht, List.take_append_of_le_length (by omega), List.dropLast_eq_take, hlen]
      rfl
    rw [hpre] at hrow
    have hc := hv.cell
    gi_wp2
    refine ⟨by simp, .inl ⟨_, _, rfl, run_takeDeferred hK, ?_⟩⟩
    exact ⟨_, results_tmp rfl _ _ _, v, rfl, ownsRow_putObj hrow _ hK rfl, hB.trans (belowK_b (w := w) (Nat.le_refl _) W D _ _ (by omega) hK rfl rfl)⟩
theorem scanL_len (lo hi : Bs) (back : Bool) (L : List Pr) : (scanL lo hi back L).length ≤ L.length := by
  unfold scanL dirL
  refine Nat.le_trans (List.length_filter_le ..) ?_
  split
  · rw [List.length_reverse]; exact Nat.le_refl _
  · exact Nat.le_refl _
theorem pairs_T (T o : Nat) (lo hi : Bs) (back : Bool) (most : Nat) (L : List Pr) (Y : Nat → Prop) (w : World) (h : Tr w T o L Y) (hl : L.length ≤ 1000) :
    Calls Try.prog 19 #[.pointer (some ⟨T, 0, none⟩), .string lo, .string hi, .bool back, .int .i64 most] w (PairsOut ((scanL lo hi back L).take most) w) :=
  callsIn_wide.1 (pairs_take 1 (some ⟨T, 0, none⟩) lo hi back most (scanL lo hi back L) w (Nat.le_trans (scanL_len lo hi back L) hl) (by decide) (fun W b m hW hsb => stops_T m b T o lo hi back L Y w W h hW hsb))
end Go.Proofs.Ytegljepgncicjaa
/- Btree: lists of pairs that are read; the reference's Same; place (plain). -/
namespace Go.Proofs.Ytegljepgncicjaa
open Go.ChangeShapes Go.WideShapes Go.ChangeAt Go.RowKit Go.Deep Go.Shelf
set_option linter.unusedVariables false
set_option linter.unusedSimpArgs false
/-- a slice of pairs that is read -/
def PrAt (W : World) (v : Value) (L : List Pr) : Prop :=
  (v = .slice none 0 0 ∧ L = []) ∨ ∃ g c, v = .slice (some ⟨g, 0, none⟩) L.length c ∧ L.length ≤ c ∧ c ≤ 9223372036854775807 ∧ g < W.heap.size ∧ ∀ j (h : j < L.length), W.cell? ⟨g, j * 2, none⟩ = some (.string L[j].1) ∧ W.cell? ⟨g, j * 2 + 1, none⟩ = some (.string L[j].2)
theorem prv_len (L : List Pr) : (prv L).length = L.length * 2 := by
  induction L with
  | nil => rfl
  | cons a L ih =>
    show ([Value.string a.1, .string a.2] ++ prv L).length = _
    rw [List.length_append, ih, List.length_cons]
    simp; omega
theorem prv_at (L : List Pr) (j : Nat) (h : j < L.length) : (prv L)[j * 2]? = some (.string L[j].1) ∧ (prv L)[j * 2 + 1]? = some (.string L[j].2) := by
  induction L generalizing j with
  | nil => simp at h
  | cons a L ih =>
    have e : prv (a :: L) = .string a.1 :: .string a.2 :: prv L := rfl
    rw [e]
    match j, h with
    | 0, _ => exact ⟨rfl, rfl⟩
    | j + 1, h =>
      have h2 : j < L.length := by simpa using h
      rw [show (j + 1) * 2 = j * 2 + 1 + 1 by omega]
      simp only [List.getElem?_cons_succ, List.getElem_cons_succ]
      exact ih j h2
theorem PrAt.of_own {B : Nat} {W : World} {v : Value} {L : List Pr} {n : Nat} (hn : n = L.length) (h : W.ownsRow B 59 2 v n (prv L)) : PrAt W v L := by
  subst hn
  rcases h.2 with ⟨rfl, h1⟩ | ⟨g, c, cur, rfl, h1, h2, h3, h4, h5, h6⟩
  · exact .inl ⟨rfl, List.eq_nil_of_length_eq_zero h1⟩
  · refine .inr ⟨g, c, rfl, h3, by unfold maxLen at h4; omega, (h.lt g rfl).2, fun j hj => ?_⟩
    have a0 := h.cellAt (j * 2) (by omega)
    have a1 := h.cellAt (j * 2 + 1) (by omega)
    rw [a0, a1]
    exact prv_at L j hj
theorem PrAt.kept {S : Nat → Prop} {W W' : World} {v : Value} {L : List Pr} (h : PrAt W v L) (hk : Kept S W W') (hS : ∀ k, v.ownBlock = some k → ¬ S k) : PrAt W' v L := by
  rcases h with h | ⟨g, c, rfl, h1, h2, h3, h4⟩
  · exact .inl h
  · refine .inr ⟨g, c, rfl, h1, h2, Nat.lt_of_lt_of_le h3 hk.size, fun j hj => ?_⟩
    have e := hk.block g h3 (hS g rfl)
    rw [World.cell?_of_block (a := ⟨g, j * 2, none⟩) e, World.cell?_of_block (a := ⟨g, j * 2 + 1, none⟩) e]
    exact h4 j hj
theorem PrAt.below {W W' : World} {v : Value} {L : List Pr} (h : PrAt W v L) (hb : Below W.heap.size W W') : PrAt W' v L := by
  rcases h with h | ⟨g, c, rfl, h1, h2, h3, h4⟩
  · exact .inl h
  · refine .inr ⟨g, c, rfl, h1, h2, Nat.lt_of_lt_of_le h3 hb.size, fun j hj => ?_⟩
    rw [hb.cell (p := ⟨g, j * 2, none⟩) h3, hb.cell (p := ⟨g, j * 2 + 1, none⟩) h3]
    exact h4 j hj
theorem PrAt.len {W : World} {v : Value} {L : List Pr} (h : PrAt W v L) : ∃ a c, v = .slice a L.length c := by
  rcases h with ⟨rfl, rfl⟩ | ⟨g, c, rfl, _⟩
  · exact ⟨none, 0, rfl⟩
  · exact ⟨_, _, rfl⟩
theorem PrAt.get {W : World} {v : Value} {L : List Pr} (h : PrAt W v L) (h0 : 0 < L.length) : ∃ g c, v = .slice (some ⟨g, 0, none⟩) L.length c ∧ L.length ≤ c ∧ c ≤ 9223372036854775807 ∧ g < W.heap.size ∧ ∀ j (h : j < L.length), W.cell? ⟨g, j * 2, none⟩ = some (.string L[j].1) ∧ W.cell? ⟨g, j * 2 + 1, none⟩ = some (.string L[j].2) := by
  rcases h with ⟨rfl, rfl⟩ | h
  · simp at h0
  · exact h
theorem PrAt.drewN {W : World} {v : Value} {L : List Pr} (h : PrAt W v L) (q : Nat) : PrAt (W.drewN q) v L := h.below ⟨rfl, rfl, rfl, Nat.le_refl _, fun _ _ => rfl⟩
set_option maxRecDepth 100000 in
set_option maxHeartbeats 1600000 in
theorem same_eq (va vb : Value) (L : List Pr) (W : World) (ha : PrAt W va L) (hb : PrAt W vb L) (hl : L.length ≤ 5000) :
    Calls Try.prog 18 #[va, vb] W fun e W' => e = .returned (.bool true) ∧ ∃ q, W' = W.drewN q := by
  rcases Nat.eq_zero_or_pos L.length with h0 | h0
  · obtain ⟨ga, ca, rfl⟩ := ha.len
    obtain ⟨gb, cb, rfl⟩ := hb.len
    rw [h0]
    clear ha hb
    go_enter Try.func18, Try.ntmps18
    go_wp2_with fail
    refine wp_loop_rounds 1 ?_
    rw [rounds_succ]
    go_wp2_with fail
    go_ret
    exact ⟨rfl, 0, rfl⟩
  · obtain ⟨ga, ca, rfl, hca, hca2, _, hga⟩ := ha.get h0
    obtain ⟨gb, cb, rfl, hcb, hcb2, _, hgb⟩ := hb.get h0
    have HA := Lib.hid hga
    have HB := Lib.hid hgb
    clear ha hb hga hgb
    go_enter Try.func18, Try.ntmps18
    go_wp2_with fail
    go_loopw [5] (fun i wr => ∃ k q : Nat, k ≤ L.length ∧ i = .int .i64 k ∧ wr = W.drewN q) (fun i _ => L.length - (intOf i).toNat)
    case atStart => exact ⟨0, 0, Nat.zero_le _, rfl, rfl⟩
    case round =>
      obtain ⟨k, q, hk, rfl, rfl⟩ := hrel
      by_cases hlt : k < L.length
      · have a0 : W.cell? ⟨ga, k * 2, none⟩ = _ := (HA.out k hlt).1
        have a1 : W.cell? ⟨ga, k * 2 + 1, none⟩ = _ := (HA.out k hlt).2
        have b0 : W.cell? ⟨gb, k * 2, none⟩ = _ := (HB.out k hlt).1
        have b1 : W.cell? ⟨gb, k * 2 + 1, none⟩ = _ := (HB.out k hlt).2
        generalize L[k] = x at a0 a1 b0 b1
        go_wp2_with fail
        go_quiet (fail)
        go_wp2_with fail
        go_roundw
        case rel => exact ⟨k + 1, q + nq, by omega, by go_num, by simp [World.drewN_drewN]⟩
        case measure => simp [intOf]; omega
      · have : k = L.length := by omega
        subst this
        go_wp2_with fail
        go_ret
        exact ⟨rfl, q, rfl⟩
/-- where a key stands, plainly -/
def posL (L : List Pr) (k : Bs) : Nat := (L.takeWhile fun p => lB p.1 k).length
def hasL (L : List Pr) (k : Bs) : Bool := match L[posL L k]? with
  | some p => decide (p.1 = k)
  | none => false
theorem posL_le (L : List Pr) (k : Bs) : posL L k ≤ L.length := (List.takeWhile_sublist _).length_le
theorem posL_cons (a : Pr) (L : List Pr) (k : Bs) : posL (a :: L) k = if lB a.1 k = true then posL L k + 1 else 0 := by
  unfold posL
  rw [List.takeWhile_cons]
  split <;> simp
theorem posL_before (L : List Pr) (k : Bs) (j : Nat) (h : j < posL L k) (hl : j < L.length) : lB L[j].1 k = true := by
  induction L generalizing j with
  | nil => simp at hl
  | cons a L ih =>
    rw [posL_cons] at h
    split at h
    · rename_i ha
      match j, hl with
      | 0, _ => exact ha
      | j + 1, hl => exact ih j (by omega) (by simpa using hl)
    · omega
theorem posL_at (L : List Pr) (k : Bs) (h : posL L k < L.length) : lB L[posL L k].1 k = false := by
  induction L with
  | nil => simp at h
  | cons a L ih =>
    have e := posL_cons a L k
    split at e
    · have h2 : posL L k < L.length := by rw [e] at h; simpa using h
      have := ih h2
      simp only [e, List.getElem_cons_succ]
      exact this
    · rename_i ha
      simp only [e, List.getElem_cons_zero]
      simpa using ha
theorem hasL_cons (a : Pr) (L : List Pr) (k : Bs) : hasL (a :: L) k = if lB a.1 k = true then hasL L k else decide (a.1 = k) := by
  unfold hasL
  rw [posL_cons]
  by_cases h : lB a.1 k = true
  · rw [if_pos h, if_pos h, List.getElem?_cons_succ]
  · rw [if_neg h, if_neg h]; simp
theorem putL_pos (L : List Pr) (k v : Bs) : putL L k v = L.take (posL L k) ++ (k, v) :: L.drop (if hasL L k = true then posL L k + 1 else posL L k) := by
  induction L with
  | nil => rfl
  | cons a L ih =>
    obtain ⟨x, y⟩ := a
    rw [posL_cons, hasL_cons, putL]
    by_cases h : lB x k = true
    · simp only [h, if_true]
      rw [ih]
      by_cases h2 : hasL L k = true <;> simp [h2]
    · simp only [h, if_false]
      by_cases h2 : x = k
      · subst h2; simp
      · simp [h2]
theorem delL_pos (L : List Pr) (k : Bs) : delL L k = if hasL L k = true then L.take (posL L k) ++ L.drop (posL L k + 1) else L := by
  induction L with
  | nil => rfl
  | cons a L ih =>
    obtain ⟨x, y⟩ := a
    rw [posL_cons, hasL_cons, delL]
    by_cases h : lB x k = true
    · simp only [h, if_true]
      rw [ih]
      by_cases h2 : hasL L k = true <;> simp [h2]
    · simp only [h, if_false]
      by_cases h2 : x = k
      · subst h2; simp
      · simp [h2]
theorem getL_pos (L : List Pr) (k : Bs) : getL L k = if hasL L k = true then (L[posL L k]?).map (·.2) else none := by
  induction L with
  | nil => rfl
  | cons a L ih =>
    obtain ⟨x, y⟩ := a
    rw [posL_cons, hasL_cons, getL]
    by_cases h : lB x k = true
    · simp only [h, if_true]
      rw [ih, List.getElem?_cons_succ]
    · simp only [h, if_false]
      by_cases h2 : x = k
      · subst h2; simp
      · simp [h2]
theorem hasL_lt {L : List Pr} {k : Bs} (h : hasL L k = true) : posL L k < L.length := by
  unfold hasL at h
  cases hp : L[posL L k]? with
  | none => rw [hp] at h; cases h
  | some p => exact (List.getElem?_eq_some_iff.1 hp).1
theorem hasL_get (L : List Pr) (k : Bs) : hasL L k = (getL L k).isSome := by
  rw [getL_pos]
  cases h : hasL L k with
  | false => simp
  | true => simp [List.getElem?_eq_getElem (hasL_lt h)]
end Go.Proofs.Ytegljepgncicjaa
/- Btree: the reference's place, Get, Len, New. -/
namespace Go.Proofs.Ytegljepgncicjaa
open Go.ChangeShapes Go.WideShapes Go.ChangeAt Go.RowKit Go.Deep Go.Shelf
set_option linter.unusedVariables false
set_option linter.unusedSimpArgs false
/-- the box of a reference tree that was passed -/
structure RB (w : World) (N : Nat) (o : Int) (a : Option Addr) (n c : Nat) (L : List Pr) (W : World) : Prop where
  c0 : W.cell? ⟨N, 0, none⟩ = some (.int .i64 o)
  c1 : W.cell? ⟨N, 1, none⟩ = some (.slice a n c)
  fr : ∀ j, W.frozen? ⟨N, j, none⟩ = false
  lt : N < W.heap.size
  pr : PrAt W (.slice a n c) L
  ge : w.heap.size ≤ N
  b : Below w.heap.size w W
theorem RB.start {w : World} {o : Int} {a : Option Addr} {n c : Nat} {L : List Pr} (h : PrAt w (.slice a n c) L) (t : TypeId) : RB w w.heap.size o a n c L (w.alloc (.cells #[.int .i64 o, .slice a n c] t)) := by
  have hb := Box.new w [.int .i64 o, .slice a n c] t
  have hb2 : Below w.heap.size w (w.alloc (.cells #[.int .i64 o, .slice a n c] t)) := (Below.refl _ w).alloc (Nat.le_refl _) _
  exact ⟨hb.cell 0 _ rfl, hb.cell 1 _ rfl, hb.free, hb.lt, h.below hb2, Nat.le_refl _, hb2⟩
theorem PrAt.below' {W W' : World} {v : Value} {L : List Pr} {B : Nat} (h : PrAt W v L) (hb : Below B W W') (hB : ∀ k, v.ownBlock = some k → k < B) : PrAt W' v L := by
  rcases h with h | ⟨g, c, rfl, h1, h2, h3, h4⟩
  · exact .inl h
  · refine .inr ⟨g, c, rfl, h1, h2, Nat.lt_of_lt_of_le h3 hb.size, fun j hj => ?_⟩
    have hg := hB g rfl
    rw [hb.cell (p := ⟨g, j * 2, none⟩) hg, hb.cell (p := ⟨g, j * 2 + 1, none⟩) hg]
    exact h4 j hj
theorem RB.next {w W W' : World} {N n c : Nat} {o : Int} {a : Option Addr} {L : List Pr} (h : RB w N o a n c L W) (hb : Below W.heap.size W W') : RB w N o a n c L W' := by
  have hk : Kept (fun k => ¬ k < W.heap.size) W W' := ⟨hb.os, hb.tape, hb.output, hb.size, fun k hk _ => hb.block k hk⟩
  refine ⟨(hb.cell (p := ⟨N, 0, none⟩) h.lt).trans h.c0, (hb.cell (p := ⟨N, 1, none⟩) h.lt).trans h.c1, fun j => ?_, Nat.lt_of_lt_of_le h.lt hb.size, h.pr.below hb, h.ge, h.b.trans (hb.mono h.b.size)⟩
  exact (World.frozen?_of_block (a := ⟨N, j, none⟩) (hb.block N h.lt)).trans (h.fr j)
theorem RB.drewN {w W : World} {N n c : Nat} {o : Int} {a : Option Addr} {L : List Pr} (h : RB w N o a n c L W) (q : Nat) : RB w N o a n c L (W.drewN q) := h.next ⟨rfl, rfl, rfl, Nat.le_refl _, fun _ _ => rfl⟩
theorem beqB (a b : Bs) : (ByteArray.toList a == ByteArray.toList b) = decide (a = b) := by
  by_cases h : a = b
  · subst h; simp
  · rw [decide_eq_false h]
    rw [beq_eq_false_iff_ne]
    intro e
    apply h
    rw [ByteArray.toList_eq, ByteArray.toList_eq] at e
    cases a; cases b
    simp at e
    exact congrArg _ e
def rT (o : Int) (v : Value) : Value := .agg #[.int .i64 o, v]
def PlaceOut (L : List Pr) (key : Bs) (w : World) (e : Ending) (W' : World) : Prop := e = .returned (.tuple #[.int .i64 (posL L key : Nat), .bool (hasL L key)]) ∧ Below w.heap.size w W'
set_option maxRecDepth 100000 in
set_option maxHeartbeats 1600000 in
theorem place_any (o : Int) (v : Value) (L : List Pr) (key : Bs) (w : World) (hv : PrAt w v L) (hl : L.length ≤ 5000) :
    Calls Try.prog 36 #[.agg #[.int .i64 o, v], .string key] w (PlaceOut L key w) := by
  obtain ⟨a, c, rfl⟩ := hv.len
  have HR := Lib.hid (RB.start (o := o) hv 30)
  obtain ⟨N, hN⟩ : ∃ N, N = w.heap.size := ⟨_, rfl⟩
  have hz : ∀ W, Below w.heap.size w W → Hid (Below w.heap.size w W) := fun _ h => Lib.hid h
  clear hv
  go_enter Try.func36, Try.ntmps36
  go_wp2_with fail
  rw [← hN] at HR
  rw [← hN]
  clear hN
  generalize w.alloc _ = W1 at HR ⊢
  have c1 := HR.out.c1
  go_loopw [6] (fun i wr => ∃ k : Nat, k ≤ posL L key ∧ i = .int .i64 k ∧ wr = W1) (fun i _ => L.length - (intOf i).toNat)
  case atStart => exact ⟨0, Nat.zero_le _, rfl, rfl⟩
  case round =>
    obtain ⟨k, hk, rfl, rfl⟩ := hrel
    have hpl := posL_le L key
    by_cases hlt : k < L.length
    · obtain ⟨g, c', hg, _, _, _, hcell⟩ := HR.out.pr.get (by omega)
      cases hg
      have a0 := (hcell k hlt).1
      have HA := Lib.hid (posL_at L key)
      have HB := Lib.hid (posL_before L key k)
      have HH : Hid (posL L key = k → hasL L key = decide (L[k].1 = key)) := Lib.hid (fun e => by unfold hasL; rw [e, List.getElem?_eq_getElem hlt])
      have hlt2 : k < L.length := hlt
      cases hless : lB L[k].1 key with
      | true =>
        have HK : Hid (k + 1 ≤ posL L key) := Lib.hid (by
          rcases Nat.lt_or_ge k (posL L key) with h | h
          · exact h
          · have e : posL L key = k := by omega
            have := HA.out (by rw [e]; exact hlt)
            simp only [e] at this
            rw [hless] at this; cases this)
        have hle : Op.bytesLess L[k].1.toList key.toList = true := hless
        clear hcell HH hpl hk
        generalize L[k] = x at a0 hle
        clear hless HA HB
        go_wp2_with fail
        go_roundw
        case rel => exact ⟨k + 1, HK.out, by go_num, by first | rfl | trivial⟩
        case measure => simp [intOf]; omega
      | false =>
        have hk2 : posL L key = k := by
          rcases Nat.lt_or_ge k (posL L key) with h | h
          · rw [HB.out h hlt] at hless; cases hless
          · omega
        have hle : Op.bytesLess L[k].1.toList key.toList = false := hless
        have hhas := HH.out hk2
        have HE := Lib.hid (And.intro hk2 hhas)
        clear hcell HH hpl hk hk2 hhas HA HB hless
        generalize L[k] = x at a0 hle HE
        go_wp2_with fail
        go_quiet (fail)
        go_wp2_with fail
        refine bodyPost_ret (v := .tuple #[.int .i64 k, .bool (ByteArray.toList x.1 == ByteArray.toList key)]) (by simp [results, Try.results36, go_sem]) rfl ?_
        unfold PlaceOut
        rw [HE.out.1, HE.out.2, beqB]
        exact ⟨rfl, (HR.out.drewN _).b⟩
    · have hk2 : posL L key = k := by omega
      have hk3 : k = L.length := by omega
      have HE := Lib.hid (show hasL L key = false by unfold hasL; rw [hk2, List.getElem?_eq_none (by omega)])
      clear hpl hk
      subst hk3
      have HE2 := Lib.hid hk2
      clear hk2
      go_wp2_with fail
      go_quiet (fail)
      go_wp2_with fail
      go_ret2
      unfold PlaceOut
      rw [HE.out, HE2.out]
      exact ⟨rfl, (HR.out.drewN _).b⟩
set_option maxRecDepth 100000 in
theorem rGet_any (o : Int) (v : Value) (L : List Pr) (key : Bs) (w : World) (hv : PrAt w v L) (hl : L.length ≤ 5000) :
    Calls Try.prog 28 #[.agg #[.int .i64 o, v], .string key] w fun e W' => e = .returned (.tuple #[.string ((getL L key).getD ByteArray.empty), .bool (getL L key).isSome]) ∧ Below w.heap.size w W' := by
  obtain ⟨a, c, rfl⟩ := hv.len
  have HR := Lib.hid (RB.start (o := o) hv 30)
  obtain ⟨N, hN⟩ : ∃ N, N = w.heap.size := ⟨_, rfl⟩
  clear hv
  go_enter Try.func28, Try.ntmps28
  go_wp2_with fail
  rw [← hN] at HR
  refine (place_any o (.slice a L.length c) L key _ HR.out.pr hl).mono ?_
  rw [← hN]
  clear hN
  generalize w.alloc _ = W1 at HR ⊢
  rintro e W2 ⟨rfl, hb⟩
  have HR2 := Lib.hid (HR.out.next hb)
  clear hb HR
  have c1 := HR2.out.c1
  have hp := posL_le L key
  cases hh : hasL L key with
  | false =>
    have HE := Lib.hid (show getL L key = none by rw [getL_pos, hh]; rfl)
    go_wp2_with fail
    go_ret2
    rw [HE.out]
    exact ⟨rfl, HR2.out.b⟩
  | true =>
    have hlt := hasL_lt hh
    have HE := Lib.hid (show getL L key = some L[posL L key].2 by rw [getL_pos, hh, List.getElem?_eq_getElem hlt]; rfl)
    obtain ⟨g, c', hg, _, _, _, hcell⟩ := HR2.out.pr.get (by omega)
    cases hg
    have a1 := (hcell _ hlt).2
    clear hcell hh
    generalize L[posL L key] = x at a1 HE
    generalize posL L key = k at *
    go_wp2_with fail
    go_ret2
    rw [HE.out]
    exact ⟨rfl, HR2.out.b⟩
theorem rLen_any (o : Int) (v : Value) (L : List Pr) (w : World) (hv : PrAt w v L) :
    Calls Try.prog 14 #[.agg #[.int .i64 o, v]] w fun e W' => e = .returned (.int .i64 L.length) ∧ Below w.heap.size w W' := by
  obtain ⟨a, c, rfl⟩ := hv.len
  have HR := Lib.hid (RB.start (o := o) hv 30)
  clear hv
  go_enter Try.func14, Try.ntmps14
  go_wp2_with fail
  go_ret
  exact ⟨rfl, HR.out.b⟩
theorem rNew_ok (o : Int) (w : World) (h4 : 4 ≤ o) (h6 : o ≤ 256) :
    Calls Try.prog 11 #[.int .i64 o] w fun e W' => e = .returned (.tuple #[.agg #[.int .i64 o, .slice none 0 0], .int .i64 0]) ∧ Below w.heap.size w W' := by
  have d1 : decide (o < 4) = false := decide_eq_false (by omega)
  have d2 : decide (256 < o) = false := decide_eq_false (by omega)
  have HB := Lib.hid ((Below.refl w.heap.size w).alloc (Nat.le_refl _) (.cells #[.int .i64 0, .slice none 0 0] 30))
  go_enter Try.func11, Try.ntmps11
  go_wp2_with fail
  exact bodyPost_ret (v := .tuple #[.agg #[.int .i64 o, .slice none 0 0], .int .i64 0]) (by simp [results, Try.results11, go_sem]) rfl ⟨rfl, by first | exact (Below.refl _ w).alloc (Nat.le_refl _) _ | repeat' (first | exact HB.out | refine Below.setCell ?_ (by simp) _)⟩
theorem rNew_no (o : Int) (w : World) (h : o < 4 ∨ 256 < o) :
    Calls Try.prog 11 #[.int .i64 o] w fun e W' => e = .returned (.tuple #[.agg #[.int .i64 0, .slice none 0 0], .int .i64 1]) ∧ Below w.heap.size w W' := by
  have HB := Lib.hid ((Below.refl w.heap.size w).alloc (Nat.le_refl _) (.cells #[.int .i64 0, .slice none 0 0] 30))
  by_cases h1 : o < 4
  · have d1 : decide (o < 4) = true := decide_eq_true h1
    go_enter Try.func11, Try.ntmps11
    go_wp2_with fail
    exact bodyPost_ret (v := .tuple #[.agg #[.int .i64 0, .slice none 0 0], .int .i64 1]) (by simp [results, Try.results11, go_sem]) rfl ⟨rfl, by first | exact (Below.refl _ w).alloc (Nat.le_refl _) _ | repeat' (first | exact HB.out | refine Below.setCell ?_ (by simp) _)⟩
  · have d1 : decide (o < 4) = false := decide_eq_false h1
    have d2 : decide (256 < o) = true := decide_eq_true (by omega)
    go_enter Try.func11, Try.ntmps11
    go_wp2_with fail
    exact bodyPost_ret (v := .tuple #[.agg #[.int .i64 0, .slice none 0 0], .int .i64 1]) (by simp [results, Try.results11, go_sem]) rfl ⟨rfl, by first | exact (Below.refl _ w).alloc (Nat.le_refl _) _ | repeat' (first | exact HB.out | refine Below.setCell ?_ (by simp) _)⟩
end Go.Proofs.Ytegljepgncicjaa
/- Btree: appends of pairs; the reference's Put and Delete. -/
namespace Go.Proofs.Ytegljepgncicjaa
open Go.ChangeShapes Go.WideShapes Go.ChangeAt Go.RowKit Go.Deep Go.Shelf
set_option linter.unusedVariables false
set_option linter.unusedSimpArgs false
theorem prv_append (A B : List Pr) : prv (A ++ B) = prv A ++ prv B := List.flatMap_append ..
theorem prv_one (L : List Pr) : ∀ u ∈ prv L, u.oneCell' = true := fun u hu => by
  obtain ⟨x, _, hx⟩ := List.mem_flatMap.1 hu
  simp at hx
  rcases hx with rfl | rfl <;> rfl
/-- the source of an append -/
def PSrc (w : World) (sv : Value) (M : List Pr) : Prop :=
  (∃ c, sv = .slice none 0 c ∧ M = []) ∨ ∃ ad c, sv = .slice (some ad) M.length c ∧ ∀ j u, (prv M)[j]? = some u → w.cell? (ad.add j) = some u
def PSide (a : Act) (x y : Nat) (v sv : Value) (w : World) (n m B : Nat) : Prop := a.eval (.tmp x) = v ∧ a.eval (.tmp y) = sv ∧ n ≤ 100000 ∧ m ≤ 100000 ∧ B ≤ w.heap.size
theorem addr_add' (B o j : Nat) : (⟨B, o, none⟩ : Addr).add j = ⟨B, o + j, none⟩ := by
  by_cases hj : j = 0 <;> simp [Addr.add, hj]
theorem wpList_appP {ops : Array Oper} {rest : List Oper} {Q : Exit → Act → World → Prop} (x y : Nat) (B : Nat) (v sv : Value) (L M : List Pr) (d : Option Nat) (pos : String) (af) (a : Act) (w : World)
    (hown : w.ownsRow B 59 2 v L.length (prv L)) (hsrc : PSrc w sv M) (hside : PSide a x y v sv w L.length M.length B)
    (h : ∀ v' w', w'.ownsRow B 59 2 v' (L ++ M).length (prv (L ++ M)) → Below B w w' → wpList Try.prog ops Q rest (a.put d v') w') :
    wpList Try.prog ops Q ({ dst := d, op := Op.call { callee := .builtin .append, args := #[.tmp x, .tmp y], argTypes := #[28, 28] }, type := 28, pos := pos, after := af, guard := none } :: rest) a w := by
  obtain ⟨hx, hy, hn, hm, hB⟩ := hside
  obtain ⟨i0, hi0, hz0, hz1, hz2⟩ := info_parts info59
  have key : ∃ v' w', (Builtin.append_ #[28, 28] 28 #[v, sv]).run Try.prog w = .ok v' w' ∧ w'.ownsRow B 59 2 v' (L.length + M.length) (prv L ++ prv M) ∧ w.grownBy w' v.ownBlock := by
    rcases hsrc with ⟨c, rfl, rfl⟩ | ⟨ad, c, rfl, hc⟩
    · refine ⟨v, w, ?_, by simpa [prv] using hown, World.grownBy.refl w _⟩
      rcases hown.2 with ⟨rfl, h0⟩ | ⟨g, cap, cur, rfl, _, _, hnc, _⟩
      · simp [Builtin.append_, run_underlying Try.underlying28, sizeOf, typeInfo, hi0, Builtin.lenOf, Builtin.firstCells]
      · simp [Builtin.append_, run_underlying Try.underlying28, sizeOf, typeInfo, hi0, Builtin.lenOf, Builtin.firstCells, hnc, storeCells]
    · obtain ⟨v', w', hrun, h2, h3, _, h5⟩ := run_append_own_at (P := Try.prog) w B 28 28 59 i0 (.agg #[.string ⟨#[]⟩, .string ⟨#[]⟩]) 2 32 Try.underlying28 hi0 hz0 hz1 hz2 rfl (by decide) v L.length (prv L) hown ad M.length c (prv M) (prv_len M) hc (prv_one M) (by unfold maxLen; omega) (by omega) hB
      exact ⟨v', w', hrun, h2, h3⟩
  obtain ⟨v', w', hr, h2, h3⟩ := key
  refine wpList_plain rfl fun K hK => ?_
  unfold Oper.wp execOp
  simp only [resolve, invoke, builtin, Sem.run_bind, Sem.run_pure, Result.andThen_ok, List.map_toArray, List.map_cons, List.map_nil, hx, hy, hr]
  refine hK _ _ (h v' w' (by rw [List.length_append, prv_append]; exact h2) ((Below.refl B w).grown h3 hB (fun k e => (hown.lt k e).1)))
theorem PrAt.own_lt {W : World} {v : Value} {L : List Pr} (h : PrAt W v L) : ∀ k, v.ownBlock = some k → k < W.heap.size := by
  rcases h with ⟨rfl, _⟩ | ⟨g, c, rfl, _, _, h, _⟩
  · intro k hk; simp [Value.ownBlock] at hk
  · intro k hk; simp [Value.ownBlock] at hk; subst hk; exact h
theorem src_take {W : World} {g n c : Nat} {L : List Pr} (h : PrAt W (.slice (some ⟨g, 0, none⟩) L.length c) L) (hn : n ≤ L.length) : PSrc W (.slice (some ⟨g, 0, none⟩) n c) (L.take n) := by
  have hl : (L.take n).length = n := by rw [List.length_take]; omega
  rcases h with ⟨h, _⟩ | ⟨g', c', hg, _, _, _, hc⟩
  · cases h
  · cases hg
    refine .inr ⟨⟨g, 0, none⟩, c, by rw [hl], fun j u hj => ?_⟩
    have hj2 := (List.getElem?_eq_some_iff.1 hj).1
    rw [prv_len, hl] at hj2
    rw [addr_add', Nat.zero_add]
    have e : (prv L)[j]? = some u := by
      rw [← List.take_append_drop n L, prv_append, List.getElem?_append_left (by rw [prv_len, hl]; exact hj2)]
      exact hj
    rcases Nat.mod_two_eq_zero_or_one j with h0 | h0
    · obtain ⟨i, rfl⟩ : ∃ i, j = i * 2 := ⟨j / 2, by omega⟩
      rw [(prv_at L i (by omega)).1] at e
      rw [(hc i (by omega)).1, e]
    · obtain ⟨i, rfl⟩ : ∃ i, j = i * 2 + 1 := ⟨j / 2, by omega⟩
      rw [(prv_at L i (by omega)).2] at e
      rw [(hc i (by omega)).2, e]
theorem src_drop {W : World} {g n c : Nat} {L : List Pr} {o m k : Nat} (h : PrAt W (.slice (some ⟨g, 0, none⟩) L.length c) L) (hn : n ≤ L.length) (hm : m = L.length - n) (ho : m = 0 ∨ o = n * 2) : PSrc W (.slice (some ⟨g, o, none⟩) m k) (L.drop n) := by
  have hl : (L.drop n).length = m := by rw [List.length_drop, hm]
  rcases h with ⟨h, _⟩ | ⟨g', c', hg, _, _, _, hc⟩
  · cases h
  · cases hg
    refine .inr ⟨⟨g, o, none⟩, k, by rw [hl], fun j u hj => ?_⟩
    have hj2 := (List.getElem?_eq_some_iff.1 hj).1
    rw [prv_len, hl] at hj2
    have ho : o = n * 2 := ho.resolve_left (by omega)
    subst ho
    rw [addr_add']
    have e : (prv L)[n * 2 + j]? = some u := by
      rw [← List.take_append_drop n L, prv_append, List.getElem?_append_right (by rw [prv_len, List.length_take]; omega), prv_len, List.length_take, Nat.min_eq_left hn, show n * 2 + j - n * 2 = j by omega]
      exact hj
    rcases Nat.mod_two_eq_zero_or_one j with h0 | h0
    · obtain ⟨i, rfl⟩ : ∃ i, j = i * 2 := ⟨j / 2, by omega⟩
      rw [show n * 2 + i * 2 = (n + i) * 2 by omega] at e ⊢
      rw [(prv_at L (n + i) (by omega)).1] at e
      rw [(hc (n + i) (by omega)).1, e]
    · obtain ⟨i, rfl⟩ : ∃ i, j = i * 2 + 1 := ⟨j / 2, by omega⟩
      rw [show n * 2 + (i * 2 + 1) = (n + i) * 2 + 1 by omega] at e ⊢
      rw [(prv_at L (n + i) (by omega)).2] at e
      rw [(hc (n + i) (by omega)).2, e]
theorem src_new (W : World) (k v : Bs) (t : TypeId) : PSrc (W.alloc (.cells #[.string k, .string v] t)) (.slice (some ⟨W.heap.size, 0, none⟩) 1 1) [(k, v)] :=
  .inr ⟨_, _, rfl, fun j u hj => cell_two_new W _ _ t j u hj⟩
theorem own_below {B : Nat} {W W' : World} {T : TypeId} {z n : Nat} {v : Value} {xs : List Value} (h : W.ownsRow B T z v n xs) (hk : ∀ k, v.ownBlock = some k → W'.heap[k]? = W.heap[k]?) : W'.ownsRow B T z v n xs := by
  refine ⟨h.1, ?_⟩
  rcases h.2 with h1 | ⟨g, c, cur, rfl, h1, h2, h3⟩
  · exact .inl h1
  · exact .inr ⟨g, c, cur, rfl, h1, by rw [hk g rfl]; exact h2, h3⟩
def DSide (a : Act) (x y : Nat) (v : Value) (k n : Nat) : Prop := a.eval (.tmp x) = v ∧ a.eval (.tmp y) = .int .i64 k ∧ k ≤ n
set_option maxRecDepth 100000 in
theorem wpList_dropP {ops : Array Oper} {rest : List Oper} {Q : Exit → Act → World → Prop} (x y k : Nat) (v : Value) (L : List Pr) (d : Option Nat) (pos : String) (af) (a : Act) (w : World)
    (hv : PrAt w v L) (hside : DSide a x y v k L.length)
    (h : ∀ sv, PSrc w sv (L.drop k) → wpList Try.prog ops Q rest (a.put d sv) w) :
    wpList Try.prog ops Q ({ dst := d, op := Op.slice 28 (.tmp x) (some (.tmp y)) none none, type := 28, pos := pos, after := af, guard := none } :: rest) a w := by
  obtain ⟨hx, hy, hk⟩ := hside
  refine wpList_plain rfl fun K hK => ?_
  unfold Oper.wp
  have key : ∃ sv, PSrc w sv (L.drop k) ∧ (execOp a.eval { dst := d, op := Op.slice 28 (.tmp x) (some (.tmp y)) none none, type := 28, pos := pos, after := af, guard := none }).run Try.prog w = .ok (.value sv) w := by
    clear hK h K
    generalize a.eval = F at hx hy ⊢
    rcases hv with ⟨rfl, rfl⟩ | ⟨g, c, rfl, hc, hc2, hlt, hcell⟩
    · have hk0 : k = 0 := by simpa using hk
      subst hk0
      refine ⟨.slice none 0 0, .inl ⟨0, rfl, rfl⟩, ?_⟩
      simp [execOp, go_sem, hx, hy]
    · have hv : PrAt w (.slice (some ⟨g, 0, none⟩) L.length c) L := .inr ⟨g, c, rfl, hc, hc2, hlt, hcell⟩
      have h1 : (0 : Int) ≤ (k : Int) := by omega
      have h2 : (k : Int) ≤ (L.length : Int) := by omega
      have h3 : (L.length : Int) ≤ (c : Int) := by omega
      by_cases hkc : c = k
      · subst hkc
        have hL : L.length = c := by omega
        refine ⟨.slice (some ⟨g, 0, none⟩) 0 0, src_drop hv hk (by omega) (.inl rfl), ?_⟩
        rw [hL] at hx
        simp [execOp, go_sem, hx, hy]
      · refine ⟨.slice (some ⟨g, k * 2, none⟩) (L.length - k) (c - k), src_drop hv hk rfl (.inr rfl), ?_⟩
        simp [execOp, go_sem, hx, hy, h1, h2, h3, hkc]
  refine Exists.elim key (fun sv h12 => ?_)
  have h1 := h12.1
  have h2 := h12.2
  clear h12 key
  rw [h2]
  exact hK _ _ (h sv h1)
/-- what Put of the reference returns -/
def RPutOut (o : Int) (v0 : Value) (L : List Pr) (b : Bool) (w : World) (e : Ending) (W' : World) : Prop :=
  ∃ v, e = .returned (.tuple #[.agg #[.int .i64 o, v], .bool b]) ∧ PrAt W' v L ∧ Below w.heap.size w W' ∧ ∀ k, v.ownBlock = some k → v0.ownBlock = some k ∨ w.heap.size ≤ k
/-- the boxes of a call of the reference: the tree that was passed, the result -/
structure PW (w : World) (N : Nat) (o : Int) (v : Value) (L : List Pr) (B : Nat) (W : World) : Prop where
  b0 : Box W N [.int .i64 o, v]
  b1 : Box W (N + 1) [.int .i64 0, .slice none 0 0]
  pr : PrAt W v L
  ge : w.heap.size ≤ N
  lt : N + 1 < B
  vb : ∀ k, v.ownBlock = some k → k < B
  nb : ∀ k, v.ownBlock = some k → k ≠ N + 1
  sz : B ≤ W.heap.size
  b : Below w.heap.size w W
theorem PW.next {w W W' : World} {N B : Nat} {o : Int} {v : Value} {L : List Pr} (h : PW w N o v L B W) (hb : Below B W W') : PW w N o v L B W' :=
  ⟨h.b0.far hb (by have := h.lt; omega), h.b1.far hb h.lt, h.pr.below' hb h.vb, h.ge, h.lt, h.vb, h.nb, Nat.le_trans h.sz hb.size, h.b.trans (hb.mono (by have := h.ge; have := h.lt; omega))⟩
theorem PW.up {w W : World} {N B B' : Nat} {o : Int} {v : Value} {L : List Pr} (h : PW w N o v L B W) (h1 : B ≤ B') (h2 : B' ≤ W.heap.size) : PW w N o v L B' W :=
  ⟨h.b0, h.b1, h.pr, h.ge, by have := h.lt; omega, fun k hk => by have := h.vb k hk; omega, h.nb, h2, h.b⟩
theorem PW.start {w : World} {o : Int} {v : Value} {L : List Pr} (h : PrAt w v L) : PW w w.heap.size o v L (w.heap.size + 2) ((w.alloc (.cells #[.int .i64 o, v] 30)).alloc (.cells #[.int .i64 0, .slice none 0 0] 30)) := by
  have hb1 : Below w.heap.size w (w.alloc (.cells #[.int .i64 o, v] 30)) := (Below.refl _ w).alloc (Nat.le_refl _) _
  have hb2 : Below w.heap.size w ((w.alloc (.cells #[.int .i64 o, v] 30)).alloc (.cells #[.int .i64 0, .slice none 0 0] 30)) := hb1.alloc (by simp) _
  have h1 := Box.new (w.alloc (.cells #[.int .i64 o, v] 30)) [.int .i64 0, .slice none 0 0] 30
  rw [World.size_alloc] at h1
  exact ⟨(Box.new w [.int .i64 o, v] 30).alloc _, h1, h.below hb2, Nat.le_refl _, by omega, fun k hk => by have := h.own_lt k hk; omega, fun k hk => by have := h.own_lt k hk; omega, by simp, hb2⟩
/-- the end of Put and Delete: the result goes into its box -/
theorem rput_end {w W : World} {N B n c : Nat} {o : Int} {v : Value} {a : Option Addr} {L L' : List Pr} (h : PW w N o v L B W) (hr : W.ownsRow B 59 2 (.slice a n c) n (prv L')) (hn : n = L'.length) :
    PrAt (((W.setCell ⟨N, 1, none⟩ (.slice a n c)).setCell ⟨N + 1, 0, none⟩ (.int .i64 o)).setCell ⟨N + 1, 1, none⟩ (.slice a n c)) (.slice a n c) L' ∧ Below w.heap.size w (((W.setCell ⟨N, 1, none⟩ (.slice a n c)).setCell ⟨N + 1, 0, none⟩ (.int .i64 o)).setCell ⟨N + 1, 1, none⟩ (.slice a n c)) ∧
    Box (((W.setCell ⟨N, 1, none⟩ (.slice a n c)).setCell ⟨N + 1, 0, none⟩ (.int .i64 o)).setCell ⟨N + 1, 1, none⟩ (.slice a n c)) (N + 1) [.int .i64 o, .slice a n c] := by
  have hlt := h.lt
  have hge := h.ge
  have k1 : Kept (fun k => k = N) W (W.setCell ⟨N, 1, none⟩ (.slice a n c)) := (Kept.refl _ W).setCells N 1 [.slice a n c] (.inl rfl)
  have k2 : Kept (fun k => k = N + 1) (W.setCell ⟨N, 1, none⟩ (.slice a n c)) (((W.setCell ⟨N, 1, none⟩ (.slice a n c)).setCell ⟨N + 1, 0, none⟩ (.int .i64 o)).setCell ⟨N + 1, 1, none⟩ (.slice a n c)) :=
    ((Kept.refl (fun k => k = N + 1) _).setCells (N + 1) 0 [.int .i64 o, .slice a n c] (.inl rfl))
  have k3 : Kept (fun k => k = N ∨ k = N + 1) W (((W.setCell ⟨N, 1, none⟩ (.slice a n c)).setCell ⟨N + 1, 0, none⟩ (.int .i64 o)).setCell ⟨N + 1, 1, none⟩ (.slice a n c)) :=
    Kept.trans (S := fun k => k = N ∨ k = N + 1) ⟨k1.os, k1.tape, k1.output, k1.size, fun k hk hs => k1.block k hk (fun e => hs (.inl e))⟩ k2 (fun k e => .inl (.inr e))
  refine ⟨(PrAt.of_own hn hr).kept k3 (fun k hk e => ?_), h.b.trans (k3.below (Nat.le_trans (by omega) h.sz) (fun k e => ?_)), ?_⟩
  · have := (hr.lt k hk).1
    omega
  · omega
  · have b1 := h.b1.kept k1 (by omega)
    exact (b1.setCell 0 (.int .i64 o) (by simp)).setCell 1 (.slice a n c) (by simp)
theorem own_form {B : Nat} {W : World} {T : TypeId} {z n : Nat} {v : Value} {xs : List Value} (h : W.ownsRow B T z v n xs) : ∃ a c, v = .slice a n c ∧ n ≤ c := by
  rcases h.2 with ⟨rfl, rfl⟩ | ⟨g, c, cur, rfl, _, _, h, _⟩
  · exact ⟨none, 0, rfl, Nat.le_refl _⟩
  · exact ⟨_, _, rfl, h⟩
end Go.Proofs.Ytegljepgncicjaa
/- Btree: the reference's Put and Delete. -/
namespace Go.Proofs.Ytegljepgncicjaa
open Go.ChangeShapes Go.WideShapes Go.ChangeAt Go.RowKit Go.Deep Go.Shelf
set_option linter.unusedVariables false
set_option linter.unusedSimpArgs false
set_option maxRecDepth 100000 in
set_option maxHeartbeats 1600000 in
theorem rPut_some (o : Int) (g c : Nat) (L : List Pr) (key val : Bs) (w : World) (hv : PrAt w (.slice (some ⟨g, 0, none⟩) L.length c) L) (hl : L.length ≤ 5000) (hc : L.length ≤ c) (hc2 : c ≤ 9223372036854775807) :
    Calls Try.prog 26 #[.agg #[.int .i64 o, .slice (some ⟨g, 0, none⟩) L.length c], .string key, .string val] w (RPutOut o (.slice (some ⟨g, 0, none⟩) L.length c) (putL L key val) (!(hasL L key)) w) := by
  have HR := Lib.hid (PW.start (o := o) hv)
  obtain ⟨N, hN⟩ : ∃ N, N = w.heap.size := ⟨_, rfl⟩
  clear hv 
  go_enter Try.func26, Try.ntmps26
  go_wp2_with fail
  rw [← hN] at HR
  refine (place_any o (.slice (some ⟨g, 0, none⟩) L.length c) L key _ HR.out.pr hl).mono ?_
  rw [← hN]
  clear hN
  generalize (w.alloc _).alloc _ = W1 at HR ⊢
  rintro e W2 ⟨rfl, hb⟩
  have HR2 := Lib.hid ((HR.out.up HR.out.sz (Nat.le_refl _)).next hb)
  generalize W1.heap.size = B at HR2
  clear hb HR
  have c0 := HR2.out.b0.cell 0 _ rfl
  have c1 := HR2.out.b0.cell 1 _ rfl
  have hp := posL_le L key
  have HL := Lib.hid (show putL L key val = (([] ++ L.take (posL L key)) ++ [(key, val)]) ++ L.drop (if hasL L key = true then posL L key + 1 else posL L key) by rw [putL_pos]; simp)
  have HLT := Lib.hid (fun h => hasL_lt (L := L) (k := key) h)
  generalize posL L key = n at *
  generalize hasL L key = b at *
  have hnc : n ≤ c := by omega
  go_wp2_with (with_reducible refine wpList_appP 17 21 B (.slice none 0 0) (.slice (some ⟨g, 0, none⟩) n c) [] (L.take n) _ _ _ _ _ ?_ ?_ ?_ ?_)
  · exact World.ownsRow_nil _ _ _ _
  · exact src_take HR2.out.pr hp
  · exact ⟨rfl, rfl, by simp, by rw [List.length_take]; omega, HR2.out.sz⟩
  intro v1 W3 hr1 hb1
  have HR3 := Lib.hid (HR2.out.next hb1)
  have HO3 := Lib.hid hr1
  clear hr1 hb1 HR2 c0 c1
  have hz3 : N < W3.heap.size := HR3.out.b0.lt
  have c0 := HR3.out.b0.cell 0 _ rfl
  have c1 := HR3.out.b0.cell 1 _ rfl
  go_wp2_with (with_reducible refine wpList_appP 23 27 B v1 (.slice (some ⟨W3.heap.size, 0, none⟩) 1 1) ([] ++ L.take n) [(key, val)] _ _ _ _ _ ?_ ?_ ?_ ?_)
  · exact HO3.out.alloc _
  · exact src_new W3 key val _
  · exact ⟨rfl, rfl, by rw [List.nil_append, List.length_take]; omega, by simp, by have := HR3.out.sz; simp; omega⟩
  intro v2 W4 hr2 hb2
  obtain ⟨a2, c2, rfl, hac2⟩ := own_form hr2
  have hm2 : ([] ++ L.take n ++ [(key, val)]).length = n + 1 := by simp; omega
  rw [hm2] at hr2 hac2
  rw [hm2]
  have HR4 := Lib.hid (HR3.out.next (((Below.refl B W3).alloc HR3.out.sz _).trans hb2))
  have HO4 := Lib.hid hr2
  clear hr2 hb2 HR3 HO3 hz3 c0 c1
  have c0 := HR4.out.b0.cell 0 _ rfl
  have c1 := HR4.out.b0.cell 1 _ rfl
  cases b with
  | true =>
    simp only [if_true] at HL
    have hlt := HLT.out rfl
    have hw : IntKind.i64.wrap ((n : Int) + 1) = ((n + 1 : Nat) : Int) := by rw [IntKind.wrap_i64]; omega
    go_wp2_with (with_reducible refine wpList_dropP 32 34 (n + 1) _ L _ _ _ _ _ HR4.out.pr ?_ ?_)
    · exact ⟨rfl, rfl, by omega⟩
    intro sv hsv
    have HS := Lib.hid hsv
    clear hsv
    go_wp2_with (with_reducible refine wpList_appP 30 35 B (.slice a2 (n + 1) c2) sv ([] ++ L.take n ++ [(key, val)]) (L.drop (n + 1)) _ _ _ _ _ (by rw [hm2]; exact HO4.out) ?_ ?_ ?_)
    · exact HS.out
    · exact ⟨rfl, rfl, by rw [hm2]; omega, by rw [List.length_drop]; omega, HR4.out.sz⟩
    intro v3 W5 hr3 hb3
    have HR5 := Lib.hid (HR4.out.next hb3)
    obtain ⟨a3, c3, rfl, _⟩ := own_form hr3
    rw [← HL.out] at hr3
    obtain ⟨m3, hm3⟩ : ∃ m3, m3 = (([] ++ L.take n ++ [(key, val)]) ++ L.drop (n + 1)).length := ⟨_, rfl⟩
    rw [← HL.out] at hm3 ⊢
    rw [← hm3] at hr3
    rw [← hm3]
    have HO5 := Lib.hid (And.intro hr3 hm3)
    clear hr3 hb3 HR4 HO4 c0 c1 hm3
    have c0 := HR5.out.b0.cell 0 _ rfl
    have c1 := HR5.out.b0.cell 1 _ rfl
    have f0 := HR5.out.b0.free
    have f1 := HR5.out.b1.free
    have d0 := HR5.out.b1.cell 0 _ rfl
    have d1 := HR5.out.b1.cell 1 _ rfl
    have hz5 := HR5.out.b1.lt
    have hz6 := HR5.out.b0.lt
    go_wp2_with fail
    have hend := rput_end HR5.out HO5.out.1 HO5.out.2
    have e0 := hend.2.2.cell 0 _ rfl
    have e1 := hend.2.2.cell 1 _ rfl
    exact bodyPost_ret (v := .tuple #[.agg #[.int .i64 o, .slice a3 m3 c3], .bool false]) (by simp [results, Try.results26, go_sem, e0, e1]) rfl ⟨_, rfl, hend.1, hend.2.1, fun k hk => .inr (by have := (HO5.out.1.lt k hk).1; have := HR5.out.lt; have := HR5.out.ge; omega)⟩
  | false =>
    simp only [Bool.false_eq_true, if_false] at HL
    go_wp2_with (with_reducible refine wpList_dropP 39 40 n _ L _ _ _ _ _ HR4.out.pr ?_ ?_)
    · exact ⟨rfl, rfl, by omega⟩
    intro sv hsv
    have HS := Lib.hid hsv
    clear hsv
    go_wp2_with (with_reducible refine wpList_appP 37 41 B (.slice a2 (n + 1) c2) sv ([] ++ L.take n ++ [(key, val)]) (L.drop n) _ _ _ _ _ (by rw [hm2]; exact HO4.out) ?_ ?_ ?_)
    · exact HS.out
    · exact ⟨rfl, rfl, by rw [hm2]; omega, by rw [List.length_drop]; omega, HR4.out.sz⟩
    intro v3 W5 hr3 hb3
    have HR5 := Lib.hid (HR4.out.next hb3)
    obtain ⟨a3, c3, rfl, _⟩ := own_form hr3
    rw [← HL.out] at hr3
    obtain ⟨m3, hm3⟩ : ∃ m3, m3 = (([] ++ L.take n ++ [(key, val)]) ++ L.drop n).length := ⟨_, rfl⟩
    rw [← HL.out] at hm3 ⊢
    rw [← hm3] at hr3
    rw [← hm3]
    have HO5 := Lib.hid (And.intro hr3 hm3)
    clear hr3 hb3 HR4 HO4 c0 c1 hm3
    have c0 := HR5.out.b0.cell 0 _ rfl
    have c1 := HR5.out.b0.cell 1 _ rfl
    have f0 := HR5.out.b0.free
    have f1 := HR5.out.b1.free
    have d0 := HR5.out.b1.cell 0 _ rfl
    have d1 := HR5.out.b1.cell 1 _ rfl
    have hz5 := HR5.out.b1.lt
    have hz6 := HR5.out.b0.lt
    go_wp2_with fail
    have hend := rput_end HR5.out HO5.out.1 HO5.out.2
    have e0 := hend.2.2.cell 0 _ rfl
    have e1 := hend.2.2.cell 1 _ rfl
    exact bodyPost_ret (v := .tuple #[.agg #[.int .i64 o, .slice a3 m3 c3], .bool true]) (by simp [results, Try.results26, go_sem, e0, e1]) rfl ⟨_, rfl, hend.1, hend.2.1, fun k hk => .inr (by have := (HO5.out.1.lt k hk).1; have := HR5.out.lt; have := HR5.out.ge; omega)⟩
set_option maxRecDepth 100000 in
set_option maxHeartbeats 1600000 in
theorem rPut_nil (o : Int) (L : List Pr) (key val : Bs) (w : World) (hL : L = []) (hv : PrAt w (.slice none 0 0) L) :
    Calls Try.prog 26 #[.agg #[.int .i64 o, .slice none 0 0], .string key, .string val] w (RPutOut o (.slice none 0 0) (putL L key val) (!(hasL L key)) w) := by
  have HR := Lib.hid (PW.start (o := o) hv)
  obtain ⟨N, hN⟩ : ∃ N, N = w.heap.size := ⟨_, rfl⟩
  have hl : L.length ≤ 5000 := by rw [hL]; simp
  have HL0 := Lib.hid (show L.length = 0 by rw [hL]; rfl)
  clear hv hL
  go_enter Try.func26, Try.ntmps26
  go_wp2_with fail
  rw [← hN] at HR
  refine (place_any o (.slice none 0 0) L key _ HR.out.pr hl).mono ?_
  rw [← hN]
  clear hN
  generalize (w.alloc _).alloc _ = W1 at HR ⊢
  rintro e W2 ⟨rfl, hb⟩
  have HR2 := Lib.hid ((HR.out.up HR.out.sz (Nat.le_refl _)).next hb)
  generalize W1.heap.size = B at HR2
  clear hb HR
  have c0 := HR2.out.b0.cell 0 _ rfl
  have c1 := HR2.out.b0.cell 1 _ rfl
  have hp := posL_le L key
  have HL := Lib.hid (show putL L key val = (([] ++ L.take (posL L key)) ++ [(key, val)]) ++ L.drop (if hasL L key = true then posL L key + 1 else posL L key) by rw [putL_pos]; simp)
  have HLT := Lib.hid (fun h => hasL_lt (L := L) (k := key) h)
  generalize posL L key = n at *
  generalize hasL L key = b at *
  obtain rfl : n = 0 := by have := HL0.out; omega
  cases b with
  | true => exact absurd (HLT.out rfl) (by have := HL0.out; omega)
  | false =>
    go_wp2_with (with_reducible refine wpList_appP 17 21 B (.slice none 0 0) (.slice none 0 0) [] (L.take 0) _ _ _ _ _ ?_ ?_ ?_ ?_)
    · exact World.ownsRow_nil _ _ _ _
    · exact .inl ⟨0, rfl, rfl⟩
    · exact ⟨rfl, rfl, by simp, by rw [List.length_take]; omega, HR2.out.sz⟩
    intro v1 W3 hr1 hb1
    have HR3 := Lib.hid (HR2.out.next hb1)
    have HO3 := Lib.hid hr1
    clear hr1 hb1 HR2 c0 c1
    have hz3 : N < W3.heap.size := HR3.out.b0.lt
    have c0 := HR3.out.b0.cell 0 _ rfl
    have c1 := HR3.out.b0.cell 1 _ rfl
    go_wp2_with (with_reducible refine wpList_appP 23 27 B v1 (.slice (some ⟨W3.heap.size, 0, none⟩) 1 1) ([] ++ L.take 0) [(key, val)] _ _ _ _ _ ?_ ?_ ?_ ?_)
    · exact HO3.out.alloc _
    · exact src_new W3 key val _
    · exact ⟨rfl, rfl, by rw [List.nil_append, List.length_take]; omega, by simp, by have := HR3.out.sz; simp; omega⟩
    intro v2 W4 hr2 hb2
    obtain ⟨a2, c2, rfl, hac2⟩ := own_form hr2
    have hm2 : ([] ++ L.take 0 ++ [(key, val)]).length = 0 + 1 := by simp
    rw [hm2] at hr2 hac2
    rw [hm2]
    have HR4 := Lib.hid (HR3.out.next (((Below.refl B W3).alloc HR3.out.sz _).trans hb2))
    have HO4 := Lib.hid hr2
    clear hr2 hb2 HR3 HO3 hz3 c0 c1
    have c0 := HR4.out.b0.cell 0 _ rfl
    have c1 := HR4.out.b0.cell 1 _ rfl
    simp only [Bool.false_eq_true, if_false] at HL
    go_wp2_with (with_reducible refine wpList_dropP 39 40 0 _ L _ _ _ _ _ HR4.out.pr ?_ ?_)
    · exact ⟨rfl, rfl, by omega⟩
    intro sv hsv
    have HS := Lib.hid hsv
    clear hsv
    go_wp2_with (with_reducible refine wpList_appP 37 41 B (.slice a2 (0 + 1) c2) sv ([] ++ L.take 0 ++ [(key, val)]) (L.drop 0) _ _ _ _ _ (by rw [hm2]; exact HO4.out) ?_ ?_ ?_)
    · exact HS.out
    · exact ⟨rfl, rfl, by rw [hm2]; omega, by rw [List.length_drop]; omega, HR4.out.sz⟩
    intro v3 W5 hr3 hb3
    have HR5 := Lib.hid (HR4.out.next hb3)
    obtain ⟨a3, c3, rfl, _⟩ := own_form hr3
    rw [← HL.out] at hr3
    obtain ⟨m3, hm3⟩ : ∃ m3, m3 = (([] ++ L.take 0 ++ [(key, val)]) ++ L.drop 0).length := ⟨_, rfl⟩
    rw [← HL.out] at hm3 ⊢
    rw [← hm3] at hr3
    rw [← hm3]
    have HO5 := Lib.hid (And.intro hr3 hm3)
    clear hr3 hb3 HR4 HO4 c0 c1 hm3
    have c0 := HR5.out.b0.cell 0 _ rfl
    have c1 := HR5.out.b0.cell 1 _ rfl
    have f0 := HR5.out.b0.free
    have f1 := HR5.out.b1.free
    have d0 := HR5.out.b1.cell 0 _ rfl
    have d1 := HR5.out.b1.cell 1 _ rfl
    have hz5 := HR5.out.b1.lt
    have hz6 := HR5.out.b0.lt
    go_wp2_with fail
    have hend := rput_end HR5.out HO5.out.1 HO5.out.2
    have e0 := hend.2.2.cell 0 _ rfl
    have e1 := hend.2.2.cell 1 _ rfl
    exact bodyPost_ret (v := .tuple #[.agg #[.int .i64 o, .slice a3 m3 c3], .bool true]) (by simp [results, Try.results26, go_sem, e0, e1]) rfl ⟨_, rfl, hend.1, hend.2.1, fun k hk => .inr (by have := (HO5.out.1.lt k hk).1; have := HR5.out.lt; have := HR5.out.ge; omega)⟩
end Go.Proofs.Ytegljepgncicjaa
/- Btree: the reference's Delete. -/
namespace Go.Proofs.Ytegljepgncicjaa
open Go.ChangeShapes Go.WideShapes Go.ChangeAt Go.RowKit Go.Deep Go.Shelf
set_option linter.unusedVariables false
set_option linter.unusedSimpArgs false
theorem rdel_end {w W : World} {N B n c : Nat} {o : Int} {a : Option Addr} {L : List Pr} (h : PW w N o (.slice a n c) L B W) :
    PrAt ((W.setCell ⟨N + 1, 0, none⟩ (.int .i64 o)).setCell ⟨N + 1, 1, none⟩ (.slice a n c)) (.slice a n c) L ∧ Below w.heap.size w ((W.setCell ⟨N + 1, 0, none⟩ (.int .i64 o)).setCell ⟨N + 1, 1, none⟩ (.slice a n c)) ∧
    Box ((W.setCell ⟨N + 1, 0, none⟩ (.int .i64 o)).setCell ⟨N + 1, 1, none⟩ (.slice a n c)) (N + 1) [.int .i64 o, .slice a n c] := by
  have hge := h.ge
  have k2 : Kept (fun k => k = N + 1) W ((W.setCell ⟨N + 1, 0, none⟩ (.int .i64 o)).setCell ⟨N + 1, 1, none⟩ (.slice a n c)) :=
    ((Kept.refl (fun k => k = N + 1) _).setCells (N + 1) 0 [.int .i64 o, .slice a n c] (.inl rfl))
  have hb := (h.b1.setCell 0 (.int .i64 o) (by simp)).setCell 1 (.slice a n c) (by simp)
  refine ⟨?_, h.b.trans (k2.below (Nat.le_trans (by have := h.lt; omega) h.sz) (fun k e => by omega)), hb⟩
  have hp := h.pr
  have hv := h.vb
  have hlt := h.lt
  have hb1 : ∀ k, (Value.slice a n c).ownBlock = some k → k ≠ N + 1 := fun k hk e => h.nb k hk e
  exact hp.kept k2 (fun k hk e => hb1 k hk e)
set_option maxRecDepth 100000 in
set_option maxHeartbeats 1600000 in
theorem rDel_some (o : Int) (g c : Nat) (L : List Pr) (key : Bs) (w : World) (hv : PrAt w (.slice (some ⟨g, 0, none⟩) L.length c) L) (hl : L.length ≤ 5000) (hc : L.length ≤ c) (hc2 : c ≤ 9223372036854775807) :
    Calls Try.prog 27 #[.agg #[.int .i64 o, .slice (some ⟨g, 0, none⟩) L.length c], .string key] w (RPutOut o (.slice (some ⟨g, 0, none⟩) L.length c) (delL L key) (hasL L key) w) := by
  have HR := Lib.hid (PW.start (o := o) hv)
  obtain ⟨N, hN⟩ : ∃ N, N = w.heap.size := ⟨_, rfl⟩
  clear hv 
  go_enter Try.func27, Try.ntmps27
  go_wp2_with fail
  rw [← hN] at HR
  refine (place_any o (.slice (some ⟨g, 0, none⟩) L.length c) L key _ HR.out.pr hl).mono ?_
  rw [← hN]
  clear hN
  generalize (w.alloc _).alloc _ = W1 at HR ⊢
  rintro e W2 ⟨rfl, hb⟩
  have HR2 := Lib.hid ((HR.out.up HR.out.sz (Nat.le_refl _)).next hb)
  generalize W1.heap.size = B at HR2
  clear hb HR
  have c0 := HR2.out.b0.cell 0 _ rfl
  have c1 := HR2.out.b0.cell 1 _ rfl
  have hp := posL_le L key
  have HL := Lib.hid (show delL L key = if hasL L key = true then (([] ++ L.take (posL L key)) ++ L.drop (posL L key + 1)) else L by rw [delL_pos]; simp)
  have HLT := Lib.hid (fun h => hasL_lt (L := L) (k := key) h)
  generalize posL L key = n at *
  generalize hasL L key = b at *
  cases b with
  | false =>
    simp only [Bool.false_eq_true, if_false] at HL
    have f1 := HR2.out.b1.free
    have d0 := HR2.out.b1.cell 0 _ rfl
    have d1 := HR2.out.b1.cell 1 _ rfl
    have hz5 := HR2.out.b1.lt
    have hz6 := HR2.out.b0.lt
    go_wp2_with fail
    have hend := rdel_end HR2.out
    have e0 := hend.2.2.cell 0 _ rfl
    have e1 := hend.2.2.cell 1 _ rfl
    exact bodyPost_ret (v := .tuple #[.agg #[.int .i64 o, .slice (some ⟨g, 0, none⟩) L.length c], .bool false]) (by simp [results, Try.results27, go_sem, e0, e1]) rfl ⟨_, rfl, by rw [HL.out]; exact hend.1, hend.2.1, fun k hk => .inl hk⟩
  | true =>
    simp only [if_true] at HL
    have hlt := HLT.out rfl
    have hnc : n ≤ c := by omega
    have hw : IntKind.i64.wrap ((n : Int) + 1) = ((n + 1 : Nat) : Int) := by rw [IntKind.wrap_i64]; omega
    go_wp2_with (with_reducible refine wpList_appP 18 22 B (.slice none 0 0) (.slice (some ⟨g, 0, none⟩) n c) [] (L.take n) _ _ _ _ _ ?_ ?_ ?_ ?_)
    · exact World.ownsRow_nil _ _ _ _
    · exact src_take HR2.out.pr hp
    · exact ⟨rfl, rfl, by simp, by rw [List.length_take]; omega, HR2.out.sz⟩
    intro v2 W4 hr2 hb2
    obtain ⟨a2, c2, rfl, hac2⟩ := own_form hr2
    have hm2 : ([] ++ L.take n).length = n := by simp; omega
    rw [hm2] at hr2 hac2
    rw [hm2]
    have HR4 := Lib.hid (HR2.out.next hb2)
    have HO4 := Lib.hid hr2
    clear hr2 hb2 HR2 c0 c1
    have c0 := HR4.out.b0.cell 0 _ rfl
    have c1 := HR4.out.b0.cell 1 _ rfl
    go_wp2_with (with_reducible refine wpList_dropP 26 28 (n + 1) _ L _ _ _ _ _ HR4.out.pr ?_ ?_)
    · exact ⟨rfl, rfl, by omega⟩
    intro sv hsv
    have HS := Lib.hid hsv
    clear hsv
    go_wp2_with (with_reducible refine wpList_appP 24 29 B (.slice a2 n c2) sv ([] ++ L.take n) (L.drop (n + 1)) _ _ _ _ _ (by rw [hm2]; exact HO4.out) ?_ ?_ ?_)
    · exact HS.out
    · exact ⟨rfl, rfl, by rw [hm2]; omega, by rw [List.length_drop]; omega, HR4.out.sz⟩
    intro v3 W5 hr3 hb3
    have HR5 := Lib.hid (HR4.out.next hb3)
    obtain ⟨a3, c3, rfl, _⟩ := own_form hr3
    rw [← HL.out] at hr3
    obtain ⟨m3, hm3⟩ : ∃ m3, m3 = (([] ++ L.take n) ++ L.drop (n + 1)).length := ⟨_, rfl⟩
    rw [← HL.out] at hm3 ⊢
    rw [← hm3] at hr3
    rw [← hm3]
    have HO5 := Lib.hid (And.intro hr3 hm3)
    clear hr3 hb3 HR4 HO4 c0 c1 hm3
    have c0 := HR5.out.b0.cell 0 _ rfl
    have c1 := HR5.out.b0.cell 1 _ rfl
    have f0 := HR5.out.b0.free
    have f1 := HR5.out.b1.free
    have d0 := HR5.out.b1.cell 0 _ rfl
    have d1 := HR5.out.b1.cell 1 _ rfl
    have hz5 := HR5.out.b1.lt
    have hz6 := HR5.out.b0.lt
    go_wp2_with fail
    have hend := rput_end HR5.out HO5.out.1 HO5.out.2
    have e0 := hend.2.2.cell 0 _ rfl
    have e1 := hend.2.2.cell 1 _ rfl
    exact bodyPost_ret (v := .tuple #[.agg #[.int .i64 o, .slice a3 m3 c3], .bool true]) (by simp [results, Try.results27, go_sem, e0, e1]) rfl ⟨_, rfl, hend.1, hend.2.1, fun k hk => .inr (by have := (HO5.out.1.lt k hk).1; have := HR5.out.lt; have := HR5.out.ge; omega)⟩
set_option maxRecDepth 100000 in
set_option maxHeartbeats 1600000 in
theorem rDel_nil (o : Int) (L : List Pr) (key : Bs) (w : World) (hL : L = []) (hv : PrAt w (.slice none 0 0) L) :
    Calls Try.prog 27 #[.agg #[.int .i64 o, .slice none 0 0], .string key] w (RPutOut o (.slice none 0 0) (delL L key) (hasL L key) w) := by
  have HR := Lib.hid (PW.start (o := o) hv)
  obtain ⟨N, hN⟩ : ∃ N, N = w.heap.size := ⟨_, rfl⟩
  have hl : L.length ≤ 5000 := by rw [hL]; simp
  have HL0 := Lib.hid (show L.length = 0 by rw [hL]; rfl)
  clear hv hL
  go_enter Try.func27, Try.ntmps27
  go_wp2_with fail
  rw [← hN] at HR
  refine (place_any o (.slice none 0 0) L key _ HR.out.pr hl).mono ?_
  rw [← hN]
  clear hN
  generalize (w.alloc _).alloc _ = W1 at HR ⊢
  rintro e W2 ⟨rfl, hb⟩
  have HR2 := Lib.hid ((HR.out.up HR.out.sz (Nat.le_refl _)).next hb)
  generalize W1.heap.size = B at HR2
  clear hb HR
  have c0 := HR2.out.b0.cell 0 _ rfl
  have c1 := HR2.out.b0.cell 1 _ rfl
  have hp := posL_le L key
  have HL := Lib.hid (show delL L key = if hasL L key = true then (([] ++ L.take (posL L key)) ++ L.drop (posL L key + 1)) else L by rw [delL_pos]; simp)
  have HLT := Lib.hid (fun h => hasL_lt (L := L) (k := key) h)
  generalize posL L key = n at *
  generalize hasL L key = b at *
  cases b with
  | false =>
    simp only [Bool.false_eq_true, if_false] at HL
    have f1 := HR2.out.b1.free
    have d0 := HR2.out.b1.cell 0 _ rfl
    have d1 := HR2.out.b1.cell 1 _ rfl
    have hz5 := HR2.out.b1.lt
    have hz6 := HR2.out.b0.lt
    go_wp2_with fail
    have hend := rdel_end HR2.out
    have e0 := hend.2.2.cell 0 _ rfl
    have e1 := hend.2.2.cell 1 _ rfl
    exact bodyPost_ret (v := .tuple #[.agg #[.int .i64 o, .slice none 0 0], .bool false]) (by simp [results, Try.results27, go_sem, e0, e1]) rfl ⟨_, rfl, by rw [HL.out]; exact hend.1, hend.2.1, fun k hk => .inl hk⟩
  | true =>
    simp only [if_true] at HL
    have hlt := HLT.out rfl
    exact absurd hlt (by have := HL0.out; omega)
theorem rPut_any (o : Int) (v : Value) (L : List Pr) (key val : Bs) (w : World) (hv : PrAt w v L) (hl : L.length ≤ 5000) :
    Calls Try.prog 26 #[.agg #[.int .i64 o, v], .string key, .string val] w (RPutOut o v (putL L key val) (!(hasL L key)) w) := by
  have hv2 := hv
  rcases hv with ⟨rfl, hL⟩ | ⟨g, c, rfl, h1, h2, h3, h4⟩
  · exact rPut_nil o L key val w hL hv2
  · exact rPut_some o g c L key val w hv2 hl h1 h2
theorem rDel_any (o : Int) (v : Value) (L : List Pr) (key : Bs) (w : World) (hv : PrAt w v L) (hl : L.length ≤ 5000) :
    Calls Try.prog 27 #[.agg #[.int .i64 o, v], .string key] w (RPutOut o v (delL L key) (hasL L key) w) := by
  have hv2 := hv
  rcases hv with ⟨rfl, hL⟩ | ⟨g, c, rfl, h1, h2, h3, h4⟩
  · exact rDel_nil o L key w hL hv2
  · exact rDel_some o g c L key w hv2 hl h1 h2
end Go.Proofs.Ytegljepgncicjaa
/- Btree: the reference's Scan. -/
namespace Go.Proofs.Ytegljepgncicjaa
open Go.ChangeShapes Go.WideShapes Go.ChangeAt Go.RowKit Go.Deep Go.Shelf
set_option linter.unusedVariables false
set_option linter.unusedSimpArgs false
theorem dirL_len (back : Bool) (L : List Pr) : (dirL back L).length = L.length := by unfold dirL; split <;> simp
theorem dirL_at (back : Bool) (L : List Pr) (k : Nat) (h : k < L.length) : (dirL back L)[k]'(by rw [dirL_len]; exact h) = if back = true then L[L.length - 1 - k]'(by omega) else L[k] := by
  cases back with
  | true =>
    show L.reverse[k]'(by simp; exact h) = _
    rw [List.getElem_reverse]
    simp
  | false => rfl
theorem scan_step (lo hi : Bs) (D : List Pr) (k : Nat) (h : k < D.length) (f : Pr → Bool) : (D.take (k + 1)).filter f = (D.take k).filter f ++ (if f D[k] = true then [D[k]] else []) := by
  rw [List.take_succ_eq_append_getElem h, List.filter_append]
  congr 1
  cases hf : f D[k] <;> simp [hf]
structure SW (w : World) (N : Nat) (o : Int) (v : Value) (L : List Pr) (B : Nat) (W : World) : Prop where
  b0 : Box W N [.int .i64 o, v]
  pr : PrAt W v L
  lt : N < B
  vb : ∀ k, v.ownBlock = some k → k < B
  sz : B ≤ W.heap.size
  b : Below w.heap.size w W
theorem SW.next {w W W' : World} {N B : Nat} {o : Int} {v : Value} {L : List Pr} (h : SW w N o v L B W) (hb : Below B W W') (hw : w.heap.size ≤ B) : SW w N o v L B W' :=
  ⟨h.b0.far hb h.lt, h.pr.below' hb h.vb, h.lt, h.vb, Nat.le_trans h.sz hb.size, h.b.trans (hb.mono hw)⟩
theorem SW.start {w : World} {o : Int} {v : Value} {L : List Pr} (h : PrAt w v L) : SW w w.heap.size o v L (w.heap.size + 1) (w.alloc (.cells #[.int .i64 o, v] 30)) := by
  have hb1 : Below w.heap.size w (w.alloc (.cells #[.int .i64 o, v] 30)) := (Below.refl _ w).alloc (Nat.le_refl _) _
  exact ⟨Box.new w [.int .i64 o, v] 30, h.below hb1, by omega, fun k hk => by have := h.own_lt k hk; omega, by simp, hb1⟩
def RScanOut (L : List Pr) (w : World) (e : Ending) (W' : World) : Prop := ∃ v, e = .returned v ∧ PrAt W' v L ∧ Below w.heap.size w W'
set_option maxRecDepth 100000 in
set_option maxHeartbeats 1600000 in
theorem rScan_some (o : Int) (g c : Nat) (L : List Pr) (lo hi : Bs) (back : Bool) (w : World) (hv : PrAt w (.slice (some ⟨g, 0, none⟩) L.length c) L) (hl : L.length ≤ 5000) :
    Calls Try.prog 17 #[.agg #[.int .i64 o, .slice (some ⟨g, 0, none⟩) L.length c], .string lo, .string hi, .bool back] w (RScanOut (scanL lo hi back L) w) := by
  have HR := Lib.hid (SW.start (o := o) hv)
  have HN := Lib.hid (show w.heap.size ≤ w.heap.size + 1 by omega)
  obtain ⟨N, hN⟩ : ∃ N, N = w.heap.size := ⟨_, rfl⟩
  clear hv
  go_enter Try.func17, Try.ntmps17
  go_wp2_with fail
  rw [← hN] at HR
  rw [← hN]
  rw [show w.heap.size + 1 = N + 1 by rw [hN]] at HN
  obtain ⟨B, hB⟩ : ∃ B, B = N + 1 := ⟨_, rfl⟩
  rw [← hB] at HR HN
  clear hN hB
  generalize w.alloc _ = W1 at HR ⊢
  go_loopw [9, 10] (fun out i wr => ∃ k : Nat, k ≤ L.length ∧ i = .int .i64 k ∧ SW w N o (.slice (some ⟨g, 0, none⟩) L.length c) L B wr ∧ wr.ownsRow B 59 2 out (((dirL back L).take k).filter (inU lo hi (bdOf hi))).length (prv (((dirL back L).take k).filter (inU lo hi (bdOf hi))))) (fun _ i _ => L.length - (intOf i).toNat)
  case atStart => exact ⟨0, Nat.zero_le _, rfl, HR.out, World.ownsRow_nil _ _ _ _⟩
  case round =>
    clear HR
    obtain ⟨k, hk, rfl, hsw, hown⟩ := hrel
    have HR := Lib.hid hsw
    have HO := Lib.hid hown
    clear hsw hown
    have c1 := HR.out.b0.cell 1 _ rfl
    by_cases hlt : k < L.length
    · obtain ⟨g', c', hg, _, _, hgl, hcell⟩ := HR.out.pr.get (by omega)
      cases hg
      have hgn : g ≠ wr.heap.size := Nat.ne_of_lt hgl
      have hNl : N < wr.heap.size := HR.out.b0.lt
      have hNn : N ≠ wr.heap.size := Nat.ne_of_lt hNl
      have a0 := (hcell k hlt).1
      have a1 := (hcell k hlt).2
      cases back with
      | false =>
        have HST0 := Lib.hid (scan_step lo hi (dirL false L) k (by rw [dirL_len]; exact hlt) (inU lo hi (bdOf hi)))
        have hx : (dirL false L)[k]'(by rw [dirL_len]; exact hlt) = L[k] := dirL_at false L k hlt
        rw [hx] at HST0
        clear hcell hx
        generalize L[k] = x at a0 a1 HST0
        cases h1 : Op.bytesLess (ByteArray.toList x.1) (ByteArray.toList lo)
        rotate_left
        · have HST := Lib.hid (show ((dirL false L).take (k + 1)).filter (inU lo hi (bdOf hi)) = ((dirL false L).take k).filter (inU lo hi (bdOf hi)) ++ [] by rw [HST0.out]; simp [inU, lB, h1, bdOf])
          go_wp2_with fail
          go_roundw
          case rel =>
            refine ⟨k + 1, by omega, by go_num, HR.out.next (((Below.refl B wr).alloc HR.out.sz _)) HN.out, ?_⟩
            rw [HST.out, List.append_nil]
            exact HO.out.alloc _
          case measure => simp [intOf]; omega
        · cases h2 : (ByteArray.toList hi).isEmpty with
          | true =>
            have HST := Lib.hid (show ((dirL false L).take (k + 1)).filter (inU lo hi (bdOf hi)) = ((dirL false L).take k).filter (inU lo hi (bdOf hi)) ++ [x] by rw [HST0.out]; simp [inU, lB, h1, bdOf, h2])
            have h4 : ((ByteArray.toList hi) == []) = true := by rw [List.isEmpty_iff.1 h2]; rfl
            go_wp2_with (with_reducible refine wpList_appP 49 51 B u9 (.slice (some ⟨wr.heap.size + 1, 0, none⟩) 1 1) (((dirL false L).take k).filter (inU lo hi (bdOf hi))) [x] _ _ _ _ _ ?_ ?_ ?_ ?_)
            · exact (HO.out.alloc _).alloc _
            · have := src_new (wr.alloc (.cells #[.string x.1, .string x.2] 59)) x.1 x.2 59
              rw [World.size_alloc] at this
              exact this
            · refine ⟨rfl, rfl, ?_, by simp, by have := HR.out.sz; simp; omega⟩
              refine Nat.le_trans (List.length_filter_le ..) ?_
              rw [List.length_take]; omega
            intro v' w' hr' hb'
            have HR' := Lib.hid (HR.out.next (((((Below.refl B wr).alloc HR.out.sz _).alloc (by have := HR.out.sz; simp; omega) _)).trans hb') HN.out)
            have HO' := Lib.hid hr'
            clear hr' hb'
            go_wp2_with fail
            go_roundw
            case rel =>
              refine ⟨k + 1, by omega, by go_num, HR'.out, ?_⟩
              rw [HST.out]
              exact HO'.out
            case measure => simp [intOf]; omega
          | false =>
            have h4 : ((ByteArray.toList hi) == []) = false := by
              cases hh : ByteArray.toList hi with
              | nil => rw [hh] at h2; cases h2
              | cons a b => rfl
            cases h3 : Op.bytesLess (ByteArray.toList x.1) (ByteArray.toList hi) with
            | true =>
              have HST := Lib.hid (show ((dirL false L).take (k + 1)).filter (inU lo hi (bdOf hi)) = ((dirL false L).take k).filter (inU lo hi (bdOf hi)) ++ [x] by rw [HST0.out]; simp [inU, lB, h1, bdOf, h2, h3])
              go_wp2_with (with_reducible refine wpList_appP 49 51 B u9 (.slice (some ⟨wr.heap.size + 1, 0, none⟩) 1 1) (((dirL false L).take k).filter (inU lo hi (bdOf hi))) [x] _ _ _ _ _ ?_ ?_ ?_ ?_)
              · exact (HO.out.alloc _).alloc _
              · have := src_new (wr.alloc (.cells #[.string x.1, .string x.2] 59)) x.1 x.2 59
                rw [World.size_alloc] at this
                exact this
              · refine ⟨rfl, rfl, ?_, by simp, by have := HR.out.sz; simp; omega⟩
                refine Nat.le_trans (List.length_filter_le ..) ?_
                rw [List.length_take]; omega
              intro v' w' hr' hb'
              have HR' := Lib.hid (HR.out.next (((((Below.refl B wr).alloc HR.out.sz _).alloc (by have := HR.out.sz; simp; omega) _)).trans hb') HN.out)
              have HO' := Lib.hid hr'
              clear hr' hb'
              go_wp2_with fail
              go_roundw
              case rel =>
                refine ⟨k + 1, by omega, by go_num, HR'.out, ?_⟩
                rw [HST.out]
                exact HO'.out
              case measure => simp [intOf]; omega
            | false =>
              have HST := Lib.hid (show ((dirL false L).take (k + 1)).filter (inU lo hi (bdOf hi)) = ((dirL false L).take k).filter (inU lo hi (bdOf hi)) ++ [] by rw [HST0.out]; simp [inU, lB, h1, bdOf, h2, h3])
              go_wp2_with fail
              go_roundw
              case rel =>
                refine ⟨k + 1, by omega, by go_num, HR.out.next (((Below.refl B wr).alloc HR.out.sz _)) HN.out, ?_⟩
                rw [HST.out, List.append_nil]
                exact HO.out.alloc _
              case measure => simp [intOf]; omega
      | true =>
        have HST0 := Lib.hid (scan_step lo hi (dirL true L) k (by rw [dirL_len]; exact hlt) (inU lo hi (bdOf hi)))
        have hx : (dirL true L)[k]'(by rw [dirL_len]; exact hlt) = L[L.length - 1 - k]'(by omega) := dirL_at true L k hlt
        rw [hx] at HST0
        have d0 := (hcell (L.length - 1 - k) (by omega)).1
        have d1 := (hcell (L.length - 1 - k) (by omega)).2
        have hw1 : IntKind.i64.wrap ((L.length : Int) - 1) = ((L.length - 1 : Nat) : Int) := by rw [IntKind.wrap_i64]; omega
        have hw2 : IntKind.i64.wrap (((L.length - 1 : Nat) : Int) - (k : Int)) = ((L.length - 1 - k : Nat) : Int) := by rw [IntKind.wrap_i64]; omega
        have hjl : L.length - 1 - k < L.length := by omega
        clear hcell hx
        generalize L[L.length - 1 - k] = x at d0 d1 HST0
        generalize L[k] = y at a0 a1
        generalize L.length - 1 - k = j at d0 d1 hw2 hjl
        cases h1 : Op.bytesLess (ByteArray.toList x.1) (ByteArray.toList lo)
        rotate_left
        · have HST := Lib.hid (show ((dirL true L).take (k + 1)).filter (inU lo hi (bdOf hi)) = ((dirL true L).take k).filter (inU lo hi (bdOf hi)) ++ [] by rw [HST0.out]; simp [inU, lB, h1, bdOf])
          go_wp2_with fail
          go_roundw
          case rel =>
            refine ⟨k + 1, by omega, by go_num, HR.out.next (((Below.refl B wr).alloc HR.out.sz _)) HN.out, ?_⟩
            rw [HST.out, List.append_nil]
            exact HO.out.alloc _
          case measure => simp [intOf]; omega
        · cases h2 : (ByteArray.toList hi).isEmpty with
          | true =>
            have HST := Lib.hid (show ((dirL true L).take (k + 1)).filter (inU lo hi (bdOf hi)) = ((dirL true L).take k).filter (inU lo hi (bdOf hi)) ++ [x] by rw [HST0.out]; simp [inU, lB, h1, bdOf, h2])
            have h4 : ((ByteArray.toList hi) == []) = true := by rw [List.isEmpty_iff.1 h2]; rfl
            go_wp2_with (with_reducible refine wpList_appP 49 51 B u9 (.slice (some ⟨wr.heap.size + 1, 0, none⟩) 1 1) (((dirL true L).take k).filter (inU lo hi (bdOf hi))) [x] _ _ _ _ _ ?_ ?_ ?_ ?_)
            · exact (HO.out.alloc _).alloc _
            · have := src_new (wr.alloc (.cells #[.string x.1, .string x.2] 59)) x.1 x.2 59
              rw [World.size_alloc] at this
              exact this
            · refine ⟨rfl, rfl, ?_, by simp, by have := HR.out.sz; simp; omega⟩
              refine Nat.le_trans (List.length_filter_le ..) ?_
              rw [List.length_take]; omega
            intro v' w' hr' hb'
            have HR' := Lib.hid (HR.out.next (((((Below.refl B wr).alloc HR.out.sz _).alloc (by have := HR.out.sz; simp; omega) _)).trans hb') HN.out)
            have HO' := Lib.hid hr'
            clear hr' hb'
            go_wp2_with fail
            go_roundw
            case rel =>
              refine ⟨k + 1, by omega, by go_num, HR'.out, ?_⟩
              rw [HST.out]
              exact HO'.out
            case measure => simp [intOf]; omega
          | false =>
            have h4 : ((ByteArray.toList hi) == []) = false := by
              cases hh : ByteArray.toList hi with
              | nil => rw [hh] at h2; cases h2
              | cons a b => rfl
            cases h3 : Op.bytesLess (ByteArray.toList x.1) (ByteArray.toList hi) with
            | true =>
              have HST := Lib.hid (show ((dirL true L).take (k + 1)).filter (inU lo hi (bdOf hi)) = ((dirL true L).take k).filter (inU lo hi (bdOf hi)) ++ [x] by rw [HST0.out]; simp [inU, lB, h1, bdOf, h2, h3])
              go_wp2_with (with_reducible refine wpList_appP 49 51 B u9 (.slice (some ⟨wr.heap.size + 1, 0, none⟩) 1 1) (((dirL true L).take k).filter (inU lo hi (bdOf hi))) [x] _ _ _ _ _ ?_ ?_ ?_ ?_)
              · exact (HO.out.alloc _).alloc _
              · have := src_new (wr.alloc (.cells #[.string x.1, .string x.2] 59)) x.1 x.2 59
                rw [World.size_alloc] at this
                exact this
              · refine ⟨rfl, rfl, ?_, by simp, by have := HR.out.sz; simp; omega⟩
                refine Nat.le_trans (List.length_filter_le ..) ?_
                rw [List.length_take]; omega
              intro v' w' hr' hb'
              have HR' := Lib.hid (HR.out.next (((((Below.refl B wr).alloc HR.out.sz _).alloc (by have := HR.out.sz; simp; omega) _)).trans hb') HN.out)
              have HO' := Lib.hid hr'
              clear hr' hb'
              go_wp2_with fail
              go_roundw
              case rel =>
                refine ⟨k + 1, by omega, by go_num, HR'.out, ?_⟩
                rw [HST.out]
                exact HO'.out
              case measure => simp [intOf]; omega
            | false =>
              have HST := Lib.hid (show ((dirL true L).take (k + 1)).filter (inU lo hi (bdOf hi)) = ((dirL true L).take k).filter (inU lo hi (bdOf hi)) ++ [] by rw [HST0.out]; simp [inU, lB, h1, bdOf, h2, h3])
              go_wp2_with fail
              go_roundw
              case rel =>
                refine ⟨k + 1, by omega, by go_num, HR.out.next (((Below.refl B wr).alloc HR.out.sz _)) HN.out, ?_⟩
                rw [HST.out, List.append_nil]
                exact HO.out.alloc _
              case measure => simp [intOf]; omega
    · have hkl : k = L.length := by omega
      subst hkl
      have HS := Lib.hid (show ((dirL back L).take L.length).filter (inU lo hi (bdOf hi)) = scanL lo hi back L by rw [List.take_of_length_le (by rw [dirL_len]; exact Nat.le_refl _)]; rfl)
      go_wp2_with fail
      go_ret
      refine ⟨_, rfl, ?_, HR.out.b⟩
      have := HO.out
      rw [HS.out] at this
      exact PrAt.of_own rfl this
theorem rScan_any (o : Int) (v : Value) (L : List Pr) (lo hi : Bs) (back : Bool) (w : World) (hv : PrAt w v L) (hl : L.length ≤ 5000) :
    Calls Try.prog 17 #[.agg #[.int .i64 o, v], .string lo, .string hi, .bool back] w (RScanOut (scanL lo hi back L) w) := by
  have hv2 := hv
  rcases hv with ⟨rfl, hL⟩ | ⟨g, c, rfl, h1, h2, h3, h4⟩
  · have HR := Lib.hid (SW.start (o := o) hv2)
    have hs : scanL lo hi back L = [] := by rw [hL]; unfold scanL dirL; cases back <;> rfl
    rw [hs]
    clear hv2 hL hs
    go_enter Try.func17, Try.ntmps17
    go_wp2_with fail
    refine wp_loop_rounds 1 ?_
    rw [rounds_succ]
    go_wp2_with fail
    go_ret
    exact ⟨_, rfl, .inl ⟨rfl, rfl⟩, HR.out.b⟩
  · exact rScan_some o g c L lo hi back w hv2 hl
end Go.Proofs.Ytegljepgncicjaa
/- Btree: New; filled. -/
namespace Go.Proofs.Ytegljepgncicjaa
open Go.ChangeShapes Go.WideShapes Go.ChangeAt Go.RowKit Go.Deep Go.Shelf
set_option linter.unusedVariables false
set_option linter.unusedSimpArgs false
theorem New_ok (o : Nat) (h4 : 4 ≤ o) (h6 : o ≤ 256) (W : World) :
    Calls Try.prog 10 #[.int .i64 o] W fun e W' => e = .returned (.tuple #[.pointer (some ⟨W.heap.size, 0, none⟩), .int .i64 0]) ∧ W' = W.alloc (.cells #[.int .i64 o, .int .i64 0, .pointer none] 68) := by
  have d1 : decide ((o : Int) < 4) = false := decide_eq_false (by omega)
  have d2 : decide ((256 : Int) < o) = false := decide_eq_false (by omega)
  go_enter Try.func10, Try.ntmps10
  go_wp2_with fail
  go_ret2
  exact ⟨rfl, rfl⟩
theorem New_no (o : Int) (h : o < 4 ∨ 256 < o) (W : World) :
    Calls Try.prog 10 #[.int .i64 o] W fun e W' => e = .returned (.tuple #[.pointer none, .int .i64 1]) ∧ W' = W := by
  by_cases h1 : o < 4
  · have d1 : decide (o < 4) = true := decide_eq_true h1
    go_enter Try.func10, Try.ntmps10
    go_wp2_with fail
    go_ret2
    exact ⟨rfl, rfl⟩
  · have d1 : decide (o < 4) = false := decide_eq_false h1
    have d2 : decide (256 < o) = true := decide_eq_true (by omega)
    go_enter Try.func10, Try.ntmps10
    go_wp2_with fail
    go_ret2
    exact ⟨rfl, rfl⟩
theorem tr_new (o : Nat) (h4 : 4 ≤ o) (h6 : o ≤ 256) (W : World) : Tr (W.alloc (.cells #[.int .i64 o, .int .i64 0, .pointer none] 68)) W.heap.size o [] (fun k => k = W.heap.size) :=
  ⟨none, ⟨fun _ => none, fun _ => none⟩, fun _ _ => .bool false, fun k => (k, 9), ⟨Box.new W [.int .i64 o, .int .i64 0, .pointer none] 68, fun N nd hN => (by cases hN), fun k ⟨N, nd, hN, _⟩ => (by cases hN), rfl, fun k hk => by rw [hk]; simp, List.Pairwise.nil, rfl, h4, h6⟩⟩
/-- a slice of strings that came in -/
def KeysArg (w : World) (v : Value) (xs : List Bs) : Prop :=
  ∃ a c, v = .slice a xs.length c ∧ (0 < xs.length → ∃ B o, a = some ⟨B, o, none⟩ ∧ B < w.heap.size ∧ ∀ j, j < xs.length → w.cell? ⟨B, o + j, none⟩ = some (.string (sx xs j)))
theorem KeysArg.below {w w' : World} {v : Value} {xs : List Bs} (h : KeysArg w v xs) (hb : Below w.heap.size w w') : KeysArg w' v xs := by
  obtain ⟨a, c, rfl, h⟩ := h
  refine ⟨a, c, rfl, fun h0 => ?_⟩
  obtain ⟨B, o, h1, h2, h3⟩ := h h0
  exact ⟨B, o, h1, Nat.lt_of_lt_of_le h2 hb.size, fun j hj => (hb.cell (p := ⟨B, o + j, none⟩) h2).trans (h3 j hj)⟩
/-- a tree that holds L and a boxed tree of the reference that holds M -/
structure FB (w0 : World) (T R o : Nat) (L M : List Pr) (Y : Nat → Prop) (v : Value) (W : World) : Prop where
  tr : Tr W T o L Y
  pr : PrAt W v M
  bx : Box W R [.int .i64 o, v]
  vy : ∀ k, v.ownBlock = some k → ¬ Y k
  ry : ¬ Y R
  y0 : ∀ k, Y k → w0.heap.size ≤ k
  r0 : w0.heap.size ≤ R
  vr : ∀ k, v.ownBlock = some k → k ≠ R
  v0 : ∀ k, v.ownBlock = some k → w0.heap.size ≤ k
  b : Below w0.heap.size w0 W
section
variable {w0 W W1 : World} {T R o : Nat} {L M : List Pr} {Y : Nat → Prop} {v : Value}
theorem FB.kept {S : Nat → Prop} (h : FB w0 T R o L M Y v W) (hk : Kept S W W1) (h1 : ∀ k, Y k → ¬ S k) (h2 : ∀ k, v.ownBlock = some k → ¬ S k) (h3 : ¬ S R) (h4 : ∀ k, S k → w0.heap.size ≤ k) : FB w0 T R o L M Y v W1 :=
  ⟨h.tr.kept hk h1, h.pr.kept hk h2, h.bx.kept hk h3, h.vy, h.ry, h.y0, h.r0, h.vr, h.v0, h.b.trans (hk.below h.b.size h4)⟩
theorem FB.below (h : FB w0 T R o L M Y v W) (hb : Below W.heap.size W W1) : FB w0 T R o L M Y v W1 := by
  have hk : Kept (fun k => ¬ k < W.heap.size) W W1 := ⟨hb.os, hb.tape, hb.output, hb.size, fun k hk _ => hb.block k hk⟩
  exact h.kept hk (fun k hy hs => hs (h.tr.yl k hy)) (fun k hk hs => hs (h.pr.own_lt k hk)) (fun hs => hs h.bx.lt) (fun k hs => Nat.le_trans h.b.size (Nat.le_of_not_lt hs))
theorem FB.cast {L' : List Pr} (h : FB w0 T R o L L Y v W) (e : L' = L) : FB w0 T R o L' L' Y v W := by subst e; exact h
theorem FB.drew (h : FB w0 T R o L M Y v W) : FB w0 T R o L M Y v W.drew := h.below ⟨rfl, rfl, rfl, Nat.le_refl _, fun _ _ => rfl⟩
theorem FB.drewN (h : FB w0 T R o L M Y v W) (q : Nat) : FB w0 T R o L M Y v (W.drewN q) := h.below ⟨rfl, rfl, rfl, Nat.le_refl _, fun _ _ => rfl⟩
/-- the tree has been worked on -/
theorem FB.tree {L' : List Pr} (h : FB w0 T R o L M Y v W) (ht : Tr W1 T o L' (GrowY Y W W1)) (hk : Kept Y W W1) : FB w0 T R o L' M (GrowY Y W W1) v W1 := by
  refine ⟨ht, h.pr.kept hk h.vy, h.bx.kept hk h.ry, fun k hk2 hy => ?_, fun hy => ?_, fun k hy => ?_, h.r0, h.vr, h.v0, h.b.trans (hk.below h.b.size h.y0)⟩
  · rcases hy with hy | hy
    · exact h.vy k hk2 hy
    · have := h.pr.own_lt k hk2; omega
  · rcases hy with hy | hy
    · exact h.ry hy
    · have := h.bx.lt; omega
  · rcases hy with hy | hy
    · exact h.y0 k hy
    · have := h.b.size; omega
/-- the reference's tree has been worked on and is stored again -/
theorem FB.ref {M' : List Pr} {a : Option Addr} {n c : Nat} (h : FB w0 T R o L M Y v W) (hb : Below W.heap.size W W1) (hp : PrAt W1 (.slice a n c) M') (hf : ∀ k, (Value.slice a n c).ownBlock = some k → v.ownBlock = some k ∨ W.heap.size ≤ k) :
    FB w0 T R o L M' Y (.slice a n c) ((W1.setCell ⟨R, 0, none⟩ (.int .i64 o)).setCell ⟨R, 1, none⟩ (.slice a n c)) := by
  have h1 := h.below hb
  have hk : Kept (fun k => k = R) W1 ((W1.setCell ⟨R, 0, none⟩ (.int .i64 o)).setCell ⟨R, 1, none⟩ (.slice a n c)) := (Kept.refl (fun k => k = R) _).setCells R 0 [.int .i64 o, .slice a n c] (.inl rfl)
  have hvr : ∀ k, (Value.slice a n c).ownBlock = some k → k ≠ R := fun k hk => by
    rcases hf k hk with h2 | h2
    · exact h.vr k h2
    · have := h.bx.lt; omega
  refine ⟨h1.tr.kept hk (fun k hy e => h.ry (by rw [← e]; exact hy)), hp.kept hk hvr, (h1.bx.setCell 0 (.int .i64 o) (by simp)).setCell 1 (.slice a n c) (by simp), fun k hk hy => ?_, h.ry, h.y0, h.r0, hvr, fun k hk => (hf k hk).elim (h.v0 k) (fun h2 => Nat.le_trans h.b.size h2), h1.b.trans (hk.below h1.b.size (fun k e => by rw [e]; exact h.r0))⟩
  rcases hf k hk with h2 | h2
  · exact h.vy k h2 hy
  · have := h.tr.yl k hy; omega
end
/-- the pairs after n steps of filled -/
def fillL (ks : List Bs) : Nat → List Pr
  | 0 => []
  | i + 1 => putL (fillL ks i) (sx ks i) (sx ks (ks.length - 1 - i))
theorem putL_len1 (L : List Pr) (k v : Bs) : (putL L k v).length ≤ L.length + 1 := by
  rw [putL_len]; split <;> omega
theorem fillL_len (ks : List Bs) : ∀ n, (fillL ks n).length ≤ n
  | 0 => by simp [fillL]
  | n + 1 => by
    have := fillL_len ks n
    have := putL_len1 (fillL ks n) (sx ks n) (sx ks (ks.length - 1 - n))
    unfold fillL
    omega
def FilledOut (w0 : World) (o : Nat) (L : List Pr) (e : Ending) (W' : World) : Prop :=
  ∃ T v Y, e = .returned (.tuple #[.pointer (some ⟨T, 0, none⟩), .agg #[.int .i64 o, v]]) ∧ Tr W' T o L Y ∧ PrAt W' v L ∧ (∀ k, v.ownBlock = some k → ¬ Y k ∧ w0.heap.size ≤ k) ∧ (∀ k, Y k → w0.heap.size ≤ k) ∧ Below w0.heap.size w0 W'
set_option maxRecDepth 100000 in
set_option maxHeartbeats 1600000 in
theorem filled_any (o : Nat) (h4 : 4 ≤ o) (h6 : o ≤ 256) (kv : Value) (ks : List Bs) (w0 : World) (hk : KeysArg w0 kv ks) (hl : ks.length ≤ 400) :
    Calls Try.prog 16 #[.int .i64 o, kv] w0 (FilledOut w0 o (fillL ks ks.length)) := by
  obtain ⟨ka, kc, rfl, hkc⟩ := hk
  have HK := Lib.hid hkc
  clear hkc
  go_enter Try.func16, Try.ntmps16
  go_wp2_with fail
  refine (New_ok o h4 h6 _).mono ?_
  rintro e w1 ⟨rfl, hw⟩
  obtain rfl := hw.symm
  have HK0 := Lib.hid (show ∀ w' : World, Below w0.heap.size w0 w' → 0 < ks.length → ∃ B o, ka = some ⟨B, o, none⟩ ∧ B < w0.heap.size ∧ ∀ j, j < ks.length → w'.cell? ⟨B, o + j, none⟩ = some (.string (sx ks j)) from fun w' hb h0 => by
    obtain ⟨B, o, h1, h2, h3⟩ := HK.out h0
    exact ⟨B, o, h1, h2, fun j hj => (hb.cell (p := ⟨B, o + j, none⟩) h2).trans (h3 j hj)⟩)
  clear HK
  have hF0 := Box.new w0 [.int .i64 0, .slice none 0 0] 30
  have hB0 : Below w0.heap.size w0 (w0.alloc (.cells #[.int .i64 0, .slice none 0 0] 30)) := (Below.refl _ w0).alloc (Nat.le_refl _) _
  have hFz : (w0.alloc (.cells #[.int .i64 0, .slice none 0 0] 30)).heap.size = w0.heap.size + 1 := by simp
  go_wp2_with fail
  have hT0 := tr_new o h4 h6 (w0.alloc (.cells #[.int .i64 0, .slice none 0 0] 30))
  rw [hFz] at hT0
  generalize w0.alloc (.cells #[.int .i64 0, .slice none 0 0] 30) = wa at *
  refine (rNew_ok o _ (by omega) (by omega)).mono ?_
  rintro e w2 ⟨rfl, hb2⟩
  go_wp2_with fail
  have hkb : Kept (fun k => ¬ k < w0.heap.size + 2) (wa.alloc (.cells #[.int .i64 o, .int .i64 0, .pointer none] 68)) w2 := ⟨hb2.os, hb2.tape, hb2.output, hb2.size, fun k hk hs => hb2.block k hk⟩
  have hw2 : w0.heap.size + 2 ≤ w2.heap.size := by have := hb2.size; rw [World.size_alloc, hFz] at this; omega
  have hT2 := (hT0.kept hkb (fun k hk hs => hs (by omega))).kept ((Kept.refl (fun _ => False) w2).alloc (.cells #[.int .i64 o, .slice none 0 0] 30)) (fun _ _ h => h)
  have hR0 := Box.new w2 [.int .i64 o, .slice none 0 0] 30
  have hbw : Below wa.heap.size wa (w2.alloc (.cells #[.int .i64 o, .slice none 0 0] 30)) := (((Below.refl _ wa).alloc (Nat.le_refl _) _).trans (hb2.mono (by simp))).alloc (by omega) _
  have hfb : FB wa (w0.heap.size + 1) w2.heap.size o [] [] (fun k => k = w0.heap.size + 1) (.slice none 0 0) (w2.alloc (.cells #[.int .i64 o, .slice none 0 0] 30)) :=
    ⟨hT2, .inl ⟨rfl, rfl⟩, hR0, fun k hk => by simp [Value.ownBlock] at hk, fun e => by omega, fun k hk => by omega, by omega, fun k hk => by simp [Value.ownBlock] at hk, fun k hk => by simp [Value.ownBlock] at hk, hbw⟩
  have HFB := Lib.hid hfb
  have HF := Lib.hid (And.intro hF0 hFz)
  clear hT0 hT2 hR0 hkb hbw hfb hb2 hw2 hF0 hFz
  generalize w2.heap.size = R at HFB ⊢
  generalize w2.alloc _ = W1 at HFB ⊢
  have HB0 := Lib.hid hB0
  clear hB0
  go_loopw [10] (fun i wr => ∃ (k : Nat) (Y : Nat → Prop) (v : Value), k ≤ ks.length ∧ i = .int .i64 k ∧ FB wa (w0.heap.size + 1) R o (fillL ks k) (fillL ks k) Y v wr) (fun i _ => ks.length - (intOf i).toNat)
  case atStart => exact ⟨0, _, _, Nat.zero_le _, rfl, HFB.out⟩
  case round =>
    clear HFB
    obtain ⟨k, Y, v, hk, rfl, hfb⟩ := hrel
    have HFB := Lib.hid hfb
    clear hfb
    have HLn := Lib.hid (fillL_len ks k)
    by_cases hlt : k < ks.length
    · obtain ⟨B, bo, rfl, hBl, hcell⟩ := HK0.out wr (HB0.out.trans (HFB.out.b.mono HB0.out.size)) (by omega)
      have HCE := Lib.hid (show ∀ w', Below wa.heap.size wa w' → w'.cell? ⟨B, bo + k, none⟩ = some (.string (sx ks k)) ∧ w'.cell? ⟨B, bo + (ks.length - 1 - k), none⟩ = some (.string (sx ks (ks.length - 1 - k))) from fun w' hb => by
        obtain ⟨B', bo', he, _, h⟩ := HK0.out w' (HB0.out.trans (hb.mono HB0.out.size)) (by omega)
        cases he
        exact ⟨h k hlt, h _ (by omega)⟩)
      have a0 := hcell k hlt
      have a1 := hcell (ks.length - 1 - k) (by omega)
      have hw1 : IntKind.i64.wrap ((ks.length : Int) - 1) = ((ks.length - 1 : Nat) : Int) := by rw [IntKind.wrap_i64]; omega
      have hw2 : IntKind.i64.wrap (((ks.length - 1 : Nat) : Int) - (k : Int)) = ((ks.length - 1 - k : Nat) : Int) := by rw [IntKind.wrap_i64]; omega
      have HST : Hid (fillL ks (k + 1) = putL (fillL ks k) (sx ks k) (sx ks (ks.length - 1 - k))) := Lib.hid rfl
      have hjl : ks.length - 1 - k < ks.length := by omega
      clear hcell hBl
      generalize sx ks k = x at *
      generalize sx ks (ks.length - 1 - k) = y at *
      generalize ks.length - 1 - k = j at *
      have HA := Lib.hid (And.intro a0 a1)
      go_wp2_with fail
      go_still_tail 13, (by kernel_rfl)
      change wpList _ _ _ _ _ wr.drew
      clear a0 a1
      go_wp2_with fail
      refine (Put_T wr.drew (w0.heap.size + 1) o (fillL ks k) Y x y HFB.out.drew.tr (by have := HLn.out; omega)).mono ?_
      rintro e W2 ⟨rfl, ht2, hk2⟩
      have HF2 := Lib.hid (HFB.out.drew.tree ht2 hk2)
      clear ht2 hk2 HFB HA
      obtain ⟨va, vc, rfl⟩ := HF2.out.pr.len
      have r0 := HF2.out.bx.cell 0 _ rfl
      have r1 := HF2.out.bx.cell 1 _ rfl
      obtain ⟨a0, a1⟩ := HCE.out W2 HF2.out.b
      go_wp2_with fail
      refine wp_region_ordW 18 13 [(0, 1), (1, 0), (2, 0), (3, 0), (4, 1), (5, 0), (6, 0), (7, 0), (8, 0), (9, 0), (10, 0), (11, 0), (12, 1), (13, 3), (14, 0), (15, 0), (16, 0), (17, 3)] (fun X => X.cell? ⟨R, 0, none⟩ = some (.int .i64 o) ∧ X.cell? ⟨R, 1, none⟩ = some (.slice va (fillL ks k).length vc) ∧ X.cell? ⟨B, bo + k, none⟩ = some (.string x) ∧ X.cell? ⟨B, bo + j, none⟩ = some (.string y)) (by kernel_rfl) (by kernel_rfl) ⟨r0, r1, a0, a1⟩ (fun c a d v w h => by cases d <;> exact h) ?_
      apply wpOrd_read1
      case hi => rfl
      case hw => rfl
      case hy => (intro w hw; obtain ⟨h1, h2, h3, h4⟩ := hw; go_simp; try rfl)
      intro K hK; go_simp; refine hK _ _ ?_; clear hK K
      apply wpOrd_read0
      case hi => rfl
      case hw => rfl
      case hy => (intro w; go_simp; try rfl)
      intro K hK; go_simp; refine hK _ _ ?_; clear hK K
      apply wpOrd_read0
      case hi => rfl
      case hw => rfl
      case hy => (intro w; go_simp; try rfl)
      intro K hK; go_simp; refine hK _ _ ?_; clear hK K
      apply wpOrd_read0
      case hi => rfl
      case hw => rfl
      case hy => (intro w; go_simp; try rfl)
      intro K hK; go_simp; refine hK _ _ ?_; clear hK K
      apply wpOrd_read1
      case hi => rfl
      case hw => rfl
      case hy => (intro w hw; obtain ⟨h1, h2, h3, h4⟩ := hw; go_simp; try rfl)
      intro K hK; go_simp; refine hK _ _ ?_; clear hK K
      apply wpOrd_read0
      case hi => rfl
      case hw => rfl
      case hy => (intro w; go_simp; try rfl)
      intro K hK; go_simp; refine hK _ _ ?_; clear hK K
      apply wpOrd_read0
      case hi => rfl
      case hw => rfl
      case hy => (intro w; go_simp; try rfl)
      intro K hK; go_simp; refine hK _ _ ?_; clear hK K
      apply wpOrd_read0
      case hi => rfl
      case hw => rfl
      case hy => (intro w; go_simp; try rfl)
      intro K hK; go_simp; refine hK _ _ ?_; clear hK K
      apply wpOrd_read0
      case hi => rfl
      case hw => rfl
      case hy => (intro w; go_simp; try rfl)
      intro K hK; go_simp; refine hK _ _ ?_; clear hK K
      apply wpOrd_read0
      case hi => rfl
      case hw => rfl
      case hy => (intro w; go_simp; try rfl)
      intro K hK; go_simp; refine hK _ _ ?_; clear hK K
      apply wpOrd_read0
      case hi => rfl
      case hw => rfl
      case hy => (intro w; go_simp; try rfl)
      intro K hK; go_simp; refine hK _ _ ?_; clear hK K
      apply wpOrd_read0
      case hi => rfl
      case hw => rfl
      case hy => (intro w; go_simp; try rfl)
      intro K hK; go_simp; refine hK _ _ ?_; clear hK K
      apply wpOrd_read1
      case hi => rfl
      case hw => rfl
      case hy => (intro w hw; obtain ⟨h1, h2, h3, h4⟩ := hw; go_simp; try rfl)
      intro K hK; go_simp; refine hK _ _ ?_; clear hK K
      apply wpOrd_eff3
      case hi => rfl
      case hw => rfl
      intro K hK
      go_simp
      refine (rPut_any o (.slice va (fillL ks k).length vc) (fillL ks k) x y W2.drew HF2.out.drew.pr (by have := HLn.out; omega)).mono ?_
      rintro e W3 ⟨v3, rfl, hp3, hb3, hf3⟩
      obtain ⟨a3, c3, rfl⟩ := hp3.len
      have HF3 := Lib.hid (HF2.out.drew.ref hb3 hp3 hf3)
      have hf3b := HF2.out.drew.below hb3
      have s0 := hf3b.bx.cell 0 _ rfl
      have s1 := hf3b.bx.cell 1 _ rfl
      have sf := hf3b.bx.free
      have sl := hf3b.bx.lt
      refine hK _ _ ?_
      clear hK K hp3 hb3 hf3 hf3b HF2
      apply wpOrd_read0
      case hi => rfl
      case hw => rfl
      case hy => (intro w; go_simp; try rfl)
      intro K hK; go_simp; refine hK _ _ ?_; clear hK K
      apply wpOrd_read0
      case hi => rfl
      case hw => rfl
      case hy => (intro w; go_simp; try rfl)
      intro K hK; go_simp; refine hK _ _ ?_; clear hK K
      apply wpOrd_read0
      case hi => rfl
      case hw => rfl
      case hy => (intro w; go_simp; try rfl)
      intro K hK; go_simp; refine hK _ _ ?_; clear hK K
      apply wpOrd_eff3
      case hi => rfl
      case hw => rfl
      intro K hK
      go_simp
      refine hK _ _ (wpOrd_nil ?_)
      clear hK K
      go_wp2_with fail
      go_roundw
      case rel => exact ⟨k + 1, _, _, hlt, by go_num, HF3.out.cast HST.out⟩
      case measure => simp [intOf]; omega
    · have hkn : k = ks.length := by omega
      subst hkn
      obtain ⟨va, vc, rfl⟩ := HFB.out.pr.len
      have r0 := HFB.out.bx.cell 0 _ rfl
      have r1 := HFB.out.bx.cell 1 _ rfl
      have hbF := HF.out.1.far HFB.out.b (by rw [HF.out.2]; omega)
      have f0 := hbF.cell 0 _ rfl
      have f1 := hbF.cell 1 _ rfl
      have ff := hbF.free
      have fl := hbF.lt
      clear hbF
      go_wp2_with fail
      refine wp_region_ordW 4 3 [(0, 0), (1, 1), (2, 0), (3, 3)] (fun X => X.cell? ⟨R, 0, none⟩ = some (.int .i64 o) ∧ X.cell? ⟨R, 1, none⟩ = some (.slice va (fillL ks ks.length).length vc)) (by kernel_rfl) (by kernel_rfl) ⟨r0, r1⟩ (fun c a d v w h => by cases d <;> exact h) ?_
      apply wpOrd_read0
      case hi => rfl
      case hw => rfl
      case hy => (intro w; go_simp; try rfl)
      intro K hK; go_simp; refine hK _ _ ?_; clear hK K
      apply wpOrd_read1
      case hi => rfl
      case hw => rfl
      case hy => (intro w hw; obtain ⟨h1, h2⟩ := hw; go_simp; try rfl)
      intro K hK; go_simp; refine hK _ _ ?_; clear hK K
      apply wpOrd_read0
      case hi => rfl
      case hw => rfl
      case hy => (intro w; go_simp; try rfl)
      intro K hK; go_simp; refine hK _ _ ?_; clear hK K
      apply wpOrd_eff3
      case hi => rfl
      case hw => rfl
      intro K hK
      go_simp
      refine hK _ _ (wpOrd_nil ?_)
      clear hK K
      go_wp2_with fail
      have hfz := HF.out.2
      have hfr := HFB.out.drew
      have hst : Kept (fun k => k = w0.heap.size) wr ((wr.setCell ⟨w0.heap.size, 0, none⟩ (.int .i64 o)).setCell ⟨w0.heap.size, 1, none⟩ (.slice va (fillL ks ks.length).length vc)) := (Kept.refl (fun k => k = w0.heap.size) _).setCells w0.heap.size 0 [.int .i64 o, .slice va (fillL ks ks.length).length vc] (.inl rfl)
      have hst2 := hst.drew
      have hbx := (((HF.out.1.far HFB.out.b (by omega)).setCell 0 (.int .i64 o) (by simp)).setCell 1 (.slice va (fillL ks ks.length).length vc) (by simp)).drew
      have e0 := hbx.cell 0 _ rfl
      have e1 := hbx.cell 1 _ rfl
      refine bodyPost_ret (v := .tuple #[.pointer (some ⟨w0.heap.size + 1, 0, none⟩), .agg #[.int .i64 o, .slice va (fillL ks ks.length).length vc]]) (by simp [results, Try.results16, go_sem, e0, e1]) rfl ?_
      refine ⟨_, _, Y, rfl, HFB.out.tr.kept hst2 (fun k hy e => ?_), HFB.out.pr.kept hst2 (fun k hk e => ?_), fun k hk => ⟨HFB.out.vy k hk, ?_⟩, fun k hy => ?_, (HB0.out.trans (HFB.out.b.mono HB0.out.size)).trans (hst2.below ?_ (fun k e => ?_))⟩
      · have := HFB.out.y0 k hy; omega
      · have := HFB.out.v0 k hk; omega
      · have := HFB.out.v0 k hk; omega
      · have := HFB.out.y0 k hy; omega
      · have := HFB.out.b.size; omega
      · omega
end Go.Proofs.Ytegljepgncicjaa
/- Btree: the law Scans. -/
namespace Go.Proofs.Ytegljepgncicjaa
open Go.ChangeShapes Go.WideShapes Go.ChangeAt Go.RowKit Go.Deep Go.Shelf
set_option linter.unusedVariables false
set_option linter.unusedSimpArgs false
theorem prAt_take {W : World} {g n c : Nat} {L : List Pr} (h : PrAt W (.slice (some ⟨g, 0, none⟩) L.length c) L) (hn : n ≤ L.length) : PrAt W (.slice (some ⟨g, 0, none⟩) n c) (L.take n) := by
  rcases h with ⟨h, _⟩ | ⟨g', c', e, h1, h2, h3, h4⟩
  · cases h
  · cases e
    have hl : (L.take n).length = n := by rw [List.length_take]; omega
    refine .inr ⟨g, c, by rw [hl], by omega, h2, h3, fun j hj => ?_⟩
    have := h4 j (by omega)
    rw [List.getElem_take]
    exact this
theorem FilledOut.split {w0 W' : World} {o : Nat} {L : List Pr} {e : Ending} (h : FilledOut w0 o L e W') : ∃ T va vc, e = .returned (.tuple #[.pointer (some ⟨T, 0, none⟩), .agg #[.int .i64 o, .slice va L.length vc]]) ∧ (∃ Y, Tr W' T o L Y ∧ (∀ k, (Value.slice va L.length vc).ownBlock = some k → ¬ Y k ∧ w0.heap.size ≤ k) ∧ (∀ k, Y k → w0.heap.size ≤ k)) ∧ PrAt W' (.slice va L.length vc) L ∧ Below w0.heap.size w0 W' := by
  obtain ⟨T, v, Y, rfl, h1, h2, h3, h4, h5⟩ := h
  obtain ⟨a, c, rfl⟩ := h2.len
  exact ⟨T, a, c, rfl, ⟨Y, h1, h3, h4⟩, h2, h5⟩
theorem Tr.below {W W' : World} {T o : Nat} {L : List Pr} {Y : Nat → Prop} (h : Tr W T o L Y) (hb : Below W.heap.size W W') : Tr W' T o L Y :=
  h.kept (S := fun k => ¬ k < W.heap.size) ⟨hb.os, hb.tape, hb.output, hb.size, fun k hk hs => hb.block k (Decidable.not_not.1 hs)⟩ (fun k hy hs => hs (h.yl k hy))
theorem pairs_1000 (T o : Nat) (lo hi : Bs) (back : Bool) (L : List Pr) (Y : Nat → Prop) (w : World) (h : Tr w T o L Y) (hl : L.length ≤ 1000) :
    Calls Try.prog 19 #[.pointer (some ⟨T, 0, none⟩), .string lo, .string hi, .bool back, .int .i64 1000] w (PairsOut (scanL lo hi back L) w) := by
  have := pairs_T T o lo hi back 1000 L Y w h hl
  rw [List.take_of_length_le (Nat.le_trans (scanL_len lo hi back L) hl)] at this
  exact this
set_option maxRecDepth 100000 in
set_option maxHeartbeats 1600000 in
theorem scans_e1 (o : Int) (ka : Option Addr) (kl kc : Nat) (lo hi : Bs) (back : Bool) (st : Int) (w : World) (h : o < 4) :
    Calls Try.prog 4 #[.int .i64 o, .slice ka kl kc, .agg #[.string lo, .string hi, .bool back, .int .u8 st]] w (LawOut w) := by
  have HB := Lib.hid ((Below.refl w.heap.size w).alloc (Nat.le_refl _) (.cells #[.string lo, .string hi, .bool back, .int .u8 st] 42))
  have d1 : decide (o < 4) = true := decide_eq_true h
  go_enter Try.func4, Try.ntmps4
  go_wp2_with fail
  refine (awake_any _).mono ?_
  rintro e w1 ⟨rfl, hb⟩
  have HB2 := Lib.hid (HB.out.trans (hb.mono HB.out.size))
  clear hb
  go_wp2_with fail
  go_ret
  exact ⟨rfl, HB2.out⟩
set_option maxRecDepth 100000 in
set_option maxHeartbeats 1600000 in
theorem scans_e2 (o : Int) (ka : Option Addr) (kl kc : Nat) (lo hi : Bs) (back : Bool) (st : Int) (w : World) (h : 256 < o) :
    Calls Try.prog 4 #[.int .i64 o, .slice ka kl kc, .agg #[.string lo, .string hi, .bool back, .int .u8 st]] w (LawOut w) := by
  have HB := Lib.hid ((Below.refl w.heap.size w).alloc (Nat.le_refl _) (.cells #[.string lo, .string hi, .bool back, .int .u8 st] 42))
  have d1 : decide (o < 4) = false := decide_eq_false (by omega)
  have d2 : decide (256 < o) = true := decide_eq_true h
  go_enter Try.func4, Try.ntmps4
  go_wp2_with fail
  refine (awake_any _).mono ?_
  rintro e w1 ⟨rfl, hb⟩
  have HB2 := Lib.hid (HB.out.trans (hb.mono HB.out.size))
  clear hb
  go_wp2_with fail
  go_ret
  exact ⟨rfl, HB2.out⟩
set_option maxRecDepth 100000 in
set_option maxHeartbeats 1600000 in
theorem scans_e3 (o : Int) (ka : Option Addr) (kl kc : Nat) (lo hi : Bs) (back : Bool) (st : Int) (w : World) (h1 : 4 ≤ o) (h2 : o ≤ 256) (h : 300 < kl) :
    Calls Try.prog 4 #[.int .i64 o, .slice ka kl kc, .agg #[.string lo, .string hi, .bool back, .int .u8 st]] w (LawOut w) := by
  have HB := Lib.hid ((Below.refl w.heap.size w).alloc (Nat.le_refl _) (.cells #[.string lo, .string hi, .bool back, .int .u8 st] 42))
  have d1 : decide (o < 4) = false := decide_eq_false (by omega)
  have d2 : decide (256 < o) = false := decide_eq_false (by omega)
  have d3 : decide ((300 : Int) < (kl : Int)) = true := decide_eq_true (by omega)
  go_enter Try.func4, Try.ntmps4
  go_wp2_with fail
  refine (awake_any _).mono ?_
  rintro e w1 ⟨rfl, hb⟩
  have HB2 := Lib.hid (HB.out.trans (hb.mono HB.out.size))
  clear hb
  go_wp2_with fail
  go_ret
  exact ⟨rfl, HB2.out⟩
set_option maxRecDepth 100000 in
set_option maxHeartbeats 3200000 in
theorem scans_go (o : Nat) (h4 : 4 ≤ o) (h6 : o ≤ 256) (ka : Option Addr) (kc : Nat) (ks : List Bs) (lo hi : Bs) (back : Bool) (st : Nat) (hst : st < 256) (w : World) (hk : KeysArg w (.slice ka ks.length kc) ks) (hl : ks.length ≤ 300) :
    Calls Try.prog 4 #[.int .i64 o, .slice ka ks.length kc, .agg #[.string lo, .string hi, .bool back, .int .u8 st]] w (LawOut w) := by
  have HB := Lib.hid ((Below.refl w.heap.size w).alloc (Nat.le_refl _) (.cells #[.string lo, .string hi, .bool back, .int .u8 st] 42))
  have HXB := Lib.hid (Box.new w [.string lo, .string hi, .bool back, .int .u8 st] 42)
  have HK := Lib.hid (hk.below HB.out)
  have HLL := Lib.hid (fillL_len ks ks.length)
  have d1 : decide ((o : Int) < 4) = false := decide_eq_false (by omega)
  have d2 : decide ((256 : Int) < (o : Int)) = false := decide_eq_false (by omega)
  have d3 : decide ((300 : Int) < (ks.length : Int)) = false := decide_eq_false (by omega)
  clear hk
  go_enter Try.func4, Try.ntmps4
  go_wp2_with fail
  clear d1 d2 d3
  refine (filled_any o h4 h6 (.slice ka ks.length kc) ks _ HK.out (by omega)).mono ?_
  rintro e W1 hF
  obtain ⟨T, va, vc, rfl, hY, hp, hb⟩ := hF.split
  have HFI := Lib.hid (And.intro hY (And.intro hp hb))
  obtain ⟨L, hL⟩ : ∃ L, L = fillL ks ks.length := ⟨_, rfl⟩
  rw [← hL] at HFI HLL ⊢
  have HX1 := Lib.hid (HXB.out.keep hb)
  have HB1 := Lib.hid (HB.out.trans (hb.mono HB.out.size))
  clear hF hY hp hb hL HK HXB HB
  have x0 := HX1.out.cell 0 _ rfl
  have x1 := HX1.out.cell 1 _ rfl
  have x2 := HX1.out.cell 2 _ rfl
  have hxl := HX1.out.lt
  have hxn := Nat.ne_of_lt HX1.out.lt
  go_wp2_with fail
  clear x0 x1 x2 hxl hxn
  have HR0 := Lib.hid (Box.new W1 [.int .i64 o, .slice va L.length vc] 30)
  have hbr : Below W1.heap.size W1 (W1.alloc (.cells #[.int .i64 o, .slice va L.length vc] 30)) := (Below.refl _ W1).alloc (Nat.le_refl _) _
  have HX2 := Lib.hid (HX1.out.keep hbr)
  have HB2 := Lib.hid (HB1.out.trans (hbr.mono HB1.out.size))
  have HT2 : Hid (∃ Y, Tr (W1.alloc (.cells #[.int .i64 o, .slice va L.length vc] 30)) T o L Y) := Lib.hid (by obtain ⟨⟨Y, h, _⟩, _⟩ := HFI.out; exact ⟨Y, h.below hbr⟩)
  have HP2 := Lib.hid (HFI.out.2.1.below hbr)
  clear hbr HX1 HB1 HFI
  generalize W1.heap.size = R at HR0 ⊢
  generalize W1.alloc _ = W2 at *
  refine (rScan_any o (.slice va L.length vc) L lo hi back W2 HP2.out (by have := HLL.out; omega)).mono ?_
  rintro e W3 ⟨v3, rfl, hp3, hb3⟩
  have HT3 : Hid (∃ Y, Tr W3 T o L Y) := Lib.hid (by obtain ⟨Y, h⟩ := HT2.out; exact ⟨Y, h.below hb3⟩)
  have HX3 := Lib.hid (HX2.out.keep hb3)
  have HB3 := Lib.hid (HB2.out.trans (hb3.mono HB2.out.size))
  have HSL := Lib.hid (scanL_len lo hi back L)
  obtain ⟨g3, c3, rfl⟩ := hp3.len
  have HP3 := Lib.hid hp3
  clear hp3 hb3 HX2 HB2 HT2 HP2 HR0
  have x3 := HX3.out.cell 3 _ rfl
  obtain ⟨D, hD⟩ : ∃ D, D = scanL lo hi back L := ⟨_, rfl⟩
  rw [← hD] at HP3 HSL
  rw [← hD]
  have HD := Lib.hid hD
  clear hD
  have hw0 : IntKind.i64.wrap (st : Int) = (st : Int) := by rw [IntKind.wrap_i64]; omega
  obtain ⟨Y, hT3⟩ := HT3.out
  have HT := Lib.hid hT3
  clear HT3 hT3
  rcases HP3.out with ⟨hv3, hD0⟩ | ⟨g, c', hv3, hg1, hg2, hg3, hg4⟩
  · have hDl : D.length = 0 := by rw [hD0]; rfl
    have hg0 : g3 = none ∧ c3 = 0 := by rw [hDl] at hv3; cases hv3; exact ⟨rfl, rfl⟩
    obtain ⟨rfl, rfl⟩ := hg0
    have hL2 := Lib.hid hD0
    clear hv3 hD0
    rw [hDl] at HP3
    rw [hDl]
    have HPn := Lib.hid (show PrAt W3 (.slice none 0 0) (D.take 0) by rw [hL2.out]; exact .inl ⟨rfl, by simp⟩)
    by_cases hst2 : 0 < st
    · have hd : decide ((0 : Int) < (st : Int)) = true := decide_eq_true (by omega)
      go_wp2_with fail
      refine wp_region_ordW 29 23 [(0, 0), (1, 0), (2, 1), (3, 0), (4, 1), (5, 0), (6, 1), (7, 0), (9, 0), (10, 0), (11, 0), (8, 2), (12, 2), (13, 0), (14, 0), (15, 0), (16, 1), (17, 0), (18, 1), (19, 0), (20, 1), (22, 0), (21, 2), (23, 3), (24, 0), (25, 0), (26, 3), (27, 0), (28, 0)] (fun U => U.cell? ⟨w.heap.size, 0, none⟩ = some (.string lo) ∧ U.cell? ⟨w.heap.size, 1, none⟩ = some (.string hi) ∧ U.cell? ⟨w.heap.size, 2, none⟩ = some (.bool back)) (by kernel_rfl) (by kernel_rfl) ⟨HX3.out.cell 0 _ rfl, HX3.out.cell 1 _ rfl, HX3.out.cell 2 _ rfl⟩ (fun c a d v w h => by cases d <;> exact h) ?_
      apply wpOrd_read0
      case hi => rfl
      case hw => rfl
      case hy => (intro w; go_simp; try rfl)
      intro K hK; go_simp; refine hK _ _ ?_; clear hK K
      apply wpOrd_read0
      case hi => rfl
      case hw => rfl
      case hy => (intro w; go_simp; try rfl)
      intro K hK; go_simp; refine hK _ _ ?_; clear hK K
      apply wpOrd_read1
      case hi => rfl
      case hw => rfl
      case hy => (intro w hw; obtain ⟨h1, h2, h3⟩ := hw; go_simp; try rfl)
      intro K hK; go_simp; refine hK _ _ ?_; clear hK K
      apply wpOrd_read0
      case hi => rfl
      case hw => rfl
      case hy => (intro w; go_simp; try rfl)
      intro K hK; go_simp; refine hK _ _ ?_; clear hK K
      apply wpOrd_read1
      case hi => rfl
      case hw => rfl
      case hy => (intro w hw; obtain ⟨h1, h2, h3⟩ := hw; go_simp; try rfl)
      intro K hK; go_simp; refine hK _ _ ?_; clear hK K
      apply wpOrd_read0
      case hi => rfl
      case hw => rfl
      case hy => (intro w; go_simp; try rfl)
      intro K hK; go_simp; refine hK _ _ ?_; clear hK K
      apply wpOrd_read1
      case hi => rfl
      case hw => rfl
      case hy => (intro w hw; obtain ⟨h1, h2, h3⟩ := hw; go_simp; try rfl)
      intro K hK; go_simp; refine hK _ _ ?_; clear hK K
      apply wpOrd_read0
      case hi => rfl
      case hw => rfl
      case hy => (intro w; go_simp; try rfl)
      intro K hK; go_simp; refine hK _ _ ?_; clear hK K
      apply wpOrd_read0
      case hi => rfl
      case hw => rfl
      case hy => (intro w; go_simp; try rfl)
      intro K hK; go_simp; refine hK _ _ ?_; clear hK K
      apply wpOrd_read0
      case hi => rfl
      case hw => rfl
      case hy => (intro w; go_simp; try rfl)
      intro K hK; go_simp; refine hK _ _ ?_; clear hK K
      apply wpOrd_read0
      case hi => rfl
      case hw => rfl
      case hy => (intro w; go_simp; try rfl)
      intro K hK; go_simp; refine hK _ _ ?_; clear hK K
      apply wpOrd_eff2
      case hi => rfl
      case hw => rfl
      intro K hK
      go_simp
      refine (pairs_T T o lo hi back 0 L Y W3.drew (HT.out.below ⟨rfl, rfl, rfl, Nat.le_refl _, fun _ _ => rfl⟩) (by have := HLL.out; omega)).mono ?_
      rintro e W4 ⟨v4, rfl, hr4, hb4⟩
      have hb34 : Below W3.heap.size W3 W4 := (Below.drew (Below.refl _ W3)).trans hb4
      have HP4 := Lib.hid (PrAt.of_own rfl hr4)
      have HV4 := Lib.hid (hr4.1)
      rw [← HD.out] at HP4
      have HT4 := Lib.hid (HT.out.below hb34)
      have HX4 := Lib.hid (HX3.out.keep hb34)
      have HB4 := Lib.hid (HB3.out.trans (hb34.mono HB3.out.size))
      have HQ4 := Lib.hid (HP3.out.below hb34)
      have HN4 := Lib.hid (HPn.out.below hb34)
      refine hK _ _ ⟨HX4.out.cell 0 _ rfl, HX4.out.cell 1 _ rfl, HX4.out.cell 2 _ rfl⟩ ?_
      clear hK K hr4 hb4 hb34 HT HX3 HB3 HP3 HPn
      apply wpOrd_eff2
      case hi => rfl
      case hw => rfl
      intro K hK
      go_simp
      refine (same_eq v4 (.slice none 0 0) (D.take 0) W4 HP4.out HN4.out (by rw [List.length_take]; omega)).mono ?_
      rintro e W5 ⟨rfl, q, rfl⟩
      refine hK _ _ ⟨HX4.out.cell 0 _ rfl, HX4.out.cell 1 _ rfl, HX4.out.cell 2 _ rfl⟩ ?_
      clear hK K
      apply wpOrd_read0
      case hi => rfl
      case hw => rfl
      case hy => (intro w; go_simp; try rfl)
      intro K hK; go_simp; refine hK _ _ ?_; clear hK K
      apply wpOrd_read0
      case hi => rfl
      case hw => rfl
      case hy => (intro w; go_simp; try rfl)
      intro K hK; go_simp; refine hK _ _ ?_; clear hK K
      apply wpOrd_read0
      case hi => rfl
      case hw => rfl
      case hy => (intro w; go_simp; try rfl)
      intro K hK; go_simp; refine hK _ _ ?_; clear hK K
      apply wpOrd_read1
      case hi => rfl
      case hw => rfl
      case hy => (intro w hw; obtain ⟨h1, h2, h3⟩ := hw; go_simp; try rfl)
      intro K hK; go_simp; refine hK _ _ ?_; clear hK K
      apply wpOrd_read0
      case hi => rfl
      case hw => rfl
      case hy => (intro w; go_simp; try rfl)
      intro K hK; go_simp; refine hK _ _ ?_; clear hK K
      apply wpOrd_read1
      case hi => rfl
      case hw => rfl
      case hy => (intro w hw; obtain ⟨h1, h2, h3⟩ := hw; go_simp; try rfl)
      intro K hK; go_simp; refine hK _ _ ?_; clear hK K
      apply wpOrd_read0
      case hi => rfl
      case hw => rfl
      case hy => (intro w; go_simp; try rfl)
      intro K hK; go_simp; refine hK _ _ ?_; clear hK K
      apply wpOrd_read1
      case hi => rfl
      case hw => rfl
      case hy => (intro w hw; obtain ⟨h1, h2, h3⟩ := hw; go_simp; try rfl)
      intro K hK; go_simp; refine hK _ _ ?_; clear hK K
      apply wpOrd_read0
      case hi => rfl
      case hw => rfl
      case hy => (intro w; go_simp; try rfl)
      intro K hK; go_simp; refine hK _ _ ?_; clear hK K
      apply wpOrd_eff2
      case hi => rfl
      case hw => rfl
      intro K hK
      go_simp
      refine (pairs_1000 T o lo hi back L Y (W4.drewN q) (HT4.out.below ⟨rfl, rfl, rfl, Nat.le_refl _, fun _ _ => rfl⟩) (by have := HLL.out; omega)).mono ?_
      rintro e W6 ⟨v6, rfl, hr6, hb6⟩
      have hb46 : Below W4.heap.size W4 W6 := (below_drewN'' (Below.refl _ W4) q).trans hb6
      have HP6 := Lib.hid (PrAt.of_own rfl hr6)
      rw [← HD.out] at HP6
      have HX6 := Lib.hid (HX4.out.keep hb46)
      have HB6 := Lib.hid (HB4.out.trans (hb46.mono HB4.out.size))
      have HQ6 := Lib.hid (HQ4.out.below hb46)
      refine hK _ _ ⟨HX6.out.cell 0 _ rfl, HX6.out.cell 1 _ rfl, HX6.out.cell 2 _ rfl⟩ ?_
      clear hK K hr6 hb6 hb46 HX4 HB4 HQ4 HN4 HP4 HT4
      apply wpOrd_eff3
      case hi => rfl
      case hw => rfl
      intro K hK
      go_simp
      refine (same_eq v6 (.slice none 0 0) D W6 HP6.out HQ6.out (by have := HSL.out; have := HLL.out; omega)).mono ?_
      rintro e W7 ⟨rfl, q7, rfl⟩
      refine hK _ _ ?_
      clear hK K
      apply wpOrd_read0
      case hi => rfl
      case hw => rfl
      case hy => (intro w; go_simp; try rfl)
      intro K hK; go_simp; refine hK _ _ ?_; clear hK K
      apply wpOrd_read0
      case hi => rfl
      case hw => rfl
      case hy => (intro w; go_simp; try rfl)
      intro K hK; go_simp; refine hK _ _ ?_; clear hK K
      apply wpOrd_eff3
      case hi => rfl
      case hw => rfl
      intro K hK
      go_simp
      refine (awake_any _).mono ?_
      rintro e W8 ⟨rfl, hb8⟩
      have HB8 := Lib.hid (HB6.out.trans (((below_drewN'' (Below.refl _ W6) q7).trans hb8).mono HB6.out.size))
      refine hK _ _ ?_
      clear hK K hb8
      apply wpOrd_read0
      case hi => rfl
      case hw => rfl
      case hy => (intro w; go_simp; try rfl)
      intro K hK; go_simp; refine hK _ _ ?_; clear hK K
      apply wpOrd_read0
      case hi => rfl
      case hw => rfl
      case hy => (intro w; go_simp; try rfl)
      intro K hK; go_simp; refine hK _ _ ?_; clear hK K
      refine wpOrd_nil ?_
      go_wp2_with fail
      go_ret
      exact ⟨rfl, HB8.out⟩
    · have hst0 : st = 0 := by omega
      subst hst0
      have hd : decide ((0 : Int) < ((0 : Nat) : Int)) = false := rfl
      go_wp2_with fail
      refine wp_region_ordW 29 23 [(0, 0), (1, 0), (2, 1), (3, 0), (4, 1), (5, 0), (6, 1), (7, 0), (9, 0), (10, 0), (11, 0), (8, 2), (12, 2), (13, 0), (14, 0), (15, 0), (16, 1), (17, 0), (18, 1), (19, 0), (20, 1), (22, 0), (21, 2), (23, 3), (24, 0), (25, 0), (26, 3), (27, 0), (28, 0)] (fun U => U.cell? ⟨w.heap.size, 0, none⟩ = some (.string lo) ∧ U.cell? ⟨w.heap.size, 1, none⟩ = some (.string hi) ∧ U.cell? ⟨w.heap.size, 2, none⟩ = some (.bool back)) (by kernel_rfl) (by kernel_rfl) ⟨HX3.out.cell 0 _ rfl, HX3.out.cell 1 _ rfl, HX3.out.cell 2 _ rfl⟩ (fun c a d v w h => by cases d <;> exact h) ?_
      apply wpOrd_read0
      case hi => rfl
      case hw => rfl
      case hy => (intro w; go_simp; try rfl)
      intro K hK; go_simp; refine hK _ _ ?_; clear hK K
      apply wpOrd_read0
      case hi => rfl
      case hw => rfl
      case hy => (intro w; go_simp; try rfl)
      intro K hK; go_simp; refine hK _ _ ?_; clear hK K
      apply wpOrd_read1
      case hi => rfl
      case hw => rfl
      case hy => (intro w hw; obtain ⟨h1, h2, h3⟩ := hw; go_simp; try rfl)
      intro K hK; go_simp; refine hK _ _ ?_; clear hK K
      apply wpOrd_read0
      case hi => rfl
      case hw => rfl
      case hy => (intro w; go_simp; try rfl)
      intro K hK; go_simp; refine hK _ _ ?_; clear hK K
      apply wpOrd_read1
      case hi => rfl
      case hw => rfl
      case hy => (intro w hw; obtain ⟨h1, h2, h3⟩ := hw; go_simp; try rfl)
      intro K hK; go_simp; refine hK _ _ ?_; clear hK K
      apply wpOrd_read0
      case hi => rfl
      case hw => rfl
      case hy => (intro w; go_simp; try rfl)
      intro K hK; go_simp; refine hK _ _ ?_; clear hK K
      apply wpOrd_read1
      case hi => rfl
      case hw => rfl
      case hy => (intro w hw; obtain ⟨h1, h2, h3⟩ := hw; go_simp; try rfl)
      intro K hK; go_simp; refine hK _ _ ?_; clear hK K
      apply wpOrd_read0
      case hi => rfl
      case hw => rfl
      case hy => (intro w; go_simp; try rfl)
      intro K hK; go_simp; refine hK _ _ ?_; clear hK K
      apply wpOrd_read0
      case hi => rfl
      case hw => rfl
      case hy => (intro w; go_simp; try rfl)
      intro K hK; go_simp; refine hK _ _ ?_; clear hK K
      apply wpOrd_read0
      case hi => rfl
      case hw => rfl
      case hy => (intro w; go_simp; try rfl)
      intro K hK; go_simp; refine hK _ _ ?_; clear hK K
      apply wpOrd_read0
      case hi => rfl
      case hw => rfl
      case hy => (intro w; go_simp; try rfl)
      intro K hK; go_simp; refine hK _ _ ?_; clear hK K
      apply wpOrd_eff2
      case hi => rfl
      case hw => rfl
      intro K hK
      go_simp
      refine (pairs_T T o lo hi back 0 L Y W3.drew (HT.out.below ⟨rfl, rfl, rfl, Nat.le_refl _, fun _ _ => rfl⟩) (by have := HLL.out; omega)).mono ?_
      rintro e W4 ⟨v4, rfl, hr4, hb4⟩
      have hb34 : Below W3.heap.size W3 W4 := (Below.drew (Below.refl _ W3)).trans hb4
      have HP4 := Lib.hid (PrAt.of_own rfl hr4)
      have HV4 := Lib.hid (hr4.1)
      rw [← HD.out] at HP4
      have HT4 := Lib.hid (HT.out.below hb34)
      have HX4 := Lib.hid (HX3.out.keep hb34)
      have HB4 := Lib.hid (HB3.out.trans (hb34.mono HB3.out.size))
      have HQ4 := Lib.hid (HP3.out.below hb34)
      have HN4 := Lib.hid (HPn.out.below hb34)
      refine hK _ _ ⟨HX4.out.cell 0 _ rfl, HX4.out.cell 1 _ rfl, HX4.out.cell 2 _ rfl⟩ ?_
      clear hK K hr4 hb4 hb34 HT HX3 HB3 HP3 HPn
      apply wpOrd_eff2
      case hi => rfl
      case hw => rfl
      intro K hK
      go_simp
      refine (same_eq v4 (.slice none 0 0) (D.take 0) W4 HP4.out HN4.out (by rw [List.length_take]; omega)).mono ?_
      rintro e W5 ⟨rfl, q, rfl⟩
      refine hK _ _ ⟨HX4.out.cell 0 _ rfl, HX4.out.cell 1 _ rfl, HX4.out.cell 2 _ rfl⟩ ?_
      clear hK K
      apply wpOrd_read0
      case hi => rfl
      case hw => rfl
      case hy => (intro w; go_simp; try rfl)
      intro K hK; go_simp; refine hK _ _ ?_; clear hK K
      apply wpOrd_read0
      case hi => rfl
      case hw => rfl
      case hy => (intro w; go_simp; try rfl)
      intro K hK; go_simp; refine hK _ _ ?_; clear hK K
      apply wpOrd_read0
      case hi => rfl
      case hw => rfl
      case hy => (intro w; go_simp; try rfl)
      intro K hK; go_simp; refine hK _ _ ?_; clear hK K
      apply wpOrd_read1
      case hi => rfl
      case hw => rfl
      case hy => (intro w hw; obtain ⟨h1, h2, h3⟩ := hw; go_simp; try rfl)
      intro K hK; go_simp; refine hK _ _ ?_; clear hK K
      apply wpOrd_read0
      case hi => rfl
      case hw => rfl
      case hy => (intro w; go_simp; try rfl)
      intro K hK; go_simp; refine hK _ _ ?_; clear hK K
      apply wpOrd_read1
      case hi => rfl
      case hw => rfl
      case hy => (intro w hw; obtain ⟨h1, h2, h3⟩ := hw; go_simp; try rfl)
      intro K hK; go_simp; refine hK _ _ ?_; clear hK K
      apply wpOrd_read0
      case hi => rfl
      case hw => rfl
      case hy => (intro w; go_simp; try rfl)
      intro K hK; go_simp; refine hK _ _ ?_; clear hK K
      apply wpOrd_read1
      case hi => rfl
      case hw => rfl
      case hy => (intro w hw; obtain ⟨h1, h2, h3⟩ := hw; go_simp; try rfl)
      intro K hK; go_simp; refine hK _ _ ?_; clear hK K
      apply wpOrd_read0
      case hi => rfl
      case hw => rfl
      case hy => (intro w; go_simp; try rfl)
      intro K hK; go_simp; refine hK _ _ ?_; clear hK K
      apply wpOrd_eff2
      case hi => rfl
      case hw => rfl
      intro K hK
      go_simp
      refine (pairs_1000 T o lo hi back L Y (W4.drewN q) (HT4.out.below ⟨rfl, rfl, rfl, Nat.le_refl _, fun _ _ => rfl⟩) (by have := HLL.out; omega)).mono ?_
      rintro e W6 ⟨v6, rfl, hr6, hb6⟩
      have hb46 : Below W4.heap.size W4 W6 := (below_drewN'' (Below.refl _ W4) q).trans hb6
      have HP6 := Lib.hid (PrAt.of_own rfl hr6)
      rw [← HD.out] at HP6
      have HX6 := Lib.hid (HX4.out.keep hb46)
      have HB6 := Lib.hid (HB4.out.trans (hb46.mono HB4.out.size))
      have HQ6 := Lib.hid (HQ4.out.below hb46)
      refine hK _ _ ⟨HX6.out.cell 0 _ rfl, HX6.out.cell 1 _ rfl, HX6.out.cell 2 _ rfl⟩ ?_
      clear hK K hr6 hb6 hb46 HX4 HB4 HQ4 HN4 HP4 HT4
      apply wpOrd_eff3
      case hi => rfl
      case hw => rfl
      intro K hK
      go_simp
      refine (same_eq v6 (.slice none 0 0) D W6 HP6.out HQ6.out (by have := HSL.out; have := HLL.out; omega)).mono ?_
      rintro e W7 ⟨rfl, q7, rfl⟩
      refine hK _ _ ?_
      clear hK K
      apply wpOrd_read0
      case hi => rfl
      case hw => rfl
      case hy => (intro w; go_simp; try rfl)
      intro K hK; go_simp; refine hK _ _ ?_; clear hK K
      apply wpOrd_read0
      case hi => rfl
      case hw => rfl
      case hy => (intro w; go_simp; try rfl)
      intro K hK; go_simp; refine hK _ _ ?_; clear hK K
      apply wpOrd_eff3
      case hi => rfl
      case hw => rfl
      intro K hK
      go_simp
      refine (awake_any _).mono ?_
      rintro e W8 ⟨rfl, hb8⟩
      have HB8 := Lib.hid (HB6.out.trans (((below_drewN'' (Below.refl _ W6) q7).trans hb8).mono HB6.out.size))
      refine hK _ _ ?_
      clear hK K hb8
      apply wpOrd_read0
      case hi => rfl
      case hw => rfl
      case hy => (intro w; go_simp; try rfl)
      intro K hK; go_simp; refine hK _ _ ?_; clear hK K
      apply wpOrd_read0
      case hi => rfl
      case hw => rfl
      case hy => (intro w; go_simp; try rfl)
      intro K hK; go_simp; refine hK _ _ ?_; clear hK K
      refine wpOrd_nil ?_
      go_wp2_with fail
      go_ret
      exact ⟨rfl, HB8.out⟩
  · have hg0 : g3 = some ⟨g, 0, none⟩ ∧ c3 = c' := by cases hv3; exact ⟨rfl, rfl⟩
    obtain ⟨rfl, rfl⟩ := hg0
    clear hv3 hg4 hg3
    have hsl := HSL.out
    have hll := HLL.out
    by_cases hst2 : D.length < st
    · have hd : decide ((D.length : Int) < (st : Int)) = true := decide_eq_true (by omega)
      have HPn := Lib.hid (prAt_take HP3.out (Nat.le_refl D.length))
      have hnc : D.length ≤ c3 := hg1
      go_wp2_with fail
      refine wp_region_ordW 29 23 [(0, 0), (1, 0), (2, 1), (3, 0), (4, 1), (5, 0), (6, 1), (7, 0), (9, 0), (10, 0), (11, 0), (8, 2), (12, 2), (13, 0), (14, 0), (15, 0), (16, 1), (17, 0), (18, 1), (19, 0), (20, 1), (22, 0), (21, 2), (23, 3), (24, 0), (25, 0), (26, 3), (27, 0), (28, 0)] (fun U => U.cell? ⟨w.heap.size, 0, none⟩ = some (.string lo) ∧ U.cell? ⟨w.heap.size, 1, none⟩ = some (.string hi) ∧ U.cell? ⟨w.heap.size, 2, none⟩ = some (.bool back)) (by kernel_rfl) (by kernel_rfl) ⟨HX3.out.cell 0 _ rfl, HX3.out.cell 1 _ rfl, HX3.out.cell 2 _ rfl⟩ (fun c a d v w h => by cases d <;> exact h) ?_
      apply wpOrd_read0
      case hi => rfl
      case hw => rfl
      case hy => (intro w; go_simp; try rfl)
      intro K hK; go_simp; refine hK _ _ ?_; clear hK K
      apply wpOrd_read0
      case hi => rfl
      case hw => rfl
      case hy => (intro w; go_simp; try rfl)
      intro K hK; go_simp; refine hK _ _ ?_; clear hK K
      apply wpOrd_read1
      case hi => rfl
      case hw => rfl
      case hy => (intro w hw; obtain ⟨h1, h2, h3⟩ := hw; go_simp; try rfl)
      intro K hK; go_simp; refine hK _ _ ?_; clear hK K
      apply wpOrd_read0
      case hi => rfl
      case hw => rfl
      case hy => (intro w; go_simp; try rfl)
      intro K hK; go_simp; refine hK _ _ ?_; clear hK K
      apply wpOrd_read1
      case hi => rfl
      case hw => rfl
      case hy => (intro w hw; obtain ⟨h1, h2, h3⟩ := hw; go_simp; try rfl)
      intro K hK; go_simp; refine hK _ _ ?_; clear hK K
      apply wpOrd_read0
      case hi => rfl
      case hw => rfl
      case hy => (intro w; go_simp; try rfl)
      intro K hK; go_simp; refine hK _ _ ?_; clear hK K
      apply wpOrd_read1
      case hi => rfl
      case hw => rfl
      case hy => (intro w hw; obtain ⟨h1, h2, h3⟩ := hw; go_simp; try rfl)
      intro K hK; go_simp; refine hK _ _ ?_; clear hK K
      apply wpOrd_read0
      case hi => rfl
      case hw => rfl
      case hy => (intro w; go_simp; try rfl)
      intro K hK; go_simp; refine hK _ _ ?_; clear hK K
      apply wpOrd_read0
      case hi => rfl
      case hw => rfl
      case hy => (intro w; go_simp; try rfl)
      intro K hK; go_simp; refine hK _ _ ?_; clear hK K
      apply wpOrd_read0
      case hi => rfl
      case hw => rfl
      case hy => (intro w; go_simp; try rfl)
      intro K hK; go_simp; refine hK _ _ ?_; clear hK K
      apply wpOrd_read0
      case hi => rfl
      case hw => rfl
      case hy => (intro w; go_simp; try rfl)
      intro K hK; go_simp; refine hK _ _ ?_; clear hK K
      apply wpOrd_eff2
      case hi => rfl
      case hw => rfl
      intro K hK
      go_simp
      refine (pairs_T T o lo hi back D.length L Y W3.drew (HT.out.below ⟨rfl, rfl, rfl, Nat.le_refl _, fun _ _ => rfl⟩) (by have := HLL.out; omega)).mono ?_
      rintro e W4 ⟨v4, rfl, hr4, hb4⟩
      have hb34 : Below W3.heap.size W3 W4 := (Below.drew (Below.refl _ W3)).trans hb4
      have HP4 := Lib.hid (PrAt.of_own rfl hr4)
      have HV4 := Lib.hid (hr4.1)
      rw [← HD.out] at HP4
      have HT4 := Lib.hid (HT.out.below hb34)
      have HX4 := Lib.hid (HX3.out.keep hb34)
      have HB4 := Lib.hid (HB3.out.trans (hb34.mono HB3.out.size))
      have HQ4 := Lib.hid (HP3.out.below hb34)
      have HN4 := Lib.hid (HPn.out.below hb34)
      refine hK _ _ ⟨HX4.out.cell 0 _ rfl, HX4.out.cell 1 _ rfl, HX4.out.cell 2 _ rfl⟩ ?_
      clear hK K hr4 hb4 hb34 HT HX3 HB3 HP3 HPn
      apply wpOrd_eff2
      case hi => rfl
      case hw => rfl
      intro K hK
      go_simp
      refine (same_eq v4 (.slice (some ⟨g, 0, none⟩) D.length c3) (D.take D.length) W4 HP4.out HN4.out (by rw [List.length_take]; omega)).mono ?_
      rintro e W5 ⟨rfl, q, rfl⟩
      refine hK _ _ ⟨HX4.out.cell 0 _ rfl, HX4.out.cell 1 _ rfl, HX4.out.cell 2 _ rfl⟩ ?_
      clear hK K
      apply wpOrd_read0
      case hi => rfl
      case hw => rfl
      case hy => (intro w; go_simp; try rfl)
      intro K hK; go_simp; refine hK _ _ ?_; clear hK K
      apply wpOrd_read0
      case hi => rfl
      case hw => rfl
      case hy => (intro w; go_simp; try rfl)
      intro K hK; go_simp; refine hK _ _ ?_; clear hK K
      apply wpOrd_read0
      case hi => rfl
      case hw => rfl
      case hy => (intro w; go_simp; try rfl)
      intro K hK; go_simp; refine hK _ _ ?_; clear hK K
      apply wpOrd_read1
      case hi => rfl
      case hw => rfl
      case hy => (intro w hw; obtain ⟨h1, h2, h3⟩ := hw; go_simp; try rfl)
      intro K hK; go_simp; refine hK _ _ ?_; clear hK K
      apply wpOrd_read0
      case hi => rfl
      case hw => rfl
      case hy => (intro w; go_simp; try rfl)
      intro K hK; go_simp; refine hK _ _ ?_; clear hK K
      apply wpOrd_read1
      case hi => rfl
      case hw => rfl
      case hy => (intro w hw; obtain ⟨h1, h2, h3⟩ := hw; go_simp; try rfl)
      intro K hK; go_simp; refine hK _ _ ?_; clear hK K
      apply wpOrd_read0
      case hi => rfl
      case hw => rfl
      case hy => (intro w; go_simp; try rfl)
      intro K hK; go_simp; refine hK _ _ ?_; clear hK K
      apply wpOrd_read1
      case hi => rfl
      case hw => rfl
      case hy => (intro w hw; obtain ⟨h1, h2, h3⟩ := hw; go_simp; try rfl)
      intro K hK; go_simp; refine hK _ _ ?_; clear hK K
      apply wpOrd_read0
      case hi => rfl
      case hw => rfl
      case hy => (intro w; go_simp; try rfl)
      intro K hK; go_simp; refine hK _ _ ?_; clear hK K
      apply wpOrd_eff2
      case hi => rfl
      case hw => rfl
      intro K hK
      go_simp
      refine (pairs_1000 T o lo hi back L Y (W4.drewN q) (HT4.out.below ⟨rfl, rfl, rfl, Nat.le_refl _, fun _ _ => rfl⟩) (by have := HLL.out; omega)).mono ?_
      rintro e W6 ⟨v6, rfl, hr6, hb6⟩
      have hb46 : Below W4.heap.size W4 W6 := (below_drewN'' (Below.refl _ W4) q).trans hb6
      have HP6 := Lib.hid (PrAt.of_own rfl hr6)
      rw [← HD.out] at HP6
      have HX6 := Lib.hid (HX4.out.keep hb46)
      have HB6 := Lib.hid (HB4.out.trans (hb46.mono HB4.out.size))
      have HQ6 := Lib.hid (HQ4.out.below hb46)
      refine hK _ _ ⟨HX6.out.cell 0 _ rfl, HX6.out.cell 1 _ rfl, HX6.out.cell 2 _ rfl⟩ ?_
      clear hK K hr6 hb6 hb46 HX4 HB4 HQ4 HN4 HP4 HT4
      apply wpOrd_eff3
      case hi => rfl
      case hw => rfl
      intro K hK
      go_simp
      refine (same_eq v6 (.slice (some ⟨g, 0, none⟩) D.length c3) D W6 HP6.out HQ6.out (by have := HSL.out; have := HLL.out; omega)).mono ?_
      rintro e W7 ⟨rfl, q7, rfl⟩
      refine hK _ _ ?_
      clear hK K
      apply wpOrd_read0
      case hi => rfl
      case hw => rfl
      case hy => (intro w; go_simp; try rfl)
      intro K hK; go_simp; refine hK _ _ ?_; clear hK K
      apply wpOrd_read0
      case hi => rfl
      case hw => rfl
      case hy => (intro w; go_simp; try rfl)
      intro K hK; go_simp; refine hK _ _ ?_; clear hK K
      apply wpOrd_eff3
      case hi => rfl
      case hw => rfl
      intro K hK
      go_simp
      refine (awake_any _).mono ?_
      rintro e W8 ⟨rfl, hb8⟩
      have HB8 := Lib.hid (HB6.out.trans (((below_drewN'' (Below.refl _ W6) q7).trans hb8).mono HB6.out.size))
      refine hK _ _ ?_
      clear hK K hb8
      apply wpOrd_read0
      case hi => rfl
      case hw => rfl
      case hy => (intro w; go_simp; try rfl)
      intro K hK; go_simp; refine hK _ _ ?_; clear hK K
      apply wpOrd_read0
      case hi => rfl
      case hw => rfl
      case hy => (intro w; go_simp; try rfl)
      intro K hK; go_simp; refine hK _ _ ?_; clear hK K
      refine wpOrd_nil ?_
      go_wp2_with fail
      go_ret
      exact ⟨rfl, HB8.out⟩
    · have hd : decide ((D.length : Int) < (st : Int)) = false := decide_eq_false (by omega)
      have hsd : st ≤ D.length := by omega
      have hnc : st ≤ c3 := by omega
      have HPn := Lib.hid (prAt_take HP3.out hsd)
      go_wp2_with fail
      refine wp_region_ordW 29 23 [(0, 0), (1, 0), (2, 1), (3, 0), (4, 1), (5, 0), (6, 1), (7, 0), (9, 0), (10, 0), (11, 0), (8, 2), (12, 2), (13, 0), (14, 0), (15, 0), (16, 1), (17, 0), (18, 1), (19, 0), (20, 1), (22, 0), (21, 2), (23, 3), (24, 0), (25, 0), (26, 3), (27, 0), (28, 0)] (fun U => U.cell? ⟨w.heap.size, 0, none⟩ = some (.string lo) ∧ U.cell? ⟨w.heap.size, 1, none⟩ = some (.string hi) ∧ U.cell? ⟨w.heap.size, 2, none⟩ = some (.bool back)) (by kernel_rfl) (by kernel_rfl) ⟨HX3.out.cell 0 _ rfl, HX3.out.cell 1 _ rfl, HX3.out.cell 2 _ rfl⟩ (fun c a d v w h => by cases d <;> exact h) ?_
      apply wpOrd_read0
      case hi => rfl
      case hw => rfl
      case hy => (intro w; go_simp; try rfl)
      intro K hK; go_simp; refine hK _ _ ?_; clear hK K
      apply wpOrd_read0
      case hi => rfl
      case hw => rfl
      case hy => (intro w; go_simp; try rfl)
      intro K hK; go_simp; refine hK _ _ ?_; clear hK K
      apply wpOrd_read1
      case hi => rfl
      case hw => rfl
      case hy => (intro w hw; obtain ⟨h1, h2, h3⟩ := hw; go_simp; try rfl)
      intro K hK; go_simp; refine hK _ _ ?_; clear hK K
      apply wpOrd_read0
      case hi => rfl
      case hw => rfl
      case hy => (intro w; go_simp; try rfl)
      intro K hK; go_simp; refine hK _ _ ?_; clear hK K
      apply wpOrd_read1
      case hi => rfl
      case hw => rfl
      case hy => (intro w hw; obtain ⟨h1, h2, h3⟩ := hw; go_simp; try rfl)
      intro K hK; go_simp; refine hK _ _ ?_; clear hK K
      apply wpOrd_read0
      case hi => rfl
      case hw => rfl
      case hy => (intro w; go_simp; try rfl)
      intro K hK; go_simp; refine hK _ _ ?_; clear hK K
      apply wpOrd_read1
      case hi => rfl
      case hw => rfl
      case hy => (intro w hw; obtain ⟨h1, h2, h3⟩ := hw; go_simp; try rfl)
      intro K hK; go_simp; refine hK _ _ ?_; clear hK K
      apply wpOrd_read0
      case hi => rfl
      case hw => rfl
      case hy => (intro w; go_simp; try rfl)
      intro K hK; go_simp; refine hK _ _ ?_; clear hK K
      apply wpOrd_read0
      case hi => rfl
      case hw => rfl
      case hy => (intro w; go_simp; try rfl)
      intro K hK; go_simp; refine hK _ _ ?_; clear hK K
      apply wpOrd_read0
      case hi => rfl
      case hw => rfl
      case hy => (intro w; go_simp; try rfl)
      intro K hK; go_simp; refine hK _ _ ?_; clear hK K
      apply wpOrd_read0
      case hi => rfl
      case hw => rfl
      case hy => (intro w; go_simp; try rfl)
      intro K hK; go_simp; refine hK _ _ ?_; clear hK K
      apply wpOrd_eff2
      case hi => rfl
      case hw => rfl
      intro K hK
      go_simp
      refine (pairs_T T o lo hi back st L Y W3.drew (HT.out.below ⟨rfl, rfl, rfl, Nat.le_refl _, fun _ _ => rfl⟩) (by have := HLL.out; omega)).mono ?_
      rintro e W4 ⟨v4, rfl, hr4, hb4⟩
      have hb34 : Below W3.heap.size W3 W4 := (Below.drew (Below.refl _ W3)).trans hb4
      have HP4 := Lib.hid (PrAt.of_own rfl hr4)
      have HV4 := Lib.hid (hr4.1)
      rw [← HD.out] at HP4
      have HT4 := Lib.hid (HT.out.below hb34)
      have HX4 := Lib.hid (HX3.out.keep hb34)
      have HB4 := Lib.hid (HB3.out.trans (hb34.mono HB3.out.size))
      have HQ4 := Lib.hid (HP3.out.below hb34)
      have HN4 := Lib.hid (HPn.out.below hb34)
      refine hK _ _ ⟨HX4.out.cell 0 _ rfl, HX4.out.cell 1 _ rfl, HX4.out.cell 2 _ rfl⟩ ?_
      clear hK K hr4 hb4 hb34 HT HX3 HB3 HP3 HPn
      apply wpOrd_eff2
      case hi => rfl
      case hw => rfl
      intro K hK
      go_simp
      refine (same_eq v4 (.slice (some ⟨g, 0, none⟩) st c3) (D.take st) W4 HP4.out HN4.out (by rw [List.length_take]; omega)).mono ?_
      rintro e W5 ⟨rfl, q, rfl⟩
      refine hK _ _ ⟨HX4.out.cell 0 _ rfl, HX4.out.cell 1 _ rfl, HX4.out.cell 2 _ rfl⟩ ?_
      clear hK K
      apply wpOrd_read0
      case hi => rfl
      case hw => rfl
      case hy => (intro w; go_simp; try rfl)
      intro K hK; go_simp; refine hK _ _ ?_; clear hK K
      apply wpOrd_read0
      case hi => rfl
      case hw => rfl
      case hy => (intro w; go_simp; try rfl)
      intro K hK; go_simp; refine hK _ _ ?_; clear hK K
      apply wpOrd_read0
      case hi => rfl
      case hw => rfl
      case hy => (intro w; go_simp; try rfl)
      intro K hK; go_simp; refine hK _ _ ?_; clear hK K
      apply wpOrd_read1
      case hi => rfl
      case hw => rfl
      case hy => (intro w hw; obtain ⟨h1, h2, h3⟩ := hw; go_simp; try rfl)
      intro K hK; go_simp; refine hK _ _ ?_; clear hK K
      apply wpOrd_read0
      case hi => rfl
      case hw => rfl
      case hy => (intro w; go_simp; try rfl)
      intro K hK; go_simp; refine hK _ _ ?_; clear hK K
      apply wpOrd_read1
      case hi => rfl
      case hw => rfl
      case hy => (intro w hw; obtain ⟨h1, h2, h3⟩ := hw; go_simp; try rfl)
      intro K hK; go_simp; refine hK _ _ ?_; clear hK K
      apply wpOrd_read0
      case hi => rfl
      case hw => rfl
      case hy => (intro w; go_simp; try rfl)
      intro K hK; go_simp; refine hK _ _ ?_; clear hK K
      apply wpOrd_read1
      case hi => rfl
      case hw => rfl
      case hy => (intro w hw; obtain ⟨h1, h2, h3⟩ := hw; go_simp; try rfl)
      intro K hK; go_simp; refine hK _ _ ?_; clear hK K
      apply wpOrd_read0
      case hi => rfl
      case hw => rfl
      case hy => (intro w; go_simp; try rfl)
      intro K hK; go_simp; refine hK _ _ ?_; clear hK K
      apply wpOrd_eff2
      case hi => rfl
      case hw => rfl
      intro K hK
      go_simp
      refine (pairs_1000 T o lo hi back L Y (W4.drewN q) (HT4.out.below ⟨rfl, rfl, rfl, Nat.le_refl _, fun _ _ => rfl⟩) (by have := HLL.out; omega)).mono ?_
      rintro e W6 ⟨v6, rfl, hr6, hb6⟩
      have hb46 : Below W4.heap.size W4 W6 := (below_drewN'' (Below.refl _ W4) q).trans hb6
      have HP6 := Lib.hid (PrAt.of_own rfl hr6)
      rw [← HD.out] at HP6
      have HX6 := Lib.hid (HX4.out.keep hb46)
      have HB6 := Lib.hid (HB4.out.trans (hb46.mono HB4.out.size))
      have HQ6 := Lib.hid (HQ4.out.below hb46)
      refine hK _ _ ⟨HX6.out.cell 0 _ rfl, HX6.out.cell 1 _ rfl, HX6.out.cell 2 _ rfl⟩ ?_
      clear hK K hr6 hb6 hb46 HX4 HB4 HQ4 HN4 HP4 HT4
      apply wpOrd_eff3
      case hi => rfl
      case hw => rfl
      intro K hK
      go_simp
      refine (same_eq v6 (.slice (some ⟨g, 0, none⟩) D.length c3) D W6 HP6.out HQ6.out (by have := HSL.out; have := HLL.out; omega)).mono ?_
      rintro e W7 ⟨rfl, q7, rfl⟩
      refine hK _ _ ?_
      clear hK K
      apply wpOrd_read0
      case hi => rfl
      case hw => rfl
      case hy => (intro w; go_simp; try rfl)
      intro K hK; go_simp; refine hK _ _ ?_; clear hK K
      apply wpOrd_read0
      case hi => rfl
      case hw => rfl
      case hy => (intro w; go_simp; try rfl)
      intro K hK; go_simp; refine hK _ _ ?_; clear hK K
      apply wpOrd_eff3
      case hi => rfl
      case hw => rfl
      intro K hK
      go_simp
      refine (awake_any _).mono ?_
      rintro e W8 ⟨rfl, hb8⟩
      have HB8 := Lib.hid (HB6.out.trans (((below_drewN'' (Below.refl _ W6) q7).trans hb8).mono HB6.out.size))
      refine hK _ _ ?_
      clear hK K hb8
      apply wpOrd_read0
      case hi => rfl
      case hw => rfl
      case hy => (intro w; go_simp; try rfl)
      intro K hK; go_simp; refine hK _ _ ?_; clear hK K
      apply wpOrd_read0
      case hi => rfl
      case hw => rfl
      case hy => (intro w; go_simp; try rfl)
      intro K hK; go_simp; refine hK _ _ ?_; clear hK K
      refine wpOrd_nil ?_
      go_wp2_with fail
      go_ret
      exact ⟨rfl, HB8.out⟩
theorem law_scans (o : Int) (kv : Value) (ks : List Bs) (lo hi : Bs) (back : Bool) (st : Int) (hst : 0 ≤ st ∧ st < 256) (w : World) (hk : KeysArg w kv ks) :
    Calls Try.prog 4 #[.int .i64 o, kv, .agg #[.string lo, .string hi, .bool back, .int .u8 st]] w (LawOut w) := by
  have hk2 := hk
  obtain ⟨a, c, rfl, _⟩ := hk
  by_cases h1 : o < 4
  · exact scans_e1 o a ks.length c lo hi back st w h1
  · by_cases h2 : 256 < o
    · exact scans_e2 o a ks.length c lo hi back st w h2
    · by_cases h3 : 300 < ks.length
      · exact scans_e3 o a ks.length c lo hi back st w (by omega) (by omega) h3
      · obtain ⟨o, rfl⟩ := Int.eq_ofNat_of_zero_le (show 0 ≤ o by omega)
        obtain ⟨st, rfl⟩ := Int.eq_ofNat_of_zero_le hst.1
        exact scans_go o (by omega) (by omega) a c ks lo hi back st (by omega) w hk2 (by omega)
end Go.Proofs.Ytegljepgncicjaa
/- Btree: the law Orders. -/
namespace Go.Proofs.Ytegljepgncicjaa
open Go.ChangeShapes Go.WideShapes Go.ChangeAt Go.RowKit Go.Deep Go.Shelf
set_option linter.unusedVariables false
set_option linter.unusedSimpArgs false
set_option maxRecDepth 100000 in
set_option maxHeartbeats 1600000 in
theorem orders_e1 (o : Int) (ka : Option Addr) (kl kc : Nat) (w : World) (h : o < 4) :
    Calls Try.prog 6 #[.int .i64 o, .slice ka kl kc] w (LawOut w) := by
  have HB := Lib.hid (Below.refl w.heap.size w)
  have d1 : decide (o < 4) = true := decide_eq_true h
  go_enter Try.func6, Try.ntmps6
  go_wp2_with fail
  refine (awake_any _).mono ?_
  rintro e w1 ⟨rfl, hb⟩
  have HB2 := Lib.hid (HB.out.trans (hb.mono HB.out.size))
  clear hb
  go_wp2_with fail
  go_ret
  exact ⟨rfl, HB2.out⟩
set_option maxRecDepth 100000 in
set_option maxHeartbeats 1600000 in
theorem orders_e2 (o : Int) (ka : Option Addr) (kl kc : Nat) (w : World) (h : 256 < o) :
    Calls Try.prog 6 #[.int .i64 o, .slice ka kl kc] w (LawOut w) := by
  have HB := Lib.hid (Below.refl w.heap.size w)
  have d1 : decide (o < 4) = false := decide_eq_false (by omega)
  have d2 : decide (256 < o) = true := decide_eq_true h
  go_enter Try.func6, Try.ntmps6
  go_wp2_with fail
  refine (awake_any _).mono ?_
  rintro e w1 ⟨rfl, hb⟩
  have HB2 := Lib.hid (HB.out.trans (hb.mono HB.out.size))
  clear hb
  go_wp2_with fail
  go_ret
  exact ⟨rfl, HB2.out⟩
set_option maxRecDepth 100000 in
set_option maxHeartbeats 1600000 in
theorem orders_e3 (o : Int) (ka : Option Addr) (kl kc : Nat) (w : World) (h1 : 4 ≤ o) (h2 : o ≤ 256) (h : 300 < kl) :
    Calls Try.prog 6 #[.int .i64 o, .slice ka kl kc] w (LawOut w) := by
  have HB := Lib.hid (Below.refl w.heap.size w)
  have d1 : decide (o < 4) = false := decide_eq_false (by omega)
  have d2 : decide (256 < o) = false := decide_eq_false (by omega)
  have d3 : decide ((300 : Int) < (kl : Int)) = true := decide_eq_true (by omega)
  go_enter Try.func6, Try.ntmps6
  go_wp2_with fail
  refine (awake_any _).mono ?_
  rintro e w1 ⟨rfl, hb⟩
  have HB2 := Lib.hid (HB.out.trans (hb.mono HB.out.size))
  clear hb
  go_wp2_with fail
  go_ret
  exact ⟨rfl, HB2.out⟩
/-- the pairs after n steps -/
def ordL (ks : List Bs) : Nat → List Pr
  | 0 => []
  | i + 1 => putL (ordL ks i) (sx ks i) (sx ks i ++ ⟨#[118]⟩)
theorem ordL_len (ks : List Bs) : ∀ n, (ordL ks n).length ≤ n
  | 0 => by simp [ordL]
  | n + 1 => by
    have := ordL_len ks n
    have := putL_len1 (ordL ks n) (sx ks n) (sx ks n ++ ⟨#[118]⟩)
    unfold ordL
    omega
theorem ordL_val (ks : List Bs) : ∀ n, ∀ x ∈ ordL ks n, x.2 = x.1 ++ ⟨#[118]⟩
  | 0, x, h => by simp [ordL] at h
  | n + 1, x, h => by
    unfold ordL at h
    rcases putL_mem h with h | h
    · exact ordL_val ks n x h
    · rw [h]
theorem ordL_sz (ks : List Bs) (hsz : ∀ j, j < ks.length → (sx ks j).size ≤ 140737488351232) : ∀ n, n ≤ ks.length → ∀ x ∈ ordL ks n, x.1.size ≤ 140737488351232
  | 0, _, x, h => by simp [ordL] at h
  | n + 1, hn, x, h => by
    unfold ordL at h
    rcases putL_mem h with h | h
    · exact ordL_sz ks hsz n (by omega) x h
    · rw [h]; exact hsz n (by omega)
theorem scan_all (L : List Pr) : scanL ⟨#[]⟩ ⟨#[]⟩ false L = L := by
  have e : ByteArray.toList ⟨#[]⟩ = [] := by rw [ByteArray.toList_eq]
  have e2 : ∀ x : List UInt8, Op.bytesLess x [] = false := fun x => by cases x <;> rfl
  show L.filter _ = L
  refine List.filter_eq_self.2 fun x _ => ?_
  simp [inU, lB, bdOf, e, e2]
theorem scan_back (L : List Pr) : scanL ⟨#[]⟩ ⟨#[]⟩ true L = L.reverse := by
  have e : ByteArray.toList ⟨#[]⟩ = [] := by rw [ByteArray.toList_eq]
  have e2 : ∀ x : List UInt8, Op.bytesLess x [] = false := fun x => by cases x <;> rfl
  show L.reverse.filter _ = L.reverse
  refine List.filter_eq_self.2 fun x _ => ?_
  simp [inU, lB, bdOf, e, e2]
theorem rev_at (L : List Pr) (k : Nat) (h : k < L.length) : L.reverse[L.length - 1 - k]'(by rw [List.length_reverse]; omega) = L[k] := by
  rw [List.getElem_reverse]
  congr 1
  omega
theorem srt_get {L : List Pr} (h : Srt L) (k : Nat) (hk : k < L.length) : getL L L[k].1 = some L[k].2 := by
  have e : L = L.take k ++ (L[k].1, L[k].2) :: L.drop (k + 1) := by
    conv => lhs; rw [← List.take_append_drop k L, List.drop_eq_getElem_cons hk]
  conv => lhs; arg 1; rw [e]
  exact getL_mid (by rw [← e]; exact h)
theorem srt_lt {L : List Pr} (h : Srt L) (k : Nat) (hk : k + 1 < L.length) : lB L[k].1 L[k + 1].1 = true := List.pairwise_iff_getElem.1 h k (k + 1) (by omega) hk (by omega)
theorem Tr.srt {W : World} {T o : Nat} {L : List Pr} {Y : Nat → Prop} (h : Tr W T o L Y) : Srt L := by
  obtain ⟨_, _, _, _, h⟩ := h
  exact h.srt
/-- a tree -/
structure TW1 (w0 : World) (T o : Nat) (L : List Pr) (W : World) : Prop where
  tr : ∃ Y, Tr W T o L Y ∧ ∀ k, Y k → w0.heap.size ≤ k
  b : Below w0.heap.size w0 W
theorem TW1.below {w0 W W1 : World} {T o : Nat} {L : List Pr} (h : TW1 w0 T o L W) (hb : Below W.heap.size W W1) : TW1 w0 T o L W1 := by
  obtain ⟨Y, h1, h2⟩ := h.tr
  exact ⟨⟨Y, h1.below hb, h2⟩, h.b.trans (hb.mono h.b.size)⟩
theorem TW1.drew {w0 W : World} {T o : Nat} {L : List Pr} (h : TW1 w0 T o L W) : TW1 w0 T o L W.drew := h.below ⟨rfl, rfl, rfl, Nat.le_refl _, fun _ _ => rfl⟩
theorem TW1.drewN {w0 W : World} {T o : Nat} {L : List Pr} (h : TW1 w0 T o L W) (q : Nat) : TW1 w0 T o L (W.drewN q) := h.below ⟨rfl, rfl, rfl, Nat.le_refl _, fun _ _ => rfl⟩
theorem TW1.put {w0 W : World} {T o : Nat} {L : List Pr} (h : TW1 w0 T o L W) (hl : L.length ≤ 5000) (key val : Bs) :
    Calls Try.prog 20 #[.pointer (some ⟨T, 0, none⟩), .string key, .string val] W fun e W' => e = .returned (.bool (getL L key).isNone) ∧ TW1 w0 T o (putL L key val) W' := by
  obtain ⟨Y, h1, h2⟩ := h.tr
  refine (Put_T W T o L Y key val h1 hl).mono ?_
  rintro e W1 ⟨rfl, ht, hk⟩
  refine ⟨rfl, ⟨_, ht, fun k hy => ?_⟩, h.b.trans (hk.below h.b.size h2)⟩
  rcases hy with hy | hy
  · exact h2 k hy
  · have := h.b.size; omega
theorem tw1_new (o : Nat) (h4 : 4 ≤ o) (h6 : o ≤ 256) (W : World) : TW1 W W.heap.size o [] (W.alloc (.cells #[.int .i64 o, .int .i64 0, .pointer none] 68)) :=
  ⟨⟨_, tr_new o h4 h6 W, fun k hk => by omega⟩, (Below.refl _ W).alloc (Nat.le_refl _) _⟩
set_option maxRecDepth 100000 in
set_option maxHeartbeats 3200000 in
theorem orders_go (o : Nat) (h4 : 4 ≤ o) (h6 : o ≤ 256) (ka : Option Addr) (kc : Nat) (ks : List Bs) (w : World) (hk : KeysArg w (.slice ka ks.length kc) ks) (hl : ks.length ≤ 300) (hsz : ∀ j, j < ks.length → (sx ks j).size ≤ 140737488351232) :
    Calls Try.prog 6 #[.int .i64 o, .slice ka ks.length kc] w (LawOut w) := by
  have HK := Lib.hid (show ∀ w' : World, Below w.heap.size w w' → 0 < ks.length → ∃ B o, ka = some ⟨B, o, none⟩ ∧ B < w.heap.size ∧ ∀ j, j < ks.length → w'.cell? ⟨B, o + j, none⟩ = some (.string (sx ks j)) from fun w' hb h0 => by
    obtain ⟨a', c', he, h⟩ := hk
    cases he
    obtain ⟨B, o, h1, h2, h3⟩ := h h0
    exact ⟨B, o, h1, h2, fun j hj => (hb.cell (p := ⟨B, o + j, none⟩) h2).trans (h3 j hj)⟩)
  have d1 : decide ((o : Int) < 4) = false := decide_eq_false (by omega)
  have d2 : decide ((256 : Int) < (o : Int)) = false := decide_eq_false (by omega)
  have d3 : decide ((300 : Int) < (ks.length : Int)) = false := decide_eq_false (by omega)
  have HSZ := Lib.hid hsz
  clear hk hsz
  go_enter Try.func6, Try.ntmps6
  go_wp2_with fail
  clear d1 d2 d3
  refine (New_ok o h4 h6 _).mono ?_
  rintro e w1 ⟨rfl, hw⟩
  obtain rfl := hw.symm
  have HT := Lib.hid (tw1_new o h4 h6 w)
  generalize w.alloc _ = W1 at HT ⊢
  obtain ⟨T, hT⟩ : ∃ T, T = w.heap.size := ⟨_, rfl⟩
  rw [← hT] at HT ⊢
  clear hT
  go_wp2_with fail
  go_loopw [7] (fun i wr => ∃ k : Nat, k ≤ ks.length ∧ i = .int .i64 k ∧ TW1 w T o (ordL ks k) wr) (fun i _ => ks.length - (intOf i).toNat)
  case atStart => exact ⟨0, Nat.zero_le _, rfl, HT.out⟩
  case round =>
    clear HT
    obtain ⟨k, hk, rfl, htw⟩ := hrel
    have HT := Lib.hid htw
    clear htw
    have HLn := Lib.hid (ordL_len ks k)
    by_cases hlt : k < ks.length
    · obtain ⟨B, bo, rfl, hBl, hcell⟩ := HK.out wr HT.out.b (by omega)
      have a0 := hcell k hlt
      have HST : Hid (ordL ks (k + 1) = putL (ordL ks k) (sx ks k) (sx ks k ++ ⟨#[118]⟩)) := Lib.hid rfl
      have hx9 : (sx ks k).size + 1 ≤ 9223372036854775807 := by have := HSZ.out k hlt; omega
      have hx8 : ¬ (9223372036854775807 < (sx ks k).size + 1) := by omega
      clear hcell hBl HSZ
      generalize sx ks k = x at *
      go_wp2_with fail
      refine wp_region_ordW 11 10 [(0, 0), (1, 0), (2, 0), (3, 0), (4, 1), (5, 0), (6, 0), (7, 0), (8, 1), (9, 0), (10, 3)] (fun X => X.cell? ⟨B, bo + k, none⟩ = some (.string x)) (by kernel_rfl) (by kernel_rfl) a0 (fun c a d v w h => by cases d <;> exact h) ?_
      apply wpOrd_read0
      case hi => rfl
      case hw => rfl
      case hy => (intro w; go_simp; try rfl)
      intro K hK; go_simp; refine hK _ _ ?_; clear hK K
      apply wpOrd_read0
      case hi => rfl
      case hw => rfl
      case hy => (intro w; go_simp; try rfl)
      intro K hK; go_simp; refine hK _ _ ?_; clear hK K
      apply wpOrd_read0
      case hi => rfl
      case hw => rfl
      case hy => (intro w; go_simp; try rfl)
      intro K hK; go_simp; refine hK _ _ ?_; clear hK K
      apply wpOrd_read0
      case hi => rfl
      case hw => rfl
      case hy => (intro w; go_simp; try rfl)
      intro K hK; go_simp; refine hK _ _ ?_; clear hK K
      apply wpOrd_read1
      case hi => rfl
      case hw => rfl
      case hy => (intro w hw; obtain h1 := hw; go_simp; try rfl)
      intro K hK; go_simp; refine hK _ _ ?_; clear hK K
      apply wpOrd_read0
      case hi => rfl
      case hw => rfl
      case hy => (intro w; go_simp; try rfl)
      intro K hK; go_simp; refine hK _ _ ?_; clear hK K
      apply wpOrd_read0
      case hi => rfl
      case hw => rfl
      case hy => (intro w; go_simp; try rfl)
      intro K hK; go_simp; refine hK _ _ ?_; clear hK K
      apply wpOrd_read0
      case hi => rfl
      case hw => rfl
      case hy => (intro w; go_simp; try rfl)
      intro K hK; go_simp; refine hK _ _ ?_; clear hK K
      apply wpOrd_read1
      case hi => rfl
      case hw => rfl
      case hy => (intro w hw; obtain h1 := hw; go_simp; try rfl)
      intro K hK; go_simp; refine hK _ _ ?_; clear hK K
      apply wpOrd_read0
      case hi => rfl
      case hw => rfl
      case hy => (intro w; go_simp; try rfl)
      intro K hK; go_simp; refine hK _ _ ?_; clear hK K
      apply wpOrd_eff3
      case hi => rfl
      case hw => rfl
      intro K hK
      go_simp
      refine (HT.out.drew.put (by have := HLn.out; omega) x _).mono ?_
      rintro e W2 ⟨rfl, ht2⟩
      have HT2 := Lib.hid ht2
      clear ht2 HT
      refine hK _ _ (wpOrd_nil ?_)
      clear hK K
      go_wp2_with fail
      go_roundw
      case rel => exact ⟨k + 1, hlt, by go_num, by rw [HST.out]; exact HT2.out⟩
      case measure => simp [intOf]; omega
    · have hkn : k = ks.length := by omega
      subst hkn
      have HV := Lib.hid (ordL_val ks ks.length)
      have HSX := Lib.hid (ordL_sz ks HSZ.out ks.length (Nat.le_refl _))
      generalize ordL ks ks.length = L at *
      go_wp2_with fail
      obtain ⟨Y0, hY0, _⟩ := HT.out.tr
      refine (pairs_1000 T o ⟨#[]⟩ ⟨#[]⟩ false L Y0 wr hY0 (by have := HLn.out; omega)).mono ?_
      rintro e W3 ⟨va, rfl, hra, hba⟩
      rw [scan_all] at hra
      have HA3 := Lib.hid (PrAt.of_own rfl hra)
      have HT3 := Lib.hid (HT.out.below hba)
      obtain ⟨ga, ca, rfl⟩ := HA3.out.len
      clear hra hba HT hY0
      go_wp2_with fail
      obtain ⟨Y3, hY3, _⟩ := HT3.out.tr
      refine (pairs_1000 T o ⟨#[]⟩ ⟨#[]⟩ true L Y3 W3 hY3 (by have := HLn.out; omega)).mono ?_
      rintro e W4 ⟨vb, rfl, hrb, hbb⟩
      rw [scan_back] at hrb
      have HB4 := Lib.hid (PrAt.of_own rfl hrb)
      have HA4 := Lib.hid (HA3.out.below hbb)
      have HT4 := Lib.hid (HT3.out.below hbb)
      obtain ⟨gb, cb, rfl⟩ := HB4.out.len
      rw [List.length_reverse] at HB4 ⊢
      clear hrb hbb HT3 HA3 hY3
      go_wp2_with fail
      obtain ⟨Y4, hY4, _⟩ := HT4.out.tr
      refine (Len_T W4 T o L Y4 hY4).mono ?_
      rintro e w5 ⟨rfl, hw5⟩
      obtain rfl := hw5.symm
      go_wp2_with fail
      go_loopw [10] (fun i wr => ∃ k q : Nat, k ≤ L.length ∧ i = .int .i64 k ∧ wr = W4.drewN q) (fun i _ => L.length - (intOf i).toNat)
      case atStart => exact ⟨0, 0, Nat.zero_le _, rfl, rfl⟩
      case round =>
        obtain ⟨k, q, hk, rfl, rfl⟩ := hrel
        by_cases hlt : k < L.length
        · obtain ⟨g, c', hg, _, _, _, hcell⟩ := HA4.out.get (by omega)
          cases hg
          obtain ⟨g', c', hg, _, _, _, hcelb⟩ := HB4.out.get (by rw [List.length_reverse]; omega)
          have hgg : gb = some ⟨g', 0, none⟩ ∧ cb = c' := by rw [List.length_reverse] at hg; cases hg; exact ⟨rfl, rfl⟩
          obtain ⟨rfl, rfl⟩ := hgg
          clear hg
          have a0 := (hcell k hlt).1
          have a1 := (hcell k hlt).2
          have b0 := (hcelb (L.length - 1 - k) (by rw [List.length_reverse]; omega)).1
          have b1 := (hcelb (L.length - 1 - k) (by rw [List.length_reverse]; omega)).2
          rw [rev_at L k hlt] at b0 b1
          have hval : L[k].2 = L[k].1 ++ ⟨#[118]⟩ := HV.out _ (List.getElem_mem hlt)
          have hszk := HSX.out _ (List.getElem_mem hlt)
          obtain ⟨Y5, hY5, _⟩ := (HT4.out.drewN q).tr
          have hg5 : Calls Try.prog 24 #[.pointer (some ⟨T, 0, none⟩), .string L[k].1] (W4.drewN q) fun e W' => e = .returned (.tuple #[.string (L[k].1 ++ ⟨#[118]⟩), .bool true]) ∧ ∃ q2, W' = (W4.drewN q).drewN q2 := by
            refine (Get_T (W4.drewN q) T o L Y5 L[k].1 hY5).mono fun e W' h => ?_
            obtain ⟨h1, h2⟩ := h
            rw [srt_get hY5.srt k hlt, hval] at h1
            exact ⟨h1, h2⟩
          have HG := Lib.hid hg5
          clear hg5
          have hx8 : ¬ (9223372036854775807 < (L[k].1).size + 1) := by omega
          have hw1 : IntKind.i64.wrap ((L.length : Int) - 1) = ((L.length - 1 : Nat) : Int) := by have := HLn.out; rw [IntKind.wrap_i64]; omega
          have hw2 : IntKind.i64.wrap (((L.length - 1 : Nat) : Int) - (k : Int)) = ((L.length - 1 - k : Nat) : Int) := by have := HLn.out; rw [IntKind.wrap_i64]; omega
          have hjl : L.length - 1 - k < L.length := by omega
          have HS := Lib.hid hY5.srt
          rw [hval] at a1 b1
          clear hY4 hY5 hcelb hval hszk
          match k, hk, hlt with
          | 0, hk, hlt =>
            clear hcell
            generalize L[0] = x at *
            generalize L.length - 1 - 0 = j at *
            simp only [Nat.zero_mul, Nat.zero_add] at a0 a1
            go_wp2_with fail
            refine HG.out.mono ?_
            rintro e W6 ⟨rfl, q2, rfl⟩
            clear HG
            go_wp2_with fail
            go_quiet (fail)
            go_wp2_with fail
            go_roundw
            case rel => exact ⟨1, q + q2 + nq, hlt, rfl, by simp [World.drewN_drewN]⟩
            case measure => simp [intOf]; omega
          | k + 1, hk, hlt =>
            have p0 := (hcell k (by omega)).1
            have hyx : Op.bytesLess (ByteArray.toList L[k].1) (ByteArray.toList L[k + 1].1) = true := srt_lt HS.out k hlt
            have hw3 : IntKind.i64.wrap (((k + 1 : Nat) : Int) - 1) = (k : Int) := by have := HLn.out; rw [IntKind.wrap_i64]; omega
            have hk1 : k < L.length := by omega
            have hk2 : (0 : Int) < ((k + 1 : Nat) : Int) := by omega
            have hk3 : decide ((0 : Int) < ((k + 1 : Nat) : Int)) = true := decide_eq_true hk2
            clear hcell
            generalize L[k + 1] = x at *
            generalize L[k] = y at *
            generalize L.length - 1 - (k + 1) = j at *
            obtain ⟨i, hi⟩ : ∃ i, i = k + 1 := ⟨_, rfl⟩
            rw [← hi] at a0 a1 hw2 hw3 hlt hk2 hk3
            rw [← hi]
            have HI := Lib.hid hi
            have hk4 : 0 < i := by omega
            have hk5 : decide (0 < i) = true := decide_eq_true hk4
            clear hi hk
            go_wp2_with fail
            refine HG.out.mono ?_
            rintro e W6 ⟨rfl, q2, rfl⟩
            clear HG
            go_wp2_with fail
            go_quiet (fail)
            go_wp2_with fail
            go_roundw
            case rel => exact ⟨i + 1, q + q2 + nq, hlt, by go_num, by simp [World.drewN_drewN]⟩
            case measure => simp [intOf]; omega
        · have hkl : k = L.length := by omega
          subst hkl
          go_wp2_with fail
          refine (awake_any _).mono ?_
          rintro e W7 ⟨rfl, hb7⟩
          have HB7 := Lib.hid ((HT4.out.drewN q).b.trans (hb7.mono (HT4.out.drewN q).b.size))
          clear hb7
          go_wp2_with fail
          go_ret
          exact ⟨rfl, HB7.out⟩
theorem law_orders (o : Int) (kv : Value) (ks : List Bs) (w : World) (hk : KeysArg w kv ks) (hsz : ∀ j, j < ks.length → (sx ks j).size ≤ 140737488351232) :
    Calls Try.prog 6 #[.int .i64 o, kv] w (LawOut w) := by
  have hk2 := hk
  obtain ⟨a, c, rfl, _⟩ := hk
  by_cases h1 : o < 4
  · exact orders_e1 o a ks.length c w h1
  · by_cases h2 : 256 < o
    · exact orders_e2 o a ks.length c w h2
    · by_cases h3 : 300 < ks.length
      · exact orders_e3 o a ks.length c w (by omega) (by omega) h3
      · obtain ⟨o, rfl⟩ := Int.eq_ofNat_of_zero_le (show 0 ≤ o by omega)
        exact orders_go o (by omega) (by omega) a c ks w hk2 (by omega) hsz
end Go.Proofs.Ytegljepgncicjaa
/- Btree: Clone of a tree. -/
namespace Go.Proofs.Ytegljepgncicjaa
open Go.ChangeShapes Go.WideShapes Go.ChangeAt Go.RowKit Go.Deep
set_option linter.unusedVariables false
set_option linter.unusedSimpArgs false
theorem HpW.zero {B : Nat} {W : World} {σ : Sig} {fv : Nat → Nat → Value} {own : Nat → Nat × Nat} (h : HpW B W σ fv own) : HpW 0 W σ fv own := fun N nd hN => by
  obtain ⟨h1, _, h3, h4⟩ := h N nd hN
  exact ⟨h1, Nat.zero_le _, h3, fun j hj => ⟨(h4 j hj).1.base (Nat.zero_le _), (h4 j hj).2⟩⟩
theorem HpW.takes {B : Nat} {W : World} {σ : Sig} {fv : Nat → Nat → Value} {own : Nat → Nat × Nat} (h : HpW B W σ fv own) {k : Nat} (hk : Takes σ fv k) : B ≤ k ∧ k < W.heap.size := by
  obtain ⟨N, nd, hN, hk⟩ := hk
  obtain ⟨h1, h2, h3, h4⟩ := h N nd hN
  rcases hk with rfl | ⟨j, hj, e⟩
  · exact ⟨h2, h1.lt⟩
  · exact (h4 j hj).1.lt k e
/-- what Clone does -/
def TClone (o : Nat) (L : List Pr) (W : World) (e : Ending) (W' : World) : Prop :=
  ∃ C Y', e = .returned (.pointer (some ⟨C, 0, none⟩)) ∧ Tr W' C o L Y' ∧ Below W.heap.size W W' ∧ ∀ k, Y' k → W.heap.size ≤ k
/-- the ghost store without nodes -/
def sig0 : Sig := ⟨fun _ => none, fun _ => none⟩
theorem sig0_hp (W : World) : Hp W.heap.size W sig0 := ⟨fun _ _ => .bool false, fun k => (k, 9), fun N nd hN => (by cases hN), fun k b hb => (by cases hb)⟩
theorem tr_of_clone {W0 W1 : World} {C o h M : Nat} {L : List Pr} {τ' : Sig} {S' : Nat → Prop} {x : Value} (hC : C = W0.heap.size) (hbx : Box W1 C [.int .i64 o, .int .i64 L.length, x]) (hh : Hp (C + 1) W1 τ') (hT : IsT τ' o h 1 o M L S') (hs : Srt L) (h4 : 4 ≤ o) (h6 : o ≤ 256) :
    Tr (W1.setCell ⟨C, 2, none⟩ (ptr M)) C o L (fun k => C ≤ k ∧ k < W1.heap.size) := by
  have hk : Kept (fun k => k = C) W1 (W1.setCell ⟨C, 2, none⟩ (ptr M)) := (Kept.refl (fun k => k = C) _).setCells C 2 [ptr M] (.inl rfl)
  obtain ⟨fv, own, hW, hF⟩ := hh
  exact ⟨some M, τ', fv, own, ⟨hbx.setCell 2 (ptr M) (by simp), (hW.kept hk (fun k hk e => by have := (hW.takes hk).1; omega)).zero, fun k hk => ⟨⟨by have := (hW.takes hk).1; omega, (hW.takes hk).2⟩, fun e => by have := (hW.takes hk).1; omega⟩, ⟨Nat.le_refl _, hbx.lt⟩, fun k hk2 => Nat.lt_of_lt_of_le hk2.2 hk.size, hs, ⟨h, S', hT⟩, h4, h6⟩⟩
theorem tr_of_none {W1 : World} {C o : Nat} (hbx : Box W1 C [.int .i64 o, .int .i64 0, .pointer none]) (h4 : 4 ≤ o) (h6 : o ≤ 256) :
    Tr W1 C o [] (fun k => k = C) :=
  ⟨none, sig0, fun _ _ => .bool false, fun k => (k, 9), ⟨hbx, fun N nd hN => (by cases hN), fun k ⟨N, nd, hN, _⟩ => (by cases hN), rfl, fun k hk => by rw [hk]; exact hbx.lt, List.Pairwise.nil, rfl, h4, h6⟩⟩
set_option maxRecDepth 100000 in
set_option maxHeartbeats 1600000 in
theorem clone_nil (w : World) : Calls Try.prog 35 #[.pointer none] w fun e w' => e = .returned (.pointer none) ∧ w' = w := by
  go_enter Try.func35, Try.ntmps35
  go_wp2_with fail
  go_ret
  exact ⟨rfl, rfl⟩
set_option maxRecDepth 100000 in
set_option maxHeartbeats 1600000 in
theorem Clone_T (W : World) (T o : Nat) (L : List Pr) (Y : Nat → Prop) (h : Tr W T o L Y) :
    Calls Try.prog 25 #[.pointer (some ⟨T, 0, none⟩)] W (TClone o L W) := by
  obtain ⟨r, σ, hb, hq, hR, hs, h4, h6⟩ := h.hq
  have hW1 : Below W.heap.size W (W.alloc (.cells #[.int .i64 o, .int .i64 L.length, rp r] 68)) := (Below.refl _ W).alloc (Nat.le_refl _) _
  have hC := Box.new W [.int .i64 o, .int .i64 L.length, rp r] 68
  have hz : (W.alloc (.cells #[.int .i64 o, .int .i64 L.length, rp r] 68)).heap.size = W.heap.size + 1 := by simp
  have HB := Lib.hid (hb.keep hW1)
  have HC := Lib.hid (And.intro hC (And.intro hz hW1))
  have HP := Lib.hid (hq.hp.kept (kept_below hW1))
  have HS := Lib.hid (And.intro hs hR)
  have a0 : W.cell? ⟨T, 0, none⟩ = some (.int .i64 o) := hb.cell 0 _ rfl
  have a1 : W.cell? ⟨T, 1, none⟩ = some (.int .i64 L.length) := hb.cell 1 _ rfl
  have hTl := hb.lt
  cases r with
  | none =>
    have hL : L = [] := hR
    subst hL
    have a2 : W.cell? ⟨T, 2, none⟩ = some (.pointer none) := hb.cell 2 _ rfl
    have b2 := HB.out.cell 2 _ rfl
    clear hb hq hR hs hC hz hW1
    simp only [rp, Option.map_none, List.length_nil] at HC b2 a1
    go_enter Try.func25, Try.ntmps25
    go_wp2_with fail
    refine (clone_nil _).mono ?_
    rintro e w1 ⟨rfl, hw⟩
    obtain rfl := hw.symm
    go_wp2_with fail
    go_ret
    exact ⟨W.heap.size, fun k => k = W.heap.size, rfl, tr_of_none HC.out.1 h4 h6, HC.out.2.2, fun k hk => by omega⟩
  | some N =>
    obtain ⟨hh, S, hT⟩ := hR
    have a2 : W.cell? ⟨T, 2, none⟩ = some (.pointer (some ⟨N, 0, none⟩)) := hb.cell 2 _ rfl
    have b2 := HB.out.cell 2 _ rfl
    have HT := Lib.hid hT
    clear hb hq hs hC hz hW1 hT HS
    simp only [rp, Option.map_some] at HC b2 HP
    have HSR := Lib.hid h.srt
    clear h
    go_enter Try.func25, Try.ntmps25
    go_wp2_with fail
    generalize hWg : W.alloc (.cells #[.int .i64 o, .int .i64 L.length, .pointer (some ⟨N, 0, none⟩)] 68) = W1 at *
    have hz := HC.out.2.1
    have h0 := sig0_hp W1
    rw [hz] at h0
    refine (clone_T 0 (W.heap.size + 1) o h4 h6 hh 1 o N L S σ sig0 W1 HP.out h0 (by omega) HT.out (Nat.le_refl _) h6).mono ?_
    rintro e W2 ⟨M, τ', S', rfl, hh2, hb2, he, hT2, hS2⟩
    have hbx := HC.out.1.keep hb2
    have HR := Lib.hid (tr_of_clone rfl hbx hh2 hT2 HSR.out h4 h6)
    have HBW := Lib.hid ((HC.out.2.2.trans (hb2.mono (by omega))).setCell (p := ⟨W.heap.size, 2, none⟩) (Nat.le_refl _) (ptr M))
    have x2 := hbx.cell 2 _ rfl
    have xf := hbx.free 2
    have xl := hbx.lt
    clear hh2 hb2 he hT2 hS2 hbx h0
    simp only [ptr] at HR HBW ⊢
    go_wp2_with fail
    go_ret
    exact ⟨W.heap.size, _, rfl, HR.out, HBW.out, fun k hk => hk.1⟩
end Go.Proofs.Ytegljepgncicjaa
/- Btree: the law's do: a read. -/
namespace Go.Proofs.Ytegljepgncicjaa
open Go.ChangeShapes Go.WideShapes Go.ChangeAt Go.RowKit Go.Deep
set_option linter.unusedVariables false
set_option linter.unusedSimpArgs false
/-- a tree and a slice of the reference that hold the same pairs -/
structure DB (T o : Nat) (L : List Pr) (Y : Nat → Prop) (v : Value) (W : World) : Prop where
  tr : Tr W T o L Y
  pr : PrAt W v L
  vy : ∀ k, v.ownBlock = some k → ¬ Y k
theorem DB.below {T o : Nat} {L : List Pr} {Y : Nat → Prop} {v : Value} {W W1 : World} (h : DB T o L Y v W) (hb : Below W.heap.size W W1) : DB T o L Y v W1 := by
  have hk : Kept (fun k => ¬ k < W.heap.size) W W1 := ⟨hb.os, hb.tape, hb.output, hb.size, fun k hk _ => hb.block k hk⟩
  exact ⟨h.tr.kept hk (fun k hy hs => hs (h.tr.yl k hy)), h.pr.kept hk (fun k hk hs => hs (h.pr.own_lt k hk)), h.vy⟩
def DoOut (T o : Nat) (L' : List Pr) (Y : Nat → Prop) (v : Value) (W : World) (e : Ending) (W' : World) : Prop :=
  ∃ v' Y', e = .returned (.tuple #[.agg #[.int .i64 o, v'], .bool true]) ∧ DB T o L' Y' v' W' ∧ (∀ k, v'.ownBlock = some k → v.ownBlock = some k ∨ W.heap.size ≤ k) ∧ (∀ k, Y' k → Y k ∨ W.heap.size ≤ k) ∧ Kept Y W W'
/-- the boxes of do: the slice that was passed, the step, the result -/
structure DX (W0 : World) (T o : Nat) (L : List Pr) (Y : Nat → Prop) (v : Value) (k : Int) (key val : Bs) (b4 b5 b6 : Nat) (W : World) : Prop where
  db : DB T o L Y v W
  x4 : Box W b4 [.int .i64 o, v]
  x5 : Box W b5 [.int .i64 k, .string key, .string val]
  x6 : Box W b6 [.int .i64 0, .slice none 0 0]
  g4 : W0.heap.size ≤ b4
  g5 : W0.heap.size ≤ b5
  g6 : W0.heap.size ≤ b6
  n64 : b6 ≠ b4
  ov : ∀ j, v.ownBlock = some j → j < W0.heap.size
  ly : ∀ j, Y j → j < W0.heap.size
  b : Below W0.heap.size W0 W
theorem DX.below {W0 W W1 : World} {T o : Nat} {L : List Pr} {Y : Nat → Prop} {v : Value} {k : Int} {key val : Bs} {b4 b5 b6 : Nat} (h : DX W0 T o L Y v k key val b4 b5 b6 W) (hb : Below W.heap.size W W1) : DX W0 T o L Y v k key val b4 b5 b6 W1 :=
  ⟨h.db.below hb, h.x4.keep hb, h.x5.keep hb, h.x6.keep hb, h.g4, h.g5, h.g6, h.n64, h.ov, h.ly, h.b.trans (hb.mono h.b.size)⟩
theorem DX.start {W : World} {T o : Nat} {L : List Pr} {Y : Nat → Prop} {v : Value} {k : Int} {key val : Bs} (h : DB T o L Y v W) :
    DX W T o L Y v k key val W.heap.size (W.heap.size + 1) (W.heap.size + 1 + 1) (((W.alloc (.cells #[.int .i64 o, v] 30)).alloc (.cells #[.int .i64 k, .string key, .string val] 36)).alloc (.cells #[.int .i64 0, .slice none 0 0] 30)) := by
  have hb : Below W.heap.size W (((W.alloc (.cells #[.int .i64 o, v] 30)).alloc (.cells #[.int .i64 k, .string key, .string val] 36)).alloc (.cells #[.int .i64 0, .slice none 0 0] 30)) := (((Below.refl _ W).alloc (Nat.le_refl _) _).alloc (by simp) _).alloc (by simp; omega) _
  have h5 := Box.new (W.alloc (.cells #[.int .i64 o, v] 30)) [.int .i64 k, .string key, .string val] 36
  have h6 := Box.new ((W.alloc (.cells #[.int .i64 o, v] 30)).alloc (.cells #[.int .i64 k, .string key, .string val] 36)) [.int .i64 0, .slice none 0 0] 30
  rw [World.size_alloc] at h5 h6
  rw [World.size_alloc] at h6
  exact ⟨h.below hb, ((Box.new W [.int .i64 o, v] 30).alloc _).alloc _, h5.alloc _, h6, Nat.le_refl _, by omega, by omega, by omega, fun j hj => h.pr.own_lt j hj, fun j hj => h.tr.yl j hj, hb⟩
/-- the result is stored, nothing has been worked on -/
theorem DX.done {W0 W : World} {T o : Nat} {L : List Pr} {Y : Nat → Prop} {v : Value} {k : Int} {key val : Bs} {b4 b5 b6 : Nat} (h : DX W0 T o L Y v k key val b4 b5 b6 W) :
    DoOut T o L Y v W0 (.returned (.tuple #[.agg #[.int .i64 o, v], .bool true])) ((W.setCell ⟨b6, 0, none⟩ (.int .i64 o)).setCell ⟨b6, 1, none⟩ v) := by
  have hk : Kept (fun k => k = b6) W ((W.setCell ⟨b6, 0, none⟩ (.int .i64 o)).setCell ⟨b6, 1, none⟩ v) := (Kept.refl (fun k => k = b6) _).setCells b6 0 [.int .i64 o, v] (.inl rfl)
  have hg := h.g6
  have hb := h.b.trans (hk.below h.b.size (fun k e => by rw [e]; exact hg))
  refine ⟨v, Y, rfl, ⟨h.db.tr.kept hk (fun k hy e => ?_), h.db.pr.kept hk (fun k hy e => ?_), h.db.vy⟩, fun k hk => .inl hk, fun k hk => .inl hk, ⟨hb.os, hb.tape, hb.output, hb.size, fun k hk _ => hb.block k hk⟩⟩
  · have := h.ly k hy; omega
  · have := h.ov k hy; omega
set_option maxRecDepth 100000 in
set_option maxHeartbeats 1600000 in
theorem do_get (T o : Nat) (L : List Pr) (Y : Nat → Prop) (v : Value) (k : Int) (key val : Bs) (W : World) (h : DB T o L Y v W) (hl : L.length ≤ 5000) (h0 : (k == 0) = false) (h1 : (k == 1) = false) :
    Calls Try.prog 12 #[.pointer (some ⟨T, 0, none⟩), .agg #[.int .i64 o, v], .agg #[.int .i64 k, .string key, .string val]] W (DoOut T o L Y v W) := by
  obtain ⟨a, c, rfl⟩ := h.pr.len
  have HX := Lib.hid (DX.start (k := k) (key := key) (val := val) h)
  clear h
  go_enter Try.func12, Try.ntmps12
  go_wp2_with fail
  generalize ((W.alloc (.cells #[.int .i64 o, .slice a L.length c] 30)).alloc (.cells #[.int .i64 k, .string key, .string val] 36)).alloc (.cells #[.int .i64 0, .slice none 0 0] 30) = W3 at *
  generalize W.heap.size + 1 + 1 = b6 at *
  generalize W.heap.size + 1 = b5 at *
  generalize W.heap.size = b4 at *
  refine (Get_T W3 T o L Y key HX.out.db.tr).mono ?_
  rintro e W4 ⟨rfl, q, rfl⟩
  have HX4 := Lib.hid (HX.out.below (W1 := W3.drewN q) ⟨rfl, rfl, rfl, Nat.le_refl _, fun _ _ => rfl⟩)
  clear HX
  have a40 := HX4.out.x4.cell 0 _ rfl
  have a41 := HX4.out.x4.cell 1 _ rfl
  have a51 := HX4.out.x5.cell 1 _ rfl
  generalize hW4 : W3.drewN q = W4 at *
  clear hW4
  go_wp2_with fail
  refine (rGet_any o _ L key W4 HX4.out.db.pr hl).mono ?_
  rintro e W5 ⟨rfl, hb5⟩
  have HX5 := Lib.hid (HX4.out.below hb5)
  clear hb5 HX4 a40 a41 a51
  have a40 := HX5.out.x4.cell 0 _ rfl
  have a41 := HX5.out.x4.cell 1 _ rfl
  have a60 := HX5.out.x6.cell 0 _ rfl
  have a61 := HX5.out.x6.cell 1 _ rfl
  have f60 := HX5.out.x6.free 0
  have f61 := HX5.out.x6.free 1
  generalize (getL L key).getD ByteArray.empty = g
  generalize (getL L key).isSome = s
  go_wp2_with fail
  have hend := (HX5.out.x6.setCell 0 (.int .i64 o) (by simp)).setCell 1 (.slice a L.length c) (by simp)
  have e0 := hend.cell 0 _ rfl
  have e1 := hend.cell 1 _ rfl
  exact bodyPost_ret (v := .tuple #[.agg #[.int .i64 o, .slice a L.length c], .bool true]) (by simp [results, Try.results12, go_sem, e0, e1]) rfl HX5.out.done
end Go.Proofs.Ytegljepgncicjaa
/- Btree: the law's do: Put. -/
namespace Go.Proofs.Ytegljepgncicjaa
open Go.ChangeShapes Go.WideShapes Go.ChangeAt Go.RowKit Go.Deep
set_option linter.unusedVariables false
set_option linter.unusedSimpArgs false
theorem do_end {W W3 W4 W5 W6 : World} {T o : Nat} {L L' : List Pr} {Y : Nat → Prop} {v v2 : Value} {k : Int} {key val : Bs} {b4 b5 b6 : Nat} (hx : DX W T o L Y v k key val b4 b5 b6 W5) (hp : PrAt W4 v2 L') (ho : ∀ k, v2.ownBlock = some k → v.ownBlock = some k ∨ W3.heap.size ≤ k)
    (h6 : b6 < W3.heap.size) (hb : Below W4.heap.size W4 W5) (ht : Tr W6 T o L' (GrowY Y W5.drew W6)) (hk : Kept Y W5.drew W6) :
    DoOut T o L' Y v W (.returned (.tuple #[.agg #[.int .i64 o, v2], .bool true])) ((W6.setCell ⟨b6, 0, none⟩ (.int .i64 o)).setCell ⟨b6, 1, none⟩ v2) := by
  have hk2 : Kept (fun k => k = b6) W6 ((W6.setCell ⟨b6, 0, none⟩ (.int .i64 o)).setCell ⟨b6, 1, none⟩ v2) := (Kept.refl (fun k => k = b6) _).setCells b6 0 [.int .i64 o, v2] (.inl rfl)
  have g6 := hx.g6
  have hs := hb.size
  have hsx := hx.b.size
  have hl6 := hx.x6.lt
  have hs5 : W5.heap.size ≤ W6.heap.size := hk.size
  have hny : ∀ k, v2.ownBlock = some k → ¬ Y k := fun k hk hy => by
    rcases ho k hk with h | h
    · exact hx.db.vy k h hy
    · have := hx.ly k hy; omega
  have hn6 : ∀ k, v2.ownBlock = some k → k ≠ b6 := fun k hk e => by
    rcases ho k hk with h | h
    · have := hx.ov k h; omega
    · omega
  refine ⟨v2, GrowY Y W5.drew W6, rfl, ⟨ht.kept hk2 (fun k hy e => ?_), (((hp.below hb).drewN 1).kept hk hny).kept hk2 hn6, fun k hk hy => ?_⟩, fun k hk => (ho k hk).imp id (fun h => by omega), fun k hy => hy.imp id (fun h => ?_), ?_⟩
  · rcases hy with hy | hy
    · have := hx.ly k hy; omega
    · have h1 : W5.heap.size ≤ k := hy.1
      omega
  · rcases hy with hy | hy
    · exact hny k hk hy
    · have h1 : W5.heap.size ≤ k := hy.1
      have := hp.own_lt k hk
      omega
  · have h1 : W5.heap.size ≤ k := h.1
    omega
  · refine ⟨hk2.os.trans (hk.os.trans hx.b.os), hk2.tape.trans (hk.tape.trans hx.b.tape), hk2.output.trans (hk.output.trans hx.b.output), Nat.le_trans hsx (Nat.le_trans hs5 hk2.size), fun k hlt hy => ?_⟩
    rw [hk2.block k (by omega) (by omega), hk.block k (by show k < W5.heap.size; omega) hy]
    exact hx.b.block k hlt
set_option maxRecDepth 100000 in
set_option maxHeartbeats 1600000 in
theorem do_put (T o : Nat) (L : List Pr) (Y : Nat → Prop) (v : Value) (key val : Bs) (W : World) (h : DB T o L Y v W) (hl : L.length ≤ 5000) :
    Calls Try.prog 12 #[.pointer (some ⟨T, 0, none⟩), .agg #[.int .i64 o, v], .agg #[.int .i64 0, .string key, .string val]] W (DoOut T o (putL L key val) Y v W) := by
  obtain ⟨a, c, rfl⟩ := h.pr.len
  have HX := Lib.hid (DX.start (k := 0) (key := key) (val := val) h)
  clear h
  go_enter Try.func12, Try.ntmps12
  go_wp2_with fail
  generalize ((W.alloc (.cells #[.int .i64 o, .slice a L.length c] 30)).alloc (.cells #[.int .i64 0, .string key, .string val] 36)).alloc (.cells #[.int .i64 0, .slice none 0 0] 30) = W3 at *
  generalize W.heap.size + 1 + 1 = b6 at *
  generalize W.heap.size + 1 = b5 at *
  generalize W.heap.size = b4 at *
  refine (rPut_any o _ L key val W3 HX.out.db.pr hl).mono ?_
  rintro e W4 ⟨v2, rfl, hp4, hb4, ho4⟩
  obtain ⟨a2, c2, rfl⟩ := hp4.len
  have HX4 := Lib.hid (HX.out.below hb4)
  have HS := Lib.hid (And.intro HX.out.x6.lt hb4.size)
  have HV := Lib.hid (And.intro hp4 ho4)
  clear HX hp4 ho4 hb4
  have HL2 := Lib.hid (rfl : (putL L key val).length = (putL L key val).length)
  generalize hn2 : (putL L key val).length = n2 at *
  go_wp2_with fail
  have hx5 := HX4.out.below ((Below.refl _ W4).alloc (Nat.le_refl _) (.cells #[.int .i64 o, .slice a2 n2 c2] 30))
  have h8 := Box.new W4 [.int .i64 o, .slice a2 n2 c2] 30
  have hz5 : (W4.alloc (.cells #[.int .i64 o, .slice a2 n2 c2] 30)).heap.size = W4.heap.size + 1 := by simp
  have hb5 : Below W4.heap.size W4 (W4.alloc (.cells #[.int .i64 o, .slice a2 n2 c2] 30)) := (Below.refl _ W4).alloc (Nat.le_refl _) _
  generalize W4.alloc (.cells #[.int .i64 o, .slice a2 n2 c2] 30) = W5 at *
  generalize hb8 : W4.heap.size = b8 at *
  have HY := Lib.hid (And.intro hx5 h8)
  have HZ := Lib.hid (And.intro hb8 hb5)
  have a80 := h8.cell 0 _ rfl
  have a81 := h8.cell 1 _ rfl
  have a51 := hx5.x5.cell 1 _ rfl
  have a52 := hx5.x5.cell 2 _ rfl
  clear hx5 h8 hz5 hb5 hb8
  refine wp_region_ordW 11 9 [(0, 1), (1, 0), (2, 0), (3, 1), (4, 0), (5, 1), (7, 0), (6, 2), (8, 0), (9, 3), (10, 0)] (fun X => (X.cell? ⟨b8, 0, none⟩ = some (.int .i64 o) ∧ X.cell? ⟨b8, 1, none⟩ = some (.slice a2 n2 c2)) ∧ X.cell? ⟨b5, 1, none⟩ = some (.string key) ∧ X.cell? ⟨b5, 2, none⟩ = some (.string val)) (by kernel_rfl) (by kernel_rfl) ⟨⟨a80, a81⟩, a51, a52⟩ (fun c a d v w h => by cases d <;> exact h) ?_
  apply wpOrd_read1
  case hi => rfl
  case hw => rfl
  case hy => (intro w hw; obtain ⟨⟨h1, h2⟩, h3, h4⟩ := hw; go_simp; try rfl)
  intro K hK; go_simp; refine hK _ _ ?_; clear hK K
  apply wpOrd_read0
  case hi => rfl
  case hw => rfl
  case hy => (intro w; go_simp; try rfl)
  intro K hK; go_simp; refine hK _ _ ?_; clear hK K
  apply wpOrd_read0
  case hi => rfl
  case hw => rfl
  case hy => (intro w; go_simp; try rfl)
  intro K hK; go_simp; refine hK _ _ ?_; clear hK K
  apply wpOrd_read1
  case hi => rfl
  case hw => rfl
  case hy => (intro w hw; obtain ⟨⟨h1, h2⟩, h3, h4⟩ := hw; go_simp; try rfl)
  intro K hK; go_simp; refine hK _ _ ?_; clear hK K
  apply wpOrd_read0
  case hi => rfl
  case hw => rfl
  case hy => (intro w; go_simp; try rfl)
  intro K hK; go_simp; refine hK _ _ ?_; clear hK K
  apply wpOrd_read1
  case hi => rfl
  case hw => rfl
  case hy => (intro w hw; obtain ⟨⟨h1, h2⟩, h3, h4⟩ := hw; go_simp; try rfl)
  intro K hK; go_simp; refine hK _ _ ?_; clear hK K
  apply wpOrd_read0
  case hi => rfl
  case hw => rfl
  case hy => (intro w; go_simp; try rfl)
  intro K hK; go_simp; refine hK _ _ ?_; clear hK K
  apply wpOrd_eff2
  case hi => rfl
  case hw => rfl
  intro K hK
  go_simp
  refine (Put_T W5.drew T o L Y key val (HY.out.1.below (W1 := W5.drew) ⟨rfl, rfl, rfl, Nat.le_refl _, fun _ _ => rfl⟩).db.tr hl).mono ?_
  rintro e W6 ⟨rfl, ht6, hk6⟩
  have HP6 := Lib.hid (And.intro ht6 hk6)
  have hy1 := HY.out.1.below (W1 := W5.drew) ⟨rfl, rfl, rfl, Nat.le_refl _, fun _ _ => rfl⟩
  have hlow : ∀ b, W.heap.size ≤ b → ¬ Y b := fun b hb hy => by have := HY.out.1.ly b hy; omega
  have hx8 : Box W6 b8 [.int .i64 o, .slice a2 n2 c2] := HY.out.2.drew.kept hk6 (hlow b8 (by have := HS.out; have := HY.out.1.g6; omega))
  have hx5 := hy1.x5.kept hk6 (hlow b5 hy1.g5)
  have hx6 := hy1.x6.kept hk6 (hlow b6 hy1.g6)
  have HX6 := Lib.hid hx6
  have s0 := hx6.cell 0 _ rfl
  have s1 := hx6.cell 1 _ rfl
  have sf := hx6.free
  have sl := hx6.lt
  have q80 := hx8.cell 0 _ rfl
  have q81 := hx8.cell 1 _ rfl
  have q51 := hx5.cell 1 _ rfl
  have q52 := hx5.cell 2 _ rfl
  clear ht6 hk6 hy1 hx8 hx5 hx6
  refine hK _ _ ⟨⟨q80, q81⟩, q51, q52⟩ ?_
  clear hK K
  apply wpOrd_read0
  case hi => rfl
  case hw => rfl
  case hy => (intro w; go_simp; try rfl)
  intro K hK; go_simp; refine hK _ _ ?_; clear hK K
  apply wpOrd_eff3
  case hi => rfl
  case hw => rfl
  intro K hK
  go_simp
  refine hK _ _ ?_
  clear hK K
  apply wpOrd_read0
  case hi => rfl
  case hw => rfl
  case hy => (intro w; go_simp; try rfl)
  intro K hK; go_simp; refine hK _ _ ?_; clear hK K

  refine wpOrd_nil ?_
  clear a80 a81 a51 a52 q80 q81 q51 q52
  go_wp2_with fail
  have hend := (HX6.out.setCell 0 (.int .i64 o) (by simp)).setCell 1 (.slice a2 n2 c2) (by simp)
  have e0 := hend.cell 0 _ rfl
  have e1 := hend.cell 1 _ rfl
  have hbool : ((getL L key).isNone == !hasL L key) = true := by rw [hasL_get]; cases getL L key <;> rfl
  exact bodyPost_ret (v := .tuple #[.agg #[.int .i64 o, .slice a2 n2 c2], .bool true]) (by simp [results, Try.results12, go_sem, e0, e1, hbool]) rfl (do_end HY.out.1 HV.out.1 HV.out.2 HS.out.1 (by rw [HZ.out.1]; exact HZ.out.2) HP6.out.1 HP6.out.2)
end Go.Proofs.Ytegljepgncicjaa
/- Btree: the law's do: Delete. -/
namespace Go.Proofs.Ytegljepgncicjaa
open Go.ChangeShapes Go.WideShapes Go.ChangeAt Go.RowKit Go.Deep
set_option linter.unusedVariables false
set_option linter.unusedSimpArgs false
set_option maxRecDepth 100000 in
set_option maxHeartbeats 1600000 in
theorem do_del (T o : Nat) (L : List Pr) (Y : Nat → Prop) (v : Value) (key val : Bs) (W : World) (h : DB T o L Y v W) (hl : L.length ≤ 5000) :
    Calls Try.prog 12 #[.pointer (some ⟨T, 0, none⟩), .agg #[.int .i64 o, v], .agg #[.int .i64 1, .string key, .string val]] W (DoOut T o (delL L key) Y v W) := by
  obtain ⟨a, c, rfl⟩ := h.pr.len
  have HX := Lib.hid (DX.start (k := 1) (key := key) (val := val) h)
  clear h
  go_enter Try.func12, Try.ntmps12
  go_wp2_with fail
  generalize ((W.alloc (.cells #[.int .i64 o, .slice a L.length c] 30)).alloc (.cells #[.int .i64 1, .string key, .string val] 36)).alloc (.cells #[.int .i64 0, .slice none 0 0] 30) = W3 at *
  generalize W.heap.size + 1 + 1 = b6 at *
  generalize W.heap.size + 1 = b5 at *
  generalize W.heap.size = b4 at *
  refine (rDel_any o _ L key W3 HX.out.db.pr hl).mono ?_
  rintro e W4 ⟨v2, rfl, hp4, hb4, ho4⟩
  obtain ⟨a2, c2, rfl⟩ := hp4.len
  have HX4 := Lib.hid (HX.out.below hb4)
  have HS := Lib.hid (And.intro HX.out.x6.lt hb4.size)
  have HV := Lib.hid (And.intro hp4 ho4)
  clear HX hp4 ho4 hb4
  have HL2 := Lib.hid (rfl : (delL L key).length = (delL L key).length)
  generalize hn2 : (delL L key).length = n2 at *
  go_wp2_with fail
  have hx5 := HX4.out.below ((Below.refl _ W4).alloc (Nat.le_refl _) (.cells #[.int .i64 o, .slice a2 n2 c2] 30))
  have h8 := Box.new W4 [.int .i64 o, .slice a2 n2 c2] 30
  have hz5 : (W4.alloc (.cells #[.int .i64 o, .slice a2 n2 c2] 30)).heap.size = W4.heap.size + 1 := by simp
  have hb5 : Below W4.heap.size W4 (W4.alloc (.cells #[.int .i64 o, .slice a2 n2 c2] 30)) := (Below.refl _ W4).alloc (Nat.le_refl _) _
  generalize W4.alloc (.cells #[.int .i64 o, .slice a2 n2 c2] 30) = W5 at *
  generalize hb8 : W4.heap.size = b8 at *
  have HY := Lib.hid (And.intro hx5 h8)
  have HZ := Lib.hid (And.intro hb8 hb5)
  have a80 := h8.cell 0 _ rfl
  have a81 := h8.cell 1 _ rfl
  have a51 := hx5.x5.cell 1 _ rfl
  have a52 := hx5.x5.cell 2 _ rfl
  clear hx5 h8 hz5 hb5 hb8
  refine wp_region_ordW 9 7 [(0, 1), (1, 0), (2, 0), (3, 1), (5, 0), (4, 2), (6, 0), (7, 3), (8, 0)] (fun X => (X.cell? ⟨b8, 0, none⟩ = some (.int .i64 o) ∧ X.cell? ⟨b8, 1, none⟩ = some (.slice a2 n2 c2)) ∧ X.cell? ⟨b5, 1, none⟩ = some (.string key)) (by kernel_rfl) (by kernel_rfl) ⟨⟨a80, a81⟩, a51⟩ (fun c a d v w h => by cases d <;> exact h) ?_
  apply wpOrd_read1
  case hi => rfl
  case hw => rfl
  case hy => (intro w hw; obtain ⟨⟨h1, h2⟩, h3⟩ := hw; go_simp; try rfl)
  intro K hK; go_simp; refine hK _ _ ?_; clear hK K
  apply wpOrd_read0
  case hi => rfl
  case hw => rfl
  case hy => (intro w; go_simp; try rfl)
  intro K hK; go_simp; refine hK _ _ ?_; clear hK K
  apply wpOrd_read0
  case hi => rfl
  case hw => rfl
  case hy => (intro w; go_simp; try rfl)
  intro K hK; go_simp; refine hK _ _ ?_; clear hK K
  apply wpOrd_read1
  case hi => rfl
  case hw => rfl
  case hy => (intro w hw; obtain ⟨⟨h1, h2⟩, h3⟩ := hw; go_simp; try rfl)
  intro K hK; go_simp; refine hK _ _ ?_; clear hK K
  apply wpOrd_read0
  case hi => rfl
  case hw => rfl
  case hy => (intro w; go_simp; try rfl)
  intro K hK; go_simp; refine hK _ _ ?_; clear hK K
  apply wpOrd_eff2
  case hi => rfl
  case hw => rfl
  intro K hK
  go_simp
  refine (Del_T W5.drew T o L Y key (HY.out.1.below (W1 := W5.drew) ⟨rfl, rfl, rfl, Nat.le_refl _, fun _ _ => rfl⟩).db.tr hl).mono ?_
  rintro e W6 ⟨rfl, ht6, hk6⟩
  have HP6 := Lib.hid (And.intro ht6 hk6)
  have hy1 := HY.out.1.below (W1 := W5.drew) ⟨rfl, rfl, rfl, Nat.le_refl _, fun _ _ => rfl⟩
  have hlow : ∀ b, W.heap.size ≤ b → ¬ Y b := fun b hb hy => by have := HY.out.1.ly b hy; omega
  have hx8 : Box W6 b8 [.int .i64 o, .slice a2 n2 c2] := HY.out.2.drew.kept hk6 (hlow b8 (by have := HS.out; have := HY.out.1.g6; omega))
  have hx5 := hy1.x5.kept hk6 (hlow b5 hy1.g5)
  have hx6 := hy1.x6.kept hk6 (hlow b6 hy1.g6)
  have HX6 := Lib.hid hx6
  have s0 := hx6.cell 0 _ rfl
  have s1 := hx6.cell 1 _ rfl
  have sf := hx6.free
  have sl := hx6.lt
  have q80 := hx8.cell 0 _ rfl
  have q81 := hx8.cell 1 _ rfl
  have q51 := hx5.cell 1 _ rfl
  have q52 := hx5.cell 2 _ rfl
  clear ht6 hk6 hy1 hx8 hx5 hx6
  refine hK _ _ ⟨⟨q80, q81⟩, q51⟩ ?_
  clear hK K
  apply wpOrd_read0
  case hi => rfl
  case hw => rfl
  case hy => (intro w; go_simp; try rfl)
  intro K hK; go_simp; refine hK _ _ ?_; clear hK K
  apply wpOrd_eff3
  case hi => rfl
  case hw => rfl
  intro K hK
  go_simp
  refine hK _ _ ?_
  clear hK K
  apply wpOrd_read0
  case hi => rfl
  case hw => rfl
  case hy => (intro w; go_simp; try rfl)
  intro K hK; go_simp; refine hK _ _ ?_; clear hK K

  refine wpOrd_nil ?_
  clear a80 a81 a51 a52 q80 q81 q51 q52
  go_wp2_with fail
  have hend := (HX6.out.setCell 0 (.int .i64 o) (by simp)).setCell 1 (.slice a2 n2 c2) (by simp)
  have e0 := hend.cell 0 _ rfl
  have e1 := hend.cell 1 _ rfl
  have hbool : ((getL L key).isSome == hasL L key) = true := by rw [hasL_get]; cases getL L key <;> rfl
  exact bodyPost_ret (v := .tuple #[.agg #[.int .i64 o, .slice a2 n2 c2], .bool true]) (by simp [results, Try.results12, go_sem, e0, e1, hbool]) rfl (do_end HY.out.1 HV.out.1 HV.out.2 HS.out.1 (by rw [HZ.out.1]; exact HZ.out.2) HP6.out.1 HP6.out.2)
end Go.Proofs.Ytegljepgncicjaa
/- Btree: the law's do at any step. -/
namespace Go.Proofs.Ytegljepgncicjaa
open Go.ChangeShapes Go.WideShapes Go.ChangeAt Go.RowKit Go.Deep
set_option linter.unusedVariables false
set_option linter.unusedSimpArgs false
/-- the pairs after a step -/
def stepL (L : List Pr) (k : Int) (key val : Bs) : List Pr := if k = 0 then putL L key val else if k = 1 then delL L key else L
theorem stepL_len (L : List Pr) (k : Int) (key val : Bs) : (stepL L k key val).length ≤ L.length + 1 := by
  unfold stepL
  split
  · exact putL_len1 L key val
  · split
    · have := delL_len L key
      omega
    · omega
theorem do_any (T o : Nat) (L : List Pr) (Y : Nat → Prop) (v : Value) (k : Int) (key val : Bs) (W : World) (h : DB T o L Y v W) (hl : L.length ≤ 5000) :
    Calls Try.prog 12 #[.pointer (some ⟨T, 0, none⟩), .agg #[.int .i64 o, v], .agg #[.int .i64 k, .string key, .string val]] W (DoOut T o (stepL L k key val) Y v W) := by
  by_cases h0 : k = 0
  · subst h0
    exact do_put T o L Y v key val W h hl
  · by_cases h1 : k = 1
    · subst h1
      exact do_del T o L Y v key val W h hl
    · have e : stepL L k key val = L := by unfold stepL; rw [if_neg h0, if_neg h1]
      rw [e]
      exact do_get T o L Y v k key val W h hl (beq_eq_false_iff_ne.2 h0) (beq_eq_false_iff_ne.2 h1)
end Go.Proofs.Ytegljepgncicjaa
/- Btree: a step of the law Plays, the frame. -/
namespace Go.Proofs.Ytegljepgncicjaa
open Go.ChangeShapes Go.WideShapes Go.ChangeAt Go.RowKit Go.Deep
set_option linter.unusedVariables false
set_option linter.unusedSimpArgs false
/-- the pairs after n steps of a play -/
def playL (ss : List (Int × Bs × Bs)) : Nat → List Pr
  | 0 => []
  | i + 1 => match ss[i]? with
    | some s => stepL (playL ss i) s.1 s.2.1 s.2.2
    | none => playL ss i
theorem playL_len (ss : List (Int × Bs × Bs)) : ∀ n, (playL ss n).length ≤ n
  | 0 => by simp [playL]
  | n + 1 => by
    have ih := playL_len ss n
    unfold playL
    split
    · rename_i s _
      have := stepL_len (playL ss n) s.1 s.2.1 s.2.2
      omega
    · omega
theorem FB.db {w0 W : World} {T R o : Nat} {L : List Pr} {Y : Nat → Prop} {v : Value} (h : FB w0 T R o L L Y v W) : DB T o L Y v W := ⟨h.tr, h.pr, h.vy⟩
theorem FB.play {w0 W W' : World} {T R o : Nat} {L L' : List Pr} {Y : Nat → Prop} {v : Value} {e : Ending} (h : FB w0 T R o L L Y v W) (hd : DoOut T o L' Y v W e W') :
    ∃ v' Y', e = .returned (.tuple #[.agg #[.int .i64 o, v'], .bool true]) ∧ ∀ W2, Below W'.heap.size W' W2 →
      FB w0 T R o L' L' Y' v' ((W2.setCell ⟨R, 0, none⟩ (.int .i64 o)).setCell ⟨R, 1, none⟩ v') ∧ DB T o L' Y' v' W2 ∧ Box W2 R [.int .i64 o, v] := by
  obtain ⟨v', Y', he, hdb, ho, hY, hk⟩ := hd
  refine ⟨v', Y', he, fun W2 hb => ?_⟩
  have hd2 := hdb.below hb
  have hx2 := (h.bx.kept hk h.ry).keep hb
  have hR := h.bx.lt
  have hk2 : Kept (fun k => k = R) W2 ((W2.setCell ⟨R, 0, none⟩ (.int .i64 o)).setCell ⟨R, 1, none⟩ v') := (Kept.refl (fun k => k = R) _).setCells R 0 [.int .i64 o, v'] (.inl rfl)
  have hw := h.b.size
  have hry : ¬ Y' R := fun hy => (hY R hy).elim h.ry (fun e => by omega)
  have hvr : ∀ k, v'.ownBlock = some k → k ≠ R := fun k hk => (ho k hk).elim (h.vr k) (fun e => by omega)
  have hb1 : Below w0.heap.size w0 W' := h.b.trans (hk.below hw h.y0)
  have hb2 : Below w0.heap.size w0 W2 := hb1.trans (hb.mono hb1.size)
  exact ⟨⟨hd2.tr.kept hk2 (fun k hy e => hry (by rw [← e]; exact hy)), hd2.pr.kept hk2 hvr, (hx2.setCell 0 (.int .i64 o) (by simp)).setCell 1 v' (by simp), hd2.vy, hry, fun k hy => (hY k hy).elim (h.y0 k) (fun e => by omega), h.r0, hvr,
    fun k hk => (ho k hk).elim (h.v0 k) (fun e => by omega), hb2.trans (hk2.below hb2.size (fun k e => by rw [e]; exact h.r0))⟩, hd2, hx2⟩
end Go.Proofs.Ytegljepgncicjaa
/- Btree: a slice of strings that came in. -/
namespace Go.Proofs.Ytegljepgncicjaa
open Go.ChangeShapes Go.WideShapes Go.ChangeAt Go.RowKit Go.ChangeMaps Go.Joins Go.Deep
set_option linter.unusedVariables false
set_option linter.unusedSimpArgs false
theorem addr_plain {w : World} {a : Addr} {v : Value} (h : w.cell? (a.add 0) = some v) : ∃ B o, a = ⟨B, o, none⟩ := by
  have e : a.add 0 = a := by simp [Addr.add]
  rw [e] at h
  obtain ⟨B, o, s⟩ := a
  cases s with
  | none => exact ⟨B, o, rfl⟩
  | some s =>
    unfold World.cell? at h
    split at h
    · simp at h
    · simp at h
theorem weightsAll_mem {H : Type} {P : Program} {e : TypeId} : ∀ {l : List (DataW H)} {d : DataW H}, d ∈ l → ∀ n ∈ d.weights P e, n ∈ DataW.weightsAll P e l
  | [], _, hd, _, _ => by simp at hd
  | a :: l, d, hd, n, hn => by
    simp only [DataW.weightsAll, List.mem_append]
    rcases List.mem_cons.1 hd with rfl | hd
    · exact .inl hn
    · exact .inr (weightsAll_mem hd n hn)
theorem keysArg_sized {H : Type} {enc : TypeId × Value → H} {P : Program} {w : World} {t e : TypeId} {v : Value} {d : DataW H} {ps : List MemPlace} {r : Reach} {b0 : Nat} (ht : P.underlying t = some (.slice e)) (he : P.underlying e = some .string) (hc : P.cellsOf e = 1)
    (hv : Value.okWide P w r b0 t v) (h : DataW.Trod enc P w 0 (fun _ => true) true t v d ps) (hsz : ∀ n ∈ d.weights P t, n ≤ 140737488351232) : ∃ xs, KeysArg w v xs ∧ ∀ j, j < xs.length → (sx xs j).size ≤ 140737488351232 := by
  obtain ⟨a, len, cap, rfl⟩ := okWide_slice ht hv
  obtain ⟨fuel, hf⟩ := h
  rcases open_strings ht he hc hf with ⟨hcs, hx⟩ | ⟨a', len', cap', ss, hcs, _, hl, hm, hz, hx, hcell, hws⟩
  · simp [Value.cells] at hcs
    obtain ⟨rfl, rfl, rfl⟩ := hcs
    exact ⟨[], ⟨none, 0, rfl, fun h => by simp at h⟩, fun j h => by simp at h⟩
  · simp [Value.cells] at hcs
    obtain ⟨rfl, rfl, rfl⟩ := hcs
    simp only [if_true] at hz
    by_cases h0 : len = 0
    · subst h0; exact ⟨[], ⟨_, _, rfl, fun h => by simp at h⟩, fun j h => by simp at h⟩
    · have hc0 := hcell 0 (by omega)
      obtain ⟨B, o, rfl⟩ := addr_plain hc0
      have hB : B < w.heap.size := by
        rcases Nat.lt_or_ge B w.heap.size with h | h
        · exact h
        · rw [addr_add'] at hc0
          simp [World.cell?, Array.getElem?_eq_none h] at hc0
      have hlen : (ss.take len).length = len := by simp; omega
      have hd : d = .slice (strs (ss.take len)) (strs (ss.drop len)) := (Prod.mk.inj hx).1
      refine ⟨ss.take len, ⟨_, _, by rw [hlen], fun _ => ⟨B, o, rfl, hB, fun j hj => ?_⟩⟩, fun j hj => ?_⟩
      · have hj' : j < ss.length := by omega
        have := hcell j hj'
        rw [addr_add'] at this
        rw [this, sx_get hj, List.getElem_take]
        simp [List.getD, List.getElem?_eq_getElem hj']
      · rw [sx_get hj]
        have hmem : (DataW.lit (.string (ss.take len)[j].data.toList) : DataW H) ∈ strs (ss.take len) := List.mem_map.2 ⟨_, List.getElem_mem hj, rfl⟩
        have h1 := weightsAll_mem (P := P) (e := e) hmem (ss.take len)[j].data.toList.length (by simp [DataW.weights])
        have h2 := hsz (ss.take len)[j].data.toList.length (by rw [hd]; simp only [DataW.weights, ht]; exact List.mem_cons_of_mem _ (List.mem_append_left _ h1))
        have e2 : (ss.take len)[j].data.toList.length = (ss.take len)[j].size := Array.length_toList
        rw [e2] at h2
        exact h2
theorem keysArg_of {H : Type} {enc : TypeId × Value → H} {P : Program} {w : World} {t e : TypeId} {v : Value} {d : DataW H} {ps : List MemPlace} {r : Reach} {b0 : Nat} (ht : P.underlying t = some (.slice e)) (he : P.underlying e = some .string) (hc : P.cellsOf e = 1)
    (hv : Value.okWide P w r b0 t v) (h : DataW.Trod enc P w 0 (fun _ => true) true t v d ps) : ∃ xs, KeysArg w v xs := by
  obtain ⟨a, len, cap, rfl⟩ := okWide_slice ht hv
  obtain ⟨fuel, hf⟩ := h
  rcases open_strings ht he hc hf with ⟨hcs, hx⟩ | ⟨a', len', cap', ss, hcs, _, hl, hm, hz, hx, hcell, hws⟩
  · simp [Value.cells] at hcs
    obtain ⟨rfl, rfl, rfl⟩ := hcs
    exact ⟨[], none, 0, rfl, fun h => by simp at h⟩
  · simp [Value.cells] at hcs
    obtain ⟨rfl, rfl, rfl⟩ := hcs
    simp only [if_true] at hz
    by_cases h0 : len = 0
    · subst h0; exact ⟨[], _, _, rfl, fun h => by simp at h⟩
    · have hc0 := hcell 0 (by omega)
      obtain ⟨B, o, rfl⟩ := addr_plain hc0
      have hB : B < w.heap.size := by
        rcases Nat.lt_or_ge B w.heap.size with h | h
        · exact h
        · rw [addr_add'] at hc0
          simp [World.cell?, Array.getElem?_eq_none h] at hc0
      have hlen : (ss.take len).length = len := by simp; omega
      refine ⟨ss.take len, _, _, by rw [hlen], fun _ => ⟨B, o, rfl, hB, fun j hj => ?_⟩⟩
      have hj' : j < ss.length := by omega
      have := hcell j hj'
      rw [addr_add'] at this
      rw [this, sx_get hj, List.getElem_take]
      simp [List.getD, List.getElem?_eq_getElem hj']
end Go.Proofs.Ytegljepgncicjaa
/- Btree: a slice of steps that came in. -/
namespace Go.Proofs.Ytegljepgncicjaa
open Go.ChangeShapes Go.WideShapes Go.ChangeAt Go.RowKit Go.ChangeMaps Go.Joins Go.Deep
set_option linter.unusedVariables false
set_option linter.unusedSimpArgs false
abbrev Stp := Int × Bs × Bs
def stpc (s : Stp) : List Value := [.int .i64 s.1, .string s.2.1, .string s.2.2]
def StepsArg (w : World) (v : Value) (ss : List Stp) : Prop :=
  ∃ a c, v = .slice a ss.length c ∧ (0 < ss.length → ∃ B o, a = some ⟨B, o, none⟩ ∧ B < w.heap.size ∧ ∀ j (h : j < ss.length), w.cell? ⟨B, o + j * 3, none⟩ = some (.int .i64 ss[j].1) ∧ w.cell? ⟨B, o + j * 3 + 1, none⟩ = some (.string ss[j].2.1) ∧ w.cell? ⟨B, o + j * 3 + 2, none⟩ = some (.string ss[j].2.2))
theorem StepsArg.below {w w' : World} {v : Value} {ss : List Stp} (h : StepsArg w v ss) (hb : Below w.heap.size w w') : StepsArg w' v ss := by
  obtain ⟨a, c, rfl, h⟩ := h
  refine ⟨a, c, rfl, fun h0 => ?_⟩
  obtain ⟨B, o, h1, h2, h3⟩ := h h0
  exact ⟨B, o, h1, Nat.lt_of_lt_of_le h2 hb.size, fun j hj => ⟨(hb.cell (p := ⟨B, o + j * 3, none⟩) h2).trans (h3 j hj).1, (hb.cell (p := ⟨B, o + j * 3 + 1, none⟩) h2).trans (h3 j hj).2.1, (hb.cell (p := ⟨B, o + j * 3 + 2, none⟩) h2).trans (h3 j hj).2.2⟩⟩
set_option maxRecDepth 100000 in
theorem stp_of_trod {H : Type} {enc : TypeId × Value → H} {w : World} {fuel : Nat} {cs : List Value} {x : DataW H × List MemPlace} {base : Nat} {spare : Nat → Bool} {held : Bool} (h : DataW.trod enc Try.prog w base spare held fuel 36 cs = some x) : ∃ s, cs = stpc s := by
  obtain ⟨xs, n', _, _, hl, hxs, hf⟩ := DataW.trod_struct Try.underlying36 h
  have hc : Try.prog.cellsOf 36 = 3 := by kernel_rfl
  rw [hc] at hl
  have hx5 : xs.length = 3 := hxs
  have h0 := hf 0 { name := "Kind", type := 3, offset := 0, embedded := false, tag := "", pkgPath := "", byteOffset := 0 } rfl
  have h1 := hf 1 { name := "Key", type := 9, offset := 1, embedded := false, tag := "", pkgPath := "", byteOffset := 8 } rfl
  have h2 := hf 2 { name := "Value", type := 9, offset := 2, embedded := false, tag := "", pkgPath := "", byteOffset := 24 } rfl
  rw [List.getElem?_eq_getElem (by omega)] at h0 h1 h2
  have e3 : Try.prog.cellsOf 3 = 1 := by kernel_rfl
  have e9 : Try.prog.cellsOf 9 = 1 := by kernel_rfl
  dsimp only at h0 h1 h2
  rw [e3] at h0
  rw [e9] at h1 h2
  obtain ⟨t, ht, _⟩ := DataW.trod_int Try.underlying3 h0
  obtain ⟨s, hs, _⟩ := DataW.trod_string Try.underlying9 h1
  obtain ⟨u, hu, _⟩ := DataW.trod_string Try.underlying9 h2
  match cs, hl with
  | [a, b, c], _ =>
    simp at ht hs hu
    exact ⟨(t, s, u), by rw [ht, hs, hu]; rfl⟩
set_option maxRecDepth 100000 in
theorem stepsArg_of {H : Type} {enc : TypeId × Value → H} {w : World} {v : Value} {d : DataW H} {ps : List MemPlace} {r : Reach} {b0 : Nat}
    (hv : Value.okWide Try.prog w r b0 22 v) (h : DataW.Trod enc Try.prog w 0 (fun _ => true) true 22 v d ps) : ∃ ss, StepsArg w v ss := by
  obtain ⟨a0, len0, cap0, rfl⟩ := okWide_slice Try.underlying22 hv
  obtain ⟨fuel, hf⟩ := h
  rcases DataW.trod_slice Try.underlying22 hf with ⟨hcs, hx⟩ | ⟨a, len, cap, el, re, n, _, hcs, hx, _, hl, hm, hel, hi, _⟩
  · simp [Value.cells] at hcs
    obtain ⟨rfl, rfl, rfl⟩ := hcs
    exact ⟨[], ⟨none, 0, rfl, fun h => by simp at h⟩⟩
  · simp [Value.cells] at hcs
    obtain ⟨rfl, rfl, rfl⟩ := hcs
    by_cases h0 : len0 = 0
    · subst h0; exact ⟨[], ⟨_, _, rfl, fun h => by simp at h⟩⟩
    · have hc : Try.prog.cellsOf 36 = 3 := by kernel_rfl
      rw [hc] at hi
      have fn : ∀ i : Nat, ∃ s : Stp, i < len0 → w.cells? 0 (a.add (i * 3)) 3 = some (stpc s) := fun i => by
        by_cases hil : i < len0
        · have := hi i hil
          rw [List.getElem?_eq_getElem (by omega)] at this
          obtain ⟨cs, h1, h2⟩ := Option.bind_eq_some_iff.1 this
          obtain ⟨s, rfl⟩ := stp_of_trod h2
          exact ⟨s, fun _ => h1⟩
        · exact ⟨(0, ByteArray.empty, ByteArray.empty), fun h => absurd h hil⟩
      obtain ⟨F, hF⟩ := Classical.axiomOfChoice fn
      have hat : ∀ j, j < len0 → ∀ i (hi : i < 3), w.cell? (a.add (j * 3 + i)) = some ((stpc (F j))[i]'hi) := fun j hj i hi => by
        obtain ⟨_, _, hat⟩ := World.cells?_some (hF j hj)
        have h3 := hat i hi
        have e : (a.add (j * 3)).add i = a.add (j * 3 + i) := by
          generalize j * 3 = m
          by_cases h1 : i = 0 <;> by_cases h2 : m = 0 <;> simp [Addr.add, h1, h2, Nat.add_assoc]
        rw [e] at h3
        rw [h3]
        exact List.getElem?_eq_getElem (l := stpc (F j)) hi
      have hc0 := hat 0 (by omega) 0 (by omega)
      obtain ⟨B, o, rfl⟩ := addr_plain hc0
      have hB : B < w.heap.size := by
        rcases Nat.lt_or_ge B w.heap.size with h | h
        · exact h
        · rw [addr_add'] at hc0
          simp [World.cell?, Array.getElem?_eq_none h] at hc0
      refine ⟨(List.range len0).map F, ⟨some ⟨B, o, none⟩, cap0, by simp, fun _ => ⟨B, o, rfl, hB, fun j hj => ?_⟩⟩⟩
      simp at hj
      have a0 := hat j hj 0 (by omega)
      have a1 := hat j hj 1 (by omega)
      have a2 := hat j hj 2 (by omega)
      rw [addr_add'] at a0 a1 a2
      simp only [List.getElem_map, List.getElem_range]
      exact ⟨a0, a1, a2⟩
end Go.Proofs.Ytegljepgncicjaa
/- A drawn region in an order of one's own, with ONE operation that makes memory and waits for nothing: it may lie ahead of the call or behind it (a fork). -/
namespace Go.Proofs.Ytegljepgncicjaa
open Go.ChangeShapes Go.WideShapes Go.ChangeAt Go.RowKit Go.Deep
set_option linter.unusedVariables false
set_option linter.unusedSimpArgs false
/-- an order with forks: 'fork m r s': operation m or the call c comes next, r is the order behind m, s the order behind c -/
inductive OrdT where
  | nil
  | one (i k : Nat) (r : OrdT)
  | fork (m : Nat) (r s : OrdT)
def OrdT.size : OrdT → Nat
  | .nil => 0
  | .one _ _ r => r.size + 1
  | .fork _ r _ => r.size + 1
section
variable {P : Program} {ops : Array Oper} {md : Region.Mode} {Q : Exit → Act → World → Prop} {S : World → Prop}
def wpTree (P : Program) (ops : Array Oper) (Q : Exit → Act → World → Prop) (S : World → Prop) (c : Nat) (R : Act → World → Prop) : OrdT → Act → World → Prop
  | .nil, a, w => R a w
  | .one i 0 rest, a, w => ∃ oi v, ops[i]? = some oi ∧ YieldsIf P ops (KindS S 0) oi v a ∧ wpTree P ops Q S c R rest (a.put oi.dst v) w
  | .one i 1 rest, a, w => ∃ oi v, ops[i]? = some oi ∧ YieldsIf P ops (KindS S 1) oi v a ∧ wpTree P ops Q S c R rest (a.put oi.dst v) w
  | .one i 2 rest, a, w => wpOp P ops Q i (fun a' w' => S w' ∧ wpTree P ops Q S c R rest a' w') a w
  | .one i _ rest, a, w => wpOp P ops Q i (fun a' w' => wpTree P ops Q S c R rest a' w') a w
  | .fork m r s, a, w => wpOp P ops Q m (fun a' w' => S w' ∧ wpTree P ops Q S c R r a' w') a w ∧ wpOp P ops Q c (fun a' w' => wpTree P ops Q S c R s a' w') a w
def Region.treeB (md : Region.Mode) (ops : Array Oper) (n c g : Nat) : OrdT → Array Bool → Bool
  | .nil, listed => Region.seqB md ops g n listed
  | .one i 0 rest, listed => (Region.ready md ops listed).contains i && Region.free md ops listed i && decide (i < n) && decide (i ≠ c) && Region.treeB md ops n c g rest (listed.setIfInBounds i true)
  | .one i 1 rest, listed => (Region.ready md ops listed).contains i && Region.free md ops listed i && decide (i < n) && decide (i ≠ c) && Region.anc md ops c 6 i && Region.treeB md ops n c g rest (listed.setIfInBounds i true)
  | .one i 2 rest, listed => decide (Region.ready md ops listed = [i]) && decide (i < n) && Region.treeB md ops n c g rest (listed.setIfInBounds i true)
  | .one i _ rest, listed => decide (Region.ready md ops listed = [i]) && decide (i < n) && (listed.setIfInBounds i true).getD c false && Region.treeB md ops n c g rest (listed.setIfInBounds i true)
  | .fork m r s, listed => (decide (Region.ready md ops listed = [c, m]) || decide (Region.ready md ops listed = [m, c])) && decide (m < n) && decide (c < n) && decide (r.size = s.size) && (listed.setIfInBounds c true).getD c false && Region.treeB md ops n c g r (listed.setIfInBounds m true) && Region.treeB md ops n c g s (listed.setIfInBounds c true)
theorem wpAnyT_tree {n c g : Nat} {R : Act → World → Prop} (hsel : Region.noSelect ops = true) (hQ : ∀ c (a : Act) (d : Option Tmp) (v : Value) w, Q (.panic c) (a.put d v) w → Q (.panic c) a w)
    (hn : n = ops.size) :
    ∀ (l : OrdT) (listed : Array Bool) (a : Act) (w : World), HeadInv md ops n listed → Before c S listed w →
    Region.treeB md ops n c g l listed = true → wpTree P ops Q S c R l a w →
    wpAnyT P md ops Q S n c (fun listed' a' w' => Region.seqB md ops g n listed' = true ∧ R a' w') l.size listed a w
  | .nil, listed, a, w, inv, hS, hB, h => ⟨hB, h⟩
  | .one i 0 l, listed, a, w, inv, hS, hB, h => by
    simp only [Region.treeB, Bool.and_eq_true, decide_eq_true_eq] at hB
    obtain ⟨⟨⟨⟨hr, hf⟩, hin⟩, hic⟩, hB'⟩ := hB
    have hr' : i ∈ Region.ready md ops listed := by simpa using hr
    obtain ⟨oi, v, h0, hy, hK⟩ := h
    exact wpAnyT_firstW h0 (Region.noSelect_spec hsel) hQ hn hin hic (fun _ _ _ _ _ => trivial) (fun listed' a' w' hL => seqB_ready hL.1) l.size listed a w inv (Region.free_spec h0 hf) hr' hy hS
      (wpAnyT_tree hsel hQ hn l _ _ _ (inv.set hr' hin) (fun h => hS (set_other h)) hB' hK)
  | .one i 1 l, listed, a, w, inv, hS, hB, h => by
    simp only [Region.treeB, Bool.and_eq_true, decide_eq_true_eq] at hB
    obtain ⟨⟨⟨⟨⟨hr, hf⟩, hin⟩, hic⟩, hanc⟩, hB'⟩ := hB
    have hr' : i ∈ Region.ready md ops listed := by simpa using hr
    obtain ⟨oi, v, h0, hy, hK⟩ := h
    exact wpAnyT_firstW h0 (Region.noSelect_spec hsel) hQ hn hin hic (fun listed w inv hun hb => hb (by
        cases hl : listed.getD c false with
        | false => rfl
        | true => have := anc_listed inv 6 i hanc hl; rw [getD_both hun] at this; cases this)) (fun listed' a' w' hL => seqB_ready hL.1) l.size listed a w inv (Region.free_spec h0 hf) hr' hy hS
      (wpAnyT_tree hsel hQ hn l _ _ _ (inv.set hr' hin) (fun h => hS (set_other h)) hB' hK)
  | .one i 2 l, listed, a, w, inv, hS, hB, h => by
    simp only [Region.treeB, Bool.and_eq_true, decide_eq_true_eq] at hB
    obtain ⟨⟨hr, hin⟩, hB'⟩ := hB
    refine ⟨fun h0 => (by rw [hr] at h0; cases h0), fun j hj => ?_⟩
    have hj' := hj
    rw [hr] at hj
    have hji : j = i := by simpa using hj
    subst hji
    have h1 : wpOp P ops Q j (fun a' w' => S w' ∧ wpTree P ops Q S c R l a' w') a w := h
    exact ⟨hin, wpOp_mono (fun a' w' h2 => ⟨fun _ => h2.1, wpAnyT_tree hsel hQ hn l _ _ _ (inv.set hj' hin) (fun _ => h2.1) hB' h2.2⟩) h1⟩
  | .one i (k + 3) l, listed, a, w, inv, hS, hB, h => by
    simp only [Region.treeB, Bool.and_eq_true, decide_eq_true_eq] at hB
    obtain ⟨⟨⟨hr, hin⟩, hcl⟩, hB'⟩ := hB
    refine ⟨fun h0 => (by rw [hr] at h0; cases h0), fun j hj => ?_⟩
    have hj' := hj
    rw [hr] at hj
    have hji : j = i := by simpa using hj
    subst hji
    have h1 : wpOp P ops Q j (fun a' w' => wpTree P ops Q S c R l a' w') a w := h
    have hno : ∀ w', Before c S (listed.setIfInBounds j true) w' := fun w' h => by rw [hcl] at h; cases h
    exact ⟨hin, wpOp_mono (fun a' w' h2 => ⟨hno w', wpAnyT_tree hsel hQ hn l _ _ _ (inv.set hj' hin) (hno w') hB' h2⟩) h1⟩
  | .fork m r s, listed, a, w, inv, hS, hB, h => by
    simp only [Region.treeB, Bool.and_eq_true, Bool.or_eq_true, decide_eq_true_eq] at hB
    obtain ⟨⟨⟨⟨⟨⟨hr, hmn⟩, hcn⟩, hsz⟩, hcl⟩, hB1⟩, hB2⟩ := hB
    obtain ⟨h1, h2⟩ := h
    have hno : ∀ w', Before c S (listed.setIfInBounds c true) w' := fun w' h => by rw [hcl] at h; cases h
    refine ⟨fun h0 => (by rcases hr with hr | hr <;> (rw [hr] at h0; cases h0)), fun j hj => ?_⟩
    have hj' := hj
    have hji : j = m ∨ j = c := by
      rcases hr with hr | hr <;> (rw [hr] at hj; simp at hj)
      · exact hj.symm
      · exact hj
    rcases hji with rfl | rfl
    · exact ⟨hmn, wpOp_mono (fun a' w' h3 => ⟨fun _ => h3.1, wpAnyT_tree hsel hQ hn r _ _ _ (inv.set hj' hmn) (fun _ => h3.1) hB1 h3.2⟩) h1⟩
    · refine ⟨hcn, wpOp_mono (fun a' w' h3 => ⟨hno w', ?_⟩) h2⟩
      have := wpAnyT_tree hsel hQ hn s _ _ _ (inv.set hj' hcn) (hno w') hB2 h3
      rwa [← hsz] at this
def Region.regTB (md : Region.Mode) (ops : Array Oper) (n c : Nat) (ord : OrdT) : Bool :=
  Region.noSelect ops && decide (n = ops.size) && decide (ord.size = n) && Region.treeB md ops n c 0 ord (Array.replicate ops.size false)
theorem wp_region_tree {id : Nat} {a : Act} {w : World} {l : List Oper} (n c : Nat) (ord : OrdT) (S : World → Prop) (hm : P.follows .mixedOrders = true) (hB : Region.regTB .any l.toArray n c ord = true) (hS : S w.drew)
    (hQ : ∀ c (a : Act) (d : Option Tmp) (v : Value) w, Q (.panic c) (a.put d v) w → Q (.panic c) a w)
    (h : wpTree P l.toArray Q S c (fun a' w' => Q .normal a' w') ord a w.drew) : (Code.region id l.toArray true).wp P Q a w := by
  simp only [Region.regTB, Bool.and_eq_true, decide_eq_true_eq] at hB
  obtain ⟨⟨⟨hsel, hn⟩, hol⟩, hlex⟩ := hB
  have inv0 : HeadInv .any l.toArray n (Array.replicate l.toArray.size false) :=
    ⟨by simp, fun j oj _ hl => (by rw [getD_replicate_false] at hl; cases hl), fun t _ ht => getD_in (by simpa using ht) (getD_replicate_false _ _)⟩
  have H := wpAnyT_tree (md := .any) (g := 0) hsel hQ hn ord _ a _ inv0 (fun _ => hS) hlex h
  refine wp_region_any hm ?_
  have := wpAny_of_T (g := 0) (fun listed a' w' hL => by
    have hr : Region.ready .any l.toArray listed = [] := by simpa [Region.seqB] using hL.1
    exact wpAny_done (P := P) (Q := Q) hr hL.2 0) _ _ _ _ H
  rwa [Nat.add_zero, hol, hn] at this
theorem wpTree_read0 {c : Nat} {R : Act → World → Prop} {i : Nat} {rest : OrdT} {a : Act} {w : World} {oi : Oper} (v : Value) (hi : ops[i]? = some oi) (hw : Region.wanted oi (yielded ops a.tmps) = true) (hy : ∀ w, (execOp a.eval oi).run P w = .ok (.value v) w)
    (h : ∀ K : Act → World → Prop, (∀ a w, wpTree P ops Q S c R rest a w → K a w) → K (a.put oi.dst v) w) : wpTree P ops Q S c R (.one i 0 rest) a w :=
  ⟨oi, v, hi, .inl ⟨hw, fun w _ => hy w⟩, h _ (fun _ _ h => h)⟩
theorem wpTree_read1 {c : Nat} {R : Act → World → Prop} {i : Nat} {rest : OrdT} {a : Act} {w : World} {oi : Oper} (v : Value) (hi : ops[i]? = some oi) (hw : Region.wanted oi (yielded ops a.tmps) = true) (hy : ∀ w, S w → (execOp a.eval oi).run P w = .ok (.value v) w)
    (h : ∀ K : Act → World → Prop, (∀ a w, wpTree P ops Q S c R rest a w → K a w) → K (a.put oi.dst v) w) : wpTree P ops Q S c R (.one i 1 rest) a w :=
  ⟨oi, v, hi, .inl ⟨hw, hy⟩, h _ (fun _ _ h => h)⟩
theorem wpTree_eff2 {c : Nat} {R : Act → World → Prop} {i : Nat} {rest : OrdT} {a : Act} {w : World} {oi : Oper} (hi : ops[i]? = some oi) (hw : Region.wanted oi (yielded ops a.tmps) = true)
    (h : ∀ K : Act → World → Prop, (∀ a w, S w → wpTree P ops Q S c R rest a w → K a w) → oi.wp P a w K Q) : wpTree P ops Q S c R (.one i 2 rest) a w := by
  show wpOp P ops Q i _ a w
  unfold wpOp
  simp only [hi, hw, if_true]
  exact .inl (h _ (fun _ _ h1 h2 => ⟨h1, h2⟩))
theorem wpTree_eff3 {c : Nat} {R : Act → World → Prop} {i : Nat} {rest : OrdT} {a : Act} {w : World} {oi : Oper} (hi : ops[i]? = some oi) (hw : Region.wanted oi (yielded ops a.tmps) = true)
    (h : ∀ K : Act → World → Prop, (∀ a w, wpTree P ops Q S c R rest a w → K a w) → oi.wp P a w K Q) : wpTree P ops Q S c R (.one i 3 rest) a w := by
  show wpOp P ops Q i _ a w
  unfold wpOp
  simp only [hi, hw, if_true]
  exact .inl (h _ (fun _ _ h => h))
theorem wpTree_fork {c m : Nat} {R : Act → World → Prop} {r s : OrdT} {a : Act} {w : World} {om oc : Oper} (hm : ops[m]? = some om) (hc : ops[c]? = some oc)
    (hwm : Region.wanted om (yielded ops a.tmps) = true) (hwc : Region.wanted oc (yielded ops a.tmps) = true)
    (h1 : ∀ K : Act → World → Prop, (∀ a w, S w → wpTree P ops Q S c R r a w → K a w) → om.wp P a w K Q)
    (h2 : ∀ K : Act → World → Prop, (∀ a w, wpTree P ops Q S c R s a w → K a w) → oc.wp P a w K Q) : wpTree P ops Q S c R (.fork m r s) a w := by
  refine ⟨?_, ?_⟩
  · show wpOp P ops Q m _ a w
    unfold wpOp
    simp only [hm, hwm, if_true]
    exact .inl (h1 _ (fun _ _ h1 h2 => ⟨h1, h2⟩))
  · show wpOp P ops Q c _ a w
    unfold wpOp
    simp only [hc, hwc, if_true]
    exact .inl (h2 _ (fun _ _ h => h))
theorem wpTree_nil {c : Nat} {R : Act → World → Prop} {a : Act} {w : World} (h : R a w) : wpTree P ops Q S c R .nil a w := h
end
end Go.Proofs.Ytegljepgncicjaa
/- Btree: a round of the law Plays: between the call of do and the store of what it returned. -/
namespace Go.Proofs.Ytegljepgncicjaa
open Go.ChangeShapes Go.WideShapes Go.ChangeAt Go.RowKit Go.Deep
set_option linter.unusedVariables false
set_option linter.unusedSimpArgs false
/-- the tree holds L, v' reads L, the box R still holds v, the box b10 some cells -/
structure GB (w0 : World) (T R o b10 : Nat) (L : List Pr) (Y : Nat → Prop) (v v' : Value) (cs : List Value) (W : World) : Prop where
  tr : Tr W T o L Y
  pr : PrAt W v' L
  bx : Box W R [.int .i64 o, v]
  bt : Box W b10 cs
  vy : ∀ k, v'.ownBlock = some k → ¬ Y k
  ry : ¬ Y R
  ty : ¬ Y b10
  y0 : ∀ k, Y k → w0.heap.size ≤ k
  r0 : w0.heap.size ≤ R
  t0 : w0.heap.size ≤ b10
  tR : b10 ≠ R
  vr : ∀ k, v'.ownBlock = some k → k ≠ R ∧ k ≠ b10
  v0 : ∀ k, v'.ownBlock = some k → w0.heap.size ≤ k
  b : Below w0.heap.size w0 W
section
variable {w0 W W1 : World} {T R o b10 : Nat} {L : List Pr} {Y : Nat → Prop} {v v' : Value} {cs : List Value}
theorem GB.below (h : GB w0 T R o b10 L Y v v' cs W) (hb : Below W.heap.size W W1) : GB w0 T R o b10 L Y v v' cs W1 :=
  ⟨h.tr.below hb, h.pr.below hb, h.bx.keep hb, h.bt.keep hb, h.vy, h.ry, h.ty, h.y0, h.r0, h.t0, h.tR, h.vr, h.v0, h.b.trans (hb.mono h.b.size)⟩
theorem GB.drew (h : GB w0 T R o b10 L Y v v' cs W) : GB w0 T R o b10 L Y v v' cs W.drew := h.below ⟨rfl, rfl, rfl, Nat.le_refl _, fun _ _ => rfl⟩
theorem GB.drewN (h : GB w0 T R o b10 L Y v v' cs W) (q : Nat) : GB w0 T R o b10 L Y v v' cs (W.drewN q) := h.below ⟨rfl, rfl, rfl, Nat.le_refl _, fun _ _ => rfl⟩
/-- the result is stored into the box b10 -/
theorem GB.put (h : GB w0 T R o b10 L Y v v' [.int .i64 0, .slice none 0 0] W) : GB w0 T R o b10 L Y v v' [.int .i64 o, v'] ((W.setCell ⟨b10, 0, none⟩ (.int .i64 o)).setCell ⟨b10, 1, none⟩ v') := by
  have hk : Kept (fun k => k = b10) W ((W.setCell ⟨b10, 0, none⟩ (.int .i64 o)).setCell ⟨b10, 1, none⟩ v') := (Kept.refl (fun k => k = b10) _).setCells b10 0 [.int .i64 o, v'] (.inl rfl)
  exact ⟨h.tr.kept hk (fun k hy e => h.ty (by rw [← e]; exact hy)), h.pr.kept hk (fun k hk => (h.vr k hk).2), h.bx.kept hk (fun e => h.tR e.symm), (h.bt.setCell 0 (.int .i64 o) (by simp)).setCell 1 v' (by simp), h.vy, h.ry, h.ty, h.y0, h.r0, h.t0, h.tR, h.vr, h.v0, h.b.trans (hk.below h.b.size (fun k e => by rw [e]; exact h.t0))⟩
/-- and into the box R -/
theorem GB.fb (h : GB w0 T R o b10 L Y v v' cs W) : FB w0 T R o L L Y v' ((W.setCell ⟨R, 0, none⟩ (.int .i64 o)).setCell ⟨R, 1, none⟩ v') := by
  have hk : Kept (fun k => k = R) W ((W.setCell ⟨R, 0, none⟩ (.int .i64 o)).setCell ⟨R, 1, none⟩ v') := (Kept.refl (fun k => k = R) _).setCells R 0 [.int .i64 o, v'] (.inl rfl)
  exact ⟨h.tr.kept hk (fun k hy e => h.ry (by rw [← e]; exact hy)), h.pr.kept hk (fun k hk => (h.vr k hk).1), (h.bx.setCell 0 (.int .i64 o) (by simp)).setCell 1 v' (by simp), h.vy, h.ry, h.y0, h.r0, fun k hk => (h.vr k hk).1, h.v0, h.b.trans (hk.below h.b.size (fun k e => by rw [e]; exact h.r0))⟩
/-- the box was made ahead of the call -/
theorem FB.ahead {L' : List Pr} {e : Ending} {cs : List Value} {ty : TypeId} (h : FB w0 T R o L L Y v W) (hd : DoOut T o L' Y v (W.alloc (.cells cs.toArray ty)) e W1) :
    ∃ v' Y', e = .returned (.tuple #[.agg #[.int .i64 o, v'], .bool true]) ∧ GB w0 T R o W.heap.size L' Y' v v' cs W1 := by
  obtain ⟨v', Y', he, hdb, ho, hY, hk⟩ := hd
  refine ⟨v', Y', he, ?_⟩
  have hf := h.below ((Below.refl _ W).alloc (Nat.le_refl _) (.cells cs.toArray ty))
  have hbt := Box.new W cs ty
  have hR := h.bx.lt
  have hw0 := h.b.size
  have hz : (W.alloc (.cells cs.toArray ty)).heap.size = W.heap.size + 1 := by simp
  rw [hz] at ho hY
  have hny : ¬ Y W.heap.size := fun hy => Nat.lt_irrefl _ (h.tr.yl _ hy)
  exact ⟨hdb.tr, hdb.pr, hf.bx.kept hk h.ry, hbt.kept hk hny, hdb.vy, fun hy => (hY R hy).elim h.ry (fun e => by omega), fun hy => (hY _ hy).elim hny (fun e => by omega), fun k hy => (hY k hy).elim (h.y0 k) (fun e => by omega), h.r0, hw0, fun e => by omega,
    fun k hk => (ho k hk).elim (fun h1 => ⟨h.vr k h1, fun e => by have := h.pr.own_lt k h1; omega⟩) (fun e => ⟨by omega, by omega⟩), fun k hk => (ho k hk).elim (h.v0 k) (fun e => by omega), hf.b.trans (hk.below hf.b.size h.y0)⟩
/-- the box is made behind the call -/
theorem FB.behind {L' : List Pr} {e : Ending} {cs : List Value} {ty : TypeId} (h : FB w0 T R o L L Y v W) (hd : DoOut T o L' Y v W e W1) :
    ∃ v' Y', e = .returned (.tuple #[.agg #[.int .i64 o, v'], .bool true]) ∧ GB w0 T R o W1.heap.size L' Y' v v' cs (W1.alloc (.cells cs.toArray ty)) := by
  obtain ⟨v', Y', he, hdb, ho, hY, hk⟩ := hd
  refine ⟨v', Y', he, ?_⟩
  have hba : Below W1.heap.size W1 (W1.alloc (.cells cs.toArray ty)) := (Below.refl _ W1).alloc (Nat.le_refl _) (.cells cs.toArray ty)
  have hbt := Box.new W1 cs ty
  have hR := h.bx.lt
  have hs := hk.size
  have hw0 := h.b.size
  exact ⟨hdb.tr.below hba, hdb.pr.below hba, (h.bx.kept hk h.ry).keep hba, hbt, hdb.vy, fun hy => (hY R hy).elim h.ry (fun e => by omega), fun hy => Nat.lt_irrefl _ (hdb.tr.yl _ hy), fun k hy => (hY k hy).elim (h.y0 k) (fun e => by omega), h.r0, by omega, fun e => by omega,
    fun k hk => ⟨(ho k hk).elim (h.vr k) (fun e => by omega), fun e => by have := hdb.pr.own_lt k hk; omega⟩, fun k hk => (ho k hk).elim (h.v0 k) (fun e => by omega), (h.b.trans (hk.below h.b.size h.y0)).trans (hba.mono (by omega))⟩
end
end Go.Proofs.Ytegljepgncicjaa
/- Btree: the law Clones. -/
namespace Go.Proofs.Ytegljepgncicjaa
open Go.ChangeShapes Go.WideShapes Go.ChangeAt Go.RowKit Go.Deep Go.Shelf
set_option linter.unusedVariables false
set_option linter.unusedSimpArgs false
/-- three trees that share no memory -/
def T3 (w0 : World) (o A : Nat) (LA : List Pr) (B : Nat) (LB : List Pr) (C : Nat) (LC : List Pr) (W : World) : Prop :=
  (∃ YA YB YC : Nat → Prop, Tr W A o LA YA ∧ Tr W B o LB YB ∧ Tr W C o LC YC ∧ (∀ k, YA k → ¬ YB k) ∧ (∀ k, YB k → ¬ YC k) ∧ (∀ k, YC k → ¬ YA k) ∧ (∀ k, YA k → w0.heap.size ≤ k) ∧ (∀ k, YB k → w0.heap.size ≤ k) ∧ (∀ k, YC k → w0.heap.size ≤ k)) ∧ Below w0.heap.size w0 W
section
variable {w0 W W1 : World} {o A B C : Nat} {LA LB LC : List Pr}
theorem T3.b (h : T3 w0 o A LA B LB C LC W) : Below w0.heap.size w0 W := h.2
theorem T3.rot (h : T3 w0 o A LA B LB C LC W) : T3 w0 o B LB C LC A LA W := by
  obtain ⟨⟨YA, YB, YC, h1, h2, h3, h4, h5, h6, h7, h8, h9⟩, hb⟩ := h
  exact ⟨⟨YB, YC, YA, h2, h3, h1, h5, h6, h4, h8, h9, h7⟩, hb⟩
theorem T3.below (h : T3 w0 o A LA B LB C LC W) (hb : Below W.heap.size W W1) : T3 w0 o A LA B LB C LC W1 := by
  obtain ⟨⟨YA, YB, YC, h1, h2, h3, h4⟩, hb0⟩ := h
  exact ⟨⟨YA, YB, YC, h1.below hb, h2.below hb, h3.below hb, h4⟩, hb0.trans (hb.mono hb0.size)⟩
theorem T3.drew (h : T3 w0 o A LA B LB C LC W) : T3 w0 o A LA B LB C LC W.drew := h.below ⟨rfl, rfl, rfl, Nat.le_refl _, fun _ _ => rfl⟩
theorem T3.drewN (h : T3 w0 o A LA B LB C LC W) (q : Nat) : T3 w0 o A LA B LB C LC (W.drewN q) := h.below ⟨rfl, rfl, rfl, Nat.le_refl _, fun _ _ => rfl⟩
theorem T3.work {LA' : List Pr} {YA YB YC : Nat → Prop} (h1 : Tr W A o LA YA) (h2 : Tr W B o LB YB) (h3 : Tr W C o LC YC) (h4 : ∀ k, YA k → ¬ YB k) (h5 : ∀ k, YB k → ¬ YC k) (h6 : ∀ k, YC k → ¬ YA k) (h7 : ∀ k, YA k → w0.heap.size ≤ k) (h8 : ∀ k, YB k → w0.heap.size ≤ k) (h9 : ∀ k, YC k → w0.heap.size ≤ k)
    (hb : Below w0.heap.size w0 W) (ht : Tr W1 A o LA' (GrowY YA W W1)) (hk : Kept YA W W1) : T3 w0 o A LA' B LB C LC W1 := by
  refine ⟨⟨GrowY YA W W1, YB, YC, ht, h2.kept hk (fun k hy hs => h4 k hs hy), h3.kept hk (fun k hy hs => h6 k hy hs), fun k hk2 hy => ?_, h5, fun k hy hk2 => ?_, fun k hk2 => ?_, h8, h9⟩, hb.trans (hk.below hb.size h7)⟩
  · rcases hk2 with h | h
    · exact h4 k h hy
    · have := h2.yl k hy; omega
  · rcases hk2 with h | h
    · exact h6 k hy h
    · have := h3.yl k hy; omega
  · rcases hk2 with h | h
    · exact h7 k h
    · have := hb.size; omega
theorem T3.put (h : T3 w0 o A LA B LB C LC W) (hl : LA.length ≤ 5000) (key val : Bs) :
    Calls Try.prog 20 #[.pointer (some ⟨A, 0, none⟩), .string key, .string val] W fun e W' => e = .returned (.bool (getL LA key).isNone) ∧ T3 w0 o A (putL LA key val) B LB C LC W' := by
  obtain ⟨⟨YA, YB, YC, h1, h2, h3, h4, h5, h6, h7, h8, h9⟩, hb⟩ := h
  refine (Put_T W A o LA YA key val h1 hl).mono ?_
  rintro e W1 ⟨rfl, ht, hk⟩
  exact ⟨rfl, T3.work h1 h2 h3 h4 h5 h6 h7 h8 h9 hb ht hk⟩
theorem T3.del (h : T3 w0 o A LA B LB C LC W) (hl : LA.length ≤ 5000) (key : Bs) :
    Calls Try.prog 22 #[.pointer (some ⟨A, 0, none⟩), .string key] W fun e W' => e = .returned (.bool (getL LA key).isSome) ∧ T3 w0 o A (delL LA key) B LB C LC W' := by
  obtain ⟨⟨YA, YB, YC, h1, h2, h3, h4, h5, h6, h7, h8, h9⟩, hb⟩ := h
  refine (Del_T W A o LA YA key h1 hl).mono ?_
  rintro e W1 ⟨rfl, ht, hk⟩
  exact ⟨rfl, T3.work h1 h2 h3 h4 h5 h6 h7 h8 h9 hb ht hk⟩
theorem T3.check (h : T3 w0 o A LA B LB C LC W) (hl : LA.length ≤ 5000) :
    Calls Try.prog 15 #[.pointer (some ⟨A, 0, none⟩)] W fun e W' => e = .returned (.bool true) ∧ T3 w0 o A LA B LB C LC W' ∧ Below W.heap.size W W' := by
  have h0 := h
  obtain ⟨⟨YA, YB, YC, h1, _⟩, hb⟩ := h
  refine (Check_T W A o LA YA h1 hl).mono ?_
  rintro e W1 ⟨rfl, hb1⟩
  exact ⟨rfl, h0.below hb1, hb1⟩
theorem T3.pairs (h : T3 w0 o A LA B LB C LC W) (hl : LA.length ≤ 1000) :
    Calls Try.prog 19 #[.pointer (some ⟨A, 0, none⟩), .string ⟨#[]⟩, .string ⟨#[]⟩, .bool false, .int .i64 1000] W fun e W' => ∃ a c, e = .returned (.slice a LA.length c) ∧ PrAt W' (.slice a LA.length c) LA ∧ T3 w0 o A LA B LB C LC W' ∧ Below W.heap.size W W' := by
  have h0 := h
  obtain ⟨⟨YA, YB, YC, h1, _⟩, hb⟩ := h
  refine (pairs_1000 A o ⟨#[]⟩ ⟨#[]⟩ false LA YA W h1 hl).mono ?_
  rintro e W1 ⟨va, rfl, hra, hba⟩
  rw [scan_all] at hra
  have hp := PrAt.of_own rfl hra
  obtain ⟨a, c, rfl⟩ := hp.len
  exact ⟨a, c, rfl, hp, h0.below hba, hba⟩
end
set_option maxRecDepth 100000 in
set_option maxHeartbeats 1600000 in
theorem clones_e1 (o : Int) (ka : Option Addr) (kl kc : Nat) (la : Option Addr) (ll lc : Nat) (w : World) (h : o < 4) :
    Calls Try.prog 7 #[.int .i64 o, .slice ka kl kc, .slice la ll lc] w (LawOut w) := by
  have HB := Lib.hid (Below.refl w.heap.size w)
  have d0 : decide (o < 4) = true := decide_eq_true (by omega)
  go_enter Try.func7, Try.ntmps7
  go_wp2_with fail
  refine (awake_any _).mono ?_
  rintro e w1 ⟨rfl, hb⟩
  have HB2 := Lib.hid (HB.out.trans (hb.mono HB.out.size))
  clear hb
  go_wp2_with fail
  go_ret
  exact ⟨rfl, HB2.out⟩
set_option maxRecDepth 100000 in
set_option maxHeartbeats 1600000 in
theorem clones_e2 (o : Int) (ka : Option Addr) (kl kc : Nat) (la : Option Addr) (ll lc : Nat) (w : World) (h : 256 < o) :
    Calls Try.prog 7 #[.int .i64 o, .slice ka kl kc, .slice la ll lc] w (LawOut w) := by
  have HB := Lib.hid (Below.refl w.heap.size w)
  have d0 : decide (o < 4) = false := decide_eq_false (by omega)
  have d1 : decide (256 < o) = true := decide_eq_true (by omega)
  go_enter Try.func7, Try.ntmps7
  go_wp2_with fail
  refine (awake_any _).mono ?_
  rintro e w1 ⟨rfl, hb⟩
  have HB2 := Lib.hid (HB.out.trans (hb.mono HB.out.size))
  clear hb
  go_wp2_with fail
  go_ret
  exact ⟨rfl, HB2.out⟩
set_option maxRecDepth 100000 in
set_option maxHeartbeats 1600000 in
theorem clones_e3 (o : Int) (ka : Option Addr) (kl kc : Nat) (la : Option Addr) (ll lc : Nat) (w : World) (h1 : 4 ≤ o) (h2 : o ≤ 256) (h : 200 < kl) :
    Calls Try.prog 7 #[.int .i64 o, .slice ka kl kc, .slice la ll lc] w (LawOut w) := by
  have HB := Lib.hid (Below.refl w.heap.size w)
  have d0 : decide (o < 4) = false := decide_eq_false (by omega)
  have d1 : decide (256 < o) = false := decide_eq_false (by omega)
  have d2 : decide ((200 : Int) < (kl : Int)) = true := decide_eq_true (by omega)
  go_enter Try.func7, Try.ntmps7
  go_wp2_with fail
  refine (awake_any _).mono ?_
  rintro e w1 ⟨rfl, hb⟩
  have HB2 := Lib.hid (HB.out.trans (hb.mono HB.out.size))
  clear hb
  go_wp2_with fail
  go_ret
  exact ⟨rfl, HB2.out⟩
set_option maxRecDepth 100000 in
set_option maxHeartbeats 1600000 in
theorem clones_e4 (o : Int) (ka : Option Addr) (kl kc : Nat) (la : Option Addr) (ll lc : Nat) (w : World) (h1 : 4 ≤ o) (h2 : o ≤ 256) (h3 : kl ≤ 200) (h : 200 < ll) :
    Calls Try.prog 7 #[.int .i64 o, .slice ka kl kc, .slice la ll lc] w (LawOut w) := by
  have HB := Lib.hid (Below.refl w.heap.size w)
  have d0 : decide (o < 4) = false := decide_eq_false (by omega)
  have d1 : decide (256 < o) = false := decide_eq_false (by omega)
  have d2 : decide ((200 : Int) < (kl : Int)) = false := decide_eq_false (by omega)
  have d3 : decide ((200 : Int) < (ll : Int)) = true := decide_eq_true (by omega)
  go_enter Try.func7, Try.ntmps7
  go_wp2_with fail
  refine (awake_any _).mono ?_
  rintro e w1 ⟨rfl, hb⟩
  have HB2 := Lib.hid (HB.out.trans (hb.mono HB.out.size))
  clear hb
  go_wp2_with fail
  go_ret
  exact ⟨rfl, HB2.out⟩
set_option maxRecDepth 100000 in
set_option maxHeartbeats 6400000 in
theorem clones_go (o : Nat) (h4 : 4 ≤ o) (h6 : o ≤ 256) (ka : Option Addr) (kc : Nat) (ks : List Bs) (la : Option Addr) (lc : Nat) (ss : List Stp) (w : World) (hkk : KeysArg w (.slice ka ks.length kc) ks) (hk : StepsArg w (.slice la ss.length lc) ss) (hl : ks.length ≤ 200) (hl2 : ss.length ≤ 200) :
    Calls Try.prog 7 #[.int .i64 o, .slice ka ks.length kc, .slice la ss.length lc] w (LawOut w) := by
  have HK := Lib.hid (show ∀ w' : World, Below w.heap.size w w' → 0 < ss.length → ∃ B o, la = some ⟨B, o, none⟩ ∧ B < w.heap.size ∧ ∀ j (h : j < ss.length), w'.cell? ⟨B, o + j * 3, none⟩ = some (.int .i64 ss[j].1) ∧ w'.cell? ⟨B, o + j * 3 + 1, none⟩ = some (.string ss[j].2.1) ∧ w'.cell? ⟨B, o + j * 3 + 2, none⟩ = some (.string ss[j].2.2) from fun w' hb h0 => by
    obtain ⟨a', c', he, h⟩ := hk
    cases he
    obtain ⟨B, o, h1, h2, h3⟩ := h h0
    exact ⟨B, o, h1, h2, fun j hj => ⟨(hb.cell (p := ⟨B, o + j * 3, none⟩) h2).trans (h3 j hj).1, (hb.cell (p := ⟨B, o + j * 3 + 1, none⟩) h2).trans (h3 j hj).2.1, (hb.cell (p := ⟨B, o + j * 3 + 2, none⟩) h2).trans (h3 j hj).2.2⟩⟩)
  have HKK := Lib.hid hkk
  have HLL := Lib.hid (fillL_len ks ks.length)
  have d1 : decide ((o : Int) < 4) = false := decide_eq_false (by omega)
  have d2 : decide ((256 : Int) < (o : Int)) = false := decide_eq_false (by omega)
  have d3 : decide ((200 : Int) < (ks.length : Int)) = false := decide_eq_false (by omega)
  have d4 : decide ((200 : Int) < (ss.length : Int)) = false := decide_eq_false (by omega)
  clear hk hkk
  go_enter Try.func7, Try.ntmps7
  go_wp2_with fail
  clear d1 d2 d3 d4
  refine (filled_any o h4 h6 (.slice ka ks.length kc) ks _ HKK.out (by omega)).mono ?_
  rintro e W1 hF
  obtain ⟨T, va, vc, rfl, ⟨YT, hYT, _, hYT0⟩, _, hb⟩ := hF.split
  obtain ⟨L, hL⟩ : ∃ L, L = fillL ks ks.length := ⟨_, rfl⟩
  rw [← hL] at hYT HLL ⊢
  have HL := Lib.hid hL
  clear hF hL
  have hba : Below w.heap.size w (W1.alloc (.cells #[.int .i64 o, .slice va L.length vc] 30)) := hb.alloc hb.size _
  have HT1 := Lib.hid (And.intro (hYT.below ((Below.refl _ W1).alloc (Nat.le_refl _) (.cells #[.int .i64 o, .slice va L.length vc] 30))) (And.intro hYT0 hba))
  clear hYT hYT0 hb hba
  go_wp2_with fail
  generalize W1.alloc _ = W2 at *
  generalize W1.heap.size = R1
  refine (filled_any o h4 h6 (.slice ka ks.length kc) ks _ (HKK.out.below HT1.out.2.2) (by omega)).mono ?_
  rintro e W3 hF
  obtain ⟨U, ua, uc, rfl, ⟨YU, hYU, _, hYU0⟩, _, hb⟩ := hF.split
  rw [← HL.out] at hYU ⊢
  have hba : Below W2.heap.size W2 (W3.alloc (.cells #[.int .i64 o, .slice ua L.length uc] 30)) := hb.alloc hb.size _
  have HT2 := Lib.hid (And.intro (HT1.out.1.below hba) (And.intro (hYU.below ((Below.refl _ W3).alloc (Nat.le_refl _) (.cells #[.int .i64 o, .slice ua L.length uc] 30))) (And.intro hYU0 (And.intro HT1.out.2.1 (And.intro HT1.out.2.2 (And.intro hba HT1.out.1.yl))))))
  clear hF hYU hYU0 hb hba HT1
  go_wp2_with fail
  generalize W3.alloc _ = W4 at *
  generalize W3.heap.size = R2
  refine (Clone_T W4 T o L YT HT2.out.1).mono ?_
  rintro e W5 ⟨C, YC, rfl, hC, hb5, hYC⟩
  have ht3 : T3 w o C L U L T L W5 := by
    obtain ⟨q1, q2, q3, q4, q5, q6, q7⟩ := HT2.out
    have hs := q5.size
    have hs2 := q6.size
    exact ⟨⟨YC, YU, YT, hC, q2.below hb5, q1.below hb5, fun k hk hy => by have := hYC k hk; have := q2.yl k hy; omega, fun k hk hy => by have := q3 k hk; have := q7 k hy; omega, fun k hk hy => by have := hYC k hy; have := q1.yl k hk; omega, fun k hk => by have := hYC k hk; omega, fun k hk => by have := q3 k hk; omega, q4⟩, (q5.trans (q6.mono hs)).trans (hb5.mono (by omega))⟩
  have HT := Lib.hid ht3
  clear hC hb5 hYC ht3 HT2
  go_wp2_with fail
  refine (HT.out.check (by have := HLL.out; omega)).mono ?_
  rintro e W6 ⟨rfl, ht6, _⟩
  have HT6 := Lib.hid ht6
  clear ht6 HT
  go_wp2_with fail
  go_loopw [12] (fun i wr => ∃ (k : Nat) (LC LT : List Pr), k ≤ ss.length ∧ i = .int .i64 k ∧ LC.length ≤ 200 + k ∧ LT.length ≤ 200 + k ∧ T3 w o C LC U LC T LT wr) (fun i _ => ss.length - (intOf i).toNat)
  case atStart => exact ⟨0, L, L, Nat.zero_le _, rfl, (by have := HLL.out; omega), (by have := HLL.out; omega), HT6.out⟩
  case round =>
    clear HT6 HLL
    obtain ⟨k, LC, LT, hk, rfl, hn1, hn2, hT⟩ := hrel
    have HT := Lib.hid hT
    have HLn := Lib.hid (And.intro hn1 hn2)
    clear hT hn1 hn2
    by_cases hlt : k < ss.length
    · obtain ⟨B, bo, rfl, hBl, hcell⟩ := HK.out wr HT.out.b (by omega)
      have HCE := Lib.hid (show ∀ X, Below w.heap.size w X → X.cell? ⟨B, bo + k * 3, none⟩ = some (.int .i64 ss[k].1) ∧ X.cell? ⟨B, bo + k * 3 + 1, none⟩ = some (.string ss[k].2.1) ∧ X.cell? ⟨B, bo + k * 3 + 2, none⟩ = some (.string ss[k].2.2) from fun X hb => by
        obtain ⟨B', bo', he, _, h⟩ := HK.out X hb (by omega)
        cases he
        exact h k hlt)
      clear hcell
      have hk1 : k + 1 ≤ ss.length := hlt
      generalize ss[k].1 = kd at *
      generalize ss[k].2.1 = ky at *
      generalize ss[k].2.2 = vl at *
      obtain ⟨a0, a1, a2⟩ := HCE.out wr HT.out.b
      by_cases h0 : kd = 0
      · subst h0
        go_wp2_with fail
        refine wp_region_ordW 12 11 [(0, 0), (1, 0), (2, 0), (3, 0), (4, 0), (5, 1), (6, 0), (7, 0), (8, 0), (9, 0), (10, 1), (11, 3)] (fun X => X.cell? ⟨B, bo + k * 3 + 1, none⟩ = some (.string ky) ∧ X.cell? ⟨B, bo + k * 3 + 2, none⟩ = some (.string vl)) (by kernel_rfl) (by kernel_rfl) ⟨a1, a2⟩ (fun c a d v w h => by cases d <;> exact h) ?_
        apply wpOrd_read0
        case hi => rfl
        case hw => rfl
        case hy => (intro w; go_simp; try rfl)
        intro K hK; go_simp; refine hK _ _ ?_; clear hK K
        apply wpOrd_read0
        case hi => rfl
        case hw => rfl
        case hy => (intro w; go_simp; try rfl)
        intro K hK; go_simp; refine hK _ _ ?_; clear hK K
        apply wpOrd_read0
        case hi => rfl
        case hw => rfl
        case hy => (intro w; go_simp; try rfl)
        intro K hK; go_simp; refine hK _ _ ?_; clear hK K
        apply wpOrd_read0
        case hi => rfl
        case hw => rfl
        case hy => (intro w; go_simp; try rfl)
        intro K hK; go_simp; refine hK _ _ ?_; clear hK K
        apply wpOrd_read0
        case hi => rfl
        case hw => rfl
        case hy => (intro w; go_simp; try rfl)
        intro K hK; go_simp; refine hK _ _ ?_; clear hK K
        apply wpOrd_read1
        case hi => rfl
        case hw => rfl
        case hy => (intro w hw; obtain ⟨h1, h2⟩ := hw; go_simp; try rfl)
        intro K hK; go_simp; refine hK _ _ ?_; clear hK K
        apply wpOrd_read0
        case hi => rfl
        case hw => rfl
        case hy => (intro w; go_simp; try rfl)
        intro K hK; go_simp; refine hK _ _ ?_; clear hK K
        apply wpOrd_read0
        case hi => rfl
        case hw => rfl
        case hy => (intro w; go_simp; try rfl)
        intro K hK; go_simp; refine hK _ _ ?_; clear hK K
        apply wpOrd_read0
        case hi => rfl
        case hw => rfl
        case hy => (intro w; go_simp; try rfl)
        intro K hK; go_simp; refine hK _ _ ?_; clear hK K
        apply wpOrd_read0
        case hi => rfl
        case hw => rfl
        case hy => (intro w; go_simp; try rfl)
        intro K hK; go_simp; refine hK _ _ ?_; clear hK K
        apply wpOrd_read1
        case hi => rfl
        case hw => rfl
        case hy => (intro w hw; obtain ⟨h1, h2⟩ := hw; go_simp; try rfl)
        intro K hK; go_simp; refine hK _ _ ?_; clear hK K
        apply wpOrd_eff3
        case hi => rfl
        case hw => rfl
        intro K hK
        go_simp
        refine (HT.out.drew.put (by have := HLn.out; omega) ky vl).mono ?_
        rintro e W7 ⟨rfl, ht⟩
        have HT1 := Lib.hid ht.rot
        clear ht HT
        refine hK _ _ ?_
        clear hK K
        refine wpOrd_nil ?_
        obtain ⟨a0, a1, a2⟩ := HCE.out W7 HT1.out.b
        go_wp2_with fail
        refine wp_region_ordW 12 11 [(0, 0), (1, 0), (2, 0), (3, 0), (4, 0), (5, 1), (6, 0), (7, 0), (8, 0), (9, 0), (10, 1), (11, 3)] (fun X => X.cell? ⟨B, bo + k * 3 + 1, none⟩ = some (.string ky) ∧ X.cell? ⟨B, bo + k * 3 + 2, none⟩ = some (.string vl)) (by kernel_rfl) (by kernel_rfl) ⟨a1, a2⟩ (fun c a d v w h => by cases d <;> exact h) ?_
        apply wpOrd_read0
        case hi => rfl
        case hw => rfl
        case hy => (intro w; go_simp; try rfl)
        intro K hK; go_simp; refine hK _ _ ?_; clear hK K
        apply wpOrd_read0
        case hi => rfl
        case hw => rfl
        case hy => (intro w; go_simp; try rfl)
        intro K hK; go_simp; refine hK _ _ ?_; clear hK K
        apply wpOrd_read0
        case hi => rfl
        case hw => rfl
        case hy => (intro w; go_simp; try rfl)
        intro K hK; go_simp; refine hK _ _ ?_; clear hK K
        apply wpOrd_read0
        case hi => rfl
        case hw => rfl
        case hy => (intro w; go_simp; try rfl)
        intro K hK; go_simp; refine hK _ _ ?_; clear hK K
        apply wpOrd_read0
        case hi => rfl
        case hw => rfl
        case hy => (intro w; go_simp; try rfl)
        intro K hK; go_simp; refine hK _ _ ?_; clear hK K
        apply wpOrd_read1
        case hi => rfl
        case hw => rfl
        case hy => (intro w hw; obtain ⟨h1, h2⟩ := hw; go_simp; try rfl)
        intro K hK; go_simp; refine hK _ _ ?_; clear hK K
        apply wpOrd_read0
        case hi => rfl
        case hw => rfl
        case hy => (intro w; go_simp; try rfl)
        intro K hK; go_simp; refine hK _ _ ?_; clear hK K
        apply wpOrd_read0
        case hi => rfl
        case hw => rfl
        case hy => (intro w; go_simp; try rfl)
        intro K hK; go_simp; refine hK _ _ ?_; clear hK K
        apply wpOrd_read0
        case hi => rfl
        case hw => rfl
        case hy => (intro w; go_simp; try rfl)
        intro K hK; go_simp; refine hK _ _ ?_; clear hK K
        apply wpOrd_read0
        case hi => rfl
        case hw => rfl
        case hy => (intro w; go_simp; try rfl)
        intro K hK; go_simp; refine hK _ _ ?_; clear hK K
        apply wpOrd_read1
        case hi => rfl
        case hw => rfl
        case hy => (intro w hw; obtain ⟨h1, h2⟩ := hw; go_simp; try rfl)
        intro K hK; go_simp; refine hK _ _ ?_; clear hK K
        apply wpOrd_eff3
        case hi => rfl
        case hw => rfl
        intro K hK
        go_simp
        refine (HT1.out.drew.put (by have := HLn.out; omega) ky vl).mono ?_
        rintro e W8 ⟨rfl, ht⟩
        have HT2 := Lib.hid ht.rot
        clear ht HT1
        refine hK _ _ ?_
        clear hK K
        refine wpOrd_nil ?_
        have HT3 := Lib.hid HT2.out.rot
        clear HT2 a0 a1 a2

        have hn := putL_len1 LC ky vl
        have HN := Lib.hid hn
        clear hn
        go_wp2_with fail
        go_roundw
        case rel => exact ⟨k + 1, _, _, hk1, by go_num, (by have := HN.out; have := HLn.out; omega), (by have := HLn.out; omega), HT3.out⟩
        case measure => simp [intOf]; omega
      · have e0 : (kd == 0) = false := beq_eq_false_iff_ne.2 h0
        by_cases h1 : kd = 1
        · subst h1
          clear e0
          go_wp2_with fail
          refine (HT.out.del (by have := HLn.out; omega) ky).mono ?_
          rintro e W7 ⟨rfl, ht⟩
          have HT1 := Lib.hid ht.rot
          clear ht HT
          obtain ⟨a0, a1, a2⟩ := HCE.out W7 HT1.out.b
          go_wp2_with fail
          refine (HT1.out.del (by have := HLn.out; omega) ky).mono ?_
          rintro e W8 ⟨rfl, ht⟩
          have HT2 := Lib.hid ht.rot
          clear ht HT1
          have HT3 := Lib.hid HT2.out.rot
          clear HT2 a0 a1 a2

          have hn := delL_len LC ky
          have HN := Lib.hid (show (delL LC ky).length ≤ LC.length by omega)
          clear hn
          go_wp2_with fail
          go_roundw
          case rel => exact ⟨k + 1, _, _, hk1, by go_num, (by have := HN.out; have := HLn.out; omega), (by have := HLn.out; omega), HT3.out⟩
          case measure => simp [intOf]; omega
        · have e1 : (kd == 1) = false := beq_eq_false_iff_ne.2 h1
          go_wp2_with fail
          clear e0 e1
          have HTr := Lib.hid HT.out.rot.rot
          clear HT
          refine wp_region_ordW 12 11 [(0, 0), (1, 0), (2, 0), (3, 0), (4, 0), (5, 1), (6, 0), (7, 0), (8, 0), (9, 0), (10, 1), (11, 3)] (fun X => X.cell? ⟨B, bo + k * 3 + 1, none⟩ = some (.string ky) ∧ X.cell? ⟨B, bo + k * 3 + 2, none⟩ = some (.string vl)) (by kernel_rfl) (by kernel_rfl) ⟨a1, a2⟩ (fun c a d v w h => by cases d <;> exact h) ?_
          apply wpOrd_read0
          case hi => rfl
          case hw => rfl
          case hy => (intro w; go_simp; try rfl)
          intro K hK; go_simp; refine hK _ _ ?_; clear hK K
          apply wpOrd_read0
          case hi => rfl
          case hw => rfl
          case hy => (intro w; go_simp; try rfl)
          intro K hK; go_simp; refine hK _ _ ?_; clear hK K
          apply wpOrd_read0
          case hi => rfl
          case hw => rfl
          case hy => (intro w; go_simp; try rfl)
          intro K hK; go_simp; refine hK _ _ ?_; clear hK K
          apply wpOrd_read0
          case hi => rfl
          case hw => rfl
          case hy => (intro w; go_simp; try rfl)
          intro K hK; go_simp; refine hK _ _ ?_; clear hK K
          apply wpOrd_read0
          case hi => rfl
          case hw => rfl
          case hy => (intro w; go_simp; try rfl)
          intro K hK; go_simp; refine hK _ _ ?_; clear hK K
          apply wpOrd_read1
          case hi => rfl
          case hw => rfl
          case hy => (intro w hw; obtain ⟨h1, h2⟩ := hw; go_simp; try rfl)
          intro K hK; go_simp; refine hK _ _ ?_; clear hK K
          apply wpOrd_read0
          case hi => rfl
          case hw => rfl
          case hy => (intro w; go_simp; try rfl)
          intro K hK; go_simp; refine hK _ _ ?_; clear hK K
          apply wpOrd_read0
          case hi => rfl
          case hw => rfl
          case hy => (intro w; go_simp; try rfl)
          intro K hK; go_simp; refine hK _ _ ?_; clear hK K
          apply wpOrd_read0
          case hi => rfl
          case hw => rfl
          case hy => (intro w; go_simp; try rfl)
          intro K hK; go_simp; refine hK _ _ ?_; clear hK K
          apply wpOrd_read0
          case hi => rfl
          case hw => rfl
          case hy => (intro w; go_simp; try rfl)
          intro K hK; go_simp; refine hK _ _ ?_; clear hK K
          apply wpOrd_read1
          case hi => rfl
          case hw => rfl
          case hy => (intro w hw; obtain ⟨h1, h2⟩ := hw; go_simp; try rfl)
          intro K hK; go_simp; refine hK _ _ ?_; clear hK K
          apply wpOrd_eff3
          case hi => rfl
          case hw => rfl
          intro K hK
          go_simp
          refine (HTr.out.drew.put (by have := HLn.out; omega) ky vl).mono ?_
          rintro e W7 ⟨rfl, ht⟩
          have HT1 := Lib.hid ht
          clear ht HTr
          refine hK _ _ ?_
          clear hK K
          refine wpOrd_nil ?_
          obtain ⟨a0, a1, a2⟩ := HCE.out W7 HT1.out.b
          have hq := putL_len1 LT ky vl
          have HQ := Lib.hid hq
          clear hq
          go_wp2_with fail
          refine (HT1.out.del (by have := HLn.out; have := HQ.out; omega) ky).mono ?_
          rintro e W8 ⟨rfl, ht⟩
          have HT3 := Lib.hid ht.rot
          clear ht HT1 a0 a1 a2

          have hn := delL_len (putL LT ky vl) ky
          have hn2 := putL_len1 LT ky vl
          have HN := Lib.hid (show (delL (putL LT ky vl) ky).length ≤ LT.length + 1 by omega)
          clear hn hn2
          go_wp2_with fail
          go_roundw
          case rel => exact ⟨k + 1, _, _, hk1, by go_num, (by have := HLn.out; omega), (by have := HN.out; have := HLn.out; omega), HT3.out⟩
          case measure => simp [intOf]; omega
    · have hkn : k = ss.length := by omega
      subst hkn
      have hz : (1000 : Int) = 1000 := rfl
      clear hz
      go_wp2_with fail
      refine (HT.out.pairs (by have := HLn.out; omega)).mono ?_
      rintro e W7 ⟨pa, pc, rfl, hpa, ht7, _⟩
      have HP7 := Lib.hid hpa
      have HT7 := Lib.hid ht7.rot
      clear hpa ht7 HT
      go_wp2_with fail
      refine (HT7.out.pairs (by have := HLn.out; omega)).mono ?_
      rintro e W8 ⟨qa, qc, rfl, hqa, ht8, hb8⟩
      have HP8 := Lib.hid (And.intro (HP7.out.below hb8) hqa)
      have HT8 := Lib.hid ht8.rot
      clear hqa ht8 HT7 HP7 hb8
      go_wp2_with fail
      refine (same_eq _ _ LC W8 HP8.out.1 HP8.out.2 (by have := HLn.out; omega)).mono ?_
      rintro e W9 ⟨rfl, q9, hw9⟩
      obtain rfl := hw9.symm
      have HT9 := Lib.hid (HT8.out.drewN q9)
      clear HT8 HP8 hw9
      generalize W8.drewN q9 = W9 at *
      go_wp2_with fail
      refine (HT9.out.check (by have := HLn.out; omega)).mono ?_
      rintro e W10 ⟨rfl, ht10, _⟩
      have HT10 := Lib.hid ht10.rot
      clear ht10 HT9
      go_wp2_with fail
      refine (HT10.out.check (by have := HLn.out; omega)).mono ?_
      rintro e W11 ⟨rfl, ht11, _⟩
      have HB11 := Lib.hid ht11.b
      clear ht11 HT10
      go_wp2_with fail
      refine (awake_any _).mono ?_
      rintro e W12 ⟨rfl, hb12⟩
      have HB12 := Lib.hid (HB11.out.trans (hb12.mono HB11.out.size))
      clear hb12
      go_wp2_with fail
      go_ret
      exact ⟨rfl, HB12.out⟩
theorem law_clones (o : Int) (kv lv : Value) (ks : List Bs) (ss : List Stp) (w : World) (hkk : KeysArg w kv ks) (hk : StepsArg w lv ss) :
    Calls Try.prog 7 #[.int .i64 o, kv, lv] w (LawOut w) := by
  have hkk2 := hkk
  have hk2 := hk
  obtain ⟨a, c, rfl, _⟩ := hk
  obtain ⟨a1, c1, rfl, _⟩ := hkk
  by_cases h1 : o < 4
  · exact clones_e1 o a1 ks.length c1 a ss.length c w h1
  · by_cases h2 : 256 < o
    · exact clones_e2 o a1 ks.length c1 a ss.length c w h2
    · by_cases h3 : 200 < ks.length
      · exact clones_e3 o a1 ks.length c1 a ss.length c w (by omega) (by omega) h3
      · by_cases h4 : 200 < ss.length
        · exact clones_e4 o a1 ks.length c1 a ss.length c w (by omega) (by omega) (by omega) h4
        · obtain ⟨o, rfl⟩ := Int.eq_ofNat_of_zero_le (show 0 ≤ o by omega)
          exact clones_go o (by omega) (by omega) a1 c1 ks a c ss w hkk2 hk2 (by omega) (by omega)
end Go.Proofs.Ytegljepgncicjaa
/- The step from a law's contract to its row, where the law only makes memory; whatever the parameters' types. -/
namespace Go.Proofs.Ytegljepgncicjaa
open Go.RowKit Go.WideShapes Go.ChangeShapes
section
variable {H : Type} {enc : TypeId × Value → H} {P : Program}
theorem post_of_below2 {f : Func} {s : ChangeSpec} {apart fresh handsOn again : Bool} {W W' : World} {args : Array Value} {v : Value} {ds gs : List (DataW H)} {before pa pv : List MemPlace}
    (hW : DataW.Whole enc P f.params.toList s.vars apart W args.toList ds gs before)
    (hres : ∀ (b : Nat) (sp : Nat → Bool) (hd : Bool), DataW.TrodAll enc P W' b sp hd f.resultTypes.toList (v.resultList f.resultTypes.size) (s.fn H (ds ++ gs)).results [])
    (hargs : ∀ sp : Nat → Bool, (∀ p ∈ before, sp p.block = true) → DataW.TrodAll enc P W' 0 sp true f.params.toList args.toList (s.fn H (ds ++ gs)).args pa)
    (hvars : ∀ sp : Nat → Bool, (∀ p ∈ before, sp p.block = true) → DataW.TrodVars enc P W' sp s.vars (s.fn H (ds ++ gs)).vars pv)
    (hps : before = pa ++ pv) (hb : Below W.heap.size W W')
    (hok : ∀ (j : Nat) (t : TypeId) (r : Value), f.resultTypes[j]? = some t → (v.resultList f.resultTypes.size)[j]? = some r → Value.okWide P W' .any 0 t r) :
    s.post enc P f apart fresh handsOn again W args v W' := by
  have hlt : ∀ p ∈ before, p.block < W.heap.size := fun p hp => hW.lt p hp
  have hold : ∀ p ∈ before, (fun b => decide (b < W.heap.size)) p.block = true := fun p hp => by simpa using hlt p hp
  refine ⟨ds, gs, before, [], pa, pv, hW, hres _ _ _, hargs _ hold, hvars _ hold, World.keptBut_mono (fun p hp => ⟨hp, ?_⟩) (hb.frame (· ∈ before)), fun _ => ?_⟩
  · rw [hps, List.mem_append] at hp
    exact Or.inr hp
  · obtain ⟨_, _, _, _, _, hz, hn⟩ := hW
    refine ⟨hok, _, _, ([] ++ pa) ++ pv, ⟨[] ++ pa, pv, trodAll_append (hargs _ (fun _ _ => rfl)) (hres _ _ _), hvars _ (fun _ _ => rfl), rfl, ?_, ?_⟩, ?_⟩
    · intro b off hp
      have hin : MemPlace.cell b off ∈ before := by rw [hps]; simpa using hp
      rw [hb.frozen (hlt _ hin)]
      exact hz b off hin
    · intro ha
      have := hn ha
      rw [hps] at this
      simpa using this
    · intro p hp _
      rw [hps]
      simpa using hp
end

section
variable {H : Type} {enc : TypeId × Value → H} {P : Program}
theorem trodAll_stays (hl : laidOutB P = true) {W W' : World} {sp : Nat → Bool} (hb : Below W.heap.size W W') :
    ∀ (ts : List TypeId) (vs : List Value) (ds : List (DataW H)) (ps : List MemPlace), ts.all (fun t => P.readableRec t && decide (t < P.types.size)) = true →
      DataW.TrodAll enc P W 0 (fun _ => true) true ts vs ds ps → (∀ p ∈ ps, p.block < W.heap.size) → (∀ p ∈ ps, sp p.block = true) → DataW.TrodAll enc P W' 0 sp true ts vs ds ps
  | [], vs, ds, ps, _, h, _, _ => by
    obtain ⟨rfl, rfl, rfl⟩ := trodAll_nil h
    exact trodAll_mk0
  | t :: ts, vs, ds, ps, ha, h, hlt, hs => by
    obtain ⟨v, vs', d, ds', p, q, rfl, rfl, rfl, h1, h2⟩ := trodAll_cons h
    simp only [List.all_cons, Bool.and_eq_true, decide_eq_true_eq] at ha
    exact trodAll_cons_mk (WideElems.Trod_stays hl ha.1.1 ha.1.2 h1 (fun x hx => hb.same (hlt x (List.mem_append_left _ hx))) (fun x hx => hs x (List.mem_append_left _ hx)))
      (trodAll_stays hl hb ts vs' ds' q ha.2 h2 (fun x hx => hlt x (List.mem_append_right _ hx)) (fun x hx => hs x (List.mem_append_right _ hx)))
/-- a law that returned true and only made memory meets its row -/
theorem post_law {f : Func} {s : ChangeSpec} {apart fresh handsOn again : Bool} {W W' : World} {args : Array Value} {ds gs : List (DataW H)} {before : List MemPlace} {T : TypeId}
    (hl : laidOutB P = true) (hp : f.params.toList.all (fun t => P.readableRec t && decide (t < P.types.size)) = true) (hv : s.vars = [])
    (hW : DataW.Whole enc P f.params.toList s.vars apart W args.toList ds gs before)
    (hfn : s.fn H ds = { results := [.lit (.bool true)], args := ds }) (hrt : f.resultTypes = #[T]) (hT : P.underlying T = some .bool) (hb : Below W.heap.size W W') :
    s.post enc P f apart fresh handsOn again W args (.bool true) W' := by
  have hW' := hW
  have hlt : ∀ p ∈ before, p.block < W.heap.size := fun p hp => hW.lt p hp
  obtain ⟨p, q, hA, hV, hpq, _, _⟩ := hW
  rw [hv] at hV
  obtain ⟨rfl, rfl⟩ := trodVars_none hV
  rw [List.append_nil] at hpq
  subst hpq
  have hfn' : s.fn H (ds ++ []) = { results := [.lit (.bool true)], args := ds } := by rw [List.append_nil]; exact hfn
  refine post_of_below2 (pa := before) (pv := []) hW' ?_ ?_ ?_ (by simp) hb ?_
  · intro b sp hd
    rw [hfn', hrt]
    exact trodAll_cons_mk (shut_bool hT _) trodAll_mk0
  · intro sp hsp
    rw [hfn']
    exact trodAll_stays hl hb _ _ _ _ hp hA hlt hsp
  · intro sp hsp
    rw [hfn', hv]
    rfl
  · exact ok_one hrt rfl (okWide_bool_mk hT _)
end
end Go.Proofs.Ytegljepgncicjaa
