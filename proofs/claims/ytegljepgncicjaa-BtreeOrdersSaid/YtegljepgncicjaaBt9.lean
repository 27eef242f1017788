/- Btree: regions that draw and end in one writing call, inside the wide fence; down at a leaf with three keys. -/
import Derived.Test.YtegljepgncicjaaBt8
import Derived.RangeFuncNested
import Derived.RangeFuncBound
import Derived.RangeFuncLeaves
import Derived.RangeFuncBox
import Derived.Shelf.Abstract
import Derived.OwnWalkIn
import Derived.TacticsInMore
import Derived.LoopNIn
import Derived.LoopIn
import Derived.OrdersIn
import Derived.Sort.QuietIn
import Derived.Maps.AppendAt
namespace Go.Proofs.Ytegljepgncicjaa
open Go.ChangeShapes Go.WideShapes Go.ChangeAt Go.RowKit Go.Deep Go.Shelf
set_option linter.unusedVariables false
set_option linter.unusedSimpArgs false
section
variable {P : Program} {ops : Array Oper} {md : Region.Mode} {w : World} {m : Nat}
theorem wpOpIn_of_stOp {i : Nat} {a : Act} {K : Act → Prop} {K' : Act → World → Prop} {Q : Exit → Act → World → Prop} (h : ∀ a, K a → K' a w) (hh : stOp P ops w i K a) : wpOpIn Fence.wide m P ops Q i K' a w := by
  unfold stOp at hh
  unfold wpOpIn
  split
  · rename_i h0
    simp only [h0] at hh
    exact h _ hh
  · rename_i o h0
    simp only [h0] at hh
    split
    · rename_i hw
      simp only [hw, if_true] at hh
      unfold Oper.still at hh
      unfold Oper.wpIn
      refine ⟨fun _ _ => trivial, ?_⟩
      rw [show Fence.wide.round = none from rfl, Oper.semAt_none]
      generalize (execOp a.eval o).run P w = r at *
      cases r with
      | ok n w' =>
        cases n <;> simp only [Oper.stillUpon] at hh <;> simp only [Oper.uponIn]
        case enter f args =>
          obtain ⟨rfl, v, hc, hn⟩ := hh
          exact ⟨fun h => (by cases h), (callsIn_wide.2 hc).mono fun e w'' ⟨he, hw⟩ => by subst he; subst hw; exact h _ hn⟩
        all_goals (obtain ⟨rfl, h2⟩ := hh; exact h _ h2)
      | halt x w' => simp only [Oper.stillUpon] at hh
    · rename_i hw
      simp only [hw] at hh
      exact ⟨fun _ _ => trivial, h _ hh⟩
theorem wpAnyIn_of_head {n g : Nat} {L : Array Bool → Act → Prop} {Q' : Exit → Act → World → Prop} (hL : ∀ listed a, L listed a → wpAnyIn Fence.wide m P md ops Q' g listed a w) :
    ∀ (f : Nat) (listed : Array Bool) (a : Act), wpAnyL P md ops w n L f listed a → wpAnyIn Fence.wide m P md ops Q' (f + g) listed a w
  | 0, listed, a, h => by rw [Nat.zero_add]; exact hL _ _ h
  | f + 1, listed, a, h => by
    rw [show f + 1 + g = (f + g) + 1 by omega]
    exact ⟨fun h0 => absurd h0 h.1, fun i hi => wpOpIn_of_stOp (fun a' h' => wpAnyIn_of_head hL f _ a' h') (h.2 i hi).2⟩
theorem wpAnyIn_of_seq {Q' : Exit → Act → World → Prop} : ∀ (l : List Oper) (k : Nat) (listed : Array Bool) (a : Act) (w : World), (∀ j, l[j]? = ops[k + j]?) →
    Region.seqB md ops l.length k listed = true → wpListIn Fence.wide m P ops Q' l a w → wpAnyIn Fence.wide m P md ops Q' l.length listed a w
  | [], _, _, _, _, _, hB, h => ⟨by simpa [Region.seqB] using hB, h⟩
  | o :: l, k, listed, a, w, hl, hB, h => by
    have h0 : ops[k]? = some o := by simpa using (hl 0).symm
    simp only [List.length_cons, Region.seqB, Bool.and_eq_true, decide_eq_true_eq] at hB
    refine ⟨fun h1 => (by rw [hB.1] at h1; cases h1), fun i hi => ?_⟩
    rw [hB.1] at hi
    have hik : i = k := by simpa using hi
    subst hik
    have hw : wpOpIn Fence.wide m P ops Q' i (wpListIn Fence.wide m P ops Q' l) a w := by unfold wpOpIn; simp only [h0]; exact h
    exact wpOpIn_mono (fun a' w' h' => wpAnyIn_of_seq l (i + 1) _ a' w' (fun j => by have := hl (j + 1); simpa [Nat.add_assoc, Nat.add_comm 1 j] using this) hB.2 h') hw
theorem wpIn_region_still_tail {id : Nat} {Q : Exit → Act → World → Prop} {a : Act} {w : World} {l : List Oper} (n : Nat) (hm : P.follows .mixedOrders = true) (hB : Region.lexTailB .any l.toArray n = true)
    (h : wpStill P l.toArray w.drew (fun a' => wpListIn Fence.wide m P l.toArray Q (l.drop n) a' w.drew) (l.take n) a) : (Code.region id l.toArray true).wpIn Fence.wide m P Q a w := by
  simp only [Region.lexTailB, Bool.and_eq_true, decide_eq_true_eq] at hB
  obtain ⟨⟨⟨⟨hsel, hn⟩, hs⟩, hc⟩, hlex⟩ := hB
  have hn' : n < l.length := by simpa using hn
  have htl : (l.take n).length = n := by simp; omega
  have hdl : (l.drop n).length = l.toArray.size - n := by simp
  have inv0 : HeadInv .any l.toArray n (Array.replicate l.toArray.size false) :=
    ⟨by simp, fun j oj _ hl => (by rw [getD_replicate_false] at hl; cases hl), fun t _ ht => getD_in (by simpa using ht) (getD_replicate_false _ _)⟩
  have H := wpAnyL_lex (md := .any) (g := l.toArray.size - n) hsel hs hc hn (l.take n) 0 _ a (fun j hj => by
    have hj' : j < n := by rw [htl] at hj; exact hj
    simp [hj']) (by simpa using htl) inv0 (by rw [htl]; exact hlex) h
  refine wpIn_region_any hm ?_
  have := wpAnyIn_of_head (m := m) (Q' := Q) (g := l.toArray.size - n) (fun listed a' hL => by
    have := wpAnyIn_of_seq (m := m) (md := .any) (Q' := Q) (l.drop n) n listed a' w.drew (fun j => by simp [List.getElem?_drop]) (by rw [hdl]; exact hL.1) hL.2
    rwa [hdl] at this) _ _ _ H
  rw [htl, show n + (l.toArray.size - n) = l.toArray.size by omega] at this
  exact this
end
attribute [local go_sem] Oper.semAt_some
theorem wide_fn (f : FuncId) : Fence.wide.fn f = True := rfl
attribute [local go_sem, local simp] wide_fn
/-- what is read of a leaf with three keys -/
structure D3 (n₀ N : Nat) (k0 k1 k2 v0 v1 v2 : Bs) (W : World) (kg vg kc vc : Nat) : Prop where
  bN : N < n₀
  bk : kg < n₀
  bv : vg < n₀
  c0 : W.cell? ⟨N, 0, none⟩ = some (.slice (some ⟨kg, 0, none⟩) 3 kc)
  c1 : W.cell? ⟨N, 1, none⟩ = some (.slice (some ⟨vg, 0, none⟩) 3 vc)
  c2 : W.cell? ⟨N, 2, none⟩ = some (.slice none 0 0)
  k0 : W.cell? ⟨kg, 0, none⟩ = some (.string k0)
  k1 : W.cell? ⟨kg, 1, none⟩ = some (.string k1)
  k2 : W.cell? ⟨kg, 2, none⟩ = some (.string k2)
  v0 : W.cell? ⟨vg, 0, none⟩ = some (.string v0)
  v1 : W.cell? ⟨vg, 1, none⟩ = some (.string v1)
  v2 : W.cell? ⟨vg, 2, none⟩ = some (.string v2)
theorem D3.below {n₀ N : Nat} {k0 k1 k2 v0 v1 v2 : Bs} {W W' : World} {kg vg kc vc : Nat} (h : D3 n₀ N k0 k1 k2 v0 v1 v2 W kg vg kc vc) (hb : Below n₀ W W') : D3 n₀ N k0 k1 k2 v0 v1 v2 W' kg vg kc vc :=
  ⟨h.bN, h.bk, h.bv, (hb.cell (p := ⟨N, 0, none⟩) h.bN).trans h.c0, (hb.cell (p := ⟨N, 1, none⟩) h.bN).trans h.c1, (hb.cell (p := ⟨N, 2, none⟩) h.bN).trans h.c2,
   (hb.cell (p := ⟨kg, 0, none⟩) h.bk).trans h.k0, (hb.cell (p := ⟨kg, 1, none⟩) h.bk).trans h.k1, (hb.cell (p := ⟨kg, 2, none⟩) h.bk).trans h.k2,
   (hb.cell (p := ⟨vg, 0, none⟩) h.bv).trans h.v0, (hb.cell (p := ⟨vg, 1, none⟩) h.bv).trans h.v1, (hb.cell (p := ⟨vg, 2, none⟩) h.bv).trans h.v2⟩
abbrev encP (x : Bs × Bs) : Array Value := #[.string x.1, .string x.2]
def DownOut (k1 k2 v1 v2 : Bs) (J Jx : List (Bs × Bs) → World → Prop) (e : Ending) (W' : World) : Prop :=
  (∃ b, e = .returned (.bool b)) ∧ (J [(k2, v2), (k1, v1)] W' ∨ ∃ pre, pre <+: [(k2, v2), (k1, v1)] ∧ Jx pre W')
set_option maxRecDepth 100000 in
set_option maxHeartbeats 1600000 in
theorem down_3 (m l n₀ N : Nat) (lo k0 k1 k2 v0 v1 v2 : Bs) (J Jx : List (Bs × Bs) → World → Prop)
    (hY : ∀ m pre (x : Bs × Bs) W, J pre W → pre.length < 2 → YieldAt Fence.wide m Try.prog l (encP x) W fun e W' =>
      (e = .returned (.bool true) ∧ J (pre ++ [x]) W' ∧ Below n₀ W W') ∨ (e = .returned (.bool false) ∧ Jx (pre ++ [x]) W'))
    (hJ : ∀ pre W q, J pre W → J pre (W.drewN q))
    (h0 : Op.bytesLess k0.toList lo.toList = true) (h1 : Op.bytesLess k1.toList lo.toList = false) (h2 : Op.bytesLess k2.toList lo.toList = false)
    (W : World) (kg vg kc vc : Nat) (hD : D3 n₀ N k0 k1 k2 v0 v1 v2 W kg vg kc vc) (hj : J [] W) :
    CallsIn Fence.wide m Try.prog 40 #[.pointer (some ⟨N, 0, none⟩), .string lo, .string ByteArray.empty, .bool false, .func (.yield l) #[] #[]] W (DownOut k1 k2 v1 v2 J Jx) := by
  have HY := Lib.hid hY
  have HJ := Lib.hid hJ
  have hj1 : J [] W.drew := hJ _ _ 1 hj
  have HJ0 := Lib.hid hj1
  have HD := Lib.hid (hD.below (W' := W.drew) ⟨rfl, rfl, rfl, Nat.le_refl _, fun _ _ => rfl⟩)
  have w0 : IntKind.i64.wrap 2 = 2 := rfl
  have w1 : IntKind.i64.wrap 1 = 1 := rfl
  have w2 : IntKind.i64.wrap 0 = 0 := rfl
  obtain ⟨hbN, hbk, hbv, c0, c1, c2, e0, e1, e2, u0, u1, u2⟩ := hD
  clear hY hJ hj hj1
  refine callsIn_of_wp Try.func40 rfl trivial ?_ rfl
  simp only [Try.ntmps40, List.size_toArray, List.length_cons, List.length_nil, Nat.reduceAdd, Nat.reduceSub, Array.replicate_succ, Array.replicate_zero, List.push_toArray, List.append_toArray, List.nil_append, List.cons_append]
  gi_wp2
  refine wpIn_loop_rounds 4 ?_
  rw [roundsIn_succ]
  gi_wp2_with (refine ⟨trivial, ?_⟩)
  refine wpIn_region_still_tail 28 (by kernel_rfl) (by kernel_rfl) ?_
  simp only [List.take_succ_cons, List.take_zero, List.drop_succ_cons, List.drop_zero]
  repeat still_step
  refine wpStill_nil ?_
  obtain ⟨f1, t1, a1, b1, hy1, hR1⟩ := HY.out (m - 1) [] (k2, v2) W.drew HJ0.out (by simp)
  dsimp only [encP] at hy1
  clear c0 c1 c2 e0 e1 e2 u0 u1 u2
  gi_wp2
  refine ⟨fun h => (by cases h), hR1.mono ?_⟩
  clear hR1 hy1
  rintro e W1 (⟨rfl, hJ1, hk1⟩ | ⟨rfl, hx1⟩)
  · have hj1 : J ([] ++ [(k2, v2)]) W1.drew := HJ.out _ _ 1 hJ1
    have HJ1 := Lib.hid hj1
    have hD := HD.out.below hk1
    have HD1 := Lib.hid (hD.below (W' := W1.drew) ⟨rfl, rfl, rfl, Nat.le_refl _, fun _ _ => rfl⟩)
    obtain ⟨_, _, _, c0, c1, c2, e0, e1, e2, u0, u1, u2⟩ := hD
    clear hJ1 hk1 HD hj1 HJ0
    gi_wp2
    rw [roundsIn_succ]
    gi_wp2_with (refine ⟨trivial, ?_⟩)
    refine wpIn_region_still_tail 28 (by kernel_rfl) (by kernel_rfl) ?_
    simp only [List.take_succ_cons, List.take_zero, List.drop_succ_cons, List.drop_zero]
    repeat still_step
    refine wpStill_nil ?_
    obtain ⟨f2, t2, a2, b2, hy2, hR2⟩ := HY.out (m - 1) _ (k1, v1) W1.drew HJ1.out (by simp)
    dsimp only [encP] at hy2
    clear c0 c1 c2 e0 e1 e2 u0 u1 u2
    gi_wp2
    refine ⟨fun h => (by cases h), hR2.mono ?_⟩
    clear hR2 hy2
    rintro e W2 (⟨rfl, hJ2, hk2⟩ | ⟨rfl, hx2⟩)
    · have HJ2 := Lib.hid hJ2
      have hD := HD1.out.below hk2
      obtain ⟨_, _, _, c0, c1, c2, e0, e1, e2, u0, u1, u2⟩ := hD
      clear hJ2 hk2 HD1 HJ1
      gi_wp2
      rw [roundsIn_succ]
      gi_wp2_with (refine ⟨trivial, ?_⟩)
      gi_quiet (fail)
      gi_wp2
      go_ret
      exact ⟨⟨_, rfl⟩, .inl (HJ.out _ _ nq HJ2.out)⟩
    · gi_wp2
      go_ret
      exact ⟨⟨_, rfl⟩, .inr ⟨_, ⟨[], by simp⟩, hx2⟩⟩
  · gi_wp2
    go_ret
    exact ⟨⟨_, rfl⟩, .inr ⟨_, ⟨[(k1, v1)], by simp⟩, hx1⟩⟩
end Go.Proofs.Ytegljepgncicjaa
