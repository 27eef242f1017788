/- Mvcc: Clone of versions; Store.set. -/
import Derived.Test.YtpcjmceakelilaaMv8
namespace Go.Proofs.Ytpcjmceakelilaa
open Go.ChangeShapes Go.WideShapes Go.ChangeAt Go.RowKit Go.Deep Go.ChangeMaps Go.Shelf
set_option linter.unusedVariables false
set_option linter.unusedSimpArgs false
theorem cloneV (g o n c : Nat) (L : List Ver) (W : World) (hn : L.length = n) (h1000 : n ≤ 100000) (hc : ∀ j u, (vrv L)[j]? = some u → W.cell? ⟨g, o + j, none⟩ = some u) :
    Calls Try.prog 45 #[.slice (some ⟨g, o, none⟩) n c] W fun e W' => ∃ v', e = .returned v' ∧ VRow W.heap.size W' v' L ∧ Below W.heap.size W W' := by
  obtain ⟨i9, hi9, hz0, hz1, hz2⟩ := info_parts infoV
  refine Calls.mono (AnyE.slices_Clone Try.laysC50 i9 (.agg #[.int .i64 0, .string ⟨#[]⟩, .bool false]) 3 32 hi9 hz0 hz1 hz2 rfl (by decide) (fun w => Try.sizeOf72 w) g o n c (vrv L) W (by rw [vrv_len, hn]) (by unfold maxLen; omega) (by omega) hc (vrv_one L)) ?_
  rintro e W' ⟨v', rfl, hr, _, hb⟩
  subst hn
  exact ⟨v', rfl, hr, hb⟩
set_option maxRecDepth 100000 in
theorem set_del (B S m clock b : Nat) (E : List En) (k : Bs) (a : Option Addr) (c : Nat) (W : World) (h : Sto B W S m E clock) :
    Calls Try.prog 47 #[.pointer (some ⟨S, 0, none⟩), .string k, .slice a 0 c, .int .i64 b] W fun e W' => e = .returned (.tuple #[]) ∧ W' = setBlock W m (.map (esOf (delE E k)) clock) := by
  have c0 := h.c0
  have hd := run_del h.map h.ok.keys k
  clear h
  go_enter Try.func47, Try.ntmps47
  go_wp2_with fail
  go_end0
  exact ⟨rfl, rfl⟩
set_option maxRecDepth 100000 in
theorem set_same (S n b : Nat) (k : Bs) (a : Option Addr) (c : Nat) (W : World) (h0 : 0 < n) (hnb : b ≤ n) :
    Calls Try.prog 47 #[.pointer (some ⟨S, 0, none⟩), .string k, .slice a n c, .int .i64 b] W fun e W' => e = .returned (.tuple #[]) ∧ W' = W := by
  have d0 : ((n : Int) == 0) = false := beq_eq_false_iff_ne.2 (by omega)
  have d1 : decide ((n : Int) < (b : Int)) = false := decide_eq_false (by omega)
  have d2 : decide (n < b) = false := decide_eq_false (by omega)
  go_enter Try.func47, Try.ntmps47
  go_wp2_with fail
  go_end0
  exact ⟨rfl, rfl⟩
def SetOut (m clock : Nat) (E : List En) (k : Bs) (vs : List Ver) (W : World) (e : Ending) (W' : World) : Prop :=
  e = .returned (.tuple #[]) ∧ ∃ v W1, VRow W.heap.size W1 v vs ∧ Below W.heap.size W W1 ∧ W' = setBlock W1 m (.map (esOf (putE E clock k v vs)) (putC E clock k))
set_option maxRecDepth 100000 in
set_option maxHeartbeats 1600000 in
theorem set_put (B S m clock b g off c : Nat) (E : List En) (k : Bs) (vs : List Ver) (W : World) (h : Sto B W S m E clock) (h0 : 0 < vs.length) (hnb : vs.length < b) (hvl : vs.length ≤ 100000) (hc : ∀ j u, (vrv vs)[j]? = some u → W.cell? ⟨g, off + j, none⟩ = some u) :
    Calls Try.prog 47 #[.pointer (some ⟨S, 0, none⟩), .string k, .slice (some ⟨g, off, none⟩) vs.length c, .int .i64 b] W (SetOut m clock E k vs W) := by
  have c0 : W.drew.cell? ⟨S, 0, none⟩ = some (.map (some m)) := h.c0
  have hm : MapAt W.drew m E clock := h.map
  have hn := h.ok.keys
  have hSl : S < W.drew.heap.size := h.box.lt
  have d0 : ((vs.length : Int) == 0) = false := beq_eq_false_iff_ne.2 (by omega)
  have d1 : decide ((vs.length : Int) < (b : Int)) = true := decide_eq_true (by omega)
  have d2 : decide (vs.length < b) = true := decide_eq_true hnb
  have HC : Hid (∀ j u, (vrv vs)[j]? = some u → W.drew.cell? ⟨g, off + j, none⟩ = some u) := Lib.hid hc
  clear hc h
  go_enter Try.func47, Try.ntmps47
  go_wp2_with fail
  clear d0 d1 d2
  refine wp_region_ordW 8 7 [(0, 0), (1, 0), (2, 0), (3, 1), (4, 0), (5, 0), (6, 2), (7, 3)] (fun X => X.cell? ⟨S, 0, none⟩ = some (.map (some m)) ∧ MapAt X m E clock) (by kernel_rfl) (by kernel_rfl) ⟨c0, hm⟩ (fun c a d v w h => by cases d <;> exact h) ?_
  apply wpOrd_read0
  case hi => rfl
  case hw => rfl
  case hy => (intro w; go_simp; try rfl)
  intro K hK; go_simp; refine hK _ _ ?_; clear hK K
  apply wpOrd_read0
  case hi => rfl
  case hw => rfl
  case hy => (intro w; go_simp; try rfl)
  intro K hK; go_simp; refine hK _ _ ?_; clear hK K
  apply wpOrd_read0
  case hi => rfl
  case hw => rfl
  case hy => (intro w; go_simp; try rfl)
  intro K hK; go_simp; refine hK _ _ ?_; clear hK K
  apply wpOrd_read1
  case hi => rfl
  case hw => rfl
  case hy => (intro w hw; obtain ⟨h1, h2⟩ := hw; go_simp; try rfl)
  intro K hK; go_simp; refine hK _ _ ?_; clear hK K
  apply wpOrd_read0
  case hi => rfl
  case hw => rfl
  case hy => (intro w; go_simp; try rfl)
  intro K hK; go_simp; refine hK _ _ ?_; clear hK K
  apply wpOrd_read0
  case hi => rfl
  case hw => rfl
  case hy => (intro w; go_simp; try rfl)
  intro K hK; go_simp; refine hK _ _ ?_; clear hK K
  apply wpOrd_eff2
  case hi => rfl
  case hw => rfl
  intro K hK
  go_simp
  refine (cloneV g off vs.length c vs _ rfl hvl HC.out).mono ?_
  rintro e W1 ⟨v, rfl, hrow, hb⟩
  have hm1 : MapAt W1 m E clock := hm.kept (kept_below hb) (fun h => h)
  have b0 := (hb.cell (p := ⟨S, 0, none⟩) hSl).trans c0
  have hup := run_upd hm1 hn k v vs
  have HB := Lib.hid (And.intro hrow hb)
  clear hrow hb
  refine hK _ _ ⟨b0, hm1⟩ ?_
  clear hK K
  apply wpOrd_eff3
  case hi => rfl
  case hw => rfl
  intro K hK
  go_simp
  refine hK _ _ (wpOrd_nil ?_)
  clear hK K

  have HB2 : Hid (VRow W.heap.size W1 v vs ∧ Below W.heap.size W W1) := Lib.hid ⟨HB.out.1, ⟨HB.out.2.os, HB.out.2.tape, HB.out.2.output, HB.out.2.size, HB.out.2.block⟩⟩
  try clear c0 hm hn hup hm1 b0
  go_wp2_with fail
  go_end0
  exact ⟨rfl, v, W1, HB2.out.1, HB2.out.2, rfl⟩
end Go.Proofs.Ytpcjmceakelilaa
