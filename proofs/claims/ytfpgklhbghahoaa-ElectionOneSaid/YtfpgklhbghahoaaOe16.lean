/- Merged texts: Eh17, Eh40, Close2. -/
import Derived.Test.YtfpgklhbghahoaaOe15
import Derived.Test.YtfpgklhbghahoaaRows
import Derived.ProofKit
import Derived.Below
import Derived.ChangeSame
import Derived.WideKeyArgs
import Derived.OpenShut
/- Election: a message that came in; a member that came in, with all that it reaches. -/
namespace Go.Proofs.Ytfpgklhbghahoaa
open Go.ChangeShapes Go.WideShapes Go.ChangeAt Go.RowKit Go.ChangeMaps Go.Joins Go.Deep
set_option linter.unusedVariables false
set_option linter.unusedSimpArgs false
set_option maxRecDepth 100000
section
variable {H : Type} {enc : TypeId × Value → H} {P : Program} {w : World} {base : Nat} {spare : Nat → Bool} {held : Bool}
end
def tysM : List TypeId := 25 :: tysE
end Go.Proofs.Ytfpgklhbghahoaa
/- Election: the logs and the acts that came in; the statement's row. -/
namespace Go.Proofs.Ytfpgklhbghahoaa
open Go.ChangeShapes Go.WideShapes Go.ChangeAt Go.RowKit Go.ChangeMaps Go.Joins Go.Deep
set_option linter.unusedVariables false
set_option linter.unusedSimpArgs false
set_option maxRecDepth 100000
def tysL : List TypeId := 42 :: tysE
theorem tysL_closed : closedB Try.prog tysL = true := by kernel_rfl
def tysA : List TypeId := [43, 75, 4, 5]
theorem tysA_closed : closedB Try.prog tysA = true := by kernel_rfl
theorem goodS_of {H : Type} {enc : TypeId × Value → H} {w : World} {t e : TypeId} {v : Value} {d : DataW H} {ps : List MemPlace} {r : Reach} {b0 : Nat} (L : List TypeId) (hL : closedB Try.prog L = true) (ht : L.contains t = true) (hu : Try.prog.underlying t = some (.slice e)) (hv : Value.okWide Try.prog w r b0 t v) (h : DataW.Trod enc Try.prog w 0 (fun _ => true) true t v d ps) (hw : (d.weights Try.prog t).all (· ≤ reachBytes) = true) : ∃ n a l c, v = .slice a l c ∧ GoodC Try.prog w n t [.slice a l c] := by
  obtain ⟨a, l, c, rfl⟩ := okWide_slice hu hv
  obtain ⟨fuel, hf⟩ := h
  have hf' : DataW.trod enc Try.prog w 0 (fun _ => true) true fuel t [.slice a l c] = some (d, ps) := by simpa [Value.cells] using hf
  exact ⟨fuel, a, l, c, rfl, goodC_of L hL fuel _ ht _ (d, ps) hf' hw⟩
/-- the logs, chosen -/
theorem logsIn_of {w : World} {n : Nat} {la : Option Addr} {ln lc : Nat} (h : GoodC Try.prog w n 42 [.slice la ln lc]) : ∃ (lg0 : Nat → Value) (lgs : Nat → LogC) (es0 : Nat → List (List Value)), LogsIn w la ln lg0 lgs es0 := by
  cases n with
  | zero => exact h.elim
  | succ n =>
    obtain ⟨a, l, c, e, _, _, hin⟩ := goodC_slice Try.underlying42 h
    obtain ⟨rfl, rfl, rfl⟩ := Value.slice.inj e
    have e1 : Try.prog.cellsOf 22 = 1 := by kernel_rfl
    have hone : ∀ j : Nat, ∃ v : Value, (∃ m, GoodC Try.prog w m 22 [v]) ∧ (j < ln → ∃ B o, la = some ⟨B, o, none⟩ ∧ B < w.heap.size ∧ w.cell? ⟨B, o + j, none⟩ = some v) ∧ (ln ≤ j → v = .slice none 0 0) := by
      intro j
      by_cases hj : j < ln
      · obtain ⟨B, o, h1, h2, h3⟩ := hin (by omega)
        obtain ⟨ds, k1, k2, k3⟩ := h3 j hj
        rw [e1] at k1 k2
        match ds, k1 with
        | [v], _ =>
          exact ⟨v, ⟨n, k3⟩, fun _ => ⟨B, o, h1, h2, by have := k2 0 v rfl; rwa [Nat.mul_one] at this⟩, fun h => by omega⟩
      · refine ⟨.slice none 0 0, ⟨1, ?_⟩, fun h => absurd h hj, fun _ => rfl⟩
        unfold GoodC
        simp only [Try.underlying22]
        exact ⟨none, 0, 0, rfl, Nat.le_refl _, ⟨Nat.zero_le _, by simp, fun _ => rfl⟩, fun h => absurd h (Nat.lt_irrefl _)⟩
    obtain ⟨lg0, hlg⟩ := Classical.axiomOfChoice hone
    have htwo : ∀ j : Nat, ∃ x : LogC × List (List Value), EntArg w (lg0 j) x.2 ∧ x.2.length = x.1.len ∧ LastAt w (lg0 j) x.1.lt ∧ (∃ k, EqC Try.prog w w TT (fun k => k < w.heap.size) (k + 1) 22 [lg0 j] [lg0 j]) ∧ (∃ a c, lg0 j = .slice a x.1.len c) ∧ ∀ e ∈ x.2, (Lit.int .i64 (trm e)).wf = true := by
      intro j
      obtain ⟨m, hm⟩ := (hlg j).1
      obtain ⟨L, es, hh⟩ := log_choice hm
      exact ⟨(L, es), hh⟩
    obtain ⟨xs, hxs⟩ := Classical.axiomOfChoice htwo
    exact ⟨lg0, fun j => (xs j).1, fun j => (xs j).2, ⟨fun j => (hxs j).1, fun j => (hxs j).2.1, fun j => (hxs j).2.2.1, fun j => (hxs j).2.2.2.1, fun j => (hxs j).2.2.2.2.1, fun j => (hxs j).2.2.2.2.2, fun j => (hlg j).2.1, fun j => (hlg j).2.2⟩⟩
theorem wf_u8 {z : Int} (h : (Lit.int .u8 z).wf = true) : 0 ≤ z ∧ z < 256 := by
  unfold Lit.wf at h
  simp only [Bool.and_eq_true, decide_eq_true_eq] at h
  have e1 : IntKind.u8.min = 0 := by decide
  have e2 : IntKind.u8.max = 255 := by decide
  omega
/-- the acts -/
theorem actsIn_of {w : World} {n : Nat} {ca : Option Addr} {cn cc : Nat} (h : GoodC Try.prog w n 43 [.slice ca cn cc]) : ∀ q, q < cn → ∃ (CB CO : Nat) (cb ab : Bool) (u : Int), ca = some ⟨CB, CO, none⟩ ∧ CB < w.heap.size ∧ w.cell? ⟨CB, CO + q * 3 + 0, none⟩ = some (.bool cb) ∧ w.cell? ⟨CB, CO + q * 3 + 1, none⟩ = some (.bool ab) ∧ w.cell? ⟨CB, CO + q * 3 + 2, none⟩ = some (.int .u8 u) ∧ 0 ≤ u ∧ u < 256 := by
  cases n with
  | zero => exact h.elim
  | succ n =>
    obtain ⟨a, l, c, e, _, _, hin⟩ := goodC_slice Try.underlying43 h
    obtain ⟨rfl, rfl, rfl⟩ := Value.slice.inj e
    intro q hq
    have e3 : Try.prog.cellsOf 75 = 3 := by kernel_rfl
    have e4 : Try.prog.cellsOf 4 = 1 := by kernel_rfl
    have e5 : Try.prog.cellsOf 5 = 1 := by kernel_rfl
    obtain ⟨B, o, h1, h2, h3⟩ := hin (by omega)
    obtain ⟨ds, k1, k2, k3⟩ := h3 q hq
    rw [e3] at k1 k2
    cases n with
    | zero => exact k3.elim
    | succ n =>
      obtain ⟨_, hs⟩ := (goodC_struct Try.underlying75).1 k3
      match ds, k1 with
      | [x, y, z], _ =>
        have g0 : GoodC Try.prog w n 4 (part_ [x, y, z] 0 (Try.prog.cellsOf 4)) := hs 0 _ rfl
        have g1 : GoodC Try.prog w n 4 (part_ [x, y, z] 1 (Try.prog.cellsOf 4)) := hs 1 _ rfl
        have g2 : GoodC Try.prog w n 5 (part_ [x, y, z] 2 (Try.prog.cellsOf 5)) := hs 2 _ rfl
        rw [e4] at g0 g1
        rw [e5] at g2
        cases n with
        | zero => exact g0.elim
        | succ n =>
          replace g0 : GoodC Try.prog w (n + 1) 4 [x] := g0
          replace g1 : GoodC Try.prog w (n + 1) 4 [y] := g1
          replace g2 : GoodC Try.prog w (n + 1) 5 [z] := g2
          unfold GoodC at g0 g1 g2
          simp only [Try.underlying4] at g0 g1
          simp only [Try.underlying5] at g2
          obtain ⟨cb, f0⟩ := g0
          obtain ⟨ab, f1⟩ := g1
          obtain ⟨u, f2, hu⟩ := g2
          obtain rfl := (List.cons.inj f0).1
          obtain rfl := (List.cons.inj f1).1
          obtain rfl := (List.cons.inj f2).1
          have hu2 := wf_u8 hu
          exact ⟨B, o, cb, ab, u, h1, h2, k2 0 _ rfl, k2 1 _ rfl, k2 2 _ rfl, hu2.1, hu2.2⟩
end Go.Proofs.Ytfpgklhbghahoaa
/- The step from a law's contract to its row, where the law only makes memory; whatever the parameters' types. -/
namespace Go.Proofs.Ytfpgklhbghahoaa
open Go.RowKit Go.WideShapes Go.ChangeShapes
section
variable {H : Type} {enc : TypeId × Value → H} {P : Program}
theorem post_of_below2 {f : Func} {s : ChangeSpec} {apart fresh handsOn again : Bool} {W W' : World} {args : Array Value} {v : Value} {ds gs : List (DataW H)} {before pa pv : List MemPlace}
    (hW : DataW.Whole enc P f.params.toList s.vars apart W args.toList ds gs before)
    (hres : ∀ (b : Nat) (sp : Nat → Bool) (hd : Bool), DataW.TrodAll enc P W' b sp hd f.resultTypes.toList (v.resultList f.resultTypes.size) (s.fn H (ds ++ gs)).results [])
    (hargs : ∀ sp : Nat → Bool, (∀ p ∈ before, sp p.block = true) → DataW.TrodAll enc P W' 0 sp true f.params.toList args.toList (s.fn H (ds ++ gs)).args pa)
    (hvars : ∀ sp : Nat → Bool, (∀ p ∈ before, sp p.block = true) → DataW.TrodVars enc P W' sp s.vars (s.fn H (ds ++ gs)).vars pv)
    (hps : before = pa ++ pv) (hb : Below W.heap.size W W')
    (hok : ∀ (j : Nat) (t : TypeId) (r : Value), f.resultTypes[j]? = some t → (v.resultList f.resultTypes.size)[j]? = some r → Value.okWide P W' .any 0 t r) :
    s.post enc P f apart fresh handsOn again W args v W' := by
  have hlt : ∀ p ∈ before, p.block < W.heap.size := fun p hp => hW.lt p hp
  have hold : ∀ p ∈ before, (fun b => decide (b < W.heap.size)) p.block = true := fun p hp => by simpa using hlt p hp
  refine ⟨ds, gs, before, [], pa, pv, hW, hres _ _ _, hargs _ hold, hvars _ hold, World.keptBut_mono (fun p hp => ⟨hp, ?_⟩) (hb.frame (· ∈ before)), fun _ => ?_⟩
  · rw [hps, List.mem_append] at hp
    exact Or.inr hp
  · obtain ⟨_, _, _, _, _, hz, hn⟩ := hW
    refine ⟨hok, _, _, ([] ++ pa) ++ pv, ⟨[] ++ pa, pv, trodAll_append (hargs _ (fun _ _ => rfl)) (hres _ _ _), hvars _ (fun _ _ => rfl), rfl, ?_, ?_⟩, ?_⟩
    · intro b off hp
      have hin : MemPlace.cell b off ∈ before := by rw [hps]; simpa using hp
      rw [hb.frozen (hlt _ hin)]
      exact hz b off hin
    · intro ha
      have := hn ha
      rw [hps] at this
      simpa using this
    · intro p hp _
      rw [hps]
      simpa using hp
end

section
variable {H : Type} {enc : TypeId × Value → H} {P : Program}
theorem trodAll_stays (hl : laidOutB P = true) {W W' : World} {sp : Nat → Bool} (hb : Below W.heap.size W W') :
    ∀ (ts : List TypeId) (vs : List Value) (ds : List (DataW H)) (ps : List MemPlace), ts.all (fun t => P.readableRec t && decide (t < P.types.size)) = true →
      DataW.TrodAll enc P W 0 (fun _ => true) true ts vs ds ps → (∀ p ∈ ps, p.block < W.heap.size) → (∀ p ∈ ps, sp p.block = true) → DataW.TrodAll enc P W' 0 sp true ts vs ds ps
  | [], vs, ds, ps, _, h, _, _ => by
    obtain ⟨rfl, rfl, rfl⟩ := trodAll_nil h
    exact trodAll_mk0
  | t :: ts, vs, ds, ps, ha, h, hlt, hs => by
    obtain ⟨v, vs', d, ds', p, q, rfl, rfl, rfl, h1, h2⟩ := trodAll_cons h
    simp only [List.all_cons, Bool.and_eq_true, decide_eq_true_eq] at ha
    exact trodAll_cons_mk (WideElems.Trod_stays hl ha.1.1 ha.1.2 h1 (fun x hx => hb.same (hlt x (List.mem_append_left _ hx))) (fun x hx => hs x (List.mem_append_left _ hx)))
      (trodAll_stays hl hb ts vs' ds' q ha.2 h2 (fun x hx => hlt x (List.mem_append_right _ hx)) (fun x hx => hs x (List.mem_append_right _ hx)))
/-- a law that returned true and only made memory meets its row -/
theorem post_law {f : Func} {s : ChangeSpec} {apart fresh handsOn again : Bool} {W W' : World} {args : Array Value} {ds gs : List (DataW H)} {before : List MemPlace} {T : TypeId}
    (hl : laidOutB P = true) (hp : f.params.toList.all (fun t => P.readableRec t && decide (t < P.types.size)) = true) (hv : s.vars = [])
    (hW : DataW.Whole enc P f.params.toList s.vars apart W args.toList ds gs before)
    (hfn : s.fn H ds = { results := [.lit (.bool true)], args := ds }) (hrt : f.resultTypes = #[T]) (hT : P.underlying T = some .bool) (hb : Below W.heap.size W W') :
    s.post enc P f apart fresh handsOn again W args (.bool true) W' := by
  have hW' := hW
  have hlt : ∀ p ∈ before, p.block < W.heap.size := fun p hp => hW.lt p hp
  obtain ⟨p, q, hA, hV, hpq, _, _⟩ := hW
  rw [hv] at hV
  obtain ⟨rfl, rfl⟩ := trodVars_none hV
  rw [List.append_nil] at hpq
  subst hpq
  have hfn' : s.fn H (ds ++ []) = { results := [.lit (.bool true)], args := ds } := by rw [List.append_nil]; exact hfn
  refine post_of_below2 (pa := before) (pv := []) hW' ?_ ?_ ?_ (by simp) hb ?_
  · intro b sp hd
    rw [hfn', hrt]
    exact trodAll_cons_mk (shut_bool hT _) trodAll_mk0
  · intro sp hsp
    rw [hfn']
    exact trodAll_stays hl hb _ _ _ _ hp hA hlt hsp
  · intro sp hsp
    rw [hfn', hv]
    rfl
  · exact ok_one hrt rfl (okWide_bool_mk hT _)
end
end Go.Proofs.Ytfpgklhbghahoaa
