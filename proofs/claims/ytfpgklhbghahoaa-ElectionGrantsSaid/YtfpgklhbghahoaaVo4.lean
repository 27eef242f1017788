/- Merged texts: Sy1, Eh2, Eh3, Eh4, Eh5, Sv2, El1, El2. -/
import Derived.Test.YtfpgklhbghahoaaVo3
import Derived.Great.BuildSlice
import Derived.Test.YtfpgklhbghahoaaRows
import Derived.WalkKit
import Derived.ProofKit
import Derived.Below
import Derived.Outline
import Derived.OwnWalk
import Derived.Laws.AppendOwn
import Derived.Laws.OwnMore
import Derived.Deep.Slices
import Derived.Lib.Hide
import Derived.IntWalk
import Derived.Deep.QuietTactic
import Derived.BigQuiet
import Derived.StillTailTactics
/- Regions whose operations read and call only, in whatever order (plain). -/
namespace Go.Proofs.Ytfpgklhbghahoaa
open Go.ChangeShapes Go.WideShapes Go.ChangeAt Go.RowKit Go.Deep
set_option linter.unusedVariables false
set_option linter.unusedSimpArgs false
theorem count_set : ∀ (l : List Bool) (i : Nat), l[i]? = some false → (l.set i true).count false + 1 = l.count false
  | [], i, h => by simp at h
  | b :: l, 0, h => by
    obtain rfl := Option.some.inj h
    simp
  | b :: l, i + 1, h => by
    have := count_set l i (by simpa using h)
    simp [List.count_cons]
    omega
section
variable {P : Program} {ops : Array Oper} {md : Region.Mode} {Q : Exit → Act → World → Prop} {S : World → Prop}
/-- operation i waits for operation j -/
def waitsB (md : Region.Mode) (ops : Array Oper) (i j : Nat) : Bool := Region.waitsFor md ops i j
/-- all operations that write the temporary t are among those of p -/
def Avail (ops : Array Oper) (p : Nat → Prop) (t : Nat) : Prop := ∀ (j : Nat) (o : Oper), ops[j]? = some o → o.dst = some t → p j
/-- every edge leads back -/
def backB (md : Region.Mode) (ops : Array Oper) : Bool := (List.range ops.size).all fun i => match ops[i]? with
  | some o => o.after.all fun e => !Region.binds md e || decide (e.on < i)
  | none => true
theorem backB_spec (h : backB md ops = true) (i : Nat) (o : Oper) (ho : ops[i]? = some o) : ∀ e ∈ o.after, Region.binds md e = true → e.on < i := by
  have hi : i < ops.size := (Array.getElem?_eq_some_iff.1 ho).1
  have h1 := (List.all_eq_true.1 h) i (List.mem_range.2 hi)
  simp only [ho] at h1
  intro e he hb
  have := (Array.all_eq_true_iff_forall_mem.1 h1) e he
  simpa [hb] using this
theorem ready_none (hb : backB md ops = true) (listed : Array Bool) (hs : listed.size = ops.size) (h : Region.ready md ops listed = []) : ∀ i, i < ops.size → listed.getD i false = true := by
  intro i
  induction i using Nat.strongRecOn with
  | _ i ih =>
    intro hi
    cases hl : listed.getD i false with
    | true => rfl
    | false =>
      have hl' : listed.getD i true = false := getD_in (by omega) hl
      have ho : ops[i]? = some ops[i] := Array.getElem?_eq_getElem hi
      have : i ∈ Region.ready md ops listed := mem_ready.2 ⟨hl', _, ho, fun e he hbe => by
        have h1 := backB_spec hb i _ ho e he hbe
        exact ih e.on h1 (by omega)⟩
      rw [h] at this
      cases this
/-- V: the values that are known of the temporaries -/
structure FreeInv (ops : Array Oper) (V : Nat → Option Value) (N : Nat) (listed : Array Bool) (a : Act) : Prop where
  size : a.tmps.size = N
  defers : a.defers = []
  val : ∀ t v, V t = some v → Avail ops (fun j => listed.getD j false = true) t → a.eval (.tmp t) = v
theorem wp_region_free {id : Nat} {a : Act} {w : World} {N : Nat} {V : Nat → Option Value} (hm : P.follows .mixedOrders = true) (hb : backB .any ops = true)
    (hS : S w.drew) (hN : a.tmps.size = N) (hd : a.defers = []) (hV : ∀ t v, V t = some v → Avail ops (fun _ => False) t → a.eval (.tmp t) = v)
    (hop : ∀ i o, ops[i]? = some o → ∃ d, o.dst = some d ∧ d < N ∧ ∀ (a : Act) (w : World), S w → a.tmps.size = N → a.defers = [] → (∀ t v, V t = some v → Avail ops (fun j => Region.waitsFor .any ops i j = true) t → a.eval (.tmp t) = v) →
      (Region.wanted o (yielded ops a.tmps) = true ∧ ∀ K : Act → World → Prop, (∀ v w', S w' → (∀ u, V d = some u → v = u) → K (a.put (some d) v) w') → o.wp P a w K Q) ∨ (Region.wanted o (yielded ops a.tmps) = false ∧ V d = none))
    (hQ : ∀ a' w', S w' → a'.tmps.size = N → a'.defers = [] → (∀ t v, V t = some v → a'.eval (.tmp t) = v) → Q .normal a' w') : (Code.region id ops true).wp P Q a w := by
  refine wp_region_any hm ?_
  have key : ∀ (f : Nat) (listed : Array Bool) (a : Act) (w : World), listed.size = ops.size → listed.toList.count false ≤ f → FreeInv ops V N listed a → S w → wpAny P .any ops Q f listed a w := by
    intro f
    induction f with
    | zero =>
      intro listed a w hs hc inv hSw
      have hall : ∀ i, i < ops.size → listed.getD i true = true := fun i hi => by
        cases hl : listed.getD i true with
        | true => rfl
        | false =>
          exfalso
          have hi' : i < listed.size := by omega
          have hm : false ∈ listed.toList := by
            have : listed[i] = false := by simpa [hi'] using hl
            rw [← this]
            exact Array.mem_toList_iff.2 (Array.getElem_mem hi')
          have := List.count_pos_iff.2 hm
          omega
      have hr : Region.ready .any ops listed = [] := by
        rw [List.eq_nil_iff_forall_not_mem]
        intro j hj
        obtain ⟨h1, o, ho, _⟩ := mem_ready.1 hj
        have := hall j (Array.getElem?_eq_some_iff.1 ho).1
        rw [this] at h1
        cases h1
      refine ⟨hr, hQ a w hSw inv.size inv.defers (fun t v hv => inv.val t v hv (fun j o ho _ => ready_none hb listed hs hr j (Array.getElem?_eq_some_iff.1 ho).1))⟩
    | succ f ih =>
      intro listed a w hs hc inv hSw
      refine ⟨fun hr => hQ a w hSw inv.size inv.defers (fun t v hv => inv.val t v hv (fun j o ho _ => ready_none hb listed hs hr j (Array.getElem?_eq_some_iff.1 ho).1)), fun i hi => ?_⟩
      obtain ⟨hun, o, ho, hall⟩ := mem_ready.1 hi
      have hi' : i < listed.size := by rw [hs]; exact (Array.getElem?_eq_some_iff.1 ho).1
      have hcnt : (listed.setIfInBounds i true).toList.count false ≤ f := by
        rw [Array.toList_setIfInBounds]
        have := count_set listed.toList i (by
          rw [Array.getElem?_toList, Array.getElem?_eq_getElem hi']
          have : listed[i] = false := by simpa [hi'] using hun
          rw [this])
        omega
      obtain ⟨d, hod, hdN, h⟩ := hop i o ho
      have hpast : ∀ j, Region.waitsFor .any ops i j = true → listed.getD j false = true := fun j hj => by
        obtain ⟨oj, hoj, e, he, hbe, hon⟩ := Region.waitsFor_spec hj
        have : oj = o := Option.some.inj (hoj.symm.trans ho)
        subst this
        rw [← hon]
        exact hall e he hbe
      have hnext : ∀ v, (∀ u, V d = some u → v = u) → FreeInv ops V N (listed.setIfInBounds i true) (a.put (some d) v) := fun v hv => by
        refine ⟨by simp [Act.put, inv.size], inv.defers, fun t u hu hav => ?_⟩
        by_cases e : d = t
        · subst e
          have := hv u hu
          subst this
          simp [Act.put, Act.eval, Array.getElem?_setIfInBounds, inv.size, hdN]
        · have : (a.put (some d) v).eval (.tmp t) = a.eval (.tmp t) := by simp [Act.put, Act.eval, Array.getElem?_setIfInBounds, e]
          rw [this]
          refine inv.val t u hu (fun j oj hoj hdj => ?_)
          have h1 := hav j oj hoj hdj
          by_cases hji : i = j
          · subst hji
            have : oj = o := Option.some.inj (hoj.symm.trans ho)
            subst this
            rw [hod] at hdj
            exact absurd (Option.some.inj hdj) e
          · have h1' : (listed.setIfInBounds i true).getD j false = true := h1
            rw [getD_set_ne false hji] at h1'
            exact h1'
      have hs' : (listed.setIfInBounds i true).size = ops.size := by simp [hs]
      unfold wpOp
      simp only [ho]
      rcases h a w hSw inv.size inv.defers (fun t v hv hav => inv.val t v hv (fun j oj hoj hdj => hpast j (hav j oj hoj hdj))) with ⟨hw, hwp⟩ | ⟨hw, hv⟩
      · rw [if_pos hw]
        exact .inl (hwp _ (fun v w' hS' hv => ih _ _ _ hs' hcnt (hnext v hv) hS'))
      · rw [if_neg (by rw [hw]; decide), hod]
        exact ih _ _ _ hs' hcnt (hnext undef (fun u hu => by rw [hv] at hu; cases hu)) hSw
  refine key ops.size _ a _ (by simp) (by simp) ⟨hN, hd, fun t v hv hav => hV t v hv (fun j o ho hdj => ?_)⟩ hS
  have : (Array.replicate ops.size false).getD j false = true := hav j o ho hdj
  rw [getD_replicate_false] at this
  cases this
end
end Go.Proofs.Ytfpgklhbghahoaa
/- Election: functions that copy a struct field by field, by their form. -/
namespace Go.Proofs.Ytfpgklhbghahoaa
open Go.ChangeShapes Go.WideShapes Go.ChangeAt Go.RowKit Go.ChangeMaps Go.Joins Go.Deep
set_option linter.unusedVariables false
set_option linter.unusedSimpArgs false
set_option maxRecDepth 100000
theorem eval_put_ne {a : Act} {d t : Nat} {v : Value} (h : d ≠ t) : (a.put (some d) v).eval (.tmp t) = a.eval (.tmp t) := by
  simp [Act.put, Act.eval, Array.getElem?_setIfInBounds, h]
theorem eval_put_same {a : Act} {d : Nat} {v : Value} (h : d < a.tmps.size) : (a.put (some d) v).eval (.tmp d) = v := by
  simp [Act.put, Act.eval, Array.getElem?_setIfInBounds, h]
theorem size_put {a : Act} {d : Nat} {v : Value} : (a.put (some d) v).tmps.size = a.tmps.size := by simp [Act.put]
theorem defers_put {a : Act} {d : Nat} {v : Value} : (a.put (some d) v).defers = a.defers := rfl
/-- the frame of a function that copies: two boxes -/
structure ActC (a : Act) (N C : Nat) : Prop where
  size : a.tmps.size = N
  src : a.eval (.tmp 1) = .pointer (some ⟨C, 0, none⟩)
  dst : a.eval (.tmp 2) = .pointer (some ⟨C + 1, 0, none⟩)
  defers : a.defers = []
theorem ActC.put {a : Act} {N C d : Nat} (h : ActC a N C) (hd : 2 < d) (v : Value) : ActC (a.put (some d) v) N C :=
  ⟨size_put.trans h.size, (eval_put_ne (by omega)).trans h.src, (eval_put_ne (by omega)).trans h.dst, h.defers⟩
/-- a struct under copy: the places of 'done' hold copies, all else is as it came -/
structure CpSt (W0 W : World) (n k : Nat) (cs0 : List Value) (done : List (Nat × TypeId)) (w : World) : Prop where
  low : Below W.heap.size W w
  src : ∃ cs, BoxN k w W.heap.size cs ∧ (∀ v ∈ cs, v.oneCell' = true) ∧
    (∀ p ∈ done, EqC Try.prog w w (fun i => i < W0.heap.size) (fun i => W.heap.size + 1 < i) n p.2 (part_ cs0 p.1 (Try.prog.cellsOf p.2)) (part_ cs p.1 (Try.prog.cellsOf p.2))) ∧
    ∀ a q, (∀ p ∈ done, a + q ≤ p.1 ∨ p.1 + Try.prog.cellsOf p.2 ≤ a) → part_ cs a q = part_ cs0 a q
  dst : ∃ zs, BoxN k w (W.heap.size + 1) zs
theorem mem_spl {cs ys : List Value} {p : Nat} {v : Value} (h : v ∈ spl cs p ys) : v ∈ cs ∨ v ∈ ys := by
  unfold spl at h
  rcases List.mem_append.1 h with h | h
  · rcases List.mem_append.1 h with h | h
    · exact .inl (List.mem_of_mem_take h)
    · exact .inr h
  · exact .inl (List.mem_of_mem_drop h)
theorem mem_part {cs : List Value} {p q : Nat} {v : Value} (h : v ∈ part_ cs p q) : v ∈ cs := List.mem_of_mem_drop (List.mem_of_mem_take h)
theorem CpSt.lt {W0 W w : World} {n k : Nat} {cs0 : List Value} {done : List (Nat × TypeId)} (h : CpSt W0 W n k cs0 done w) : W.heap.size + 1 < w.heap.size := by
  obtain ⟨zs, hz⟩ := h.dst
  exact hz.1.lt
theorem CpSt.store {W0 W w w' : World} {n k off q : Nat} {t : TypeId} {cs0 ds : List Value} {done : List (Nat × TypeId)} (hb0 : W0.heap.size ≤ W.heap.size) (h : CpSt W0 W n k cs0 done w) (hq : Try.prog.cellsOf t = q) (hcp : CopyOf W0 w n t (part_ cs0 off q) w' ds) (hl : ds.length = q) (hle : off + q ≤ k)
    (hd : ∀ p ∈ done, off + q ≤ p.1 ∨ p.1 + Try.prog.cellsOf p.2 ≤ off) (hone : ∀ v ∈ ds, v.oneCell' = true) : CpSt W0 W n k cs0 ((off, t) :: done) (w'.setCells W.heap.size off ds) := by
  have hlt := h.lt
  obtain ⟨cs, hbx, h1, hdn, hrest⟩ := h.src
  obtain ⟨zs, hzs⟩ := h.dst
  have hb2 := hbx.keep hcp.2
  have hz2 := hzs.keep hcp.2
  have ho := Only.setCells w' W.heap.size off ds hb2.1.lt
  have hle2 : off + ds.length ≤ cs.length := by rw [hl, hbx.2]; exact hle
  have hks : ∀ i, i ≠ W.heap.size → (w'.setCells W.heap.size off ds).heap[i]? = w'.heap[i]? := fun i hi => ho.heap i hi
  refine ⟨(h.low.trans (hcp.2.mono h.low.size)).trans (ho.below _ (Nat.le_refl _)), ⟨spl cs off ds, ⟨hb2.1.mid off hle2, by rw [spl_len hle2]; exact hbx.2⟩, fun v hv => ?_, fun p hp => ?_, fun a r har => ?_⟩, ⟨zs, hz2.other ho (by omega)⟩⟩
  · rcases mem_spl hv with hv | hv
    · exact h1 v hv
    · exact hone v hv
  · have hs' : (w'.setCells W.heap.size off ds).heap.size = w'.heap.size := ho.size
    rcases List.mem_cons.1 hp with rfl | hp
    · rw [hq, show q = ds.length from hl.symm, part_spl hle2, hl]
      exact EqC.kept (Nat.le_of_eq hs'.symm) (Nat.le_of_eq hs'.symm) (fun i hi _ => hks i (by omega)) (fun i hi _ => hks i (by omega)) (fun _ hi _ => hi) (fun i hi _ => by show W.heap.size + 1 < i; omega) _ _ _ _ hcp.1
    · have := hd p hp
      rw [part_spl_other hle2 (by rw [hl]; omega)]
      exact EqC.kept (Nat.le_of_eq hs'.symm) (Nat.le_of_eq hs'.symm) (fun i hi _ => hks i (by omega)) (fun i hi _ => hks i (by omega)) (fun _ hi _ => hi) (fun i hi _ => hi) _ _ _ _ (EqC.below hcp.2 hcp.2 _ _ _ _ (hdn p hp))
  · have h0 := har (off, t) List.mem_cons_self
    rw [hq] at h0
    have h0' : a + r ≤ off ∨ off + q ≤ a := h0
    rw [part_spl_other hle2 (by rw [hl]; omega)]
    exact hrest a r (fun p hp => har p (List.mem_cons_of_mem _ hp))
/-- what a call with a struct or a slice has copied -/
def CallOK (g : FuncId) (es : List Value) (t : TypeId) (n : Nat) (W0 : World) : Prop := ∀ (W : World) (v : Value), Below W0.heap.size W0 W → GoodC Try.prog W0 n t [v] → Calls Try.prog g (v :: es).toArray W fun e W' => ∃ v', e = .returned v' ∧ CopyOf W0 W n t [v] W' [v']
theorem oneOK_zero {g : FuncId} {T : TypeId} {W0 : World} : OneOK g T 0 W0 := fun _ _ _ h => h.elim
theorem apart_of {P : Program} {done : List (Nat × TypeId)} {off q : Nat} (h : done.all (fun p => decide (off + q ≤ p.1) || decide (p.1 + P.cellsOf p.2 ≤ off)) = true) : ∀ p ∈ done, off + q ≤ p.1 ∨ p.1 + P.cellsOf p.2 ≤ off := fun p hp => by
  simpa using (List.all_eq_true.1 h) p hp
/-- region by region -/
theorem seg_row {W0 W w : World} {id N n k q off j d1 d2 d3 d4 y1 y2 y3 y4 y5 : Nat} {p1 p2 p3 p4 p5 : String} {f1 f2 f3 f4 f5 : Array Edge} {T t : TypeId} {g : FuncId} {ts : Array TypeId} {fs : Array Field} {f : Field} {cs0 : List Value} {done : List (Nat × TypeId)} {a : Act} {Q : Exit → Act → World → Prop} {rest : Code}
    (hb0 : Below W0.heap.size W0 W) (ha : ActC a N W.heap.size) (hst : CpSt W0 W n k cs0 done w) (hgs : ∀ (i : Nat) (f : Field), fs[i]? = some f → GoodC Try.prog W0 n f.type (part_ cs0 f.offset (Try.prog.cellsOf f.type))) (hone : OneOK g t n W0)
    (hu : Try.prog.underlying T = some (.struct fs)) (hf : fs[j]? = some f) (hfo : f.offset = off) (hft : f.type = t) (hq : Try.prog.cellsOf t = q) (hi : (Try.prog.info? t).map (·.size) = some q) (gs : Array Field) (hr : Try.prog.underlying t = some (.struct gs)) (ht : tysE.contains t = true) (hF : FnOK Try.prog g)
    (hq0 : q ≠ 0) (hle : off + q ≤ k) (hdB : done.all (fun p => decide (off + q ≤ p.1) || decide (p.1 + Try.prog.cellsOf p.2 ≤ off)) = true) (hdd : 2 < d1 ∧ d1 < N ∧ 2 < d2 ∧ d2 < N ∧ 2 < d3 ∧ d3 < N ∧ 2 < d4 ∧ d4 < N ∧ d3 ≠ d4)
    (hK : ∀ a' w', ActC a' N W.heap.size → CpSt W0 W n k cs0 ((off, t) :: done) w' → rest.wp Try.prog Q a' w') :
    (Code.seq (Code.region id #[{ dst := some d1, op := .fieldAddr T (.tmp 1) j, type := y1, pos := p1, after := f1, guard := none }, { dst := some d2, op := .load t (.tmp d1), type := y2, pos := p2, after := f2, guard := none }, { dst := some d3, op := .call { callee := .value (.func g), args := #[.tmp d2], argTypes := ts }, type := y3, pos := p3, after := f3, guard := none }, { dst := some d4, op := .fieldAddr T (.tmp 1) j, type := y4, pos := p4, after := f4, guard := none }, { dst := none, op := .store t (.tmp d4) (.tmp d3), type := y5, pos := p5, after := f5, guard := none }] false) rest).wp Try.prog Q a w := by
  obtain ⟨hd1, hn1, hd2, hn2, hd3, hn3, hd4, hn4, h34⟩ := hdd
  subst hfo hft
  have hg := hgs j f hf
  rw [hq] at hg
  have hd := apart_of hdB
  have hsz : ((Try.prog.info? f.type).map (·.size)).getD 0 ≠ 0 := by rw [hi]; exact hq0
  obtain ⟨cs, hbx, h1, hdn, hrest⟩ := hst.src
  have hpart : part_ cs f.offset q = part_ cs0 f.offset q := hrest _ _ hd
  have hrng : w.rangeAt W.heap.size (0 + f.offset) (part_ cs0 f.offset q) := by rw [← hpart]; exact range_part hbx.1.rng _ _
  have hlen0 : (part_ cs0 f.offset q).length = q := by rw [← hpart]; exact part_len (by rw [hbx.2]; exact hle)
  refine wp_seq (wp_region_lit ?_)
  refine wpList_ok rfl (ex_field T (.tmp 1) j W.heap.size 0 fs f rfl ha.src hu hf hsz) ?_
  refine wpList_ok rfl (ex_load_row f.type (.tmp d1) W.heap.size (0 + f.offset) (part_ cs0 f.offset q) (.struct gs) rfl (eval_put_same (by rw [ha.size]; exact hn1)) hrng hr rfl (by rw [hlen0]; exact hi)) ?_
  have ha2 := (ha.put hd1 (.pointer (some ⟨W.heap.size, 0 + f.offset, none⟩))).put hd2 (.agg (part_ cs0 f.offset q).toArray)
  have hxs : (#[Operand.tmp d2] : Array Operand).map (((a.put (some d1) (.pointer (some ⟨W.heap.size, 0 + f.offset, none⟩))).put (some d2) (.agg (part_ cs0 f.offset q).toArray)).eval) = #[.agg (part_ cs0 f.offset q).toArray] := by
    have : ((a.put (some d1) (.pointer (some ⟨W.heap.size, 0 + f.offset, none⟩))).put (some d2) (.agg (part_ cs0 f.offset q).toArray)).eval (.tmp d2) = .agg (part_ cs0 f.offset q).toArray := eval_put_same (by rw [size_put, ha.size]; exact hn2)
    rw [List.map_toArray, List.map_cons, this, List.map_nil]
  refine wpList_calls hF rfl rfl (by rw [hxs]; exact hone w _ (hb0.trans (hst.low.mono hb0.size)) hg) ?_
  rintro e w' ⟨ds, rfl, hcp⟩
  refine ⟨_, rfl, ?_⟩
  have ha3 := ha2.put hd3 (.agg ds.toArray)
  generalize hA3 : (((a.put (some d1) (.pointer (some ⟨W.heap.size, 0 + f.offset, none⟩))).put (some d2) (.agg (part_ cs0 f.offset q).toArray)).put (some d3) (.agg ds.toArray)) = a3 at *
  have he3 : a3.eval (.tmp d3) = .agg ds.toArray := by rw [← hA3]; exact eval_put_same (by rw [size_put, size_put, ha.size]; exact hn3)
  have hl : ds.length = q := (eqC_len hr hcp.1).trans hq
  have hone' := good_cells_of ht (EqC.good _ _ _ _ (EqC.symm _ _ _ _ hcp.1))
  have hb2 := hbx.keep hcp.2
  have hth : w'.there W.heap.size (0 + f.offset) ds.length := by rw [Nat.zero_add]; exact hb2.1.there _ _ (by rw [hl, hb2.2]; exact hle)
  refine wpList_ok rfl (ex_field T (.tmp 1) j W.heap.size 0 fs f rfl ha3.src hu hf hsz) ?_
  have ha4 := ha3.put hd4 (.pointer (some ⟨W.heap.size, 0 + f.offset, none⟩))
  refine wpList_done rfl rfl (ex_store_row f.type (.tmp d4) (.tmp d3) W.heap.size (0 + f.offset) ds rfl (eval_put_same (by rw [ha3.size]; exact hn4)) ((eval_put_ne h34.symm).trans he3) hth (by rw [hl]; exact hi) hone') ?_
  refine wpList_nil (hK _ _ ha4 ?_)
  rw [Nat.zero_add]
  exact CpSt.store hb0.size hst hq hcp hl hle hd hone'
theorem seg_cell {W0 W w : World} {id N n k off j d1 d2 d3 d4 y1 y2 y3 y4 y5 : Nat} {p1 p2 p3 p4 p5 : String} {f1 f2 f3 f4 f5 : Array Edge} {T t e : TypeId} {g : FuncId} {ts : Array TypeId} {xs : List Operand} {es : List Value} {fs : Array Field} {f : Field} {cs0 : List Value} {done : List (Nat × TypeId)} {a : Act} {Q : Exit → Act → World → Prop} {rest : Code}
    (hb0 : Below W0.heap.size W0 W) (ha : ActC a N W.heap.size) (hst : CpSt W0 W n k cs0 done w) (hgs : ∀ (i : Nat) (f : Field), fs[i]? = some f → GoodC Try.prog W0 n f.type (part_ cs0 f.offset (Try.prog.cellsOf f.type))) (hone : CallOK g es t n W0)
    (hu : Try.prog.underlying T = some (.struct fs)) (hf : fs[j]? = some f) (hfo : f.offset = off) (hft : f.type = t) (hq : Try.prog.cellsOf t = 1) (hi : (Try.prog.info? t).map (·.size) = some 1) (hr : Try.prog.underlying t = some (.slice e)) (hF : FnOK Try.prog g) (hes : ∀ a : Act, xs.map a.eval = es)
    (hle : off + 1 ≤ k) (hdB : done.all (fun p => decide (off + 1 ≤ p.1) || decide (p.1 + Try.prog.cellsOf p.2 ≤ off)) = true) (hdd : 2 < d1 ∧ d1 < N ∧ 2 < d2 ∧ d2 < N ∧ 2 < d3 ∧ d3 < N ∧ 2 < d4 ∧ d4 < N ∧ d3 ≠ d4)
    (hK : ∀ a' w', ActC a' N W.heap.size → CpSt W0 W n k cs0 ((off, t) :: done) w' → rest.wp Try.prog Q a' w') :
    (Code.seq (Code.region id #[{ dst := some d1, op := .fieldAddr T (.tmp 1) j, type := y1, pos := p1, after := f1, guard := none }, { dst := some d2, op := .load t (.tmp d1), type := y2, pos := p2, after := f2, guard := none }, { dst := some d3, op := .call { callee := .value (.func g), args := (.tmp d2 :: xs).toArray, argTypes := ts }, type := y3, pos := p3, after := f3, guard := none }, { dst := some d4, op := .fieldAddr T (.tmp 1) j, type := y4, pos := p4, after := f4, guard := none }, { dst := none, op := .store t (.tmp d4) (.tmp d3), type := y5, pos := p5, after := f5, guard := none }] false) rest).wp Try.prog Q a w := by
  obtain ⟨hd1, hn1, hd2, hn2, hd3, hn3, hd4, hn4, h34⟩ := hdd
  subst hfo hft
  have hg := hgs j f hf
  rw [hq] at hg
  have hd := apart_of hdB
  have hsz : ((Try.prog.info? f.type).map (·.size)).getD 0 ≠ 0 := by rw [hi]; exact Nat.one_ne_zero
  obtain ⟨cs, hbx, h1, hdn, hrest⟩ := hst.src
  have hpart : part_ cs f.offset 1 = part_ cs0 f.offset 1 := hrest _ _ hd
  have hrng : w.rangeAt W.heap.size (0 + f.offset) (part_ cs0 f.offset 1) := by rw [← hpart]; exact range_part hbx.1.rng _ _
  have hlen0 : (part_ cs0 f.offset 1).length = 1 := by rw [← hpart]; exact part_len (by rw [hbx.2]; exact hle)
  obtain ⟨v, hv⟩ : ∃ v, part_ cs0 f.offset 1 = [v] := by
    match part_ cs0 f.offset 1, hlen0 with
    | [v], _ => exact ⟨v, rfl⟩
  rw [hv] at hrng hg
  have hcell : w.cell? ⟨W.heap.size, 0 + f.offset, none⟩ = some v := hrng 0 v rfl
  refine wp_seq (wp_region_lit ?_)
  refine wpList_ok rfl (ex_field T (.tmp 1) j W.heap.size 0 fs f rfl ha.src hu hf hsz) ?_
  refine wpList_ok rfl (ex_load_cell f.type (.tmp d1) W.heap.size (0 + f.offset) v (.slice e) rfl (eval_put_same (by rw [ha.size]; exact hn1)) hcell hr rfl) ?_
  have ha2 := (ha.put hd1 (.pointer (some ⟨W.heap.size, 0 + f.offset, none⟩))).put hd2 v
  have hxs : ((.tmp d2 :: xs : List Operand).toArray).map (((a.put (some d1) (.pointer (some ⟨W.heap.size, 0 + f.offset, none⟩))).put (some d2) v).eval) = (v :: es).toArray := by
    have : ((a.put (some d1) (.pointer (some ⟨W.heap.size, 0 + f.offset, none⟩))).put (some d2) v).eval (.tmp d2) = v := eval_put_same (by rw [size_put, ha.size]; exact hn2)
    rw [List.map_toArray, List.map_cons, this, hes]
  refine wpList_calls hF rfl rfl (by rw [hxs]; exact hone w _ (hb0.trans (hst.low.mono hb0.size)) hg) ?_
  rintro e' w' ⟨v', rfl, hcp⟩
  refine ⟨_, rfl, ?_⟩
  have ha3 := ha2.put hd3 v'
  generalize hA3 : (((a.put (some d1) (.pointer (some ⟨W.heap.size, 0 + f.offset, none⟩))).put (some d2) v).put (some d3) v') = a3 at *
  have he3 : a3.eval (.tmp d3) = v' := by rw [← hA3]; exact eval_put_same (by rw [size_put, size_put, ha.size]; exact hn3)
  obtain ⟨b2, l2, c2, rfl⟩ := eqC_form hr hcp.1
  have hb2 := hbx.keep hcp.2
  have hth : w'.there W.heap.size (0 + f.offset) 1 := by rw [Nat.zero_add]; exact hb2.1.there _ _ (by rw [hb2.2]; exact hle)
  refine wpList_ok rfl (ex_field T (.tmp 1) j W.heap.size 0 fs f rfl ha3.src hu hf hsz) ?_
  have ha4 := ha3.put hd4 (.pointer (some ⟨W.heap.size, 0 + f.offset, none⟩))
  refine wpList_done rfl rfl (ex_store_cell f.type (.tmp d4) (.tmp d3) W.heap.size (0 + f.offset) _ rfl (eval_put_same (by rw [ha3.size]; exact hn4)) ((eval_put_ne h34.symm).trans he3) hth hi rfl) ?_
  refine wpList_nil (hK _ _ ha4 ?_)
  rw [Nat.zero_add]
  exact CpSt.store hb0.size hst hq (by rw [hv]; exact hcp) rfl hle hd (by intro u hu; rw [List.mem_singleton.1 hu]; rfl)
end Go.Proofs.Ytfpgklhbghahoaa
/- Election: copies by form: the start, the end, what has been copied. -/
namespace Go.Proofs.Ytfpgklhbghahoaa
open Go.ChangeShapes Go.WideShapes Go.ChangeAt Go.RowKit Go.ChangeMaps Go.Joins Go.Deep
set_option linter.unusedVariables false
set_option linter.unusedSimpArgs false
set_option maxRecDepth 100000
theorem range_same {W : World} {B o : Nat} {xs ys : List Value} (h : W.rangeAt B o xs) (h' : W.rangeAt B o ys) (hl : xs.length = ys.length) : xs = ys := by
  apply List.ext_getElem hl
  intro j h1 h2
  have e1 := h j _ (List.getElem?_eq_getElem h1)
  have e2 := h' j _ (List.getElem?_eq_getElem h2)
  rw [e1] at e2
  exact Option.some.inj e2
/-- the bound of the depth is that of the original -/
theorem EqC.level {P : Program} {W W' : World} {F F' : Nat → Prop} : ∀ (n m : Nat) (t : TypeId) (cs ds : List Value), GoodC P W n t cs → EqC P W W' F F' m t cs ds → EqC P W W' F F' n t cs ds
  | 0, _, _, _, _, h, _ => h.elim
  | n + 1, 0, _, _, _, _, h => h.elim
  | n + 1, m + 1, t, cs, ds, hg, h => by
    unfold GoodC at hg
    unfold EqC at h ⊢
    split at h
    · rename_i hu; simp only [hu] at hg; exact h
    · rename_i hu; simp only [hu] at hg; exact h
    · rename_i hu; simp only [hu] at hg; exact h
    · rename_i e hu
      simp only [hu] at hg
      obtain ⟨a, len, cap, a', cap', h1, h2, h3, h4, h5, h6, h7⟩ := h
      obtain ⟨ga, glen, gcap, g1, g2, g3, g4⟩ := hg
      refine ⟨a, len, cap, a', cap', h1, h2, h3, h4, h5, h6, fun h0 => ?_⟩
      rw [h1] at g1
      obtain ⟨rfl, rfl, rfl⟩ := Value.slice.inj (List.cons.inj g1).1
      obtain ⟨B, o, B', o', e, e', hB, hB', hj⟩ := h7 h0
      obtain ⟨gB, go, ge, gBl, gj⟩ := g4 h0
      rw [e] at ge
      obtain ⟨rfl, rfl, _⟩ := Addr.mk.inj (Option.some.inj ge)
      exact ⟨B, o, B', o', e, e', hB, hB', fun j hjl => by
        obtain ⟨xs, ys, k1, k2, k3, k4, k5⟩ := hj j hjl
        obtain ⟨zs, z1, z2, z3⟩ := gj j hjl
        have : zs = xs := range_same z2 k3 (z1.trans k1.symm)
        subst this
        exact ⟨zs, ys, k1, k2, k3, k4, EqC.level n m _ _ _ z3 k5⟩⟩
    · rename_i fs hu
      simp only [hu] at hg
      exact ⟨h.1, h.2.1, fun i f hf => EqC.level n m _ _ _ (hg.2 i f hf) (h.2.2 i f hf)⟩
    · exact h.elim
def leafT (P : Program) (t : TypeId) : Bool := match P.underlying t with
  | some .bool | some (.int _) | some .string => true
  | _ => false
theorem leaf_any {P : Program} {W V V' : World} {F F' : Nat → Prop} {n : Nat} {t : TypeId} {cs : List Value} (ht : leafT P t = true) (h : GoodC P W n t cs) : EqC P V V' F F' n t cs cs := by
  cases n with
  | zero => exact h.elim
  | succ n =>
    unfold leafT at ht
    unfold GoodC at h
    unfold EqC
    split at ht
    · rename_i hu; simp only [hu] at h ⊢; obtain ⟨b, e⟩ := h; exact ⟨b, e, e⟩
    · rename_i hu; simp only [hu] at h ⊢; obtain ⟨b, e, hw⟩ := h; exact ⟨b, e, e, hw⟩
    · rename_i hu; simp only [hu] at h ⊢; obtain ⟨b, e, hw⟩ := h; exact ⟨b, e, e, hw⟩
    · cases ht
theorem part_part {cs : List Value} {p q a r : Nat} (h : a + r ≤ q) : part_ (part_ cs p q) a r = part_ cs (p + a) r := by
  apply List.ext_getElem?
  intro j
  rw [part_getElem, part_getElem, part_getElem]
  by_cases hj : j < r
  · rw [if_pos hj, if_pos hj, if_pos (by omega), Nat.add_assoc]
  · rw [if_neg hj, if_neg hj]
/-- the places of 'done' cover what a copy must not share -/
def doneB (P : Program) : Nat → List (Nat × TypeId) → Nat → TypeId → Bool
  | 0, _, _, _ => false
  | m + 1, done, off, t => done.contains (off, t) || match P.underlying t with
    | some (.struct fs) => fs.toList.all fun f => decide (f.offset + P.cellsOf f.type ≤ P.cellsOf t) && doneB P m done (off + f.offset) f.type
    | _ => leafT P t && done.all fun p => decide (off + P.cellsOf t ≤ p.1) || decide (p.1 + P.cellsOf p.2 ≤ off)
theorem eqC_of_done {P : Program} {w : World} {F F' : Nat → Prop} {k : Nat} {cs0 cs : List Value} {done : List (Nat × TypeId)} (hdn : ∀ p ∈ done, ∃ m, EqC P w w F F' m p.2 (part_ cs0 p.1 (P.cellsOf p.2)) (part_ cs p.1 (P.cellsOf p.2)))
    (hrest : ∀ a q, (∀ p ∈ done, a + q ≤ p.1 ∨ p.1 + P.cellsOf p.2 ≤ a) → part_ cs a q = part_ cs0 a q) (hk : cs0.length = k) (hk' : cs.length = k) : ∀ (m n off : Nat) (t : TypeId), doneB P m done off t = true → off + P.cellsOf t ≤ k → GoodC P w n t (part_ cs0 off (P.cellsOf t)) → EqC P w w F F' n t (part_ cs0 off (P.cellsOf t)) (part_ cs off (P.cellsOf t))
  | 0, _, _, _, h, _, _ => by cases h
  | m + 1, 0, off, t, h, hle, hg => hg.elim
  | m + 1, n + 1, off, t, h, hle, hg => by
    unfold doneB at h
    rw [Bool.or_eq_true] at h
    rcases h with h | h
    · obtain ⟨m', he⟩ := hdn (off, t) (by simpa using h)
      exact EqC.level _ _ _ _ _ hg he
    · split at h
      · rename_i fs hu
        refine (eqC_struct hu).2 ⟨part_len (by omega), part_len (by omega), fun i f hfi => ?_⟩
        have hf := (List.all_eq_true.1 h) f (Array.mem_toList_iff.2 (Array.mem_of_getElem? hfi))
        rw [Bool.and_eq_true, decide_eq_true_eq] at hf
        have hgf := ((goodC_struct hu).1 hg).2 i f hfi
        rw [part_part hf.1] at hgf
        rw [part_part hf.1, part_part hf.1]
        exact eqC_of_done hdn hrest hk hk' m n (off + f.offset) f.type hf.2 (by omega) hgf
      · rw [Bool.and_eq_true] at h
        rw [hrest off (P.cellsOf t) (fun p hp => by
          have := (List.all_eq_true.1 h.2) p hp
          simpa using this)]
        exact leaf_any h.1 hg
theorem part_all {cs : List Value} {k : Nat} (h : cs.length = k) : part_ cs 0 k = cs := by
  unfold part_
  rw [List.drop_zero, ← h, List.take_length]
def zeroB (P : Program) (T : TypeId) (k : Nat) : Bool := match P.info? T with
  | some i => match i.zero with
    | some (.agg zs) => zs.size == k
    | _ => false
  | none => false
theorem zeroB_spec {P : Program} {T : TypeId} {k : Nat} (h : zeroB P T k = true) : ∃ i zs, P.info? T = some i ∧ i.zero = some (.agg (List.toArray zs)) ∧ zs.length = k := by
  unfold zeroB at h
  split at h
  · rename_i i hi
    split at h
    · rename_i zs hz
      exact ⟨i, zs.toList, hi, by rw [hz], by simpa using h⟩
    · cases h
  · cases h
theorem seg_start {W0 W : World} {id N n k y1 y2 : Nat} {p1 p2 : String} {f1 f2 : Array Edge} {T : TypeId} {cs0 : List Value} {a : Act} {Q : Exit → Act → World → Prop} {rest : Code}
    (h0 : a.eval (.tmp 0) = .agg cs0.toArray) (hN : a.tmps.size = N) (hN2 : 2 < N) (hd : a.defers = []) (hk : cs0.length = k) (hz : zeroB Try.prog T k = true) (hone : ∀ v ∈ cs0, v.oneCell' = true)
    (hK : ∀ a' w', ActC a' N W.heap.size → CpSt W0 W n k cs0 [] w' → rest.wp Try.prog Q a' w') :
    (Code.seq (Code.region id #[{ dst := some 1, op := .box T (.tmp 0), type := y1, pos := p1, after := f1, guard := none }, { dst := some 2, op := .alloc T, type := y2, pos := p2, after := f2, guard := none }] false) rest).wp Try.prog Q a W := by
  obtain ⟨i, zs, hi, hzz, hzl⟩ := zeroB_spec hz
  refine wp_seq (wp_region_lit ?_)
  refine wpList_ok rfl (ex_box T (.tmp 0) cs0 rfl h0) ?_
  refine wpList_ok rfl (ex_alloc T i zs rfl hi hzz) ?_
  have hx1 := (BoxN.new W cs0 k T hk).alloc (.cells zs.toArray T)
  have hx2 := BoxN.new (W.alloc (.cells cs0.toArray T)) zs k T hzl
  rw [World.size_alloc] at hx2
  have hl2 : Below W.heap.size W ((W.alloc (.cells cs0.toArray T)).alloc (.cells zs.toArray T)) := ((Below.refl _ _).alloc (Nat.le_refl _) _).alloc (by simp) _
  refine wpList_nil (hK _ _ ⟨by rw [size_put, size_put, hN], ?_, ?_, hd⟩ ⟨hl2, ⟨cs0, hx1, hone, fun p hp => (by cases hp), fun _ _ _ => rfl⟩, ⟨zs, hx2⟩⟩)
  · rw [eval_put_ne (by decide)]; exact eval_put_same (by omega)
  · rw [eval_put_same (by rw [size_put]; omega), World.size_alloc]
theorem results_cell {fn : Func} {T : TypeId} {C : Nat} {cs : List Value} {a : Act} {w : World} {d : TypeDesc} (hr : fn.results = #[.cell 2 T]) (ha : a.eval (.tmp 2) = .pointer (some ⟨C, 0, none⟩)) (hc : w.rangeAt C 0 cs) (hu : Try.prog.underlying T = some d) (hd : d.isRow = true) (hi : (Try.prog.info? T).map (·.size) = some cs.length) : (results fn a.tmps).run Try.prog w = .ok (.agg cs.toArray) w := by
  have h2 : a.tmps.getD 2 undef = .pointer (some ⟨C, 0, none⟩) := ha
  have hl := run_loadVar_mid (P := Try.prog) w C 0 T cs d hc hu hd hi
  have h3 : a.tmps[2]?.getD undef = .pointer (some ⟨C, 0, none⟩) := by simpa using h2
  simp [results, hr, asAddr, h3, hl]
theorem seg_end {W0 W w : World} {id N n m k d y1 y2 : Nat} {p1 p2 : String} {f1 f2 : Array Edge} {T : TypeId} {cs0 : List Value} {done : List (Nat × TypeId)} {a : Act} {fn : Func} {fs : Array Field} {R : Ending → World → Prop}
    (hb0 : Below W0.heap.size W0 W) (ha : ActC a N W.heap.size) (hst : CpSt W0 W n k cs0 done w) (hu : Try.prog.underlying T = some (.struct fs)) (hk : Try.prog.cellsOf T = k) (hi : (Try.prog.info? T).map (·.size) = some k) (hlen : cs0.length = k) (hg : GoodC Try.prog W0 m T cs0) (hdone : doneB Try.prog 4 done 0 T = true) (hdd : 2 < d ∧ d < N) (hres : fn.results = #[.cell 2 T])
    (hR : ∀ ds w', CopyOf W0 W m T cs0 w' ds → R (.returned (.agg ds.toArray)) w') :
    (Code.seq (Code.region id #[{ dst := some d, op := .load T (.tmp 1), type := y1, pos := p1, after := f1, guard := none }, { dst := none, op := .store T (.tmp 2) (.tmp d), type := y2, pos := p2, after := f2, guard := none }] false) .ret).wp Try.prog (bodyPost Try.prog fn R) a w := by
  obtain ⟨cs, hbx, hone, hdn, hrest⟩ := hst.src
  obtain ⟨zs, hzs⟩ := hst.dst
  have hcl : cs.length = k := hbx.2
  have hlt := hst.lt
  refine wp_seq (wp_region_lit ?_)
  refine wpList_ok rfl (ex_load_row T (.tmp 1) W.heap.size 0 cs (.struct fs) rfl ha.src hbx.1.rng hu rfl (by rw [hcl]; exact hi)) ?_
  have ha1 := ha.put hdd.1 (.agg cs.toArray)
  refine wpList_done rfl rfl (ex_store_row T (.tmp 2) (.tmp d) (W.heap.size + 1) 0 cs rfl ha1.dst (eval_put_same (by rw [ha.size]; exact hdd.2)) (hzs.1.there _ _ (by rw [hzs.2]; omega)) (by rw [hcl]; exact hi) hone) ?_
  have ho := Only.setCells w (W.heap.size + 1) 0 cs hzs.1.lt
  have hb3 := hzs.1.store (vs := cs) (by rw [hzs.2, hcl])
  refine wpList_nil (wp_ret (bodyPost_ret (results_cell hres ha1.dst hb3.rng hu rfl (by rw [hcl]; exact hi)) ha1.defers (hR cs _ ⟨?_, hst.low.trans (ho.below _ (Nat.le_succ _))⟩)))
  have hWw := hb0.trans (hst.low.mono hb0.size)
  have h1 := eqC_of_done (P := Try.prog) (w := w) (F := fun i => i < W0.heap.size) (F' := fun i => W.heap.size + 1 < i) (k := k) (fun p hp => ⟨n, hdn p hp⟩) hrest hlen hcl 4 m 0 T hdone (by omega) (by rw [hk, part_all hlen]; exact GoodC.below hWw _ _ _ hg)
  rw [hk, part_all hlen, part_all hcl] at h1
  have := hb0.size
  exact EqC.kept (Nat.le_of_eq ho.size.symm) (Nat.le_of_eq ho.size.symm) (fun i hi _ => ho.heap i (by omega)) (fun i hi _ => ho.heap i (by omega)) (fun _ hi _ => hi) (fun i hi _ => by show W.heap.size ≤ i; omega) _ _ _ _ h1
/-- into such a function -/
theorem copy_enter {g : FuncId} {fn : Func} {c : Code} {N : Nat} {v : Value} {w : World} {R : Ending → World → Prop} (hf : Try.prog.funcs[g]? = some fn) (hb : fn.body = some c) (hN : fn.ntmps = N + 1)
    (h : ∀ a : Act, a.eval (.tmp 0) = v → a.tmps.size = N + 1 → a.defers = [] → c.wp Try.prog (bodyPost Try.prog fn R) a w) : Calls Try.prog g #[v] w R := by
  refine calls_of_wp hf hb (h _ ?_ ?_ rfl)
  · simp [Act.eval, Array.getElem?_append]
  · simp [hN]; omega
end Go.Proofs.Ytfpgklhbghahoaa
/- Election: copies of lists of points; the calls of copyAll. -/
namespace Go.Proofs.Ytfpgklhbghahoaa
open Go.ChangeShapes Go.WideShapes Go.ChangeAt Go.RowKit Go.ChangeMaps Go.Joins Go.Deep
set_option linter.unusedVariables false
set_option linter.unusedSimpArgs false
set_option maxRecDepth 100000
theorem infoP : (Try.prog.info? 129).map (fun i => (i.zero, i.size, i.bytes)) = some (some (.agg #[.int .i64 0, .int .i64 0]), 2, 16) := by kernel_rfl
/-- append([]Point(nil), l...) -/
theorem append_points {ops : Array Oper} {rest : List Oper} {o : Oper} {a : Act} {Q : Exit → Act → World → Prop} {W0 w : World} {n : Nat} {v : Value} (hgd : o.guard = none) (x : Operand)
    (ho : o.op = .call { callee := .builtin .append, args := #[.const (.slice none 0 0), x], argTypes := #[58, 58] }) (hb0 : Below W0.heap.size W0 w) (hg : GoodC Try.prog W0 n 58 [v]) (hx : a.eval x = v) (hty : o.type = 58)
    (h : ∀ v' w', CopyOf W0 w n 58 [v] w' [v'] → wpList Try.prog ops Q rest (a.put o.dst v') w') : wpList Try.prog ops Q (o :: rest) a w := by
  cases n with
  | zero => exact hg.elim
  | succ n =>
    obtain ⟨i3, hi3, hz0, hz1, hz2⟩ := info_parts infoP
    have e1 : Try.prog.cellsOf 129 = 2 := by kernel_rfl
    have e8 : Try.prog.bytesOf 129 = 16 := by kernel_rfl
    obtain ⟨ad, len, cap, rfl, hlc, ⟨hm, hby, hnil⟩, hc⟩ := goodC_slice Try.underlying58 hg
    rw [e1] at hc
    rw [e8] at hby
    have hm' : cap ≤ 9223372036854775807 := by unfold maxLen at hm; exact hm
    cases ad with
    | none =>
      obtain rfl := hnil rfl
      obtain rfl : len = 0 := by omega
      refine wpList_plain hgd fun K hK => ?_
      have hr : (execOp a.eval o).run Try.prog w = .ok (.value (.slice none 0 0)) w := by
        unfold execOp
        have hc0 : a.eval (.const (.slice none 0 0)) = .slice none 0 0 := rfl
        simp only [ho, resolve, invoke, builtin, Sem.run_bind, Sem.run_pure, Result.andThen_ok, List.map_toArray, List.map_cons, List.map_nil, hx, hc0]
        simp [go_sem, Try.underlying58]
      unfold Oper.wp
      rw [hr, Oper.upon_value]
      exact hK _ _ (h _ _ ⟨eqC_slice Try.underlying58 ⟨none, 0, 0, none, 0, rfl, rfl, Nat.le_refl _, ⟨by unfold maxLen; omega, by omega, fun _ => rfl⟩, Nat.le_refl _, ⟨by unfold maxLen; omega, by omega, fun _ => rfl⟩, fun h0 => absurd h0 (Nat.lt_irrefl _)⟩, Below.refl _ _⟩)
    | some ad =>
      have key : ∃ f : Nat → Value, ∀ j, j < len → ∃ B o, ad = ⟨B, o, none⟩ ∧ B < W0.heap.size ∧ ∃ ds, ds.length = 2 ∧ W0.rangeAt B (o + j * 2) ds ∧ GoodC Try.prog W0 n 129 ds ∧ ds = [f (j * 2), f (j * 2 + 1)] := by
        have fn : ∀ j : Nat, ∃ p : Value × Value, j < len → ∃ B o, ad = ⟨B, o, none⟩ ∧ B < W0.heap.size ∧ ∃ ds, ds.length = 2 ∧ W0.rangeAt B (o + j * 2) ds ∧ GoodC Try.prog W0 n 129 ds ∧ ds = [p.1, p.2] := fun j => by
          by_cases hj : j < len
          · obtain ⟨B, o, he, hB, hjj⟩ := hc (by omega)
            obtain ⟨ds, h1, h2, h3⟩ := hjj j hj
            match ds, h1 with
            | [u, v], _ => exact ⟨(u, v), fun _ => ⟨B, o, Option.some.inj he, hB, _, rfl, h2, h3, rfl⟩⟩
          · exact ⟨(undef, undef), fun h => absurd h hj⟩
        obtain ⟨p, hp⟩ := Classical.axiomOfChoice fn
        refine ⟨fun i => if i % 2 = 0 then (p (i / 2)).1 else (p (i / 2)).2, fun j hj => ?_⟩
        obtain ⟨B, o, he, hB, ds, h1, h2, h3, h4⟩ := hp j hj
        refine ⟨B, o, he, hB, ds, h1, h2, h3, ?_⟩
        rw [h4]
        have e1 : j * 2 % 2 = 0 := by omega
        have e2 : (j * 2 + 1) % 2 = 1 := by omega
        have e3 : j * 2 / 2 = j := by omega
        have e4 : (j * 2 + 1) / 2 = j := by omega
        simp [e1, e2, e3, e4]
      obtain ⟨f, hf⟩ := key
      have hsz : ((List.range (len * 2)).map f).length = len * 2 := by simp
      have hcell : ∀ i, i < len * 2 → w.cell? (ad.add i) = some (f i) ∧ (f i).oneCell' = true := fun i hi => by
        obtain ⟨B, o, rfl, hB, ds, h1, h2, h3, h4⟩ := hf (i / 2) (by omega)
        have h5 := good_cells_of (by decide) h3
        subst h4
        rw [addr_add']
        rcases Nat.mod_two_eq_zero_or_one i with h0 | h0
        · have h6 := h2 0 _ rfl
          have e : o + i / 2 * 2 + 0 = o + i := by omega
          have e' : i / 2 * 2 = i := by omega
          rw [e, e'] at h6
          exact ⟨(hb0.cell (p := ⟨B, o + i, none⟩) hB).trans h6, h5 _ (by rw [e']; simp)⟩
        · have h6 := h2 1 _ rfl
          have e : o + i / 2 * 2 + 1 = o + i := by omega
          have e' : i / 2 * 2 + 1 = i := by omega
          rw [e, e'] at h6
          exact ⟨(hb0.cell (p := ⟨B, o + i, none⟩) hB).trans h6, h5 _ (by rw [e']; simp)⟩
      refine wpList_append_own w hgd (.const (.slice none 0 0)) x 58 ho w.heap.size 129 i3 (.agg #[.int .i64 0, .int .i64 0]) 2 16 Try.underlying58 hi3 hz0 hz1 hz2 rfl (by decide) (.slice none 0 0) 0 [] rfl (World.ownsRow_nil _ _ _ _) ad len cap ((List.range (len * 2)).map f) hx hsz ?_ ?_ ?_ ?_ (Nat.le_refl _) ?_
      · intro j u hu
        have hj : j < len * 2 := by have := (List.getElem?_eq_some_iff.1 hu).1; simpa using this
        rw [List.getElem?_map, List.getElem?_range hj] at hu
        obtain rfl := Option.some.inj hu
        exact (hcell j hj).1
      · intro u hu
        obtain ⟨j, hj, rfl⟩ := List.mem_map.1 hu
        exact (hcell j (by simpa using hj)).2
      · unfold maxLen; omega
      · omega
      · intro v' w' hown hgrow hnn
        have hb : Below w.heap.size w w' := (Below.refl _ _).grown hgrow (Nat.le_refl _) (by simp [Value.ownBlock])
        refine h v' w' ⟨eqC_slice Try.underlying58 ?_, hb⟩
        rw [Nat.zero_add, List.nil_append] at hown
        rcases hown.2 with ⟨rfl, h0⟩ | ⟨g, c, cur, rfl, g1, g2, g3, g4, _⟩
        · subst h0
          exact ⟨some ad, 0, cap, none, 0, rfl, rfl, hlc, ⟨hm, by omega, fun h => by cases h⟩, Nat.le_refl _, ⟨by unfold maxLen; omega, by omega, fun _ => rfl⟩, fun h0 => absurd h0 (Nat.lt_irrefl _)⟩
        · refine ⟨some ad, len, cap, some ⟨g, 0, none⟩, c, rfl, rfl, hlc, ⟨hm, by rw [e8]; exact hby, fun h => by cases h⟩, g3, ⟨g4, by rw [e8]; exact hby, fun h => by cases h⟩, fun h0 => ?_⟩
          obtain ⟨B, o, he, hB, _⟩ := hc h0
          obtain rfl := Option.some.inj he
          refine ⟨B, o, g, 0, rfl, rfl, ⟨hB, Nat.lt_of_lt_of_le hB (Nat.le_trans hb0.size hb.size)⟩, ⟨g1, (Array.getElem?_eq_some_iff.1 g2).1⟩, fun j hjl => ?_⟩
          obtain ⟨B', o', he', hB', ds, h1, h2, h3, h4⟩ := hf j hjl
          obtain ⟨rfl, rfl, _⟩ := Addr.mk.inj he'
          have hr : w'.rangeAt B (o + j * 2) ds := range_below (range_below h2 hb0 hB) hb (Nat.lt_of_lt_of_le hB hb0.size)
          rw [e1]
          refine ⟨ds, ds, h1, h1, hr, ?_, ?_⟩
          · subst h4
            intro i u hi
            have h7 : i < 2 := by have := (List.getElem?_eq_some_iff.1 hi).1; simpa using this
            rw [Nat.zero_add]
            have h5 := hown.cellAt (j * 2 + i) (by omega)
            rw [h5, List.getElem?_map, List.getElem?_range (by omega), ← hi]
            match i, h7 with
            | 0, _ => rfl
            | 1, _ => rfl
          · have := eqC_of_done (P := Try.prog) (w := w') (F := fun k => k < W0.heap.size) (F' := fun k => w.heap.size ≤ k) (k := 2) (cs0 := ds) (cs := ds) (done := []) (fun p hp => by cases hp) (fun _ _ _ => rfl) h1 h1 4 n 0 129 (by kernel_rfl) (by rw [e1]; omega) (by rw [e1, part_all h1]; exact GoodC.below (hb0.trans (hb.mono hb0.size)) _ _ _ h3)
            rw [e1, part_all h1] at this
            exact this
end Go.Proofs.Ytfpgklhbghahoaa
/- Election: copies by form: lists of points; pairs of a name and a struct. -/
namespace Go.Proofs.Ytfpgklhbghahoaa
open Go.ChangeShapes Go.WideShapes Go.ChangeAt Go.RowKit Go.ChangeMaps Go.Joins Go.Deep
set_option linter.unusedVariables false
set_option linter.unusedSimpArgs false
set_option maxRecDepth 100000
theorem seg_points {W0 W w : World} {id N n m k off j j2 d1 d2 d3 d4 d5 d6 y1 y2 y3 y5 y6 y7 : Nat} {p1 p2 p3 p4 p5 p6 p7 : String} {f1 f2 f3 f4 f5 f6 f7 : Array Edge} {T T2 : TypeId} {fs fs2 : Array Field} {f ff : Field} {cs0 : List Value} {done : List (Nat × TypeId)} {a : Act} {Q : Exit → Act → World → Prop} {rest : Code}
    (hb0 : Below W0.heap.size W0 W) (ha : ActC a N W.heap.size) (hst : CpSt W0 W n k cs0 done w) (hm : m ≤ n) (hg : GoodC Try.prog W0 m 58 (part_ cs0 off 1))
    (hu : Try.prog.underlying T = some (.struct fs)) (hf : fs[j]? = some f) (hfs : ((Try.prog.info? f.type).map (·.size)).getD 0 ≠ 0) (hu2 : Try.prog.underlying T2 = some (.struct fs2)) (hf2 : fs2[j2]? = some ff) (hfo : f.offset + ff.offset = off) (hft : ff.type = 58)
    (hle : off + 1 ≤ k) (hdB : done.all (fun p => decide (off + 1 ≤ p.1) || decide (p.1 + Try.prog.cellsOf p.2 ≤ off)) = true) (hdd : 2 < d1 ∧ d1 < N ∧ 2 < d2 ∧ d2 < N ∧ 2 < d3 ∧ d3 < N ∧ 2 < d4 ∧ d4 < N ∧ 2 < d5 ∧ d5 < N ∧ 2 < d6 ∧ d6 < N ∧ d4 ≠ d5 ∧ d4 ≠ d6)
    (hK : ∀ a' w', ActC a' N W.heap.size → CpSt W0 W n k cs0 ((off, 58) :: done) w' → rest.wp Try.prog Q a' w') :
    (Code.seq (Code.region id #[{ dst := some d1, op := .fieldAddr T (.tmp 1) j, type := y1, pos := p1, after := f1, guard := none }, { dst := some d2, op := .fieldAddr T2 (.tmp d1) j2, type := y2, pos := p2, after := f2, guard := none }, { dst := some d3, op := .load 58 (.tmp d2), type := y3, pos := p3, after := f3, guard := none }, { dst := some d4, op := .call { callee := .builtin .append, args := #[.const (.slice none 0 0), .tmp d3], argTypes := #[58, 58] }, type := 58, pos := p4, after := f4, guard := none }, { dst := some d5, op := .fieldAddr T (.tmp 1) j, type := y5, pos := p5, after := f5, guard := none }, { dst := some d6, op := .fieldAddr T2 (.tmp d5) j2, type := y6, pos := p6, after := f6, guard := none }, { dst := none, op := .store 58 (.tmp d6) (.tmp d4), type := y7, pos := p7, after := f7, guard := none }] false) rest).wp Try.prog Q a w := by
  obtain ⟨hd1, hn1, hd2, hn2, hd3, hn3, hd4, hn4, hd5, hn5, hd6, hn6, h45, h46⟩ := hdd
  have hq : Try.prog.cellsOf 58 = 1 := by kernel_rfl
  have hi : (Try.prog.info? 58).map (·.size) = some 1 := by kernel_rfl
  have hd := apart_of hdB
  have hsz : ((Try.prog.info? ff.type).map (·.size)).getD 0 ≠ 0 := by rw [hft, hi]; exact Nat.one_ne_zero
  obtain ⟨cs, hbx, h1, hdn, hrest⟩ := hst.src
  have hpart : part_ cs off 1 = part_ cs0 off 1 := hrest _ _ hd
  have hrng : w.rangeAt W.heap.size (0 + off) (part_ cs0 off 1) := by rw [← hpart]; exact range_part hbx.1.rng _ _
  have hlen0 : (part_ cs0 off 1).length = 1 := by rw [← hpart]; exact part_len (by rw [hbx.2]; exact hle)
  obtain ⟨v, hv⟩ : ∃ v, part_ cs0 off 1 = [v] := by
    match part_ cs0 off 1, hlen0 with
    | [v], _ => exact ⟨v, rfl⟩
  rw [hv] at hrng hg
  have hcell : w.cell? ⟨W.heap.size, 0 + off, none⟩ = some v := hrng 0 v rfl
  rw [← hfo, ← Nat.add_assoc] at hcell
  refine wp_seq (wp_region_lit ?_)
  refine wpList_ok rfl (ex_field T (.tmp 1) j W.heap.size 0 fs f rfl ha.src hu hf hfs) ?_
  have ha1 := ha.put hd1 (.pointer (some ⟨W.heap.size, 0 + f.offset, none⟩))
  refine wpList_ok rfl (ex_field T2 (.tmp d1) j2 W.heap.size (0 + f.offset) fs2 ff rfl (eval_put_same (by rw [ha.size]; exact hn1)) hu2 hf2 hsz) ?_
  have ha2 := ha1.put hd2 (.pointer (some ⟨W.heap.size, 0 + f.offset + ff.offset, none⟩))
  refine wpList_ok rfl (ex_load_cell 58 (.tmp d2) W.heap.size (0 + f.offset + ff.offset) v (.slice 129) rfl (eval_put_same (by rw [ha1.size]; exact hn2)) hcell Try.underlying58 rfl) ?_
  have ha3 := ha2.put hd3 v
  refine append_points rfl (.tmp d3) rfl (hb0.trans (hst.low.mono hb0.size)) hg (eval_put_same (by rw [ha2.size]; exact hn3)) rfl (fun v' w' hcp => ?_)
  have ha4 := ha3.put hd4 v'
  generalize hA4 : ((((a.put (some d1) (.pointer (some ⟨W.heap.size, 0 + f.offset, none⟩))).put (some d2) (.pointer (some ⟨W.heap.size, 0 + f.offset + ff.offset, none⟩))).put (some d3) v).put (some d4) v') = a4 at *
  have he4 : a4.eval (.tmp d4) = v' := by rw [← hA4]; exact eval_put_same (by rw [ha3.size]; exact hn4)
  obtain ⟨b2, l2, c2, rfl⟩ := eqC_form Try.underlying58 hcp.1
  have hb2 := hbx.keep hcp.2
  have hth : w'.there W.heap.size (0 + f.offset + ff.offset) 1 := by rw [Nat.zero_add, hfo]; exact hb2.1.there _ _ (by rw [hb2.2]; exact hle)
  refine wpList_ok rfl (ex_field T (.tmp 1) j W.heap.size 0 fs f rfl ha4.src hu hf hfs) ?_
  have ha5 := ha4.put hd5 (.pointer (some ⟨W.heap.size, 0 + f.offset, none⟩))
  refine wpList_ok rfl (ex_field T2 (.tmp d5) j2 W.heap.size (0 + f.offset) fs2 ff rfl (eval_put_same (by rw [ha4.size]; exact hn5)) hu2 hf2 hsz) ?_
  have ha6 := ha5.put hd6 (.pointer (some ⟨W.heap.size, 0 + f.offset + ff.offset, none⟩))
  refine wpList_done rfl rfl (ex_store_cell 58 (.tmp d6) (.tmp d4) W.heap.size (0 + f.offset + ff.offset) _ rfl (eval_put_same (by rw [ha5.size]; exact hn6)) ((eval_put_ne h46.symm).trans ((eval_put_ne h45.symm).trans he4)) hth hi rfl) ?_
  refine wpList_nil (hK _ _ ha6 ?_)
  rw [Nat.zero_add, hfo]
  exact CpSt.store hb0.size hst hq (by rw [hv]; exact ⟨EqC.upTo hcp.1 hm, hcp.2⟩) rfl hle hd (by intro u hu; rw [List.mem_singleton.1 hu]; rfl)
theorem fold_set : ∀ (ds : List Value) (off k : Nat) (cs : Array Value), off + k + ds.length ≤ cs.size → (((ds.zipIdx k).foldl (fun cs x => cs.setIfInBounds (off + x.2) x.1) cs)).toList = spl cs.toList (off + k) ds
  | [], off, k, cs, h => by
    unfold spl
    simp
  | d :: ds, off, k, cs, h => by
    rw [List.zipIdx_cons, List.foldl_cons, fold_set ds off (k + 1) _ (by simp at h ⊢; omega)]
    apply List.ext_getElem?
    intro i
    have h1 : off + (k + 1) + ds.length ≤ (cs.setIfInBounds (off + k) d).toList.length := by simp at h ⊢; omega
    have h2 : off + k + (d :: ds).length ≤ cs.toList.length := by simp at h ⊢; omega
    rw [spl_getElem h1, spl_getElem h2]
    simp only [List.length_cons] at h ⊢
    by_cases e : i = off + k
    · subst e
      rw [if_neg (by omega), if_pos ⟨by omega, by omega⟩, Array.toList_setIfInBounds, List.getElem?_set_self (by rw [Array.length_toList]; omega)]
      simp
    · by_cases e2 : off + (k + 1) ≤ i ∧ i < off + (k + 1) + ds.length
      · rw [if_pos e2, if_pos ⟨by omega, by omega⟩, show i - (off + k) = (i - (off + (k + 1))) + 1 by omega, List.getElem?_cons_succ]
      · rw [if_neg e2, if_neg (by omega)]
        rw [Array.toList_setIfInBounds, List.getElem?_set_ne (by omega)]
/-- a struct of a single cell and of a struct -/
theorem fill_pair {zs ds : List Value} {v : Value} {q : Nat} (hv : v.oneCell' = true) (hd : ds.length = q) (hz : zs.length = q + 1) (pl : Nat → Option (Nat × Nat)) (h0 : pl 0 = some (0, 1)) (h1 : pl 1 = some (1, q)) :
    Instr.fill pl zs.toArray [(0, v), (1, .agg ds.toArray)] = some (v :: ds).toArray := by
  have hz0 : zs.length ≠ 0 := by omega
  obtain ⟨z, zr, rfl⟩ := List.exists_cons_of_length_pos (show 0 < zs.length by omega)
  have hzr : zr.length = q := by simpa using hz
  have hf := fold_set ds 1 0 (#[v] ++ zr.toArray) (by simp [hzr, hd]; omega)
  have e1 : spl (#[v] ++ zr.toArray).toList (1 + 0) ds = v :: ds := by
    unfold spl
    simp [hd, ← hzr]
    omega
  rw [e1] at hf
  have e2 : (Value.agg ds.toArray).cells = ds.toArray := rfl
  simp only [Instr.fill, h0, h1, cells_one hv, e2]
  have hA : Array.foldl (fun (cs : Array Value) x => cs.setIfInBounds (0 + x.2) x.1) (z :: zr).toArray #[v].zipIdx = #[v] ++ zr.toArray := by simp
  rw [hA, if_neg (by simp), if_neg (by simp [hd, hzr]; omega)]
  congr 1
  apply Array.toList_inj.1
  have e3 : ds.toArray.zipIdx = (ds.zipIdx).toArray := by simp
  rw [e3, List.foldl_toArray, hf]
end Go.Proofs.Ytfpgklhbghahoaa
/- Regions that draw their order and have effects that float (plain); ways that meet; a slice of one struct. -/
namespace Go.Proofs.Ytfpgklhbghahoaa
open Go.ChangeShapes Go.WideShapes Go.ChangeAt Go.RowKit Go.ChangeMaps Go.Joins Go.Deep
set_option linter.unusedVariables false
set_option linter.unusedSimpArgs false
set_option maxRecDepth 100000
section
variable {P : Program} {ops : Array Oper} {md : Region.Mode} {Q : Exit → Act → World → Prop} {N : Nat}
theorem wp_region_S {id : Nat} {a : Act} {w : World} {V : Nat → Option Value} (S : Array Bool → Act → World → Prop) (hm : P.follows .mixedOrders = true) (hb : backB .any ops = true)
    (hS : S (Array.replicate ops.size false) a w.drew) (hN : a.tmps.size = N) (hd : a.defers = []) (hV : ∀ t v, V t = some v → Avail ops (fun _ => False) t → a.eval (.tmp t) = v)
    (hdst : ∀ (i : Nat) (o : Oper) (d : Nat), ops[i]? = some o → o.dst = some d → d < N)
    (hop : ∀ (i : Nat) (o : Oper), ops[i]? = some o → ∀ (listed : Array Bool) (a : Act) (w : World), listed.size = ops.size → listed.getD i false = false → (∀ j, Region.waitsFor .any ops i j = true → listed.getD j false = true) → a.tmps.size = N → a.defers = [] → (∀ t v, V t = some v → Avail ops (fun j => Region.waitsFor .any ops i j = true) t → a.eval (.tmp t) = v) → S listed a w →
      (Region.wanted o (yielded ops a.tmps) = true ∧ ∀ K : Act → World → Prop, (∀ v w', (∀ d u, o.dst = some d → V d = some u → v = u) → S (listed.setIfInBounds i true) (a.put o.dst v) w' → K (a.put o.dst v) w') → o.wp P a w K Q) ∨ (Region.wanted o (yielded ops a.tmps) = false ∧ (∀ d, o.dst = some d → V d = none) ∧ S (listed.setIfInBounds i true) (a.put o.dst undef) w))
    (hQ : ∀ (listed : Array Bool) a' w', (∀ i, i < ops.size → listed.getD i false = true) → S listed a' w' → a'.tmps.size = N → a'.defers = [] → (∀ t v, V t = some v → a'.eval (.tmp t) = v) → Q .normal a' w') : (Code.region id ops true).wp P Q a w := by
  refine wp_region_any hm ?_
  have fin : ∀ (listed : Array Bool) a' w', listed.size = ops.size → Region.ready .any ops listed = [] → FreeInv ops V N listed a' → S listed a' w' → Q .normal a' w' := fun listed a' w' hs hr inv hSw =>
    hQ listed a' w' (ready_none hb listed hs hr) hSw inv.size inv.defers (fun t v hv => inv.val t v hv (fun j o ho _ => ready_none hb listed hs hr j (Array.getElem?_eq_some_iff.1 ho).1))
  have key : ∀ (f : Nat) (listed : Array Bool) (a : Act) (w : World), listed.size = ops.size → listed.toList.count false ≤ f → FreeInv ops V N listed a → S listed a w → wpAny P .any ops Q f listed a w := by
    intro f
    induction f with
    | zero =>
      intro listed a w hs hc inv hSw
      have hall : ∀ i, i < ops.size → listed.getD i true = true := fun i hi => by
        cases hl : listed.getD i true with
        | true => rfl
        | false =>
          exfalso
          have hi' : i < listed.size := by omega
          have hm : false ∈ listed.toList := by
            have : listed[i] = false := by simpa [hi'] using hl
            rw [← this]
            exact Array.mem_toList_iff.2 (Array.getElem_mem hi')
          have := List.count_pos_iff.2 hm
          omega
      have hr : Region.ready .any ops listed = [] := by
        rw [List.eq_nil_iff_forall_not_mem]
        intro j hj
        obtain ⟨h1, o, ho, _⟩ := mem_ready.1 hj
        have := hall j (Array.getElem?_eq_some_iff.1 ho).1
        rw [this] at h1
        cases h1
      exact ⟨hr, fin listed a w hs hr inv hSw⟩
    | succ f ih =>
      intro listed a w hs hc inv hSw
      refine ⟨fun hr => fin listed a w hs hr inv hSw, fun i hi => ?_⟩
      obtain ⟨hun, o, ho, hall⟩ := mem_ready.1 hi
      have hi' : i < listed.size := by rw [hs]; exact (Array.getElem?_eq_some_iff.1 ho).1
      have hcnt : (listed.setIfInBounds i true).toList.count false ≤ f := by
        rw [Array.toList_setIfInBounds]
        have := count_set listed.toList i (by
          rw [Array.getElem?_toList, Array.getElem?_eq_getElem hi']
          have : listed[i] = false := by simpa [hi'] using hun
          rw [this])
        omega
      have hpast : ∀ j, Region.waitsFor .any ops i j = true → listed.getD j false = true := fun j hj => by
        obtain ⟨oj, hoj, e, he, hbe, hon⟩ := Region.waitsFor_spec hj
        have : oj = o := Option.some.inj (hoj.symm.trans ho)
        subst this
        rw [← hon]
        exact hall e he hbe
      have hnext : ∀ v, (∀ d u, o.dst = some d → V d = some u → v = u) → FreeInv ops V N (listed.setIfInBounds i true) (a.put o.dst v) := fun v hv => by
        cases hod : o.dst with
        | none =>
          refine ⟨inv.size, inv.defers, fun t u hu hav => inv.val t u hu (fun j oj hoj hdj => ?_)⟩
          have h1 : (listed.setIfInBounds i true).getD j false = true := hav j oj hoj hdj
          by_cases hji : i = j
          · subst hji
            have : oj = o := Option.some.inj (hoj.symm.trans ho)
            subst this
            rw [hod] at hdj
            cases hdj
          · rwa [getD_set_ne false hji] at h1
        | some d =>
          have hdN := hdst i o d ho hod
          refine ⟨by simp [Act.put, inv.size], inv.defers, fun t u hu hav => ?_⟩
          by_cases e : d = t
          · subst e
            have := hv d u hod hu
            subst this
            simp [Act.put, Act.eval, Array.getElem?_setIfInBounds, inv.size, hdN]
          · have : (a.put (some d) v).eval (.tmp t) = a.eval (.tmp t) := by simp [Act.put, Act.eval, Array.getElem?_setIfInBounds, e]
            rw [this]
            refine inv.val t u hu (fun j oj hoj hdj => ?_)
            have h1 : (listed.setIfInBounds i true).getD j false = true := hav j oj hoj hdj
            by_cases hji : i = j
            · subst hji
              have : oj = o := Option.some.inj (hoj.symm.trans ho)
              subst this
              rw [hod] at hdj
              exact absurd (Option.some.inj hdj) e
            · rwa [getD_set_ne false hji] at h1
      have hs' : (listed.setIfInBounds i true).size = ops.size := by simp [hs]
      unfold wpOp
      simp only [ho]
      rcases hop i o ho listed a w hs (getD_both hun) hpast inv.size inv.defers (fun t v hv hav => inv.val t v hv (fun j oj hoj hdj => hpast j (hav j oj hoj hdj))) hSw with ⟨hw, hwp⟩ | ⟨hw, hv, hS'⟩
      · rw [if_pos hw]
        exact .inl (hwp _ (fun v w' hv hS' => ih _ _ _ hs' hcnt (hnext v hv) hS'))
      · rw [if_neg (by rw [hw]; decide)]
        exact ih _ _ _ hs' hcnt (hnext undef (fun d u hd hu => by rw [hv d hd] at hu; cases hu)) hS'
  refine key ops.size _ a _ (by simp) (by simp) ⟨hN, hd, fun t v hv hav => hV t v hv (fun j o ho hdj => ?_)⟩ hS
  have : (Array.replicate ops.size false).getD j false = true := hav j o ho hdj
  rw [getD_replicate_false] at this
  cases this
theorem wp_meet_region {u : Code} {a : Act} {w : World} (J : Act → World → Prop) (hu : ∀ K : Act → World → Prop, (∀ a w, J a w → K a w) → u.wp P (Exit.then K Q) a w) (hv : ∀ a w, J a w → Q .normal a w) : u.wp P Q a w :=
  Code.wp_mono (fun e a w h => by cases e <;> exact h) (hu (fun a w => Q .normal a w) hv)
end
section
variable {P : Program} {N : Nat} {env : VEnv} {a : Act} {ops : Array Oper} {rest : List Oper} {Q : Exit → Act → World → Prop} {w : World} {w0 : Base} {l : List (Nat × List Value)} {d y x z : Nat} {ps : String} {af : Array Edge} {T t : TypeId}
theorem fill_one {zs cs : List Value} {k : Nat} (hz : zs.length = k) (hc : cs.length = k) (hk : 0 < k) : Instr.fill (fun i => some (i * k, k)) ((Array.range (1 * k)).map (zs.toArray[· % zs.toArray.size]!)) [(0, .agg cs.toArray)] = some cs.toArray := by
  have e2 : (Value.agg cs.toArray).cells = cs.toArray := rfl
  have hsz : ((Array.range (1 * k)).map (zs.toArray[· % zs.toArray.size]!)).size = k := by simp
  have hf := fold_set cs 0 0 ((Array.range (1 * k)).map (zs.toArray[· % zs.toArray.size]!)) (by rw [hsz, hc]; omega)
  have hl : ((Array.range (1 * k)).map (zs.toArray[· % zs.toArray.size]!)).toList.length = k := by rw [Array.length_toList, hsz]
  generalize ((Array.range (1 * k)).map (zs.toArray[· % zs.toArray.size]!)) = A at *
  have e1 : spl A.toList (0 + 0) cs = cs := by
    unfold spl
    rw [Nat.zero_add, List.take_zero, List.nil_append, List.drop_eq_nil_of_le (by omega), List.append_nil]
  rw [e1] at hf
  simp only [Instr.fill, e2, Nat.zero_mul]
  rw [if_neg (by simp [hc, hsz])]
  congr 1
  apply Array.toList_inj.1
  have e3 : cs.toArray.zipIdx = (cs.zipIdx).toArray := by simp
  rw [e3, List.foldl_toArray, hf]
theorem ex_bs1 {o : Oper} {ρ : Operand → Value} {e : TypeId} {x : Operand} {cs : List Value} {k : Nat} (ho : o.op = .buildSlice t 1 #[(0, x)]) (hx : ρ x = .agg cs.toArray) (hu : P.underlying t = some (.slice e)) (hz : zeroB P e k = true) (hi : (P.info? e).map (·.size) = some k) (hc : cs.length = k) (hk : 0 < k) (hk2 : k ≤ 1000) : (execOp ρ o).run P w = .ok (.value (.slice (some ⟨w.heap.size, 0, none⟩) 1 1)) (w.alloc (.cells cs.toArray e)) := by
  obtain ⟨i, zs, hie, hzz, hzl⟩ := zeroB_spec hz
  have hsz : i.size = k := by rw [hie] at hi; exact Option.some.inj hi
  unfold execOp
  simp only [ho, List.map_toArray, List.map_cons, List.map_nil, hx, Sem.run_bind]
  rw [run_buildSlice (P := P) w t e 1 _ cs.toArray i (.agg zs.toArray) hu hie hzz (by rw [hsz]; omega) (by rw [hsz]; omega) (by
    rw [hsz]
    exact fill_one hzl hc hk)]
  simp only [Result.andThen_ok, Sem.run_pure]
theorem sv_bs1 {e : TypeId} {cs : List Value} {k : Nat} (hf : FrV N env a) (hB : Bx w0 l w) (hx : env.lookup x = some (.agg cs.toArray)) (hu : P.underlying t = some (.slice e)) (hz : zeroB P e k = true) (hi : (P.info? e).map (·.size) = some k) (hc : cs.length = k) (hk : 0 < k) (hk2 : k ≤ 1000) (hd : d < N) (h : ∀ a' C w', C = w.heap.size → FrV N ((d, .slice (some ⟨C, 0, none⟩) 1 1) :: env) a' → Bx w0 ((C, cs) :: l) w' → wpList P ops Q rest a' w') : wpList P ops Q ({ dst := some d, op := .buildSlice t 1 #[(0, .tmp x)], type := y, pos := ps, after := af, guard := none } :: rest) a w :=
  wpList_ok rfl (ex_bs1 rfl (hf.rel x _ hx) hu hz hi hc hk hk2) (h _ _ _ rfl (hf.put hd _) (hB.new cs e))
/-- sums of ints -/
theorem sv_add {xT zT : TypeId} {x z : Operand} {m n : Int} (r : Int) (hf : FrV N env a) (hx : ev env x = some (.int .i64 m)) (hz : ev env z = some (.int .i64 n)) (hr : IntKind.i64.wrap (m + n) = r) (hd : d < N) (h : ∀ a', FrV N ((d, .int .i64 r) :: env) a' → wpList P ops Q rest a' w) : wpList P ops Q ({ dst := some d, op := .binOp .add xT x z zT, type := y, pos := ps, after := af, guard := none } :: rest) a w :=
  sv_run hf hd (fun a hf => by
    subst hr
    unfold execOp
    simp only [hf.ev hx, hf.ev hz]
    simp [go_sem]) h
theorem sv_sub {xT zT : TypeId} {x z : Operand} {m n : Int} (r : Int) (hf : FrV N env a) (hx : ev env x = some (.int .i64 m)) (hz : ev env z = some (.int .i64 n)) (hr : IntKind.i64.wrap (m - n) = r) (hd : d < N) (h : ∀ a', FrV N ((d, .int .i64 r) :: env) a' → wpList P ops Q rest a' w) : wpList P ops Q ({ dst := some d, op := .binOp .sub xT x z zT, type := y, pos := ps, after := af, guard := none } :: rest) a w :=
  sv_run hf hd (fun a hf => by
    subst hr
    unfold execOp
    simp only [hf.ev hx, hf.ev hz]
    simp [go_sem]) h
theorem wrap_in {m : Int} (h : -9223372036854775808 ≤ m ∧ m ≤ 9223372036854775807) : IntKind.i64.wrap m = m := by
  rw [IntKind.wrap_i64]; omega
/-- an operation that is not wanted leaves nothing -/
theorem sv_skip1 {op : Op} {j : Nat} {b b' : Bool} (hf : FrV N env a) (hN : dstB ops j N = true) (h : gv ops env j = some (.bool b')) (hb : b' ≠ b) (hd : d < N) (hk : ∀ a', FrV N ((d, undef) :: env) a' → wpList P ops Q rest a' w) : wpList P ops Q ({ dst := some d, op := op, type := y, pos := ps, after := af, guard := some (j, b) } :: rest) a w := by
  have hw := wanted_of (o := { dst := some d, op := op, type := y, pos := ps, after := af, guard := some (j, b) }) hf (dstB_spec hN) rfl h
  unfold wpList
  rw [if_neg (by rw [hw]; simpa using hb)]
  exact hk _ (hf.put hd undef)
theorem sv_skip2 {op : Op} {j : Nat} {b : Bool} (hf : FrV N env a) (hN : dstB ops j N = true) (h : gv ops env j = some undef) (hd : d < N) (hk : ∀ a', FrV N ((d, undef) :: env) a' → wpList P ops Q rest a' w) : wpList P ops Q ({ dst := some d, op := op, type := y, pos := ps, after := af, guard := some (j, b) } :: rest) a w := by
  have hw : Region.wanted ({ dst := some d, op := op, type := y, pos := ps, after := af, guard := some (j, b) } : Oper) (yielded ops a.tmps) = false := by
    unfold gv at h
    split at h
    · rename_i o' ho
      split at h
      · rename_i d' hd'
        have hv := hf.rel d' _ h
        have hdN := dstB_spec hN d' o' ho hd'
        have h1 : a.tmps.getD d' undef = undef := hv
        have h2 : d' < a.tmps.size := by rw [hf.size]; exact hdN
        have h3 : a.tmps[d']? = some undef := by
          rw [Array.getElem?_eq_getElem h2]
          simp [h2] at h1
          rw [h1]
        unfold Region.wanted
        simp only
        unfold yielded
        simp only [ho, hd', Option.bind_some, h3]
        rfl
      · cases h
    · cases h
  unfold wpList
  rw [if_neg (by rw [hw]; decide)]
  exact hk _ (hf.put hd undef)
end
end Go.Proofs.Ytfpgklhbghahoaa
/- Election: small functions; copies of members without a log. -/
namespace Go.Proofs.Ytfpgklhbghahoaa
open Go.ChangeShapes Go.WideShapes Go.ChangeAt Go.RowKit Go.Deep
set_option linter.unusedVariables false
set_option linter.unusedSimpArgs false
theorem bcell {W w1 : World} (hb : Below W.heap.size W w1) : (∀ b o, b < W.heap.size → w1.cell? ⟨b, o, none⟩ = W.cell? ⟨b, o, none⟩) ∧ (∀ b o, b < W.heap.size → w1.frozen? ⟨b, o, none⟩ = W.frozen? ⟨b, o, none⟩) :=
  ⟨fun b o h => hb.cell (p := ⟨b, o, none⟩) h, fun b o h => hb.frozen (p := ⟨b, o, none⟩) h⟩
theorem calls_named {P : Program} {f : Nat} {args : Array Value} {K : Ending → World → Prop} {w : World} (F : World → Prop) (hF : F w) (h : ∀ W, F W → Calls P f args W K) : Calls P f args w K := h w hF
theorem wp_named {P : Program} {c : Code} {Q : Exit → Act → World → Prop} {a : Act} {w : World} (F : World → Prop) (hF : F w) (h : ∀ w', F w' → Code.wp P c Q a w') : Code.wp P c Q a w := h w hF
/-- a member as a value -/
abbrev mem (id sz tm vt rl ld ti vs : Int) (lg : Value) (cm : Int) (nx mt : Value) : Value := .agg #[.int .i64 id, .int .i64 sz, .int .i64 tm, .int .i64 vt, .int .i64 rl, .int .i64 ld, .int .i64 ti, .int .i64 vs, lg, .int .i64 cm, nx, mt]
abbrev nil : Value := .slice none 0 0
theorem usual_any (id : Int) (w : World) (h0 : 0 ≤ id) (h7 : id ≤ 7) : Calls Try.prog 27 #[.int .i64 id] w fun e w' => e = .returned (.int .i64 (10 + 3 * id)) ∧ w = w' := by
  go_enter Try.func27, Try.ntmps27
  go_wp2
  go_ret
  exact ⟨rfl, rfl⟩
theorem timer_any (id : Int) (w : World) (h0 : 0 ≤ id) (h7 : id ≤ 7) : Calls Try.prog 28 #[.int .i64 id] w fun e w' => e = .returned (.int .i64 (10 + 3 * id)) ∧ w = w' := by
  go_enter Try.func28, Try.ntmps28
  go_wp2
  go_ret
  exact ⟨rfl, rfl⟩
def maj (n : Int) : Int := if 1 ≤ n ∧ n ≤ 7 then n / 2 + 1 else 0
theorem maj_any (n : Int) (w : World) : Calls Try.prog 12 #[.int .i64 n] w fun e w' => e = .returned (.int .i64 (maj n)) ∧ w = w' := by
  by_cases h1 : n < 1
  · have HM : Hid (maj n = 0) := Lib.hid (by unfold maj; rw [if_neg (by omega)])
    go_enter Try.func12, Try.ntmps12
    go_wp2
    go_ret
    exact ⟨by rw [HM.out]; rfl, rfl⟩
  · by_cases h7 : 7 < n
    · have HM : Hid (maj n = 0) := Lib.hid (by unfold maj; rw [if_neg (by omega)])
      go_enter Try.func12, Try.ntmps12
      go_wp2
      go_ret
      exact ⟨by rw [HM.out]; rfl, rfl⟩
    · have HM : Hid (maj n = n / 2 + 1) := Lib.hid (by unfold maj; rw [if_pos (by omega)])
      have h0 : 0 ≤ n := by omega
      have h6 : n ≤ 7 := by omega
      go_enter Try.func12, Try.ntmps12
      go_wp2
      go_ret
      exact ⟨by rw [HM.out]; rfl, rfl⟩
theorem rmaj_any (n : Int) (w : World) : Calls Try.prog 13 #[.int .i64 n] w fun e w' => e = .returned (.int .i64 (maj n)) ∧ w = w' := by
  by_cases h1 : n < 1
  · have HM : Hid (maj n = 0) := Lib.hid (by unfold maj; rw [if_neg (by omega)])
    go_enter Try.func13, Try.ntmps13
    go_wp2
    go_ret
    exact ⟨by rw [HM.out]; rfl, rfl⟩
  · by_cases h7 : 7 < n
    · have HM : Hid (maj n = 0) := Lib.hid (by unfold maj; rw [if_neg (by omega)])
      go_enter Try.func13, Try.ntmps13
      go_wp2
      go_ret
      exact ⟨by rw [HM.out]; rfl, rfl⟩
    · have HM : Hid (maj n = n / 2 + 1) := Lib.hid (by unfold maj; rw [if_pos (by omega)])
      have h0 : 0 ≤ n := by omega
      have h6 : n ≤ 7 := by omega
      go_enter Try.func13, Try.ntmps13
      go_wp2
      go_ret
      exact ⟨by rw [HM.out]; rfl, rfl⟩
/-- what New returns -/
def newV (id sz : Int) : Value := if 1 ≤ sz ∧ sz ≤ 7 ∧ 0 ≤ id ∧ id < sz then .tuple #[mem id sz 0 (-1) 0 (-1) (10 + 3 * id) 0 nil 0 nil nil, .int .i64 0] else .tuple #[mem 0 0 0 0 0 0 0 0 nil 0 nil nil, .int .i64 1]
set_option maxRecDepth 100000 in
set_option maxHeartbeats 800000 in
theorem new_any (id sz : Int) (w : World) : Calls Try.prog 9 #[.int .i64 id, .int .i64 sz] w fun e w' => e = .returned (newV id sz) ∧ Below w.heap.size w w' := by
  have hcase : sz < 1 ∨ 7 < sz ∨ (1 ≤ sz ∧ sz ≤ 7 ∧ id < 0) ∨ (1 ≤ sz ∧ sz ≤ 7 ∧ 0 ≤ id ∧ sz ≤ id) ∨ (1 ≤ sz ∧ sz ≤ 7 ∧ 0 ≤ id ∧ id < sz) := by omega
  rcases hcase with h | h | ⟨h1, h2, h3⟩ | ⟨h1, h2, h3, h4⟩ | ⟨h1, h2, h3, h4⟩
  · have HV : Hid (newV id sz = .tuple #[mem 0 0 0 0 0 0 0 0 nil 0 nil nil, .int .i64 1]) := Lib.hid (by unfold newV; rw [if_neg (by omega)])
    go_enter Try.func9, Try.ntmps9
    go_wp2_with fail
    refine bodyPost_ret (v := .tuple #[mem 0 0 0 0 0 0 0 0 nil 0 nil nil, .int .i64 1]) (by simp [results, Try.results9, go_sem]) rfl ⟨by rw [HV.out], ?_⟩
    repeat' (first | exact Below.refl _ _ | refine Below.setCell ?_ (by simp) _ | refine Below.alloc ?_ (by simp) _)
  · have HV : Hid (newV id sz = .tuple #[mem 0 0 0 0 0 0 0 0 nil 0 nil nil, .int .i64 1]) := Lib.hid (by unfold newV; rw [if_neg (by omega)])
    go_enter Try.func9, Try.ntmps9
    go_wp2_with fail
    refine bodyPost_ret (v := .tuple #[mem 0 0 0 0 0 0 0 0 nil 0 nil nil, .int .i64 1]) (by simp [results, Try.results9, go_sem]) rfl ⟨by rw [HV.out], ?_⟩
    repeat' (first | exact Below.refl _ _ | refine Below.setCell ?_ (by simp) _ | refine Below.alloc ?_ (by simp) _)
  · have HV : Hid (newV id sz = .tuple #[mem 0 0 0 0 0 0 0 0 nil 0 nil nil, .int .i64 1]) := Lib.hid (by unfold newV; rw [if_neg (by omega)])
    go_enter Try.func9, Try.ntmps9
    go_wp2_with fail
    refine bodyPost_ret (v := .tuple #[mem 0 0 0 0 0 0 0 0 nil 0 nil nil, .int .i64 1]) (by simp [results, Try.results9, go_sem]) rfl ⟨by rw [HV.out], ?_⟩
    repeat' (first | exact Below.refl _ _ | refine Below.setCell ?_ (by simp) _ | refine Below.alloc ?_ (by simp) _)
  · have HV : Hid (newV id sz = .tuple #[mem 0 0 0 0 0 0 0 0 nil 0 nil nil, .int .i64 1]) := Lib.hid (by unfold newV; rw [if_neg (by omega)])
    go_enter Try.func9, Try.ntmps9
    go_wp2_with fail
    refine bodyPost_ret (v := .tuple #[mem 0 0 0 0 0 0 0 0 nil 0 nil nil, .int .i64 1]) (by simp [results, Try.results9, go_sem]) rfl ⟨by rw [HV.out], ?_⟩
    repeat' (first | exact Below.refl _ _ | refine Below.setCell ?_ (by simp) _ | refine Below.alloc ?_ (by simp) _)
  · have HV : Hid (newV id sz = .tuple #[mem id sz 0 (-1) 0 (-1) (10 + 3 * id) 0 nil 0 nil nil, .int .i64 0]) := Lib.hid (by unfold newV; rw [if_pos ⟨h1, h2, h3, h4⟩])
    go_enter Try.func9, Try.ntmps9
    go_wp2_with fail
    refine (usual_any id _ h3 (by omega)).mono ?_
    rintro e w1 ⟨rfl, rfl⟩
    go_wp2_with fail
    refine bodyPost_ret (v := .tuple #[mem id sz 0 (-1) 0 (-1) (10 + 3 * id) 0 nil 0 nil nil, .int .i64 0]) (by simp [results, Try.results9, go_sem]) rfl ⟨by rw [HV.out], ?_⟩
    repeat' (first | exact Below.refl _ _ | refine Below.setCell ?_ (by simp) _ | refine Below.alloc ?_ (by simp) _)
set_option maxRecDepth 100000 in
set_option maxHeartbeats 800000 in
theorem rnew_any (id sz : Int) (w : World) : Calls Try.prog 10 #[.int .i64 id, .int .i64 sz] w fun e w' => e = .returned (newV id sz) ∧ Below w.heap.size w w' := by
  have hcase : sz < 1 ∨ 7 < sz ∨ (1 ≤ sz ∧ sz ≤ 7 ∧ id < 0) ∨ (1 ≤ sz ∧ sz ≤ 7 ∧ 0 ≤ id ∧ sz ≤ id) ∨ (1 ≤ sz ∧ sz ≤ 7 ∧ 0 ≤ id ∧ id < sz) := by omega
  rcases hcase with h | h | ⟨h1, h2, h3⟩ | ⟨h1, h2, h3, h4⟩ | ⟨h1, h2, h3, h4⟩
  · have HV : Hid (newV id sz = .tuple #[mem 0 0 0 0 0 0 0 0 nil 0 nil nil, .int .i64 1]) := Lib.hid (by unfold newV; rw [if_neg (by omega)])
    go_enter Try.func10, Try.ntmps10
    go_wp2_with fail
    refine bodyPost_ret (v := .tuple #[mem 0 0 0 0 0 0 0 0 nil 0 nil nil, .int .i64 1]) (by simp [results, Try.results10, go_sem]) rfl ⟨by rw [HV.out], ?_⟩
    repeat' (first | exact Below.refl _ _ | refine Below.setCell ?_ (by simp) _ | refine Below.alloc ?_ (by simp) _)
  · have HV : Hid (newV id sz = .tuple #[mem 0 0 0 0 0 0 0 0 nil 0 nil nil, .int .i64 1]) := Lib.hid (by unfold newV; rw [if_neg (by omega)])
    go_enter Try.func10, Try.ntmps10
    go_wp2_with fail
    refine bodyPost_ret (v := .tuple #[mem 0 0 0 0 0 0 0 0 nil 0 nil nil, .int .i64 1]) (by simp [results, Try.results10, go_sem]) rfl ⟨by rw [HV.out], ?_⟩
    repeat' (first | exact Below.refl _ _ | refine Below.setCell ?_ (by simp) _ | refine Below.alloc ?_ (by simp) _)
  · have HV : Hid (newV id sz = .tuple #[mem 0 0 0 0 0 0 0 0 nil 0 nil nil, .int .i64 1]) := Lib.hid (by unfold newV; rw [if_neg (by omega)])
    go_enter Try.func10, Try.ntmps10
    go_wp2_with fail
    refine bodyPost_ret (v := .tuple #[mem 0 0 0 0 0 0 0 0 nil 0 nil nil, .int .i64 1]) (by simp [results, Try.results10, go_sem]) rfl ⟨by rw [HV.out], ?_⟩
    repeat' (first | exact Below.refl _ _ | refine Below.setCell ?_ (by simp) _ | refine Below.alloc ?_ (by simp) _)
  · have HV : Hid (newV id sz = .tuple #[mem 0 0 0 0 0 0 0 0 nil 0 nil nil, .int .i64 1]) := Lib.hid (by unfold newV; rw [if_neg (by omega)])
    go_enter Try.func10, Try.ntmps10
    go_wp2_with fail
    refine bodyPost_ret (v := .tuple #[mem 0 0 0 0 0 0 0 0 nil 0 nil nil, .int .i64 1]) (by simp [results, Try.results10, go_sem]) rfl ⟨by rw [HV.out], ?_⟩
    repeat' (first | exact Below.refl _ _ | refine Below.setCell ?_ (by simp) _ | refine Below.alloc ?_ (by simp) _)
  · have HV : Hid (newV id sz = .tuple #[mem id sz 0 (-1) 0 (-1) (10 + 3 * id) 0 nil 0 nil nil, .int .i64 0]) := Lib.hid (by unfold newV; rw [if_pos ⟨h1, h2, h3, h4⟩])
    go_enter Try.func10, Try.ntmps10
    go_wp2_with fail
    refine (timer_any id _ h3 (by omega)).mono ?_
    rintro e w1 ⟨rfl, rfl⟩
    go_wp2_with fail
    refine bodyPost_ret (v := .tuple #[mem id sz 0 (-1) 0 (-1) (10 + 3 * id) 0 nil 0 nil nil, .int .i64 0]) (by simp [results, Try.results10, go_sem]) rfl ⟨by rw [HV.out], ?_⟩
    repeat' (first | exact Below.refl _ _ | refine Below.setCell ?_ (by simp) _ | refine Below.alloc ?_ (by simp) _)
end Go.Proofs.Ytfpgklhbghahoaa
/- Election: copies of members without a log; follow. -/
namespace Go.Proofs.Ytfpgklhbghahoaa
open Go.ChangeShapes Go.WideShapes Go.ChangeAt Go.RowKit Go.Deep
set_option linter.unusedVariables false
set_option linter.unusedSimpArgs false
def ints (l : List Int) : List Value := l.map (.int .i64 ·)
theorem info3 : (Try.prog.info? 3).map (fun i => (i.zero, i.size, i.bytes)) = some (some (.int .i64 0), 1, 8) := by kernel_rfl
theorem lastTerm_nil (w : World) : Calls Try.prog 38 #[nil] w fun e w' => e = .returned (.int .i64 0) ∧ w = w' := by
  go_enter Try.func38, Try.ntmps38
  go_wp2
  go_ret
  exact ⟨rfl, rfl⟩
theorem copyAll_nil (g : Value) (w : World) : Calls Try.prog 47 #[nil, g] w fun e w' => e = .returned nil ∧ w = w' := by
  go_enter Try.func47, Try.ntmps47
  go_wp2
  go_ret
  exact ⟨rfl, rfl⟩
theorem copyInts_nil (w : World) : Calls Try.prog 49 #[nil] w fun e w' => e = .returned nil ∧ w = w' := by
  go_enter Try.func49, Try.ntmps49
  go_wp2
  go_ret
  exact ⟨rfl, rfl⟩
theorem copyInts_some (B o cap : Nat) (xs : List Int) (w : World) (hl : xs.length ≤ 1000000) (hc : ∀ j (h : j < xs.length), w.cell? ⟨B, o + j, none⟩ = some (.int .i64 xs[j])) :
    Calls Try.prog 49 #[.slice (some ⟨B, o, none⟩) xs.length cap] w fun e w' => (∃ v, e = .returned v ∧ w'.ownsRow w.heap.size 3 1 v xs.length (ints xs)) ∧ Below w.heap.size w w' := by
  obtain ⟨i3, hi3, hz0, hz1, hz2⟩ := info_parts info3
  have HC := Lib.hid hc
  clear hc
  go_enter Try.func49, Try.ntmps49
  go_wp2_with (at_builtin; refine wpList_append_own _ rfl _ _ 23 rfl w.heap.size 3 i3 (.int .i64 0) 1 8 Try.underlying23 hi3 hz0 hz1 hz2 rfl (by decide) _ 0 [] rfl (World.ownsRow_nil _ _ _ _) ⟨B, o, none⟩ xs.length cap (ints xs) rfl ?c1 ?c2 ?c3 ?c4 ?c5 ?c6 ?_)
  case c1 => simp [ints]
  case c2 =>
    intro j u hu
    have hj : j < xs.length := by have := (List.getElem?_eq_some_iff.1 hu).1; simpa [ints] using this
    have h1 := HC.out j hj
    simp [ints, hj] at hu
    subst hu
    first | exact h1 | (by_cases h0 : j = 0 <;> simpa [Addr.add, h0] using h1)
  case c3 =>
    intro u hu
    simp [ints] at hu
    obtain ⟨x, _, rfl⟩ := hu
    rfl
  case c4 => unfold maxLen; omega
  case c5 => omega
  case c6 => exact Nat.le_refl _
  intro v w2 hown hgrow _
  have hb : Below w.heap.size w w2 := (Below.refl _ _).grown hgrow (Nat.le_refl _) (by simp [Value.ownBlock])
  go_wp2_with fail
  go_ret
  exact ⟨⟨_, rfl, by simpa using hown⟩, hb⟩
set_option maxRecDepth 100000 in
set_option maxHeartbeats 800000 in
theorem copyMember_nil (id sz tm vt rl ld ti vs cm : Int) (w : World) :
    Calls Try.prog 36 #[mem id sz tm vt rl ld ti vs nil cm nil nil] w fun e w' => e = .returned (mem id sz tm vt rl ld ti vs nil cm nil nil) ∧ Below w.heap.size w w' := by
  go_enter Try.func36, Try.ntmps36
  go_wp2_with fail
  refine (copyAll_nil _ _).mono ?_
  rintro e w1 ⟨rfl, rfl⟩
  go_wp2_with fail
  refine (copyInts_nil _).mono ?_
  rintro e w1 ⟨rfl, rfl⟩
  go_wp2_with fail
  refine (copyInts_nil _).mono ?_
  rintro e w1 ⟨rfl, rfl⟩
  go_wp2_with fail
  refine bodyPost_ret (v := mem id sz tm vt rl ld ti vs nil cm nil nil) (by simp [results, Try.results36, go_sem]) rfl ⟨rfl, ?_⟩
  repeat' (first | exact Below.refl _ _ | refine Below.setCell ?_ (by simp) _ | refine Below.alloc ?_ (by simp) _)
set_option maxRecDepth 100000 in
set_option maxHeartbeats 800000 in
theorem follow_any (id sz tm vt rl ld ti vs : Int) (ga : Option Addr) (gl gc : Nat) (cm : Int) (na : Option Addr) (nl nc : Nat) (ma : Option Addr) (ml mc : Nat) (t : Int) (w : World) (h0 : 0 ≤ id) (h7 : id ≤ 7) :
    Calls Try.prog 37 #[mem id sz tm vt rl ld ti vs (.slice ga gl gc) cm (.slice na nl nc) (.slice ma ml mc), .int .i64 t] w fun e w' =>
      e = .returned (if t ≤ tm then mem id sz tm vt rl ld ti vs (.slice ga gl gc) cm (.slice na nl nc) (.slice ma ml mc) else mem id sz t (-1) 0 (-1) (if rl = 2 then 10 + 3 * id else ti) 0 (.slice ga gl gc) cm nil nil) ∧ Below w.heap.size w w' := by
  by_cases ht : t ≤ tm
  · rw [if_pos ht]
    go_enter Try.func37, Try.ntmps37
    go_wp2_with fail
    refine bodyPost_ret (v := mem id sz tm vt rl ld ti vs (.slice ga gl gc) cm (.slice na nl nc) (.slice ma ml mc)) (by simp [results, Try.results37, go_sem]) rfl ⟨rfl, ?_⟩
    repeat' (first | exact Below.refl _ _ | refine Below.setCell ?_ (by simp) _ | refine Below.alloc ?_ (by simp) _)
  · rw [if_neg ht]
    by_cases hr : rl = 2
    · rw [if_pos hr]
      subst hr
      go_enter Try.func37, Try.ntmps37
      go_wp2_with fail
      refine (usual_any id _ h0 h7).mono ?_
      rintro e w1 ⟨rfl, rfl⟩
      go_wp2_with fail
      refine bodyPost_ret (v := mem id sz t (-1) 0 (-1) (10 + 3 * id) 0 (.slice ga gl gc) cm nil nil) (by simp [results, Try.results37, go_sem]) rfl ⟨rfl, ?_⟩
      repeat' (first | exact Below.refl _ _ | refine Below.setCell ?_ (by simp) _ | refine Below.alloc ?_ (by simp) _)
    · rw [if_neg hr]
      have hrb : (rl == 2) = false := by rw [beq_eq_false_iff_ne]; exact hr
      go_enter Try.func37, Try.ntmps37
      go_wp2_with fail
      refine bodyPost_ret (v := mem id sz t (-1) 0 (-1) ti 0 (.slice ga gl gc) cm nil nil) (by simp [results, Try.results37, go_sem]) rfl ⟨rfl, ?_⟩
      repeat' (first | exact Below.refl _ _ | refine Below.setCell ?_ (by simp) _ | refine Below.alloc ?_ (by simp) _)
theorem known_yes (id sz tm vt rl ld ti vs : Int) (lg : Value) (cm : Int) (nx mt : Value) (w : World) (h1 : 1 ≤ sz) (h7 : sz ≤ 7) (h0 : 0 ≤ id) (hi : id < sz) :
    Calls Try.prog 41 #[mem id sz tm vt rl ld ti vs lg cm nx mt] w fun e w' => e = .returned (.bool true) ∧ Below w.heap.size w w' := by
  go_enter Try.func41, Try.ntmps41
  go_wp2_with fail
  go_ret
  refine ⟨rfl, ?_⟩
  repeat' (first | exact Below.refl _ _ | refine Below.setCell ?_ (by simp) _ | refine Below.alloc ?_ (by simp) _)
end Go.Proofs.Ytfpgklhbghahoaa
