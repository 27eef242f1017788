/- Merged texts: Eg7, Eh1, Sv1, Ord. -/
import Derived.Test.YtfpgklhbghahoaaVo2
import Derived.OrdersHeld
import Derived.StillTail
import Derived.WalkKit
/- Election: copies of values. -/
namespace Go.Proofs.Ytfpgklhbghahoaa
open Go.ChangeShapes Go.WideShapes Go.ChangeAt Go.RowKit Go.ChangeMaps Go.Joins Go.Deep
set_option linter.unusedVariables false
set_option linter.unusedSimpArgs false
set_option maxRecDepth 100000
attribute [local go_sem] Oper.semAt_some
theorem eqC_form {W W' : World} {F F' : Nat → Prop} {n : Nat} {t e : TypeId} {v v' : Value} (hu : Try.prog.underlying t = some (.slice e)) (h : EqC Try.prog W W' F F' n t [v] [v']) : ∃ a len cap, v' = .slice a len cap := by
  cases n with
  | zero => exact h.elim
  | succ n =>
    unfold EqC at h
    simp only [hu] at h
    obtain ⟨a, len, cap, a', cap', _, h2, _⟩ := h
    exact ⟨a', len, cap', (List.cons.inj h2).1⟩
set_option maxHeartbeats 3200000 in
theorem copyValue_step (n : Nat) (W0 : World) (hV : OneOK 60 48 n W0) (hF : OneOK 70 104 n W0) : OneOK 60 48 (n + 2) W0 := by
  intro W cs hb0 hg
  have e1 : Try.prog.cellsOf 48 = 5 := by kernel_rfl
  have e9 : Try.prog.cellsOf 9 = 1 := by kernel_rfl
  have e3 : Try.prog.cellsOf 3 = 1 := by kernel_rfl
  have eL : Try.prog.cellsOf 45 = 1 := by kernel_rfl
  have eD : Try.prog.cellsOf 46 = 1 := by kernel_rfl
  obtain ⟨hlen, hf⟩ := (goodC_struct Try.underlying48).1 hg
  rw [e1] at hlen
  match cs, hlen with
  | [c0, c1, c2, c3, c4], _ =>
    have f3 : GoodC Try.prog W0 (n + 1) 45 (part_ [c0, c1, c2, c3, c4] 3 (Try.prog.cellsOf 45)) := hf 3 _ rfl
    have f4 : GoodC Try.prog W0 (n + 1) 46 (part_ [c0, c1, c2, c3, c4] 4 (Try.prog.cellsOf 46)) := hf 4 _ rfl
    have g3 : GoodC Try.prog W0 (n + 1) 45 [c3] := by rw [eL] at f3; exact f3
    have g4 : GoodC Try.prog W0 (n + 1) 46 [c4] := by rw [eD] at f4; exact f4
    obtain ⟨a3, l3, k3, rfl, _⟩ := goodC_slice Try.underlying45 g3
    obtain ⟨a4, l4, k4, rfl, _⟩ := goodC_slice Try.underlying46 g4
    have f0 : GoodC Try.prog W0 (n + 1) 3 (part_ [c0, c1, c2, .slice a3 l3 k3, .slice a4 l4 k4] 0 (Try.prog.cellsOf 3)) := hf 0 _ rfl
    have f1 : GoodC Try.prog W0 (n + 1) 3 (part_ [c0, c1, c2, .slice a3 l3 k3, .slice a4 l4 k4] 1 (Try.prog.cellsOf 3)) := hf 1 _ rfl
    have f2 : GoodC Try.prog W0 (n + 1) 9 (part_ [c0, c1, c2, .slice a3 l3 k3, .slice a4 l4 k4] 2 (Try.prog.cellsOf 9)) := hf 2 _ rfl
    rw [e3] at f0 f1
    rw [e9] at f2
    obtain ⟨m0, hm0, _⟩ : ∃ m, [c0] = [.int .i64 m] ∧ (Lit.int .i64 m).wf = true := by have := f0; unfold GoodC at this; simp only [Try.underlying3] at this; exact this
    obtain ⟨m1, hm1, _⟩ : ∃ m, [c1] = [.int .i64 m] ∧ (Lit.int .i64 m).wf = true := by have := f1; unfold GoodC at this; simp only [Try.underlying3] at this; exact this
    obtain ⟨m2, hm2, _⟩ : ∃ m : ByteArray, [c2] = [.string m] ∧ m.size ≤ maxLen := by have := f2; unfold GoodC at this; simp only [Try.underlying9] at this; exact this
    obtain rfl := (List.cons.inj hm0).1
    obtain rfl := (List.cons.inj hm1).1
    obtain rfl := (List.cons.inj hm2).1
    have HB := Lib.hid hb0
    have HG := Lib.hid (And.intro g3 (And.intro g4 (And.intro hV (And.intro hF hf))))
    clear hb0 g3 g4 f3 f4 hV hF hf hg
    go_enter Try.func60, Try.ntmps60
    go_wp2_with fail
    have hx1 := (Box.new W [.int .i64 m0, .int .i64 m1, .string m2, .slice a3 l3 k3, .slice a4 l4 k4] 48).alloc (.cells #[.int .i64 0, .int .i64 0, .string ⟨#[]⟩, .slice none 0 0, .slice none 0 0] 48)
    have hx2 := Box.new (W.alloc (.cells #[.int .i64 m0, .int .i64 m1, .string m2, .slice a3 l3 k3, .slice a4 l4 k4] 48)) [.int .i64 0, .int .i64 0, .string ⟨#[]⟩, .slice none 0 0, .slice none 0 0] 48
    rw [World.size_alloc] at hx2
    have hl2 : Below W.heap.size W ((W.alloc (.cells #[.int .i64 m0, .int .i64 m1, .string m2, .slice a3 l3 k3, .slice a4 l4 k4] 48)).alloc (.cells #[.int .i64 0, .int .i64 0, .string ⟨#[]⟩, .slice none 0 0, .slice none 0 0] 48)) := ((Below.refl _ _).alloc (Nat.le_refl _) _).alloc (by simp) _
    have HX := Lib.hid (And.intro hx1 (And.intro hx2 hl2))
    clear hx1 hx2 hl2
    generalize (W.alloc (.cells #[.int .i64 m0, .int .i64 m1, .string m2, .slice a3 l3 k3, .slice a4 l4 k4] 48)).alloc (.cells #[.int .i64 0, .int .i64 0, .string ⟨#[]⟩, .slice none 0 0, .slice none 0 0] 48) = W2 at *
    refine (copyAll_Value n _ W0 W2 (HB.out.trans (HX.out.2.2.mono HB.out.size)) HG.out.1 HG.out.2.2.1).mono ?_
    rintro e w3 ⟨v3, rfl, hc3⟩
    obtain ⟨b3, n3, q3, rfl⟩ := eqC_form Try.underlying45 hc3.1
    have HC3 := Lib.hid (And.intro hc3 (And.intro (HX.out.1.keep hc3.2) (HX.out.2.1.keep hc3.2)))
    clear hc3
    have p3 := HC3.out.2.1.cell 3 _ rfl
    have p4 := HC3.out.2.1.cell 4 _ rfl
    have z3 := HC3.out.2.1.free 3
    go_wp2_with fail
    clear p3 p4 z3
    have hne : W.heap.size + 1 ≠ W.heap.size := by omega
    have ho3 := Only.setCell w3 W.heap.size 3 (.slice b3 n3 q3)
    have hl3 : Below W.heap.size W (w3.setCell ⟨W.heap.size, 3, none⟩ (.slice b3 n3 q3)) := (HX.out.2.2.trans (HC3.out.1.2.mono HX.out.2.2.size)).trans (ho3.below _ (Nat.le_refl _))
    have hW2 : W.heap.size + 1 < W2.heap.size := HX.out.2.1.lt
    have he3 : EqC Try.prog (w3.setCell ⟨W.heap.size, 3, none⟩ (.slice b3 n3 q3)) (w3.setCell ⟨W.heap.size, 3, none⟩ (.slice b3 n3 q3)) (fun k => k < W0.heap.size) (fun k => W.heap.size + 1 < k) (n + 1) 45 [.slice a3 l3 k3] [.slice b3 n3 q3] :=
      EqC.kept (Nat.le_of_eq ho3.size.symm) (Nat.le_of_eq ho3.size.symm) (fun i hi _ => ho3.heap i (by have := HB.out.size; omega)) (fun i hi _ => ho3.heap i (by omega)) (fun _ h _ => h) (fun i h _ => by show W.heap.size + 1 < i; omega) _ _ _ _ HC3.out.1.1
    have H4 := Lib.hid (And.intro (HC3.out.2.1.setCell 3 (.slice b3 n3 q3) (by simp)) (And.intro (HC3.out.2.2.setOther 3 (.slice b3 n3 q3) hne) (And.intro hl3 he3)))
    clear ho3 hl3 he3 HC3
    generalize w3.setCell ⟨W.heap.size, 3, none⟩ (.slice b3 n3 q3) = w4 at *
    refine (copyAll_Field n _ W0 w4 (HB.out.trans (H4.out.2.2.1.mono HB.out.size)) HG.out.2.1 HG.out.2.2.2.1).mono ?_
    rintro e w5 ⟨v5, rfl, hc5⟩
    obtain ⟨b5, n5, q5, rfl⟩ := eqC_form Try.underlying46 hc5.1
    have hw4 : W.heap.size + 1 < w4.heap.size := H4.out.2.1.lt
    have hx5 := H4.out.1.keep hc5.2
    have hy5 := H4.out.2.1.keep hc5.2
    have hl5 := H4.out.2.2.1.trans (hc5.2.mono H4.out.2.2.1.size)
    have he5 := EqC.below hc5.2 hc5.2 _ _ _ _ H4.out.2.2.2
    have H5 := Lib.hid (And.intro hc5 (And.intro hx5 (And.intro hy5 (And.intro hl5 he5))))
    clear hc5 hl5 he5 H4
    have p0 := hx5.cell 0 _ rfl
    have p1 := hx5.cell 1 _ rfl
    have p2 := hx5.cell 2 _ rfl
    have p3 := hx5.cell 3 _ rfl
    have p4 := hx5.cell 4 _ rfl
    have z4 := hx5.free 4
    have y0 := hy5.cell 0 _ rfl
    have y1 := hy5.cell 1 _ rfl
    have y2 := hy5.cell 2 _ rfl
    have y3 := hy5.cell 3 _ rfl
    have y4 := hy5.cell 4 _ rfl
    have t0 := hy5.free 0
    have t1 := hy5.free 1
    have t2 := hy5.free 2
    have t3 := hy5.free 3
    have t4 := hy5.free 4
    clear hx5 hy5
    go_wp2_with fail
    have o1 := Only.setCell w5 W.heap.size 4 (.slice b5 n5 q5)
    have o2 := Only.setCell (w5.setCell ⟨W.heap.size, 4, none⟩ (.slice b5 n5 q5)) (W.heap.size + 1) 0 (.int .i64 m0)
    have o3 := Only.setCell ((w5.setCell ⟨W.heap.size, 4, none⟩ (.slice b5 n5 q5)).setCell ⟨W.heap.size + 1, 0, none⟩ (.int .i64 m0)) (W.heap.size + 1) 1 (.int .i64 m1)
    have o4 := Only.setCell (((w5.setCell ⟨W.heap.size, 4, none⟩ (.slice b5 n5 q5)).setCell ⟨W.heap.size + 1, 0, none⟩ (.int .i64 m0)).setCell ⟨W.heap.size + 1, 1, none⟩ (.int .i64 m1)) (W.heap.size + 1) 2 (.string m2)
    have o5 := Only.setCell ((((w5.setCell ⟨W.heap.size, 4, none⟩ (.slice b5 n5 q5)).setCell ⟨W.heap.size + 1, 0, none⟩ (.int .i64 m0)).setCell ⟨W.heap.size + 1, 1, none⟩ (.int .i64 m1)).setCell ⟨W.heap.size + 1, 2, none⟩ (.string m2)) (W.heap.size + 1) 3 (.slice b3 n3 q3)
    have o6 := Only.setCell (((((w5.setCell ⟨W.heap.size, 4, none⟩ (.slice b5 n5 q5)).setCell ⟨W.heap.size + 1, 0, none⟩ (.int .i64 m0)).setCell ⟨W.heap.size + 1, 1, none⟩ (.int .i64 m1)).setCell ⟨W.heap.size + 1, 2, none⟩ (.string m2)).setCell ⟨W.heap.size + 1, 3, none⟩ (.slice b3 n3 q3)) (W.heap.size + 1) 4 (.slice b5 n5 q5)
    have u1 : W.heap.size ≤ W.heap.size + 1 := Nat.le_succ _
    have hlow := ((((((H5.out.2.2.2.1.trans (o1.below _ (Nat.le_refl _))).trans (o2.below _ u1)).trans (o3.below _ u1)).trans (o4.below _ u1)).trans (o5.below _ u1)).trans (o6.below _ u1))
    have hkp : ∀ i, i ≠ W.heap.size → i ≠ W.heap.size + 1 → _ := fun i h1 h2 => (o6.heap i h2).trans ((o5.heap i h2).trans ((o4.heap i h2).trans ((o3.heap i h2).trans ((o2.heap i h2).trans (o1.heap i h1)))))
    have hsz := o6.size.trans (o5.size.trans (o4.size.trans (o3.size.trans (o2.size.trans o1.size))))
    refine bodyPost_ret (v := .agg #[.int .i64 m0, .int .i64 m1, .string m2, .slice b3 n3 q3, .slice b5 n5 q5]) (by simp [results, Try.results60, go_sem, y0, y1, y2, y3, y4]) rfl ⟨[.int .i64 m0, .int .i64 m1, .string m2, .slice b3 n3 q3, .slice b5 n5 q5], rfl, ?_, hlow⟩
    clear o1 o2 o3 o4 o5 o6 y0 y1 y2 y3 y4 p0 p1 p2 p3 p4 z4 t0 t1 t2 t3 t4
    have hs0 := HB.out.size
    have E3 := EqC.kept (G := fun k => k < W0.heap.size) (G' := fun k => W.heap.size ≤ k) (Nat.le_of_eq hsz.symm) (Nat.le_of_eq hsz.symm) (fun i hi _ => hkp i (by omega) (by omega)) (fun i hi _ => hkp i (by omega) (by omega)) (fun _ h _ => h) (fun i h _ => by show W.heap.size ≤ i; omega) _ _ _ _ H5.out.2.2.2.2
    have E5 := EqC.kept (G := fun k => k < W0.heap.size) (G' := fun k => W.heap.size ≤ k) (Nat.le_of_eq hsz.symm) (Nat.le_of_eq hsz.symm) (fun i hi _ => hkp i (by omega) (by omega)) (fun i hi _ => hkp i (by omega) (by omega)) (fun _ h _ => h) (fun i h _ => by show W.heap.size ≤ i; omega) _ _ _ _ H5.out.1.1
    clear hkp hsz hlow
    refine (eqC_struct Try.underlying48).2 ⟨by rw [e1]; rfl, by rw [e1]; rfl, fun i f hfi => ?_⟩
    match i, hfi with
    | 0, hfi => obtain rfl := Option.some.inj hfi; show EqC Try.prog _ _ _ _ (n + 1) 3 (part_ _ 0 (Try.prog.cellsOf 3)) (part_ _ 0 (Try.prog.cellsOf 3)); rw [e3]; exact leaf_int Try.underlying3 f0
    | 1, hfi => obtain rfl := Option.some.inj hfi; show EqC Try.prog _ _ _ _ (n + 1) 3 (part_ _ 1 (Try.prog.cellsOf 3)) (part_ _ 1 (Try.prog.cellsOf 3)); rw [e3]; exact leaf_int Try.underlying3 f1
    | 2, hfi => obtain rfl := Option.some.inj hfi; show EqC Try.prog _ _ _ _ (n + 1) 9 (part_ _ 2 (Try.prog.cellsOf 9)) (part_ _ 2 (Try.prog.cellsOf 9)); rw [e9]; exact leaf_string Try.underlying9 f2
    | 3, hfi => obtain rfl := Option.some.inj hfi; show EqC Try.prog _ _ _ _ (n + 1) 45 (part_ _ 3 (Try.prog.cellsOf 45)) (part_ _ 3 (Try.prog.cellsOf 45)); rw [eL]; exact E3
    | 4, hfi => obtain rfl := Option.some.inj hfi; show EqC Try.prog _ _ _ _ (n + 1) 46 (part_ _ 4 (Try.prog.cellsOf 46)) (part_ _ 4 (Try.prog.cellsOf 46)); rw [eD]; exact E5
    | j + 5, hfi => simp at hfi
end Go.Proofs.Ytfpgklhbghahoaa
/- Operations by their runs: boxes, loads and stores of parts of structs, whatever the cells are. -/
namespace Go.Proofs.Ytfpgklhbghahoaa
open Go.ChangeShapes Go.WideShapes Go.ChangeAt Go.RowKit Go.ChangeMaps Go.Joins Go.Deep
set_option linter.unusedVariables false
set_option linter.unusedSimpArgs false
set_option maxRecDepth 100000
section
variable {P : Program} {w : World} {o : Oper} {ρ : Operand → Value}
theorem run_program_ (P : Program) (w : World) : (program).run P w = .ok P w := rfl
theorem ex_box (T : TypeId) (x : Operand) (cs : List Value) (ho : o.op = .box T x) (hx : ρ x = .agg cs.toArray) : (execOp ρ o).run P w = .ok (.value (.pointer (some ⟨w.heap.size, 0, none⟩))) (w.alloc (.cells cs.toArray T)) := by
  unfold execOp
  simp only [ho, hx, Instr.box, newVar, newRow, run_newObj_alloc, Sem.run_bind, Sem.run_pure, Result.andThen_ok, Value.cells]
theorem ex_alloc (T : TypeId) (i : TypeInfo) (zs : List Value) (ho : o.op = .alloc T) (hi : P.info? T = some i) (hz : i.zero = some (.agg zs.toArray)) : (execOp ρ o).run P w = .ok (.value (.pointer (some ⟨w.heap.size, 0, none⟩))) (w.alloc (.cells zs.toArray T)) := by
  unfold execOp
  simp only [ho, Instr.alloc, zeroValue, typeInfo, hi, hz, newVar, newRow, run_newObj_alloc, Sem.run_bind, Sem.run_pure, Result.andThen_ok, Value.cells, run_program_]
theorem ex_field (T : TypeId) (x : Operand) (j b p : Nat) (fs : Array Field) (f : Field) (ho : o.op = .fieldAddr T x j) (hx : ρ x = .pointer (some ⟨b, p, none⟩)) (hu : P.underlying T = some (.struct fs)) (hf : fs[j]? = some f) (hs : ((P.info? f.type).map (·.size)).getD 0 ≠ 0) : (execOp ρ o).run P w = .ok (.value (.pointer (some ⟨b, p + f.offset, none⟩))) w := by
  unfold execOp
  cases hq : P.info? f.type with
  | none => simp [hq] at hs
  | some i =>
    have h0 : i.size ≠ 0 := by simpa [hq] using hs
    simp only [ho, hx, Instr.fieldAt, Sem.run_bind, run_underlying hu w, Result.andThen_ok, hf, Instr.sureAddr, Sem.run_pure, fieldPlace, sizeOf, typeInfo, hq, run_program_, if_neg h0, Addr.add_mid]
theorem ex_load_row (T : TypeId) (x : Operand) (b p : Nat) (cs : List Value) (d : TypeDesc) (ho : o.op = .load T x) (hx : ρ x = .pointer (some ⟨b, p, none⟩)) (hc : w.rangeAt b p cs) (hu : P.underlying T = some d) (hd : d.isRow = true) (hi : (P.info? T).map (·.size) = some cs.length) : (execOp ρ o).run P w = .ok (.value (.agg cs.toArray)) w := by
  unfold execOp
  simp only [ho, hx, Instr.loadAt, Instr.sureAddr, Sem.run_bind, Sem.run_pure, Result.andThen_ok, run_loadVar_mid w b p T cs d hc hu hd hi]
theorem run_load_cell {a : Addr} {v : Value} (h : w.cell? a = some v) : (load a).run P w = .ok v w := by simp [go_sem, h]
theorem ex_load_cell (T : TypeId) (x : Operand) (b p : Nat) (v : Value) (d : TypeDesc) (ho : o.op = .load T x) (hx : ρ x = .pointer (some ⟨b, p, none⟩)) (hc : w.cell? ⟨b, p, none⟩ = some v) (hu : P.underlying T = some d) (hd : d.isRow = false) : (execOp ρ o).run P w = .ok (.value v) w := by
  unfold execOp
  have hagg : (isAgg T).run P w = .ok false w := by
    unfold isAgg
    rw [Sem.run_bind, run_underlying hu w]
    cases d <;> simp_all
  simp only [ho, hx, Instr.loadAt, Instr.sureAddr, Sem.run_bind, Sem.run_pure, Result.andThen_ok, loadVar, hagg]
  rw [if_neg (by decide), run_load_cell hc]
  rfl
theorem ex_store_row (T : TypeId) (x y : Operand) (b p : Nat) (cs : List Value) (ho : o.op = .store T x y) (hx : ρ x = .pointer (some ⟨b, p, none⟩)) (hy : ρ y = .agg cs.toArray) (ht : w.there b p cs.length) (hi : (P.info? T).map (·.size) = some cs.length) (h1 : ∀ v ∈ cs, v.oneCell' = true) : (execOp ρ o).run P w = .ok .skip (w.setCells b p cs) := by
  unfold execOp
  have := run_storeVar_mid (P := P) w b p T cs.toArray (by simpa using ht) (by simpa using hi) (all_oneCell_toArray h1)
  simp only [ho, hx, hy, Instr.storeAt, Instr.sureAddr, Sem.run_bind, Sem.run_pure, Result.andThen_ok, this]
theorem cells_one {v : Value} (h : v.oneCell' = true) : v.cells = #[v] := by
  cases v <;> simp_all [Value.oneCell', Value.cells]
theorem ex_store_cell (T : TypeId) (x y : Operand) (b p : Nat) (v : Value) (ho : o.op = .store T x y) (hx : ρ x = .pointer (some ⟨b, p, none⟩)) (hy : ρ y = v) (ht : w.there b p 1) (hi : (P.info? T).map (·.size) = some 1) (h1 : v.oneCell' = true) : (execOp ρ o).run P w = .ok .skip (w.setCells b p [v]) := by
  unfold execOp
  have hk : (storeCells ⟨b, p, none⟩ [v]).run P w = .ok () (w.setCells b p [v]) := by
    have := run_storeCells_cells (P := P) b p [v] 0 w (fun j hj => by simpa using (ht j (by simpa using hj)).1) (fun j hj => by simpa using (ht j (by simpa using hj)).2) (fun u hu => by
      have : u = v := by simpa using hu
      rw [this]; exact h1)
    simpa using this
  cases hq : P.info? T with
  | none => simp [hq] at hi
  | some i =>
    have hs : i.size = 1 := by simpa [hq] using hi
    simp only [ho, hx, hy, Instr.storeAt, Instr.sureAddr, Sem.run_bind, Sem.run_pure, Result.andThen_ok, storeVar, sizeOf, typeInfo, hq, run_program_, cells_one h1, hs]
    rw [if_neg (by simp), hk]
    rfl
theorem wpList_ok {ops : Array Oper} {rest : List Oper} {a : Act} {w w' : World} {Q : Exit → Act → World → Prop} {v : Value} (hg : o.guard = none) (hrun : (execOp a.eval o).run P w = .ok (.value v) w')
    (h : wpList P ops Q rest (a.put o.dst v) w') : wpList P ops Q (o :: rest) a w := by
  refine wpList_plain hg fun K hK => ?_
  unfold Oper.wp
  rw [hrun, Oper.upon_value]
  exact hK _ _ h
theorem wpList_done {ops : Array Oper} {rest : List Oper} {a : Act} {w w' : World} {Q : Exit → Act → World → Prop} (hg : o.guard = none) (hd : o.dst = none) (hrun : (execOp a.eval o).run P w = .ok .skip w')
    (h : wpList P ops Q rest a w') : wpList P ops Q (o :: rest) a w := by
  refine wpList_plain hg fun K hK => ?_
  unfold Oper.wp
  rw [hrun, Oper.upon_skip, hd]
  exact hK _ _ h
/-- a function of the program, with a body -/
def FnOK (P : Program) (g : FuncId) : Prop := ∃ fn, P.funcs[g]? = some fn ∧ (fn.name == "runtime.NumGoroutine") = false ∧ fn.body.isNone = false
theorem ex_call {g : FuncId} {xs : Array Operand} {ts : Array TypeId} (hF : FnOK P g) (hρ : ρ (.func g) = .func (.func g) #[] #[]) (ho : o.op = .call { callee := .value (.func g), args := xs, argTypes := ts }) : (execOp ρ o).run P w = .ok (.enter g (xs.map ρ)) w := by
  obtain ⟨fn, h1, h2, h3⟩ := hF
  unfold execOp
  simp only [ho, resolve, hρ, Deferred.ofValue, Sem.run_bind, Sem.run_pure, Result.andThen_ok, invoke, callFunc, run_program_, h1, h2, h3, Array.append_empty, Array.empty_append, if_neg]
  rfl
/-- a call of a function that is named, with whatever arguments -/
theorem wpList_calls {ops : Array Oper} {rest : List Oper} {a : Act} {Q : Exit → Act → World → Prop} {g : FuncId} {xs : Array Operand} {ts : Array TypeId} {R : Ending → World → Prop} (hF : FnOK P g) (hg : o.guard = none) (ho : o.op = .call { callee := .value (.func g), args := xs, argTypes := ts }) (hc : Calls P g (xs.map a.eval) w R)
    (hR : ∀ e w', R e w' → ∃ v, e = .returned v ∧ wpList P ops Q rest (a.put o.dst v) w') : wpList P ops Q (o :: rest) a w := by
  refine wpList_plain hg fun K hK => ?_
  unfold Oper.wp
  rw [ex_call (w := w) hF rfl ho, Oper.upon_enter]
  refine hc.mono ?_
  intro e w' hr
  obtain ⟨v, rfl, h⟩ := hR e w' hr
  exact hK _ _ h
end
end Go.Proofs.Ytfpgklhbghahoaa
/- Walks with a frame of which only some temporaries are known, and boxes that are known whole (plain). -/
namespace Go.Proofs.Ytfpgklhbghahoaa
open Go.ChangeShapes Go.WideShapes Go.ChangeAt Go.RowKit Go.ChangeMaps Go.Joins Go.Deep
set_option linter.unusedVariables false
set_option linter.unusedSimpArgs false
set_option maxRecDepth 100000
abbrev VEnv := List (Nat × Value)
/-- what is known of a frame -/
structure FrV (N : Nat) (env : VEnv) (a : Act) : Prop where
  size : a.tmps.size = N
  defers : a.defers = []
  rel : ∀ t v, env.lookup t = some v → a.eval (.tmp t) = v
theorem FrV.put {N : Nat} {env : VEnv} {a : Act} (h : FrV N env a) {d : Nat} (hd : d < N) (v : Value) : FrV N ((d, v) :: env) (a.put (some d) v) := by
  refine ⟨by simp [Act.put, h.size], h.defers, fun t u hl => ?_⟩
  by_cases e : t = d
  · subst e
    simp [List.lookup] at hl
    subst hl
    simp [Act.put, Act.eval, Array.getElem?_setIfInBounds, h.size, hd]
  · have hb : (t == d) = false := by simpa using e
    simp only [List.lookup, hb] at hl
    rw [← h.rel t u hl]
    have hne : ¬ d = t := fun e' => e e'.symm
    simp [Act.put, Act.eval, Array.getElem?_setIfInBounds, hne]
theorem FrV.drop {N : Nat} {env : VEnv} {a : Act} (h : FrV N env a) {d : Nat} (hn : env.lookup d = none) (v : Value) : FrV N env (a.put (some d) v) := by
  refine ⟨by simp [Act.put, h.size], h.defers, fun t u hl => ?_⟩
  have e : t ≠ d := fun e => by subst e; rw [hn] at hl; cases hl
  rw [← h.rel t u hl]
  have hne : ¬ d = t := fun e' => e e'.symm
  simp [Act.put, Act.eval, Array.getElem?_setIfInBounds, hne]
/-- fewer temporaries -/
theorem FrV.sub {N : Nat} {env : VEnv} {a : Act} (h : FrV N env a) : ∀ {env' : VEnv}, (∀ p ∈ env', env.lookup p.1 = some p.2) → FrV N env' a := fun {env'} hs => by
  refine ⟨h.size, h.defers, fun t v hl => h.rel t v ?_⟩
  have : (t, v) ∈ env' := by
    clear hs
    induction env' with
    | nil => cases hl
    | cons p env' ih =>
      obtain ⟨k, u⟩ := p
      by_cases e : t = k
      · subst e
        simp [List.lookup] at hl
        subst hl
        exact List.mem_cons_self
      · have hb : (t == k) = false := by simpa using e
        simp only [List.lookup, hb] at hl
        exact List.mem_cons_of_mem _ (ih hl)
  exact hs _ this
theorem sub_nil {env : VEnv} : ∀ p ∈ ([] : VEnv), env.lookup p.1 = some p.2 := fun p h => by cases h
theorem sub_cons {env env' : VEnv} {t : Nat} {v : Value} (h : env.lookup t = some v) (hs : ∀ p ∈ env', env.lookup p.1 = some p.2) : ∀ p ∈ (t, v) :: env', env.lookup p.1 = some p.2 := fun p hp => by
  rcases List.mem_cons.1 hp with rfl | hp
  · exact h
  · exact hs p hp
/-- worlds to which memory is compared: the first; others, in blocks of a kind -/
structure Base where
  w : World
  bs : List (World × (Nat → Prop))
/-- boxes that are known whole; what lay below is as it was -/
structure Bx (b : Base) (l : List (Nat × List Value)) (W : World) : Prop where
  box : ∀ x ∈ l, Box W x.1 x.2
  low : Below b.w.heap.size b.w W
  ge : ∀ x ∈ l, b.w.heap.size ≤ x.1
  nd : ∀ (i j : Nat) (x y : Nat × List Value), l[i]? = some x → l[j]? = some y → x.1 = y.1 → i = j
  bas : ∀ p ∈ b.bs, p.1.heap.size ≤ W.heap.size ∧ ∀ i, i < p.1.heap.size → p.2 i → W.heap[i]? = p.1.heap[i]?
  bge : ∀ p ∈ b.bs, ∀ x ∈ l, x.1 < p.1.heap.size → ¬ p.2 x.1
theorem Bx.start (w : World) : Bx ⟨w, []⟩ [] w := ⟨fun x h => (by cases h), Below.refl _ _, fun x h => (by cases h), fun i j x y h => (by simp at h), fun p h => (by cases h), fun p h => (by cases h)⟩
theorem Bx.keep {b : Base} {W W' : World} {l : List (Nat × List Value)} (h : Bx b l W) (hb : Below W.heap.size W W') : Bx b l W' := ⟨fun x hx => (h.box x hx).keep hb, h.low.trans (hb.mono h.low.size), h.ge, h.nd, fun p hp => ⟨Nat.le_trans (h.bas p hp).1 hb.size, fun i hi hpi => (hb.block i (Nat.lt_of_lt_of_le hi (h.bas p hp).1)).trans ((h.bas p hp).2 i hi hpi)⟩, h.bge⟩
theorem Bx.drew {b : Base} {W : World} {l : List (Nat × List Value)} (h : Bx b l W) : Bx b l W.drew := h.keep (Below.refl _ _).drew
theorem Bx.get {b : Base} {W : World} {l : List (Nat × List Value)} (h : Bx b l W) {i C : Nat} {cs : List Value} (hi : l[i]? = some (C, cs)) : Box W C cs := h.box _ (List.mem_of_getElem? hi)
theorem Bx.new {b : Base} {W : World} {l : List (Nat × List Value)} (h : Bx b l W) (cs : List Value) (T : TypeId) : Bx b ((W.heap.size, cs) :: l) (W.alloc (.cells cs.toArray T)) := by
  have hb : Below W.heap.size W (W.alloc (.cells cs.toArray T)) := (Below.refl _ _).alloc (Nat.le_refl _) _
  have h1 := h.keep hb
  refine ⟨fun x hx => ?_, h1.low, fun x hx => ?_, ?_, h1.bas, fun p hp x hx hlt => ?_⟩
  · rcases List.mem_cons.1 hx with rfl | hx
    · exact Box.new W cs T
    · exact h1.box x hx
  · rcases List.mem_cons.1 hx with rfl | hx
    · exact h.low.size
    · exact h.ge x hx
  · intro i j x y hi hj he
    match i, j, hi, hj with
    | 0, 0, _, _ => rfl
    | 0, j + 1, hi, hj =>
      have h1 : (W.heap.size, cs) = x := Option.some.inj hi
      have := (h.box y (List.mem_of_getElem? (by simpa using hj))).lt
      rw [← h1] at he
      have he' : W.heap.size = y.1 := he
      omega
    | i + 1, 0, hi, hj =>
      have h1 : (W.heap.size, cs) = y := Option.some.inj hj
      have := (h.box x (List.mem_of_getElem? (by simpa using hi))).lt
      rw [← h1] at he
      have he' : x.1 = W.heap.size := he
      omega
    | i + 1, j + 1, hi, hj => rw [h.nd i j x y (by simpa using hi) (by simpa using hj) he]
  · rcases List.mem_cons.1 hx with rfl | hx
    · have := (h.bas p hp).1
      have hlt' : W.heap.size < p.1.heap.size := hlt
      omega
    · exact h.bge p hp x hx hlt
theorem Bx.set {b : Base} {W W' : World} {l : List (Nat × List Value)} (h : Bx b l W) {i C : Nat} {cs cs' : List Value} (hi : l[i]? = some (C, cs)) (hb : Box W' C cs') (ho : Only W W' C) : Bx b (l.set i (C, cs')) W' := by
  have hil : i < l.length := (List.getElem?_eq_some_iff.1 hi).1
  have hli : l[i] = (C, cs) := (List.getElem?_eq_some_iff.1 hi).2
  have hge := h.ge _ (List.mem_of_getElem? hi)
  have hmi := List.mem_of_getElem? hi
  refine ⟨fun x hx => ?_, h.low.trans (ho.below _ hge), fun x hx => ?_, fun j k x y hj hk he => ?_, fun p hp => ⟨by rw [ho.size]; exact (h.bas p hp).1, fun k hk hpk => ?_⟩, fun p hp x hx hlt => ?_⟩
  · obtain ⟨j, hj, hjx⟩ := List.mem_iff_getElem.1 hx
    rw [List.length_set] at hj
    rw [List.getElem_set] at hjx
    split at hjx
    · subst hjx; exact hb
    · rename_i hne
      have hx2 : x ∈ l := hjx ▸ List.getElem_mem hj
      refine (h.box x hx2).other ho (fun e => hne ?_)
      exact (h.nd i j _ _ hi (by rw [List.getElem?_eq_getElem hj, hjx]) e.symm)
  · rcases List.mem_or_eq_of_mem_set hx with hx | rfl
    · exact h.ge x hx
    · exact hge
  · have key : ∀ (j : Nat) (x : Nat × List Value), (l.set i (C, cs'))[j]? = some x → ∃ x', l[j]? = some x' ∧ x'.1 = x.1 := fun j x hj => by
      by_cases e : i = j
      · subst e
        rw [List.getElem?_set_self hil] at hj
        obtain rfl := Option.some.inj hj
        exact ⟨_, hi, rfl⟩
      · rw [List.getElem?_set_ne e] at hj
        exact ⟨x, hj, rfl⟩
    obtain ⟨x', h1, h2⟩ := key j x hj
    obtain ⟨y', h3, h4⟩ := key k y hk
    exact h.nd j k x' y' h1 h3 (h2.trans (he.trans h4.symm))
  · refine (ho.heap k (fun e => ?_)).trans ((h.bas p hp).2 k hk hpk)
    subst e
    exact h.bge p hp _ hmi hk hpk
  · rcases List.mem_or_eq_of_mem_set hx with hx | rfl
    · exact h.bge p hp x hx hlt
    · exact h.bge p hp (C, cs) hmi hlt
/-- more is known below -/
theorem Bx.sub {b : Base} {W : World} {x : Nat × List Value} {l : List (Nat × List Value)} (h : Bx b (x :: l) W) : Bx b l W := ⟨fun y hy => h.box y (List.mem_cons_of_mem _ hy), h.low, fun y hy => h.ge y (List.mem_cons_of_mem _ hy), fun i j y z hi hj he => by have := h.nd (i + 1) (j + 1) y z (by simpa using hi) (by simpa using hj) he; omega, h.bas, fun p hp y hy => h.bge p hp y (List.mem_cons_of_mem _ hy)⟩
/-- behind a call that made memory: what it made, and what came in, stays -/
theorem Bx.made {b : Base} {W W2 : World} {l : List (Nat × List Value)} (h : Bx b l W) (hb : Below W.heap.size W W2) : Bx ⟨b.w, (W2, fun k => k < b.w.heap.size ∨ W.heap.size ≤ k) :: b.bs⟩ l W2 := by
  have h1 := h.keep hb
  refine ⟨h1.box, h1.low, h1.ge, h1.nd, fun p hp => ?_, fun p hp x hx hlt hpx => ?_⟩
  · rcases List.mem_cons.1 hp with rfl | hp
    · exact ⟨Nat.le_refl _, fun _ _ _ => rfl⟩
    · exact h1.bas p hp
  · rcases List.mem_cons.1 hp with rfl | hp
    · have h2 := h.ge x hx
      have h3 := (h.box x hx).lt
      have hpx' : x.1 < b.w.heap.size ∨ W.heap.size ≤ x.1 := hpx
      omega
    · exact h1.bge p hp x hx hlt hpx
theorem Bx.later {P : Program} {b : Base} {X W2 : World} {l : List (Nat × List Value)} {p F F' : Nat → Prop} (h : Bx b l X) (hp : (W2, p) ∈ b.bs) (h1 : ∀ k, F k → p k) (h2 : ∀ k, F' k → p k) {n : Nat} {t : TypeId} {cs ds : List Value} (he : EqC P W2 W2 F F' n t cs ds) : EqC P X X (fun _ => True) (fun _ => True) n t cs ds :=
  EqC.kept (h.bas _ hp).1 (h.bas _ hp).1 (fun k hk hlt => (h.bas _ hp).2 k hlt (h1 k hk)) (fun k hk hlt => (h.bas _ hp).2 k hlt (h2 k hk)) (fun _ _ _ => trivial) (fun _ _ _ => trivial) _ _ _ _ he
theorem Bx.later2 {P : Program} {b : Base} {X W2 : World} {l : List (Nat × List Value)} {p F F' G G' : Nat → Prop} (h : Bx b l X) (hp : (W2, p) ∈ b.bs) (h1 : ∀ k, F k → p k) (h2 : ∀ k, F' k → p k) (h3 : ∀ k, F k → G k) (h4 : ∀ k, F' k → G' k) {n : Nat} {t : TypeId} {cs ds : List Value} (he : EqC P W2 W2 F F' n t cs ds) : EqC P X X G G' n t cs ds :=
  EqC.kept (h.bas _ hp).1 (h.bas _ hp).1 (fun k hk hlt => (h.bas _ hp).2 k hlt (h1 k hk)) (fun k hk hlt => (h.bas _ hp).2 k hlt (h2 k hk)) (fun k hk _ => h3 k hk) (fun k hk _ => h4 k hk) _ _ _ _ he
theorem Bx.box_later {b : Base} {X W2 : World} {l : List (Nat × List Value)} {p : Nat → Prop} (h : Bx b l X) (hp : (W2, p) ∈ b.bs) {C : Nat} {cs : List Value} (hC : p C) (hb : Box W2 C cs) : Box X C cs := by
  have he := (h.bas _ hp).2 C hb.lt hC
  exact ⟨fun j v hv => (World.cell?_of_block (a := ⟨C, 0 + j, none⟩) he).trans (hb.rng j v hv), fun o => (World.frozen?_of_block (a := ⟨C, o, none⟩) he).trans (hb.free o), Nat.lt_of_lt_of_le hb.lt (h.bas _ hp).1⟩
section
variable {P : Program} {N : Nat} {env : VEnv} {a : Act} {ops : Array Oper} {rest : List Oper} {Q : Exit → Act → World → Prop} {w : World} {w0 : Base} {l : List (Nat × List Value)} {d y x z : Nat} {ps : String} {af : Array Edge} {T t : TypeId}
theorem sv_run {op : Op} {v : Value} {w' : World} (hf : FrV N env a) (hd : d < N) (hrun : ∀ a : Act, FrV N env a → (execOp a.eval { dst := some d, op := op, type := y, pos := ps, after := af, guard := none }).run P w = .ok (.value v) w') (h : ∀ a', FrV N ((d, v) :: env) a' → wpList P ops Q rest a' w') : wpList P ops Q ({ dst := some d, op := op, type := y, pos := ps, after := af, guard := none } :: rest) a w :=
  wpList_ok rfl (hrun a hf) (h _ (hf.put hd v))
theorem sv_mv {v : Value} (hf : FrV N env a) (hx : env.lookup x = some v) (hd : d < N) (h : ∀ a', FrV N ((d, v) :: env) a' → wpList P ops Q rest a' w) : wpList P ops Q ({ dst := some d, op := .move (.tmp x), type := y, pos := ps, after := af, guard := none } :: rest) a w :=
  sv_run hf hd (fun a hf => by unfold execOp; simp only [hf.rel x v hx, Sem.run_pure]) h
theorem sv_as {v : Value} (hf : FrV N env a) (hx : env.lookup x = some v) (hd : d < N) (h : ∀ a', FrV N ((d, v) :: env) a' → wpList P ops Q rest a' w) : wpList P ops Q ({ dst := some d, op := .assign (.tmp x), type := y, pos := ps, after := af, guard := none } :: rest) a w :=
  sv_run hf hd (fun a hf => by unfold execOp; simp only [hf.rel x v hx, Sem.run_pure]) h
theorem sv_ac {v : Value} (hf : FrV N env a) (hd : d < N) (h : ∀ a', FrV N ((d, v) :: env) a' → wpList P ops Q rest a' w) : wpList P ops Q ({ dst := some d, op := .assign (.const v), type := y, pos := ps, after := af, guard := none } :: rest) a w :=
  sv_run hf hd (fun a hf => by unfold execOp; simp only [Sem.run_pure]; rfl) h
/-- the value of an operand -/
def ev (env : VEnv) : Operand → Option Value
  | .tmp t => env.lookup t
  | .const v => some v
  | .global g => some (.pointer (some ⟨g, 0, none⟩))
  | .func f => some (.func (.func f) #[] #[])
theorem FrV.ev {x : Operand} {v : Value} (hf : FrV N env a) (h : ev env x = some v) : a.eval x = v := by
  cases x with
  | tmp t => exact hf.rel t v h
  | const u => exact Option.some.inj h
  | global g => exact Option.some.inj h
  | func f => exact Option.some.inj h
theorem sv_pk {b : Bool} {p q : Operand} {v : Value} (hf : FrV N env a) (hx : env.lookup x = some (.bool b)) (hp : ev env (if b then p else q) = some v) (hd : d < N) (h : ∀ a', FrV N ((d, v) :: env) a' → wpList P ops Q rest a' w) : wpList P ops Q ({ dst := some d, op := .pick (.tmp x) p q, type := y, pos := ps, after := af, guard := none } :: rest) a w :=
  sv_run hf hd (fun a hf => by
    unfold execOp
    have hv := hf.ev hp
    cases b
    · simp only [hf.rel x _ hx, asBool, Sem.run_bind, Sem.run_pure, Result.andThen_ok]
      rw [show a.eval q = v from hv]; rfl
    · simp only [hf.rel x _ hx, asBool, Sem.run_bind, Sem.run_pure, Result.andThen_ok]
      rw [show a.eval p = v from hv]; rfl) h
theorem sv_fld {j b p : Nat} {fs : Array Field} {f : Field} (hf : FrV N env a) (hx : env.lookup x = some (.pointer (some ⟨b, p, none⟩))) (hu : P.underlying T = some (.struct fs)) (hj : fs[j]? = some f) (hs : ((P.info? f.type).map (·.size)).getD 0 ≠ 0) (off : Nat) (ho : p + f.offset = off) (hd : d < N) (h : ∀ a', FrV N ((d, .pointer (some ⟨b, off, none⟩)) :: env) a' → wpList P ops Q rest a' w) : wpList P ops Q ({ dst := some d, op := .fieldAddr T (.tmp x) j, type := y, pos := ps, after := af, guard := none } :: rest) a w := by
  subst ho
  exact sv_run hf hd (fun a hf => ex_field T (.tmp x) j b p fs f rfl (hf.rel x _ hx) hu hj hs) h
/-- a cell of a box -/
theorem sv_lc {b p : Nat} {cs : List Value} {v : Value} {td : TypeDesc} (hf : FrV N env a) (hB : Bx w0 l w) (hx : env.lookup x = some (.pointer (some ⟨b, p, none⟩))) (i : Nat) (hi : l[i]? = some (b, cs)) (hc : cs[p]? = some v) (hu : P.underlying t = some td) (hr : td.isRow = false) (hd : d < N) (h : ∀ a', FrV N ((d, v) :: env) a' → wpList P ops Q rest a' w) : wpList P ops Q ({ dst := some d, op := .load t (.tmp x), type := y, pos := ps, after := af, guard := none } :: rest) a w :=
  sv_run hf hd (fun a hf => ex_load_cell t (.tmp x) b p v td rfl (hf.rel x _ hx) ((hB.get hi).cell p v hc) hu hr) h
/-- a cell of whatever memory -/
theorem sv_lm {b p : Nat} {v : Value} {td : TypeDesc} (hf : FrV N env a) (hx : env.lookup x = some (.pointer (some ⟨b, p, none⟩))) (hc : w.cell? ⟨b, p, none⟩ = some v) (hu : P.underlying t = some td) (hr : td.isRow = false) (hd : d < N) (h : ∀ a', FrV N ((d, v) :: env) a' → wpList P ops Q rest a' w) : wpList P ops Q ({ dst := some d, op := .load t (.tmp x), type := y, pos := ps, after := af, guard := none } :: rest) a w :=
  sv_run hf hd (fun a hf => ex_load_cell t (.tmp x) b p v td rfl (hf.rel x _ hx) hc hu hr) h
/-- a whole box -/
theorem sv_lr {b : Nat} {cs : List Value} {fs : Array Field} (hf : FrV N env a) (hB : Bx w0 l w) (hx : env.lookup x = some (.pointer (some ⟨b, 0, none⟩))) (i : Nat) (hi : l[i]? = some (b, cs)) (hu : P.underlying t = some (.struct fs)) (hn : (P.info? t).map (·.size) = some cs.length) (hd : d < N) (h : ∀ a', FrV N ((d, .agg cs.toArray) :: env) a' → wpList P ops Q rest a' w) : wpList P ops Q ({ dst := some d, op := .load t (.tmp x), type := y, pos := ps, after := af, guard := none } :: rest) a w :=
  sv_run hf hd (fun a hf => ex_load_row t (.tmp x) b 0 cs (.struct fs) rfl (hf.rel x _ hx) (hB.get hi).rng hu rfl hn) h
theorem sv_sc {b p : Nat} {cs cs' : List Value} {v : Value} {z : Operand} (hf : FrV N env a) (hB : Bx w0 l w) (hx : env.lookup x = some (.pointer (some ⟨b, p, none⟩))) (hz : ev env z = some v) (i : Nat) (hi : l[i]? = some (b, cs)) (hp : p < cs.length) (hcs : cs.set p v = cs') (hn : (P.info? t).map (·.size) = some 1) (h1 : v.oneCell' = true) (l' : List (Nat × List Value)) (hl : l.set i (b, cs') = l') (h : ∀ w', Bx w0 l' w' → wpList P ops Q rest a w') : wpList P ops Q ({ dst := none, op := .store t (.tmp x) z, type := y, pos := ps, after := af, guard := none } :: rest) a w := by
  have hb := hB.get hi
  refine wpList_done rfl rfl (ex_store_cell t (.tmp x) z b p v rfl (hf.rel x _ hx) (hf.ev hz) (hb.there p 1 (by omega)) hn h1) (h _ ?_)
  subst hcs hl
  exact hB.set hi (hb.setCell p v hp) (Only.setCell w b p v)
theorem sv_sr {b : Nat} {cs vs : List Value} {z : Operand} (hf : FrV N env a) (hB : Bx w0 l w) (hx : env.lookup x = some (.pointer (some ⟨b, 0, none⟩))) (hz : ev env z = some (.agg vs.toArray)) (i : Nat) (hi : l[i]? = some (b, cs)) (hlen : vs.length = cs.length) (hn : (P.info? t).map (·.size) = some vs.length) (h1 : ∀ v ∈ vs, v.oneCell' = true) (l' : List (Nat × List Value)) (hl : l.set i (b, vs) = l') (h : ∀ w', Bx w0 l' w' → wpList P ops Q rest a w') : wpList P ops Q ({ dst := none, op := .store t (.tmp x) z, type := y, pos := ps, after := af, guard := none } :: rest) a w := by
  have hb := hB.get hi
  refine wpList_done rfl rfl (ex_store_row t (.tmp x) z b 0 vs rfl (hf.rel x _ hx) (hf.ev hz) (hb.there 0 vs.length (by omega)) hn h1) (h _ ?_)
  subst hl
  exact hB.set hi (hb.store hlen) (Only.setCells w b 0 vs hb.lt)
theorem sv_box {vs : List Value} (hf : FrV N env a) (hB : Bx w0 l w) (hx : env.lookup x = some (.agg vs.toArray)) (hd : d < N) (h : ∀ a' C w', C = w.heap.size → FrV N ((d, .pointer (some ⟨C, 0, none⟩)) :: env) a' → Bx w0 ((C, vs) :: l) w' → wpList P ops Q rest a' w') : wpList P ops Q ({ dst := some d, op := .box T (.tmp x), type := y, pos := ps, after := af, guard := none } :: rest) a w :=
  wpList_ok rfl (ex_box T (.tmp x) vs rfl (hf.rel x _ hx)) (h _ _ _ rfl (hf.put hd _) (hB.new vs T))
theorem sv_alloc {zs : List Value} (hf : FrV N env a) (hB : Bx w0 l w) (hz : (P.info? T).bind (·.zero) = some (.agg zs.toArray)) (hd : d < N) (h : ∀ a' C w', C = w.heap.size → FrV N ((d, .pointer (some ⟨C, 0, none⟩)) :: env) a' → Bx w0 ((C, zs) :: l) w' → wpList P ops Q rest a' w') : wpList P ops Q ({ dst := some d, op := .alloc T, type := y, pos := ps, after := af, guard := none } :: rest) a w := by
  obtain ⟨i, hi, hzz⟩ := Option.bind_eq_some_iff.1 hz
  exact wpList_ok rfl (ex_alloc T i zs rfl hi hzz) (h _ _ _ rfl (hf.put hd _) (hB.new zs T))
/-- comparisons of ints -/
def cmpI (op : BinOp) (m n : Int) : Option Bool := match op with
  | .eql => some (decide (m = n))
  | .neq => some (!decide (m = n))
  | .lss => some (decide (m < n))
  | .leq => some (decide (m ≤ n))
  | .gtr => some (decide (n < m))
  | .geq => some (decide (n ≤ m))
  | _ => none
theorem cmpI_run {op : BinOp} {m n : Int} {b : Bool} {xT : TypeId} {x z : Operand} (h : cmpI op m n = some b) (w : World) : (do eqGuard op xT x z (.int .i64 m) (.int .i64 n); binOp op xT (.int .i64 m) (.int .i64 n)).run P w = .ok (.bool b) w := by
  unfold cmpI at h
  split at h <;> first
    | (obtain rfl := Option.some.inj h; simp [go_sem]; done)
    | (obtain rfl := Option.some.inj h; simp [go_sem]; rw [Bool.eq_iff_iff]; simp; done)
    | (obtain rfl := Option.some.inj h; simp [go_sem]; rw [Bool.eq_iff_iff]; simp; omega)
    | cases h
theorem sv_cmp {op : BinOp} {xT zT : TypeId} {x z : Operand} {m n : Int} (hf : FrV N env a) (hx : ev env x = some (.int .i64 m)) (hz : ev env z = some (.int .i64 n)) (b : Bool) (hb : cmpI op m n = some b) (hd : d < N) (h : ∀ a', FrV N ((d, .bool b) :: env) a' → wpList P ops Q rest a' w) : wpList P ops Q ({ dst := some d, op := .binOp op xT x z zT, type := y, pos := ps, after := af, guard := none } :: rest) a w :=
  sv_run hf hd (fun a hf => by
    unfold execOp
    simp only [hf.ev hx, hf.ev hz]
    have := cmpI_run (P := P) (xT := xT) (x := x) (z := z) hb w
    simp only [Sem.run_bind] at this ⊢
    rw [this]
    rfl) h
theorem sv_not {b : Bool} {xT : TypeId} (hf : FrV N env a) (hx : env.lookup x = some (.bool b)) (hd : d < N) (h : ∀ a', FrV N ((d, .bool (!b)) :: env) a' → wpList P ops Q rest a' w) : wpList P ops Q ({ dst := some d, op := .unOp .not xT (.tmp x), type := y, pos := ps, after := af, guard := none } :: rest) a w :=
  sv_run hf hd (fun a hf => by
    unfold execOp
    simp only [hf.rel x _ hx]
    simp [go_sem]) h
def evs (env : VEnv) : List Operand → Option (List Value)
  | [] => some []
  | x :: xs => match ev env x, evs env xs with
    | some v, some vs => some (v :: vs)
    | _, _ => none
theorem FrV.evs (hf : FrV N env a) : ∀ {xs : List Operand} {vs : List Value}, evs env xs = some vs → xs.map a.eval = vs
  | [], vs, h => by obtain rfl := Option.some.inj h; rfl
  | x :: xs, vs, h => by
    unfold Proofs.Ytfpgklhbghahoaa.evs at h
    split at h
    · rename_i v us hv hus
      obtain rfl := Option.some.inj h
      rw [List.map_cons, hf.ev hv, hf.evs hus]
    · cases h
theorem sv_call {g : FuncId} {xs : List Operand} {vs : List Value} {ts : Array TypeId} {R : Ending → World → Prop} (hf : FrV N env a) (hF : FnOK P g) (hx : evs env xs = some vs) (hc : Calls P g vs.toArray w R) (hd : d < N) (h : ∀ e w', R e w' → ∃ v, e = .returned v ∧ ∀ a', FrV N ((d, v) :: env) a' → wpList P ops Q rest a' w') : wpList P ops Q ({ dst := some d, op := .call { callee := .value (.func g), args := xs.toArray, argTypes := ts }, type := y, pos := ps, after := af, guard := none } :: rest) a w := by
  refine wpList_calls hF rfl rfl (R := R) (by rw [List.map_toArray, hf.evs hx]; exact hc) (fun e w' hr => ?_)
  obtain ⟨v, rfl, hv⟩ := h e w' hr
  exact ⟨v, rfl, hv _ (hf.put hd v)⟩
theorem sv_len {e : TypeId} {ad : Option Addr} {n c : Nat} (hf : FrV N env a) (hx : env.lookup x = some (.slice ad n c)) (hu : P.underlying t = some (.slice e)) (hd : d < N) (h : ∀ a', FrV N ((d, .int .i64 n) :: env) a' → wpList P ops Q rest a' w) : wpList P ops Q ({ dst := some d, op := .call { callee := .builtin .len, args := #[.tmp x], argTypes := #[t] }, type := y, pos := ps, after := af, guard := none } :: rest) a w :=
  sv_run hf hd (fun a hf => by
    have hel : P.underlying t = some (.slice (P.elem t)) := by simp [Program.elem, hu]
    unfold execOp
    simp only [resolve, invoke, builtin, Sem.run_bind, Sem.run_pure, Result.andThen_ok, List.map_toArray, List.map_cons, List.map_nil, hf.rel x _ hx, run_len_slice w t _ ad n c hel]
    rfl) h
theorem sv_idx {e : TypeId} {B o n c q k : Nat} (hf : FrV N env a) {z : Operand} (hx : env.lookup x = some (.slice (some ⟨B, o, none⟩) n c)) (hz : ev env z = some (.int .i64 (q : Int))) (hq : q < n) (hu : P.underlying t = some (.slice e)) (hk : (P.info? e).map (·.size) = some k) (hd : d < N) (h : ∀ a', FrV N ((d, .pointer (some ⟨B, o + q * k, none⟩)) :: env) a' → wpList P ops Q rest a' w) : wpList P ops Q ({ dst := some d, op := .indexAddr t (.tmp x) z, type := y, pos := ps, after := af, guard := none } :: rest) a w :=
  sv_run hf hd (fun a hf => by
    have hel : P.underlying t = some (.slice (P.elem t)) := by simp [Program.elem, hu]
    have hee : P.elem t = e := by simp [Program.elem, hu]
    have hsize : (sizeOf (P.elem t)).run P w = .ok k w := by
      rw [hee]
      cases hq : P.info? e with
      | none => simp [hq] at hk
      | some inf =>
        have : inf.size = k := by simpa [hq] using hk
        simp [sizeOf, typeInfo, hq, this]
    unfold execOp
    simp only [hf.rel x _ hx, hf.ev hz, Sem.run_bind, run_indexAt_slice w t ⟨B, o, none⟩ n c .i64 q hel]
    rw [if_pos ⟨by omega, by omega⟩, hsize]
    simp only [Result.andThen_ok, Int.toNat_natCast, Addr.add_mid, Sem.run_pure]) h
def evp (env : VEnv) : List (Nat × Operand) → Option (List (Nat × Value))
  | [] => some []
  | (i, x) :: xs => match ev env x, evp env xs with
    | some v, some vs => some ((i, v) :: vs)
    | _, _ => none
theorem FrV.evp (hf : FrV N env a) : ∀ {xs : List (Nat × Operand)} {vs : List (Nat × Value)}, evp env xs = some vs → xs.map (fun p => (p.1, a.eval p.2)) = vs
  | [], vs, h => by obtain rfl := Option.some.inj h; rfl
  | (i, x) :: xs, vs, h => by
    unfold Proofs.Ytfpgklhbghahoaa.evp at h
    split at h
    · rename_i v us hv hus
      obtain rfl := Option.some.inj h
      rw [List.map_cons, hf.ev hv, hf.evp hus]
    · cases h
theorem sv_build {xs : List (Nat × Operand)} {vs : List (Nat × Value)} {cs : List Value} (hf : FrV N env a) (hx : evp env xs = some vs) (hb : P.built T vs = some cs.toArray) (hd : d < N) (h : ∀ a', FrV N ((d, .agg cs.toArray) :: env) a' → wpList P ops Q rest a' w) : wpList P ops Q ({ dst := some d, op := .build T xs.toArray, type := y, pos := ps, after := af, guard := none } :: rest) a w :=
  sv_run hf hd (fun a hf => by
    have he : (xs.toArray.map fun (i, x) => (i, a.eval x)) = vs.toArray := by
      rw [List.map_toArray]
      exact congrArg List.toArray (hf.evp hx)
    unfold execOp
    simp only [he, Sem.run_bind, run_build w T _ cs.toArray (by simpa using hb), Result.andThen_ok, Sem.run_pure]) h
theorem sv_ext {j : Nat} {vs : Array Value} {v : Value} (hf : FrV N env a) (hx : env.lookup x = some (.tuple vs)) (hj : vs[j]? = some v) (hd : d < N) (h : ∀ a', FrV N ((d, v) :: env) a' → wpList P ops Q rest a' w) : wpList P ops Q ({ dst := some d, op := .extract (.tmp x) j, type := y, pos := ps, after := af, guard := none } :: rest) a w :=
  sv_run hf hd (fun a hf => by
    unfold execOp
    simp [hf.rel x _ hx, Instr.extract, hj]) h
/-- a guard that is known -/
def gv (ops : Array Oper) (env : VEnv) (j : Nat) : Option Value := match ops[j]? with
  | some o => match o.dst with
    | some d => env.lookup d
    | none => none
  | none => none
theorem wanted_of {o : Oper} {j : Nat} {b b' : Bool} (hf : FrV N env a) (hN : ∀ d o', ops[j]? = some o' → o'.dst = some d → d < N) (hg : o.guard = some (j, b)) (h : gv ops env j = some (.bool b')) : Region.wanted o (yielded ops a.tmps) = (b' == b) := by
  unfold gv at h
  split at h
  · rename_i o' ho
    split at h
    · rename_i d hd
      have hv := hf.rel d _ h
      have hdN := hN d o' ho hd
      have h1 : a.tmps.getD d undef = .bool b' := hv
      have h2 : d < a.tmps.size := by rw [hf.size]; exact hdN
      have h3 : a.tmps[d]? = some (.bool b') := by
        rw [Array.getElem?_eq_getElem h2]
        simp [h2] at h1
        rw [h1]
      unfold Region.wanted
      rw [hg]
      unfold yielded
      simp only [ho, hd, Option.bind_some, h3]
      cases b <;> cases b' <;> rfl
    · cases h
  · cases h
def dstB (ops : Array Oper) (j N : Nat) : Bool := match ops[j]? with
  | some o => match o.dst with
    | some d => decide (d < N)
    | none => true
  | none => true
theorem dstB_spec {j : Nat} (h : dstB ops j N = true) : ∀ d o', ops[j]? = some o' → o'.dst = some d → d < N := by
  intro d o' ho hd
  unfold dstB at h
  simp only [ho, hd] at h
  simpa using h
theorem sv_want {dst : Option Nat} {op : Op} {j : Nat} {b : Bool} (hf : FrV N env a) (hN : dstB ops j N = true) (h : gv ops env j = some (.bool b)) (hk : wpList P ops Q ({ dst := dst, op := op, type := y, pos := ps, after := af, guard := none } :: rest) a w) : wpList P ops Q ({ dst := dst, op := op, type := y, pos := ps, after := af, guard := some (j, b) } :: rest) a w := by
  have hw := wanted_of (o := { dst := dst, op := op, type := y, pos := ps, after := af, guard := some (j, b) }) hf (dstB_spec hN) rfl h
  unfold wpList at hk ⊢
  rw [if_pos (by rw [hw]; simp)]
  rw [if_pos (by rfl)] at hk
  exact hk
theorem sv_skip {op : Op} {j : Nat} {b b' : Bool} (hf : FrV N env a) (hN : dstB ops j N = true) (h : gv ops env j = some (.bool b')) (hb : b' ≠ b) (hn : env.lookup d = none) (hk : ∀ a', FrV N env a' → wpList P ops Q rest a' w) : wpList P ops Q ({ dst := some d, op := op, type := y, pos := ps, after := af, guard := some (j, b) } :: rest) a w := by
  have hw := wanted_of (o := { dst := some d, op := op, type := y, pos := ps, after := af, guard := some (j, b) }) hf (dstB_spec hN) rfl h
  unfold wpList
  rw [if_neg (by rw [hw]; simpa using hb)]
  exact hk _ (hf.drop hn undef)
theorem sv_nil (hf : FrV N env a) (h : Q .normal a w) : wpList P ops Q [] a w := wpList_nil h
/-- two ways that meet -/
theorem wp_meet {u v : Code} (J : Act → World → Prop) (hu : ∀ K : Act → World → Prop, (∀ a w, J a w → K a w) → u.wp P (Exit.then K Q) a w) (hv : ∀ a w, J a w → v.wp P Q a w) : (Code.seq u v).wp P Q a w := wp_seq (hu _ hv)
theorem calls_frv {g : FuncId} {fn : Func} {k : Code} {vs : List Value} {R : Ending → World → Prop} (env : VEnv) (hf : P.funcs[g]? = some fn) (hb : fn.body = some k) (hN : fn.ntmps = N) (hvs : vs.length ≤ N) (henv : ∀ p ∈ env, vs[p.1]? = some p.2)
    (h : ∀ a : Act, FrV N env a → k.wp P (bodyPost P fn R) a w) : Calls P g vs.toArray w R := by
  refine calls_of_wp hf hb (h _ ⟨by simp [hN]; omega, rfl, fun t v hl => ?_⟩)
  have hm : (t, v) ∈ env := by
    clear henv h
    induction env with
    | nil => cases hl
    | cons p env ih =>
      obtain ⟨k, u⟩ := p
      by_cases e : t = k
      · subst e
        simp [List.lookup] at hl
        subst hl
        exact List.mem_cons_self
      · have hb : (t == k) = false := by simpa using e
        simp only [List.lookup, hb] at hl
        exact List.mem_cons_of_mem _ (ih hl)
  have h1 := henv _ hm
  have h2 : t < vs.length := (List.getElem?_eq_some_iff.1 h1).1
  have h3 : vs[t] = v := (List.getElem?_eq_some_iff.1 h1).2
  simp [Act.eval, Array.getElem?_append, h2, h3]
end
end Go.Proofs.Ytfpgklhbghahoaa
/- Drawn regions in an order of one's own (wp_region_ord, wp_region_ordW, wp_region_tree). -/
namespace Go.Proofs.Ytfpgklhbghahoaa
open Go.ChangeShapes Go.WideShapes Go.ChangeAt Go.RowKit Go.Deep
set_option linter.unusedVariables false
set_option linter.unusedSimpArgs false
section
variable {P : Program} {ops : Array Oper} {md : Region.Mode} {Q : Exit → Act → World → Prop} {S : World → Prop}
def Before (c : Nat) (S : World → Prop) (listed : Array Bool) (w : World) : Prop := listed.getD c false = false → S w
def wpAnyT (P : Program) (md : Region.Mode) (ops : Array Oper) (Q : Exit → Act → World → Prop) (S : World → Prop) (n c : Nat) (L : Array Bool → Act → World → Prop) : Nat → Array Bool → Act → World → Prop
  | 0, listed, a, w => L listed a w
  | f + 1, listed, a, w =>
    Region.ready md ops listed ≠ [] ∧ ∀ i ∈ Region.ready md ops listed, i < n ∧ wpOp P ops Q i (fun a' w' => Before c S (listed.setIfInBounds i true) w' ∧ wpAnyT P md ops Q S n c L f (listed.setIfInBounds i true) a' w') a w
theorem wpAny_of_T {n c g : Nat} {L : Array Bool → Act → World → Prop} (hL : ∀ listed a w, L listed a w → wpAny P md ops Q g listed a w) :
    ∀ (f : Nat) (listed : Array Bool) (a : Act) (w : World), wpAnyT P md ops Q S n c L f listed a w → wpAny P md ops Q (f + g) listed a w
  | 0, listed, a, w, h => by rw [Nat.zero_add]; exact hL _ _ _ h
  | f + 1, listed, a, w, h => by
    rw [show f + 1 + g = (f + g) + 1 by omega]
    exact ⟨fun h0 => absurd h0 h.1, fun i hi => wpOp_mono (fun a' w' h' => wpAny_of_T hL f _ a' w' h'.2) (h.2 i hi).2⟩
theorem set_other {listed : Array Bool} {i c : Nat} (h : (listed.setIfInBounds i true).getD c false = false) : listed.getD c false = false := by
  cases hl : listed.getD c false with
  | false => rfl
  | true => rw [getD_set_true hl] at h; cases h
theorem wpAnyT_first {n c i : Nat} {oi : Oper} {v : Value} {Sx : World → Prop} {L : Array Bool → Act → World → Prop} (hi : ops[i]? = some oi) (hsel : ∀ (j : Nat) (o : Oper) cs b, ops[j]? = some o → o.op ≠ .select cs b)
    (hQ : ∀ c (a : Act) (d : Option Tmp) (v : Value) w, Q (.panic c) (a.put d v) w → Q (.panic c) a w)
    (hs : Region.sinkB md ops n = true) (hc : Region.chainB md ops n = true) (hn : n < ops.size) (hin : i < n) (hic : i ≠ c)
    (hSx : ∀ listed w, HeadInv md ops n listed → listed.getD i true = false → Before c S listed w → Sx w)
    (hdone : ∀ listed a w, L listed a w → ∀ j ∈ Region.ready md ops listed, n ≤ j) :
    ∀ (f : Nat) (listed : Array Bool) (a : Act) (w : World), HeadInv md ops n listed →
      (∀ j oj, ops[j]? = some oj → j ≠ i → listed.getD j true = false → (∀ e ∈ oj.after, Region.binds md e = true → e.on ≠ i) → oi.apart ops oj = true) →
      i ∈ Region.ready md ops listed → YieldsIf P ops Sx oi v a → Before c S listed w →
      wpAnyT P md ops Q S n c L f (listed.setIfInBounds i true) (a.put oi.dst v) w → wpAnyT P md ops Q S n c L (f + 1) listed a w := by
  intro f
  induction f with
  | zero =>
    intro listed a w inv _ hr hy hS H
    have hun := (mem_ready.1 hr).1
    refine ⟨fun h => (by rw [h] at hr; cases hr), fun j hj => ?_⟩
    have hjn : j < n := by
      rcases Nat.lt_or_ge j n with h | h
      · exact h
      · exact absurd hj (tail_waits hs hc hn inv _ i rfl hin hun j h)
    refine ⟨hjn, ?_⟩
    by_cases hji : j = i
    · subst hji; exact hy.wpOp hi (hSx _ _ inv hun hS) ⟨fun h => hS (set_other h), H⟩
    · have := hdone _ _ _ H j (ready_mono hj hji)
      omega
  | succ f ih =>
    intro listed a w inv hfree hr hy hS H
    have hun := (mem_ready.1 hr).1
    refine ⟨fun h => (by rw [h] at hr; cases hr), fun j hj => ?_⟩
    have hjn : j < n := by
      rcases Nat.lt_or_ge j n with h | h
      · exact h
      · exact absurd hj (tail_waits hs hc hn inv _ i rfl hin hun j h)
    refine ⟨hjn, ?_⟩
    by_cases hji : j = i
    · subst hji; exact hy.wpOp hi (hSx _ _ inv hun hS) ⟨fun h => hS (set_other h), H⟩
    · have h1 := (H.2 j (ready_mono hj hji)).2
      obtain ⟨hjun, oj, hoj, hall⟩ := mem_ready.1 hj
      have hnot : ∀ e ∈ oj.after, Region.binds md e = true → e.on ≠ i := fun e he hb heq => by
        have h1 := hall e he hb
        rw [heq, getD_both hun] at h1
        cases h1
      have h2 := wpOp_putIf hoj (hfree j oj hoj hji hjun hnot) (fun cs b => hsel i oi cs b hi) (fun cs b => hsel j oj cs b hoj) (fun c a w => hQ c a _ _ w) hy h1
      have hfree' : ∀ k ok, ops[k]? = some ok → k ≠ i → (listed.setIfInBounds j true).getD k true = false →
          (∀ e ∈ ok.after, Region.binds md e = true → e.on ≠ i) → oi.apart ops ok = true := fun k ok hk hki hun hno => by
        refine hfree k ok hk hki ?_ hno
        by_cases hjk : j = k
        · subst hjk; exact hjun
        · rw [getD_set_ne true hjk] at hun; exact hun
      refine wpOp_mono (fun a' w' h3 => ?_) h2
      obtain ⟨hy3, hS3, h3⟩ := h3
      rw [Array.setIfInBounds_comm _ _ (Ne.symm hji)] at hS3 h3
      have hS4 : Before c S (listed.setIfInBounds j true) w' := fun h => by
        refine hS3 ?_
        rw [getD_set_ne false hic]; exact h
      exact ⟨hS4, ih (listed.setIfInBounds j true) a' w' (inv.set hj hjn) hfree' (ready_mono hr (Ne.symm hji)) hy3 hS4 h3⟩
/-- operation c waits for i, by way of others -/
def Region.anc (md : Region.Mode) (ops : Array Oper) (c : Nat) : Nat → Nat → Bool
  | 0, i => Region.waitsFor md ops c i
  | f + 1, i => Region.waitsFor md ops c i || (List.range c).any fun j => Region.waitsFor md ops j i && Region.anc md ops c f j
theorem anc_listed {n c : Nat} {listed : Array Bool} (inv : HeadInv md ops n listed) : ∀ (f i : Nat), Region.anc md ops c f i = true → listed.getD c false = true → listed.getD i false = true
  | 0, i, h, hc => by
    obtain ⟨oj, hj, e, he, hb, ho⟩ := Region.waitsFor_spec h
    rw [← ho]
    exact inv.closed c oj hj hc e he hb
  | f + 1, i, h, hc => by
    simp only [Region.anc, Bool.or_eq_true] at h
    rcases h with h | h
    · obtain ⟨oj, hj, e, he, hb, ho⟩ := Region.waitsFor_spec h
      rw [← ho]
      exact inv.closed c oj hj hc e he hb
    · obtain ⟨j, _, h⟩ := List.any_eq_true.1 h
      simp only [Bool.and_eq_true] at h
      have hl := anc_listed inv f j h.2 hc
      obtain ⟨oj, hj, e, he, hb, ho⟩ := Region.waitsFor_spec h.1
      rw [← ho]
      exact inv.closed j oj hj hl e he hb
/-- kinds: 0 a value in whatever world; 1 a value in every world that meets S; 2 an effect ahead of c; 3 c, or an effect behind it -/
def KindS (S : World → Prop) : Nat → World → Prop
  | 1 => S
  | _ => fun _ => True
def wpOrd (P : Program) (ops : Array Oper) (Q : Exit → Act → World → Prop) (S : World → Prop) (R : Act → World → Prop) : List (Nat × Nat) → Act → World → Prop
  | [], a, w => R a w
  | (i, 0) :: rest, a, w => ∃ oi v, ops[i]? = some oi ∧ YieldsIf P ops (KindS S 0) oi v a ∧ wpOrd P ops Q S R rest (a.put oi.dst v) w
  | (i, 1) :: rest, a, w => ∃ oi v, ops[i]? = some oi ∧ YieldsIf P ops (KindS S 1) oi v a ∧ wpOrd P ops Q S R rest (a.put oi.dst v) w
  | (i, 2) :: rest, a, w => wpOp P ops Q i (fun a' w' => S w' ∧ wpOrd P ops Q S R rest a' w') a w
  | (i, _) :: rest, a, w => wpOp P ops Q i (fun a' w' => wpOrd P ops Q S R rest a' w') a w
def Region.ordB (md : Region.Mode) (ops : Array Oper) (n c g : Nat) : List (Nat × Nat) → Array Bool → Bool
  | [], listed => Region.seqB md ops g n listed
  | (i, 0) :: rest, listed => (Region.ready md ops listed).contains i && Region.free md ops listed i && decide (i < n) && decide (i ≠ c) && Region.ordB md ops n c g rest (listed.setIfInBounds i true)
  | (i, 1) :: rest, listed => (Region.ready md ops listed).contains i && Region.free md ops listed i && decide (i < n) && decide (i ≠ c) && Region.anc md ops c 6 i && Region.ordB md ops n c g rest (listed.setIfInBounds i true)
  | (i, 2) :: rest, listed => decide (Region.ready md ops listed = [i]) && decide (i < n) && Region.ordB md ops n c g rest (listed.setIfInBounds i true)
  | (i, _) :: rest, listed => decide (Region.ready md ops listed = [i]) && decide (i < n) && (listed.setIfInBounds i true).getD c false && Region.ordB md ops n c g rest (listed.setIfInBounds i true)
def Region.regB (md : Region.Mode) (ops : Array Oper) (n c : Nat) (ord : List (Nat × Nat)) : Bool :=
  Region.noSelect ops && decide (n < ops.size) && decide (ord.length = n) && Region.sinkB md ops n && Region.chainB md ops n && Region.ordB md ops n c (ops.size - n) ord (Array.replicate ops.size false)
theorem wpAnyT_ord {n c g : Nat} {R : Act → World → Prop} (hsel : Region.noSelect ops = true) (hQ : ∀ c (a : Act) (d : Option Tmp) (v : Value) w, Q (.panic c) (a.put d v) w → Q (.panic c) a w)
    (hs : Region.sinkB md ops n = true) (hc : Region.chainB md ops n = true) (hn : n < ops.size) :
    ∀ (l : List (Nat × Nat)) (listed : Array Bool) (a : Act) (w : World), HeadInv md ops n listed → Before c S listed w →
    Region.ordB md ops n c g l listed = true → wpOrd P ops Q S R l a w →
    wpAnyT P md ops Q S n c (fun listed' a' w' => Region.seqB md ops g n listed' = true ∧ R a' w') l.length listed a w
  | [], listed, a, w, inv, hS, hB, h => ⟨hB, h⟩
  | (i, 0) :: l, listed, a, w, inv, hS, hB, h => by
    simp only [Region.ordB, Bool.and_eq_true, decide_eq_true_eq] at hB
    obtain ⟨⟨⟨⟨hr, hf⟩, hin⟩, hic⟩, hB'⟩ := hB
    have hr' : i ∈ Region.ready md ops listed := by simpa using hr
    obtain ⟨oi, v, h0, hy, hK⟩ := h
    exact wpAnyT_first h0 (Region.noSelect_spec hsel) hQ hs hc hn hin hic (fun _ _ _ _ _ => trivial) (fun listed' a' w' hL => seqB_ready hL.1) l.length listed a w inv (Region.free_spec h0 hf) hr' hy hS
      (wpAnyT_ord hsel hQ hs hc hn l _ _ _ (inv.set hr' hin) (fun h => hS (set_other h)) hB' hK)
  | (i, 1) :: l, listed, a, w, inv, hS, hB, h => by
    simp only [Region.ordB, Bool.and_eq_true, decide_eq_true_eq] at hB
    obtain ⟨⟨⟨⟨⟨hr, hf⟩, hin⟩, hic⟩, hanc⟩, hB'⟩ := hB
    have hr' : i ∈ Region.ready md ops listed := by simpa using hr
    obtain ⟨oi, v, h0, hy, hK⟩ := h
    exact wpAnyT_first h0 (Region.noSelect_spec hsel) hQ hs hc hn hin hic (fun listed w inv hun hb => hb (by
        cases hl : listed.getD c false with
        | false => rfl
        | true => have := anc_listed inv 6 i hanc hl; rw [getD_both hun] at this; cases this)) (fun listed' a' w' hL => seqB_ready hL.1) l.length listed a w inv (Region.free_spec h0 hf) hr' hy hS
      (wpAnyT_ord hsel hQ hs hc hn l _ _ _ (inv.set hr' hin) (fun h => hS (set_other h)) hB' hK)
  | (i, 2) :: l, listed, a, w, inv, hS, hB, h => by
    simp only [Region.ordB, Bool.and_eq_true, decide_eq_true_eq] at hB
    obtain ⟨⟨hr, hin⟩, hB'⟩ := hB
    refine ⟨fun h0 => (by rw [hr] at h0; cases h0), fun j hj => ?_⟩
    have hj' := hj
    rw [hr] at hj
    have hji : j = i := by simpa using hj
    subst hji
    have h1 : wpOp P ops Q j (fun a' w' => S w' ∧ wpOrd P ops Q S R l a' w') a w := h
    exact ⟨hin, wpOp_mono (fun a' w' h2 => ⟨fun _ => h2.1, wpAnyT_ord hsel hQ hs hc hn l _ _ _ (inv.set hj' hin) (fun _ => h2.1) hB' h2.2⟩) h1⟩
  | (i, k + 3) :: l, listed, a, w, inv, hS, hB, h => by
    simp only [Region.ordB, Bool.and_eq_true, decide_eq_true_eq] at hB
    obtain ⟨⟨⟨hr, hin⟩, hcl⟩, hB'⟩ := hB
    refine ⟨fun h0 => (by rw [hr] at h0; cases h0), fun j hj => ?_⟩
    have hj' := hj
    rw [hr] at hj
    have hji : j = i := by simpa using hj
    subst hji
    have h1 : wpOp P ops Q j (fun a' w' => wpOrd P ops Q S R l a' w') a w := h
    have hno : ∀ w', Before c S (listed.setIfInBounds j true) w' := fun w' h => by rw [hcl] at h; cases h
    exact ⟨hin, wpOp_mono (fun a' w' h2 => ⟨hno w', wpAnyT_ord hsel hQ hs hc hn l _ _ _ (inv.set hj' hin) (hno w') hB' h2⟩) h1⟩
theorem wp_region_ord {id : Nat} {a : Act} {w : World} {l : List Oper} (n c : Nat) (ord : List (Nat × Nat)) (S : World → Prop) (hm : P.follows .mixedOrders = true) (hB : Region.regB .any l.toArray n c ord = true) (hS : S w.drew)
    (hQ : ∀ c (a : Act) (d : Option Tmp) (v : Value) w, Q (.panic c) (a.put d v) w → Q (.panic c) a w)
    (h : wpOrd P l.toArray Q S (fun a' w' => wpList P l.toArray Q (l.drop n) a' w') ord a w.drew) : (Code.region id l.toArray true).wp P Q a w := by
  simp only [Region.regB, Bool.and_eq_true, decide_eq_true_eq] at hB
  obtain ⟨⟨⟨⟨⟨hsel, hn⟩, hol⟩, hs⟩, hc⟩, hlex⟩ := hB
  have hn' : n < l.length := by simpa using hn
  have hdl : (l.drop n).length = l.toArray.size - n := by simp
  have inv0 : HeadInv .any l.toArray n (Array.replicate l.toArray.size false) :=
    ⟨by simp, fun j oj _ hl => (by rw [getD_replicate_false] at hl; cases hl), fun t _ ht => getD_in (by simpa using ht) (getD_replicate_false _ _)⟩
  have H := wpAnyT_ord (md := .any) (g := l.toArray.size - n) hsel hQ hs hc hn ord _ a _ inv0 (fun _ => hS) hlex h
  refine wp_region_any hm ?_
  have := wpAny_of_T (g := l.toArray.size - n) (fun listed a' w' hL => by
    have := wpAny_of_seq (md := .any) (Q' := Q) (l.drop n) n listed a' w' (fun j => by simp [List.getElem?_drop]) (by rw [hdl]; exact hL.1) hL.2
    rwa [hdl] at this) _ _ _ _ H
  rw [hol, show n + (l.toArray.size - n) = l.toArray.size by omega] at this
  exact this
theorem wpOrd_read0 {R : Act → World → Prop} {i : Nat} {rest : List (Nat × Nat)} {a : Act} {w : World} {oi : Oper} (v : Value) (hi : ops[i]? = some oi) (hw : Region.wanted oi (yielded ops a.tmps) = true) (hy : ∀ w, (execOp a.eval oi).run P w = .ok (.value v) w)
    (h : ∀ K : Act → World → Prop, (∀ a w, wpOrd P ops Q S R rest a w → K a w) → K (a.put oi.dst v) w) : wpOrd P ops Q S R ((i, 0) :: rest) a w :=
  ⟨oi, v, hi, .inl ⟨hw, fun w _ => hy w⟩, h _ (fun _ _ h => h)⟩
theorem wpOrd_read1 {R : Act → World → Prop} {i : Nat} {rest : List (Nat × Nat)} {a : Act} {w : World} {oi : Oper} (v : Value) (hi : ops[i]? = some oi) (hw : Region.wanted oi (yielded ops a.tmps) = true) (hy : ∀ w, S w → (execOp a.eval oi).run P w = .ok (.value v) w)
    (h : ∀ K : Act → World → Prop, (∀ a w, wpOrd P ops Q S R rest a w → K a w) → K (a.put oi.dst v) w) : wpOrd P ops Q S R ((i, 1) :: rest) a w :=
  ⟨oi, v, hi, .inl ⟨hw, hy⟩, h _ (fun _ _ h => h)⟩
theorem wpOrd_eff2 {R : Act → World → Prop} {i : Nat} {rest : List (Nat × Nat)} {a : Act} {w : World} {oi : Oper} (hi : ops[i]? = some oi) (hw : Region.wanted oi (yielded ops a.tmps) = true)
    (h : ∀ K : Act → World → Prop, (∀ a w, S w → wpOrd P ops Q S R rest a w → K a w) → oi.wp P a w K Q) : wpOrd P ops Q S R ((i, 2) :: rest) a w := by
  show wpOp P ops Q i _ a w
  unfold wpOp
  simp only [hi, hw, if_true]
  exact .inl (h _ (fun _ _ h1 h2 => ⟨h1, h2⟩))
theorem wpOrd_eff3 {R : Act → World → Prop} {i : Nat} {rest : List (Nat × Nat)} {a : Act} {w : World} {oi : Oper} (hi : ops[i]? = some oi) (hw : Region.wanted oi (yielded ops a.tmps) = true)
    (h : ∀ K : Act → World → Prop, (∀ a w, wpOrd P ops Q S R rest a w → K a w) → oi.wp P a w K Q) : wpOrd P ops Q S R ((i, 3) :: rest) a w := by
  show wpOp P ops Q i _ a w
  unfold wpOp
  simp only [hi, hw, if_true]
  exact .inl (h _ (fun _ _ h => h))
theorem wpOrd_nil {R : Act → World → Prop} {a : Act} {w : World} (h : R a w) : wpOrd P ops Q S R [] a w := h
end
section
variable {P : Program} {ops : Array Oper} {md : Region.Mode} {Q : Exit → Act → World → Prop} {S : World → Prop}
theorem wpAnyT_firstW {n c i : Nat} {oi : Oper} {v : Value} {Sx : World → Prop} {L : Array Bool → Act → World → Prop} (hi : ops[i]? = some oi) (hsel : ∀ (j : Nat) (o : Oper) cs b, ops[j]? = some o → o.op ≠ .select cs b)
    (hQ : ∀ c (a : Act) (d : Option Tmp) (v : Value) w, Q (.panic c) (a.put d v) w → Q (.panic c) a w)
    (hn : n = ops.size) (hin : i < n) (hic : i ≠ c)
    (hSx : ∀ listed w, HeadInv md ops n listed → listed.getD i true = false → Before c S listed w → Sx w)
    (hdone : ∀ listed a w, L listed a w → ∀ j ∈ Region.ready md ops listed, n ≤ j) :
    ∀ (f : Nat) (listed : Array Bool) (a : Act) (w : World), HeadInv md ops n listed →
      (∀ j oj, ops[j]? = some oj → j ≠ i → listed.getD j true = false → (∀ e ∈ oj.after, Region.binds md e = true → e.on ≠ i) → oi.apart ops oj = true) →
      i ∈ Region.ready md ops listed → YieldsIf P ops Sx oi v a → Before c S listed w →
      wpAnyT P md ops Q S n c L f (listed.setIfInBounds i true) (a.put oi.dst v) w → wpAnyT P md ops Q S n c L (f + 1) listed a w := by
  intro f
  induction f with
  | zero =>
    intro listed a w inv _ hr hy hS H
    have hun := (mem_ready.1 hr).1
    refine ⟨fun h => (by rw [h] at hr; cases hr), fun j hj => ?_⟩
    have hjn : j < n := by
      obtain ⟨_, oj, hoj, _⟩ := mem_ready.1 hj
      have := (Array.getElem?_eq_some_iff.1 hoj).1
      omega
    refine ⟨hjn, ?_⟩
    by_cases hji : j = i
    · subst hji; exact hy.wpOp hi (hSx _ _ inv hun hS) ⟨fun h => hS (set_other h), H⟩
    · have := hdone _ _ _ H j (ready_mono hj hji)
      omega
  | succ f ih =>
    intro listed a w inv hfree hr hy hS H
    have hun := (mem_ready.1 hr).1
    refine ⟨fun h => (by rw [h] at hr; cases hr), fun j hj => ?_⟩
    have hjn : j < n := by
      obtain ⟨_, oj, hoj, _⟩ := mem_ready.1 hj
      have := (Array.getElem?_eq_some_iff.1 hoj).1
      omega
    refine ⟨hjn, ?_⟩
    by_cases hji : j = i
    · subst hji; exact hy.wpOp hi (hSx _ _ inv hun hS) ⟨fun h => hS (set_other h), H⟩
    · have h1 := (H.2 j (ready_mono hj hji)).2
      obtain ⟨hjun, oj, hoj, hall⟩ := mem_ready.1 hj
      have hnot : ∀ e ∈ oj.after, Region.binds md e = true → e.on ≠ i := fun e he hb heq => by
        have h1 := hall e he hb
        rw [heq, getD_both hun] at h1
        cases h1
      have h2 := wpOp_putIf hoj (hfree j oj hoj hji hjun hnot) (fun cs b => hsel i oi cs b hi) (fun cs b => hsel j oj cs b hoj) (fun c a w => hQ c a _ _ w) hy h1
      have hfree' : ∀ k ok, ops[k]? = some ok → k ≠ i → (listed.setIfInBounds j true).getD k true = false →
          (∀ e ∈ ok.after, Region.binds md e = true → e.on ≠ i) → oi.apart ops ok = true := fun k ok hk hki hun hno => by
        refine hfree k ok hk hki ?_ hno
        by_cases hjk : j = k
        · subst hjk; exact hjun
        · rw [getD_set_ne true hjk] at hun; exact hun
      refine wpOp_mono (fun a' w' h3 => ?_) h2
      obtain ⟨hy3, hS3, h3⟩ := h3
      rw [Array.setIfInBounds_comm _ _ (Ne.symm hji)] at hS3 h3
      have hS4 : Before c S (listed.setIfInBounds j true) w' := fun h => by
        refine hS3 ?_
        rw [getD_set_ne false hic]; exact h
      exact ⟨hS4, ih (listed.setIfInBounds j true) a' w' (inv.set hj hjn) hfree' (ready_mono hr (Ne.symm hji)) hy3 hS4 h3⟩
def Region.regWB (md : Region.Mode) (ops : Array Oper) (n c : Nat) (ord : List (Nat × Nat)) : Bool :=
  Region.noSelect ops && decide (n = ops.size) && decide (ord.length = n) && Region.ordB md ops n c 0 ord (Array.replicate ops.size false)
theorem wpAnyT_ordW {n c g : Nat} {R : Act → World → Prop} (hsel : Region.noSelect ops = true) (hQ : ∀ c (a : Act) (d : Option Tmp) (v : Value) w, Q (.panic c) (a.put d v) w → Q (.panic c) a w)
    (hn : n = ops.size) :
    ∀ (l : List (Nat × Nat)) (listed : Array Bool) (a : Act) (w : World), HeadInv md ops n listed → Before c S listed w →
    Region.ordB md ops n c g l listed = true → wpOrd P ops Q S R l a w →
    wpAnyT P md ops Q S n c (fun listed' a' w' => Region.seqB md ops g n listed' = true ∧ R a' w') l.length listed a w
  | [], listed, a, w, inv, hS, hB, h => ⟨hB, h⟩
  | (i, 0) :: l, listed, a, w, inv, hS, hB, h => by
    simp only [Region.ordB, Bool.and_eq_true, decide_eq_true_eq] at hB
    obtain ⟨⟨⟨⟨hr, hf⟩, hin⟩, hic⟩, hB'⟩ := hB
    have hr' : i ∈ Region.ready md ops listed := by simpa using hr
    obtain ⟨oi, v, h0, hy, hK⟩ := h
    exact wpAnyT_firstW h0 (Region.noSelect_spec hsel) hQ hn hin hic (fun _ _ _ _ _ => trivial) (fun listed' a' w' hL => seqB_ready hL.1) l.length listed a w inv (Region.free_spec h0 hf) hr' hy hS
      (wpAnyT_ordW hsel hQ hn l _ _ _ (inv.set hr' hin) (fun h => hS (set_other h)) hB' hK)
  | (i, 1) :: l, listed, a, w, inv, hS, hB, h => by
    simp only [Region.ordB, Bool.and_eq_true, decide_eq_true_eq] at hB
    obtain ⟨⟨⟨⟨⟨hr, hf⟩, hin⟩, hic⟩, hanc⟩, hB'⟩ := hB
    have hr' : i ∈ Region.ready md ops listed := by simpa using hr
    obtain ⟨oi, v, h0, hy, hK⟩ := h
    exact wpAnyT_firstW h0 (Region.noSelect_spec hsel) hQ hn hin hic (fun listed w inv hun hb => hb (by
        cases hl : listed.getD c false with
        | false => rfl
        | true => have := anc_listed inv 6 i hanc hl; rw [getD_both hun] at this; cases this)) (fun listed' a' w' hL => seqB_ready hL.1) l.length listed a w inv (Region.free_spec h0 hf) hr' hy hS
      (wpAnyT_ordW hsel hQ hn l _ _ _ (inv.set hr' hin) (fun h => hS (set_other h)) hB' hK)
  | (i, 2) :: l, listed, a, w, inv, hS, hB, h => by
    simp only [Region.ordB, Bool.and_eq_true, decide_eq_true_eq] at hB
    obtain ⟨⟨hr, hin⟩, hB'⟩ := hB
    refine ⟨fun h0 => (by rw [hr] at h0; cases h0), fun j hj => ?_⟩
    have hj' := hj
    rw [hr] at hj
    have hji : j = i := by simpa using hj
    subst hji
    have h1 : wpOp P ops Q j (fun a' w' => S w' ∧ wpOrd P ops Q S R l a' w') a w := h
    exact ⟨hin, wpOp_mono (fun a' w' h2 => ⟨fun _ => h2.1, wpAnyT_ordW hsel hQ hn l _ _ _ (inv.set hj' hin) (fun _ => h2.1) hB' h2.2⟩) h1⟩
  | (i, k + 3) :: l, listed, a, w, inv, hS, hB, h => by
    simp only [Region.ordB, Bool.and_eq_true, decide_eq_true_eq] at hB
    obtain ⟨⟨⟨hr, hin⟩, hcl⟩, hB'⟩ := hB
    refine ⟨fun h0 => (by rw [hr] at h0; cases h0), fun j hj => ?_⟩
    have hj' := hj
    rw [hr] at hj
    have hji : j = i := by simpa using hj
    subst hji
    have h1 : wpOp P ops Q j (fun a' w' => wpOrd P ops Q S R l a' w') a w := h
    have hno : ∀ w', Before c S (listed.setIfInBounds j true) w' := fun w' h => by rw [hcl] at h; cases h
    exact ⟨hin, wpOp_mono (fun a' w' h2 => ⟨hno w', wpAnyT_ordW hsel hQ hn l _ _ _ (inv.set hj' hin) (hno w') hB' h2⟩) h1⟩
theorem wp_region_ordW {id : Nat} {a : Act} {w : World} {l : List Oper} (n c : Nat) (ord : List (Nat × Nat)) (S : World → Prop) (hm : P.follows .mixedOrders = true) (hB : Region.regWB .any l.toArray n c ord = true) (hS : S w.drew)
    (hQ : ∀ c (a : Act) (d : Option Tmp) (v : Value) w, Q (.panic c) (a.put d v) w → Q (.panic c) a w)
    (h : wpOrd P l.toArray Q S (fun a' w' => Q .normal a' w') ord a w.drew) : (Code.region id l.toArray true).wp P Q a w := by
  simp only [Region.regWB, Bool.and_eq_true, decide_eq_true_eq] at hB
  obtain ⟨⟨⟨hsel, hn⟩, hol⟩, hlex⟩ := hB
  have inv0 : HeadInv .any l.toArray n (Array.replicate l.toArray.size false) :=
    ⟨by simp, fun j oj _ hl => (by rw [getD_replicate_false] at hl; cases hl), fun t _ ht => getD_in (by simpa using ht) (getD_replicate_false _ _)⟩
  have H := wpAnyT_ordW (md := .any) (g := 0) hsel hQ hn ord _ a _ inv0 (fun _ => hS) hlex h
  refine wp_region_any hm ?_
  have := wpAny_of_T (g := 0) (fun listed a' w' hL => by
    have hr : Region.ready .any l.toArray listed = [] := by simpa [Region.seqB] using hL.1
    exact wpAny_done (P := P) (Q := Q) hr hL.2 0) _ _ _ _ H
  rwa [Nat.add_zero, hol, hn] at this
end
/-- an order with forks: 'fork m r s': operation m or the call c comes next, r is the order behind m, s the order behind c -/
inductive OrdT where
  | nil
  | one (i k : Nat) (r : OrdT)
  | fork (m : Nat) (r s : OrdT)
def OrdT.size : OrdT → Nat
  | .nil => 0
  | .one _ _ r => r.size + 1
  | .fork _ r _ => r.size + 1
section
variable {P : Program} {ops : Array Oper} {md : Region.Mode} {Q : Exit → Act → World → Prop} {S : World → Prop}
def wpTree (P : Program) (ops : Array Oper) (Q : Exit → Act → World → Prop) (S : World → Prop) (c : Nat) (R : Act → World → Prop) : OrdT → Act → World → Prop
  | .nil, a, w => R a w
  | .one i 0 rest, a, w => ∃ oi v, ops[i]? = some oi ∧ YieldsIf P ops (KindS S 0) oi v a ∧ wpTree P ops Q S c R rest (a.put oi.dst v) w
  | .one i 1 rest, a, w => ∃ oi v, ops[i]? = some oi ∧ YieldsIf P ops (KindS S 1) oi v a ∧ wpTree P ops Q S c R rest (a.put oi.dst v) w
  | .one i 2 rest, a, w => wpOp P ops Q i (fun a' w' => S w' ∧ wpTree P ops Q S c R rest a' w') a w
  | .one i _ rest, a, w => wpOp P ops Q i (fun a' w' => wpTree P ops Q S c R rest a' w') a w
  | .fork m r s, a, w => wpOp P ops Q m (fun a' w' => S w' ∧ wpTree P ops Q S c R r a' w') a w ∧ wpOp P ops Q c (fun a' w' => wpTree P ops Q S c R s a' w') a w
def Region.treeB (md : Region.Mode) (ops : Array Oper) (n c g : Nat) : OrdT → Array Bool → Bool
  | .nil, listed => Region.seqB md ops g n listed
  | .one i 0 rest, listed => (Region.ready md ops listed).contains i && Region.free md ops listed i && decide (i < n) && decide (i ≠ c) && Region.treeB md ops n c g rest (listed.setIfInBounds i true)
  | .one i 1 rest, listed => (Region.ready md ops listed).contains i && Region.free md ops listed i && decide (i < n) && decide (i ≠ c) && Region.anc md ops c 6 i && Region.treeB md ops n c g rest (listed.setIfInBounds i true)
  | .one i 2 rest, listed => decide (Region.ready md ops listed = [i]) && decide (i < n) && Region.treeB md ops n c g rest (listed.setIfInBounds i true)
  | .one i _ rest, listed => decide (Region.ready md ops listed = [i]) && decide (i < n) && (listed.setIfInBounds i true).getD c false && Region.treeB md ops n c g rest (listed.setIfInBounds i true)
  | .fork m r s, listed => (decide (Region.ready md ops listed = [c, m]) || decide (Region.ready md ops listed = [m, c])) && decide (m < n) && decide (c < n) && decide (r.size = s.size) && (listed.setIfInBounds c true).getD c false && Region.treeB md ops n c g r (listed.setIfInBounds m true) && Region.treeB md ops n c g s (listed.setIfInBounds c true)
theorem wpAnyT_tree {n c g : Nat} {R : Act → World → Prop} (hsel : Region.noSelect ops = true) (hQ : ∀ c (a : Act) (d : Option Tmp) (v : Value) w, Q (.panic c) (a.put d v) w → Q (.panic c) a w)
    (hn : n = ops.size) :
    ∀ (l : OrdT) (listed : Array Bool) (a : Act) (w : World), HeadInv md ops n listed → Before c S listed w →
    Region.treeB md ops n c g l listed = true → wpTree P ops Q S c R l a w →
    wpAnyT P md ops Q S n c (fun listed' a' w' => Region.seqB md ops g n listed' = true ∧ R a' w') l.size listed a w
  | .nil, listed, a, w, inv, hS, hB, h => ⟨hB, h⟩
  | .one i 0 l, listed, a, w, inv, hS, hB, h => by
    simp only [Region.treeB, Bool.and_eq_true, decide_eq_true_eq] at hB
    obtain ⟨⟨⟨⟨hr, hf⟩, hin⟩, hic⟩, hB'⟩ := hB
    have hr' : i ∈ Region.ready md ops listed := by simpa using hr
    obtain ⟨oi, v, h0, hy, hK⟩ := h
    exact wpAnyT_firstW h0 (Region.noSelect_spec hsel) hQ hn hin hic (fun _ _ _ _ _ => trivial) (fun listed' a' w' hL => seqB_ready hL.1) l.size listed a w inv (Region.free_spec h0 hf) hr' hy hS
      (wpAnyT_tree hsel hQ hn l _ _ _ (inv.set hr' hin) (fun h => hS (set_other h)) hB' hK)
  | .one i 1 l, listed, a, w, inv, hS, hB, h => by
    simp only [Region.treeB, Bool.and_eq_true, decide_eq_true_eq] at hB
    obtain ⟨⟨⟨⟨⟨hr, hf⟩, hin⟩, hic⟩, hanc⟩, hB'⟩ := hB
    have hr' : i ∈ Region.ready md ops listed := by simpa using hr
    obtain ⟨oi, v, h0, hy, hK⟩ := h
    exact wpAnyT_firstW h0 (Region.noSelect_spec hsel) hQ hn hin hic (fun listed w inv hun hb => hb (by
        cases hl : listed.getD c false with
        | false => rfl
        | true => have := anc_listed inv 6 i hanc hl; rw [getD_both hun] at this; cases this)) (fun listed' a' w' hL => seqB_ready hL.1) l.size listed a w inv (Region.free_spec h0 hf) hr' hy hS
      (wpAnyT_tree hsel hQ hn l _ _ _ (inv.set hr' hin) (fun h => hS (set_other h)) hB' hK)
  | .one i 2 l, listed, a, w, inv, hS, hB, h => by
    simp only [Region.treeB, Bool.and_eq_true, decide_eq_true_eq] at hB
    obtain ⟨⟨hr, hin⟩, hB'⟩ := hB
    refine ⟨fun h0 => (by rw [hr] at h0; cases h0), fun j hj => ?_⟩
    have hj' := hj
    rw [hr] at hj
    have hji : j = i := by simpa using hj
    subst hji
    have h1 : wpOp P ops Q j (fun a' w' => S w' ∧ wpTree P ops Q S c R l a' w') a w := h
    exact ⟨hin, wpOp_mono (fun a' w' h2 => ⟨fun _ => h2.1, wpAnyT_tree hsel hQ hn l _ _ _ (inv.set hj' hin) (fun _ => h2.1) hB' h2.2⟩) h1⟩
  | .one i (k + 3) l, listed, a, w, inv, hS, hB, h => by
    simp only [Region.treeB, Bool.and_eq_true, decide_eq_true_eq] at hB
    obtain ⟨⟨⟨hr, hin⟩, hcl⟩, hB'⟩ := hB
    refine ⟨fun h0 => (by rw [hr] at h0; cases h0), fun j hj => ?_⟩
    have hj' := hj
    rw [hr] at hj
    have hji : j = i := by simpa using hj
    subst hji
    have h1 : wpOp P ops Q j (fun a' w' => wpTree P ops Q S c R l a' w') a w := h
    have hno : ∀ w', Before c S (listed.setIfInBounds j true) w' := fun w' h => by rw [hcl] at h; cases h
    exact ⟨hin, wpOp_mono (fun a' w' h2 => ⟨hno w', wpAnyT_tree hsel hQ hn l _ _ _ (inv.set hj' hin) (hno w') hB' h2⟩) h1⟩
  | .fork m r s, listed, a, w, inv, hS, hB, h => by
    simp only [Region.treeB, Bool.and_eq_true, Bool.or_eq_true, decide_eq_true_eq] at hB
    obtain ⟨⟨⟨⟨⟨⟨hr, hmn⟩, hcn⟩, hsz⟩, hcl⟩, hB1⟩, hB2⟩ := hB
    obtain ⟨h1, h2⟩ := h
    have hno : ∀ w', Before c S (listed.setIfInBounds c true) w' := fun w' h => by rw [hcl] at h; cases h
    refine ⟨fun h0 => (by rcases hr with hr | hr <;> (rw [hr] at h0; cases h0)), fun j hj => ?_⟩
    have hj' := hj
    have hji : j = m ∨ j = c := by
      rcases hr with hr | hr <;> (rw [hr] at hj; simp at hj)
      · exact hj.symm
      · exact hj
    rcases hji with rfl | rfl
    · exact ⟨hmn, wpOp_mono (fun a' w' h3 => ⟨fun _ => h3.1, wpAnyT_tree hsel hQ hn r _ _ _ (inv.set hj' hmn) (fun _ => h3.1) hB1 h3.2⟩) h1⟩
    · refine ⟨hcn, wpOp_mono (fun a' w' h3 => ⟨hno w', ?_⟩) h2⟩
      have := wpAnyT_tree hsel hQ hn s _ _ _ (inv.set hj' hcn) (hno w') hB2 h3
      rwa [← hsz] at this
def Region.regTB (md : Region.Mode) (ops : Array Oper) (n c : Nat) (ord : OrdT) : Bool :=
  Region.noSelect ops && decide (n = ops.size) && decide (ord.size = n) && Region.treeB md ops n c 0 ord (Array.replicate ops.size false)
theorem wp_region_tree {id : Nat} {a : Act} {w : World} {l : List Oper} (n c : Nat) (ord : OrdT) (S : World → Prop) (hm : P.follows .mixedOrders = true) (hB : Region.regTB .any l.toArray n c ord = true) (hS : S w.drew)
    (hQ : ∀ c (a : Act) (d : Option Tmp) (v : Value) w, Q (.panic c) (a.put d v) w → Q (.panic c) a w)
    (h : wpTree P l.toArray Q S c (fun a' w' => Q .normal a' w') ord a w.drew) : (Code.region id l.toArray true).wp P Q a w := by
  simp only [Region.regTB, Bool.and_eq_true, decide_eq_true_eq] at hB
  obtain ⟨⟨⟨hsel, hn⟩, hol⟩, hlex⟩ := hB
  have inv0 : HeadInv .any l.toArray n (Array.replicate l.toArray.size false) :=
    ⟨by simp, fun j oj _ hl => (by rw [getD_replicate_false] at hl; cases hl), fun t _ ht => getD_in (by simpa using ht) (getD_replicate_false _ _)⟩
  have H := wpAnyT_tree (md := .any) (g := 0) hsel hQ hn ord _ a _ inv0 (fun _ => hS) hlex h
  refine wp_region_any hm ?_
  have := wpAny_of_T (g := 0) (fun listed a' w' hL => by
    have hr : Region.ready .any l.toArray listed = [] := by simpa [Region.seqB] using hL.1
    exact wpAny_done (P := P) (Q := Q) hr hL.2 0) _ _ _ _ H
  rwa [Nat.add_zero, hol, hn] at this
theorem wpTree_read0 {c : Nat} {R : Act → World → Prop} {i : Nat} {rest : OrdT} {a : Act} {w : World} {oi : Oper} (v : Value) (hi : ops[i]? = some oi) (hw : Region.wanted oi (yielded ops a.tmps) = true) (hy : ∀ w, (execOp a.eval oi).run P w = .ok (.value v) w)
    (h : ∀ K : Act → World → Prop, (∀ a w, wpTree P ops Q S c R rest a w → K a w) → K (a.put oi.dst v) w) : wpTree P ops Q S c R (.one i 0 rest) a w :=
  ⟨oi, v, hi, .inl ⟨hw, fun w _ => hy w⟩, h _ (fun _ _ h => h)⟩
theorem wpTree_read1 {c : Nat} {R : Act → World → Prop} {i : Nat} {rest : OrdT} {a : Act} {w : World} {oi : Oper} (v : Value) (hi : ops[i]? = some oi) (hw : Region.wanted oi (yielded ops a.tmps) = true) (hy : ∀ w, S w → (execOp a.eval oi).run P w = .ok (.value v) w)
    (h : ∀ K : Act → World → Prop, (∀ a w, wpTree P ops Q S c R rest a w → K a w) → K (a.put oi.dst v) w) : wpTree P ops Q S c R (.one i 1 rest) a w :=
  ⟨oi, v, hi, .inl ⟨hw, hy⟩, h _ (fun _ _ h => h)⟩
theorem wpTree_eff2 {c : Nat} {R : Act → World → Prop} {i : Nat} {rest : OrdT} {a : Act} {w : World} {oi : Oper} (hi : ops[i]? = some oi) (hw : Region.wanted oi (yielded ops a.tmps) = true)
    (h : ∀ K : Act → World → Prop, (∀ a w, S w → wpTree P ops Q S c R rest a w → K a w) → oi.wp P a w K Q) : wpTree P ops Q S c R (.one i 2 rest) a w := by
  show wpOp P ops Q i _ a w
  unfold wpOp
  simp only [hi, hw, if_true]
  exact .inl (h _ (fun _ _ h1 h2 => ⟨h1, h2⟩))
theorem wpTree_eff3 {c : Nat} {R : Act → World → Prop} {i : Nat} {rest : OrdT} {a : Act} {w : World} {oi : Oper} (hi : ops[i]? = some oi) (hw : Region.wanted oi (yielded ops a.tmps) = true)
    (h : ∀ K : Act → World → Prop, (∀ a w, wpTree P ops Q S c R rest a w → K a w) → oi.wp P a w K Q) : wpTree P ops Q S c R (.one i 3 rest) a w := by
  show wpOp P ops Q i _ a w
  unfold wpOp
  simp only [hi, hw, if_true]
  exact .inl (h _ (fun _ _ h => h))
theorem wpTree_fork {c m : Nat} {R : Act → World → Prop} {r s : OrdT} {a : Act} {w : World} {om oc : Oper} (hm : ops[m]? = some om) (hc : ops[c]? = some oc)
    (hwm : Region.wanted om (yielded ops a.tmps) = true) (hwc : Region.wanted oc (yielded ops a.tmps) = true)
    (h1 : ∀ K : Act → World → Prop, (∀ a w, S w → wpTree P ops Q S c R r a w → K a w) → om.wp P a w K Q)
    (h2 : ∀ K : Act → World → Prop, (∀ a w, wpTree P ops Q S c R s a w → K a w) → oc.wp P a w K Q) : wpTree P ops Q S c R (.fork m r s) a w := by
  refine ⟨?_, ?_⟩
  · show wpOp P ops Q m _ a w
    unfold wpOp
    simp only [hm, hwm, if_true]
    exact .inl (h1 _ (fun _ _ h1 h2 => ⟨h1, h2⟩))
  · show wpOp P ops Q c _ a w
    unfold wpOp
    simp only [hc, hwc, if_true]
    exact .inl (h2 _ (fun _ _ h => h))
theorem wpTree_nil {c : Nat} {R : Act → World → Prop} {a : Act} {w : World} (h : R a w) : wpTree P ops Q S c R .nil a w := h
end
end Go.Proofs.Ytfpgklhbghahoaa
