/- Merged texts: Eh6, Eh7, Sy2, Sy3. -/
import Derived.Test.YtfpgklhbghahoaaVo7
/- Election: copies of pairs of a name and a struct, in a region that draws its order. -/
namespace Go.Proofs.Ytfpgklhbghahoaa
open Go.ChangeShapes Go.WideShapes Go.ChangeAt Go.RowKit Go.ChangeMaps Go.Joins Go.Deep
set_option linter.unusedVariables false
set_option linter.unusedSimpArgs false
set_option maxRecDepth 100000
theorem built_pair {P : Program} {T : TypeId} {q : Nat} {v : Value} {ds : List Value} {fs : Array Field} (hv : v.oneCell' = true) (hd : ds.length = q) (hz : zeroB P T (q + 1) = true) (hu : P.underlying T = some (.struct fs))
    (hpl : fs.toList.mapM (fun f => (P.info? f.type).map fun i => (f.offset, i.size)) = some [(0, 1), (1, q)]) : P.built T [(0, v), (1, .agg ds.toArray)] = some (v :: ds).toArray := by
  obtain ⟨i, zs, hi, hzz, hzl⟩ := zeroB_spec hz
  unfold Program.built
  simp only [hi, hu, hzz, hpl]
  exact fill_pair hv hd hzl _ rfl rfl
theorem ex_build {P : Program} {w : World} {o : Oper} {ρ : Operand → Value} {T : TypeId} {x y : Operand} {u v : Value} {cs : Array Value} (ho : o.op = .build T #[(0, x), (1, y)]) (hx : ρ x = u) (hy : ρ y = v) (h : P.built T [(0, u), (1, v)] = some cs) : (execOp ρ o).run P w = .ok (.value (.agg cs)) w := by
  unfold execOp
  simp only [ho, List.map_toArray, List.map_cons, List.map_nil, hx, hy, Sem.run_bind, run_build w T _ cs h, Result.andThen_ok, Sem.run_pure]
theorem seg_pair {W0 W w : World} {id N n k q d1 d2 d3 d4 d5 d6 y1 y2 y3 y4 y5 y6 y7 : Nat} {p1 p2 p3 p4 p5 p6 p7 : String} {f1 f2 f3 f4 f5 f6 f7 : Array Edge} {T t : TypeId} {g : FuncId} {ts : Array TypeId} {fs : Array Field} {cs0 : List Value} {a : Act} {fn : Func} {R : Ending → World → Prop} {l : List Oper} {ff fg : Field} (gs : Array Field)
    (hl : l = [{ dst := some d1, op := .fieldAddr T (.tmp 1) 0, type := y1, pos := p1, after := f1, guard := none }, { dst := some d2, op := .load 9 (.tmp d1), type := y2, pos := p2, after := f2, guard := none }, { dst := some d3, op := .fieldAddr T (.tmp 1) 1, type := y3, pos := p3, after := f3, guard := none }, { dst := some d4, op := .load t (.tmp d3), type := y4, pos := p4, after := f4, guard := none }, { dst := some d5, op := .call { callee := .value (.func g), args := #[.tmp d4], argTypes := ts }, type := y5, pos := p5, after := f5, guard := none }, { dst := some d6, op := .build T #[(0, .tmp d2), (1, .tmp d5)], type := y6, pos := p6, after := f6, guard := none }, { dst := none, op := .store T (.tmp 2) (.tmp d6), type := y7, pos := p7, after := f7, guard := none }])
    (hB : Region.regWB .any l.toArray 7 6 [(0, 0), (1, 1), (2, 0), (3, 1), (4, 2), (5, 0), (6, 3)] = true) (hm : Try.prog.follows .mixedOrders = true)
    (hb0 : Below W0.heap.size W0 W) (ha : ActC a N W.heap.size) (hst : CpSt W0 W n k cs0 [] w) (hlen : cs0.length = k) (hk : k = q + 1) (hg : GoodC Try.prog W0 (n + 1) T cs0) (hone : OneOK g t n W0)
    (hu : Try.prog.underlying T = some (.struct fs)) (hf0 : fs[0]? = some ff) (hf1 : fs[1]? = some fg) (hf2 : fs[2]? = none) (ht0 : ff.type = 9 ∧ ff.offset = 0) (ht1 : fg.type = t ∧ fg.offset = 1) (hq : Try.prog.cellsOf t = q) (hi : (Try.prog.info? t).map (·.size) = some q) (hq0 : q ≠ 0) (hr : Try.prog.underlying t = some (.struct gs)) (ht : tysE.contains t = true) (hT : tysE.contains T = true) (hF : FnOK Try.prog g) (hkT : Try.prog.cellsOf T = k) (hiT : (Try.prog.info? T).map (·.size) = some k)
    (hz : zeroB Try.prog T (q + 1) = true) (hpl : fs.toList.mapM (fun f => (Try.prog.info? f.type).map fun i => (f.offset, i.size)) = some [(0, 1), (1, q)]) (hdd : 2 < d1 ∧ d1 < N ∧ d1 < d2 ∧ d2 < N ∧ d2 < d3 ∧ d3 < N ∧ d3 < d4 ∧ d4 < N ∧ d4 < d5 ∧ d5 < N ∧ d5 < d6 ∧ d6 < N) (hres : fn.results = #[.cell 2 T])
    (hR : ∀ ds w', CopyOf W0 W (n + 1) T cs0 w' ds → R (.returned (.agg ds.toArray)) w') :
    (Code.seq (Code.region id l.toArray true) .ret).wp Try.prog (bodyPost Try.prog fn R) a w := by
  obtain ⟨h1, n1, h2, n2, h3, n3, h4, n4, h5, n5, h6, n6⟩ := hdd
  obtain ⟨cs, hbx, hcone, hdn, hrest⟩ := hst.src
  have hcl : cs.length = k := hbx.2
  have hcs : cs = cs0 := by
    have := hrest 0 k (fun p hp => by cases hp)
    rwa [part_all hcl, part_all hlen] at this
  subst hcs
  obtain ⟨c0, cr, rfl⟩ := List.exists_cons_of_length_pos (show 0 < cs.length by omega)
  have hcrl : cr.length = q := by simp at hcl; omega
  obtain ⟨_, hfs⟩ := (goodC_struct hu).1 hg
  have e9 : Try.prog.cellsOf 9 = 1 := by kernel_rfl
  have g0 := hfs 0 ff hf0
  have g1 := hfs 1 fg hf1
  rw [ht0.1, ht0.2, e9] at g0
  rw [ht1.1, ht1.2, hq] at g1
  have ep0 : part_ (c0 :: cr) 0 1 = [c0] := rfl
  have ep1 : part_ (c0 :: cr) 1 q = cr := by
    show ((c0 :: cr).drop 1).take q = cr
    rw [List.drop_succ_cons, List.drop_zero, ← hcrl, List.take_length]
  rw [ep0] at g0
  rw [ep1] at g1
  have hi9 : (Try.prog.info? 9).map (·.size) = some 1 := by kernel_rfl
  have hs0 : ((Try.prog.info? ff.type).map (·.size)).getD 0 ≠ 0 := by rw [ht0.1, hi9]; exact Nat.one_ne_zero
  have hs1 : ((Try.prog.info? fg.type).map (·.size)).getD 0 ≠ 0 := by rw [ht1.1, hi]; exact hq0
  have hlt := hst.lt
  have hox : c0.oneCell' = true := hcone c0 List.mem_cons_self
  let S : World → Prop := fun X => BoxN k X W.heap.size (c0 :: cr)
  have hrS : ∀ X, S X → X.rangeAt W.heap.size (0 + fg.offset) cr := fun X hX => by
    have := range_part hX.1.rng fg.offset q
    rwa [ht1.2, ep1, ← ht1.2] at this
  have hcS : ∀ X, S X → X.cell? ⟨W.heap.size, 0 + ff.offset, none⟩ = some c0 := fun X hX => by
    rw [ht0.2]; exact hX.1.cell 0 c0 rfl
  refine wp_seq (wp_region_ordW 7 6 [(0, 0), (1, 1), (2, 0), (3, 1), (4, 2), (5, 0), (6, 3)] S hm hB hbx.drew (fun c a d v w h => by cases d <;> exact h) ?_)
  subst hl
  refine wpOrd_read0 (oi := { dst := some d1, op := .fieldAddr T (.tmp 1) 0, type := y1, pos := p1, after := f1, guard := none }) (.pointer (some ⟨W.heap.size, 0 + ff.offset, none⟩)) rfl rfl (fun X => ex_field T (.tmp 1) 0 W.heap.size 0 fs ff rfl ha.src hu hf0 hs0) (fun K hK => hK _ _ ?_)
  have ha1 := ha.put h1 (.pointer (some ⟨W.heap.size, 0 + ff.offset, none⟩))
  refine wpOrd_read1 (oi := { dst := some d2, op := .load 9 (.tmp d1), type := y2, pos := p2, after := f2, guard := none }) c0 rfl rfl (fun X hX => ex_load_cell 9 (.tmp d1) W.heap.size (0 + ff.offset) c0 .string rfl (eval_put_same (by rw [ha.size]; exact n1)) (hcS X hX) Try.underlying9 rfl) (fun K hK => hK _ _ ?_)
  have ha2 := ha1.put (show 2 < d2 by omega) c0
  have he2 : ((a.put (some d1) (.pointer (some ⟨W.heap.size, 0 + ff.offset, none⟩))).put (some d2) c0).eval (.tmp d2) = c0 := eval_put_same (by rw [ha1.size]; exact n2)
  generalize ((a.put (some d1) (.pointer (some ⟨W.heap.size, 0 + ff.offset, none⟩))).put (some d2) c0) = a2 at *
  refine wpOrd_read0 (oi := { dst := some d3, op := .fieldAddr T (.tmp 1) 1, type := y3, pos := p3, after := f3, guard := none }) (.pointer (some ⟨W.heap.size, 0 + fg.offset, none⟩)) rfl rfl (fun X => ex_field T (.tmp 1) 1 W.heap.size 0 fs fg rfl ha2.src hu hf1 hs1) (fun K hK => hK _ _ ?_)
  have ha3 := ha2.put (show 2 < d3 by omega) (.pointer (some ⟨W.heap.size, 0 + fg.offset, none⟩))
  refine wpOrd_read1 (oi := { dst := some d4, op := .load t (.tmp d3), type := y4, pos := p4, after := f4, guard := none }) (.agg cr.toArray) rfl rfl (fun X hX => ex_load_row t (.tmp d3) W.heap.size (0 + fg.offset) cr (.struct gs) rfl (eval_put_same (by rw [ha2.size]; exact n3)) (hrS X hX) hr rfl (by rw [hcrl]; exact hi)) (fun K hK => hK _ _ ?_)
  have ha4 := ha3.put (show 2 < d4 by omega) (.agg cr.toArray)
  have he4 : ((a2.put (some d3) (.pointer (some ⟨W.heap.size, 0 + fg.offset, none⟩))).put (some d4) (.agg cr.toArray)).eval (.tmp d4) = .agg cr.toArray := eval_put_same (by rw [ha3.size]; exact n4)
  have he42 : ((a2.put (some d3) (.pointer (some ⟨W.heap.size, 0 + fg.offset, none⟩))).put (some d4) (.agg cr.toArray)).eval (.tmp d2) = c0 := (eval_put_ne (by omega)).trans ((eval_put_ne (by omega)).trans he2)
  generalize ((a2.put (some d3) (.pointer (some ⟨W.heap.size, 0 + fg.offset, none⟩))).put (some d4) (.agg cr.toArray)) = a4 at *
  refine wpOrd_eff2 (oi := { dst := some d5, op := .call { callee := .value (.func g), args := #[.tmp d4], argTypes := ts }, type := y5, pos := p5, after := f5, guard := none }) rfl rfl (fun K hK => ?_)
  have hxs : (#[Operand.tmp d4] : Array Operand).map a4.eval = #[.agg cr.toArray] := by
    rw [List.map_toArray, List.map_cons, he4, List.map_nil]
  unfold Oper.wp
  rw [ex_call (w := w.drew) hF rfl rfl, Oper.upon_enter, hxs]
  have hst' : Below W.heap.size W w.drew := hst.low.drew
  refine (hone w.drew cr (hb0.trans (hst'.mono hb0.size)) g1).mono ?_
  rintro e w' ⟨ds, rfl, hcp⟩
  have hsd : w.drew.heap.size = w.heap.size := rfl
  refine hK _ _ (hbx.drew.keep hcp.2) ?_
  have hdl : ds.length = q := (eqC_len hr hcp.1).trans hq
  have hdo := good_cells_of ht (EqC.good _ _ _ _ (EqC.symm _ _ _ _ hcp.1))
  have ha5 := ha4.put (show 2 < d5 by omega) (.agg ds.toArray)
  refine wpOrd_read0 (oi := { dst := some d6, op := .build T #[(0, .tmp d2), (1, .tmp d5)], type := y6, pos := p6, after := f6, guard := none }) (.agg (c0 :: ds).toArray) rfl rfl (fun X => ex_build rfl ((eval_put_ne (by omega)).trans he42) (eval_put_same (by rw [ha4.size]; exact n5)) (built_pair hox hdl hz hu hpl)) (fun K hK => hK _ _ ?_)
  have ha6 := ha5.put (show 2 < d6 by omega) (.agg (c0 :: ds).toArray)
  have he6 : ((a4.put (some d5) (.agg ds.toArray)).put (some d6) (.agg (c0 :: ds).toArray)).eval (.tmp d6) = .agg (c0 :: ds).toArray := eval_put_same (by rw [ha5.size]; exact n6)
  generalize ((a4.put (some d5) (.agg ds.toArray)).put (some d6) (.agg (c0 :: ds).toArray)) = a6 at *
  obtain ⟨zs, hzs⟩ := hst.dst
  have hzs' := hzs.drew.keep hcp.2
  have hl2 : (c0 :: ds).length = k := by rw [List.length_cons, hdl, hk]
  refine wpOrd_eff3 (oi := { dst := none, op := .store T (.tmp 2) (.tmp d6), type := y7, pos := p7, after := f7, guard := none }) rfl rfl (fun K hK => ?_)
  unfold Oper.wp
  rw [ex_store_row (w := w') T (.tmp 2) (.tmp d6) (W.heap.size + 1) 0 (c0 :: ds) rfl ha6.dst he6 (hzs'.1.there _ _ (by rw [hzs'.2]; omega)) (by rw [hl2]; exact hiT) (fun v hv => by
    rcases List.mem_cons.1 hv with rfl | hv
    · exact hox
    · exact hdo v hv), Oper.upon_skip]
  have ho := Only.setCells w' (W.heap.size + 1) 0 (c0 :: ds) hzs'.1.lt
  have hb3 := hzs'.1.store (vs := c0 :: ds) (by rw [hzs'.2, hl2])
  refine hK _ _ (wpOrd_nil (wp_ret (bodyPost_ret (results_cell hres ha6.dst hb3.rng hu rfl (by rw [hl2]; exact hiT)) ha6.defers (hR (c0 :: ds) _ ⟨?_, (hst'.trans (hcp.2.mono hst'.size)).trans (ho.below _ (Nat.le_succ _))⟩))))
  have hss := hb0.size
  have hx : EqC Try.prog (w'.setCells (W.heap.size + 1) 0 (c0 :: ds)) (w'.setCells (W.heap.size + 1) 0 (c0 :: ds)) (fun i => i < W0.heap.size) (fun i => W.heap.size ≤ i) n t cr ds :=
    EqC.kept (Nat.le_of_eq ho.size.symm) (Nat.le_of_eq ho.size.symm) (fun i hi _ => ho.heap i (by omega)) (fun i hi _ => ho.heap i (by omega)) (fun _ hi _ => hi) (fun i hi _ => by show W.heap.size ≤ i; omega) _ _ _ _ hcp.1
  refine (eqC_struct hu).2 ⟨by rw [hkT]; exact hlen, by rw [hkT]; exact hl2, fun i f hfi => ?_⟩
  match i, hfi with
  | 0, hfi =>
    obtain rfl := Option.some.inj (hf0.symm.trans hfi)
    rw [ht0.1, ht0.2, e9]
    exact leaf_string Try.underlying9 g0
  | 1, hfi =>
    obtain rfl := Option.some.inj (hf1.symm.trans hfi)
    rw [ht1.1, ht1.2, hq, ep1]
    have : part_ (c0 :: ds) 1 q = ds := by
      show ((c0 :: ds).drop 1).take q = ds
      rw [List.drop_succ_cons, List.drop_zero, ← hdl, List.take_length]
    rw [this]
    exact hx
  | j + 2, hfi =>
    have h2 : 2 ≤ j + 2 := by omega
    have hsz : fs.size ≤ 2 := by
      rw [Array.getElem?_eq_none_iff] at hf2; exact hf2
    rw [Array.getElem?_eq_none (by omega)] at hfi
    cases hfi
end Go.Proofs.Ytfpgklhbghahoaa
/- Election: the copies of all structs of a log, of any depth. -/
namespace Go.Proofs.Ytfpgklhbghahoaa
open Go.ChangeShapes Go.WideShapes Go.ChangeAt Go.RowKit Go.ChangeMaps Go.Joins Go.Deep
set_option linter.unusedVariables false
set_option linter.unusedSimpArgs false
set_option maxRecDepth 100000
theorem callOK_strs (n : Nat) (W0 : World) : CallOK 77 [] 50 n W0 := fun W v hb h => copyStrings_eq n v W0 W hb h
theorem callOK_ints (n : Nat) (W0 : World) : CallOK 49 [] 23 n W0 := fun W v hb h => copyInts_eq n v W0 W hb h
theorem fnOK_strs : FnOK Try.prog 77 := ⟨_, Try.func77, rfl, rfl⟩
theorem fnOK_ints : FnOK Try.prog 49 := ⟨_, Try.func49, rfl, rfl⟩
theorem fnOK_Value : FnOK Try.prog 60 := ⟨_, Try.func60, rfl, rfl⟩
theorem fnOK_allValue : FnOK Try.prog 68 := ⟨_, Try.func68, rfl, rfl⟩
theorem callOK_Value (n : Nat) (W0 : World) (h : ∀ m, m < n → OneOK 60 48 m W0) : CallOK 68 [.func (.func 60) #[] #[]] 45 n W0 := fun W v hb hg => by
  cases n with
  | zero => exact hg.elim
  | succ n => exact copyAll_Value n v W0 W hb hg (h n (Nat.lt_succ_self n))
theorem fnOK_Field : FnOK Try.prog 70 := ⟨_, Try.func70, rfl, rfl⟩
theorem fnOK_allField : FnOK Try.prog 69 := ⟨_, Try.func69, rfl, rfl⟩
theorem callOK_Field (n : Nat) (W0 : World) (h : ∀ m, m < n → OneOK 70 104 m W0) : CallOK 69 [.func (.func 70) #[] #[]] 46 n W0 := fun W v hb hg => by
  cases n with
  | zero => exact hg.elim
  | succ n => exact copyAll_Field n v W0 W hb hg (h n (Nat.lt_succ_self n))
theorem fnOK_Expr : FnOK Try.prog 81 := ⟨_, Try.func81, rfl, rfl⟩
theorem fnOK_allExpr : FnOK Try.prog 83 := ⟨_, Try.func83, rfl, rfl⟩
theorem callOK_Expr (n : Nat) (W0 : World) (h : ∀ m, m < n → OneOK 81 63 m W0) : CallOK 83 [.func (.func 81) #[] #[]] 61 n W0 := fun W v hb hg => by
  cases n with
  | zero => exact hg.elim
  | succ n => exact copyAll_Expr n v W0 W hb hg (h n (Nat.lt_succ_self n))
theorem fnOK_Pred : FnOK Try.prog 75 := ⟨_, Try.func75, rfl, rfl⟩
theorem fnOK_allPred : FnOK Try.prog 82 := ⟨_, Try.func82, rfl, rfl⟩
theorem callOK_Pred (n : Nat) (W0 : World) (h : ∀ m, m < n → OneOK 75 66 m W0) : CallOK 82 [.func (.func 75) #[] #[]] 64 n W0 := fun W v hb hg => by
  cases n with
  | zero => exact hg.elim
  | succ n => exact copyAll_Pred n v W0 W hb hg (h n (Nat.lt_succ_self n))
theorem fnOK_Order : FnOK Try.prog 74 := ⟨_, Try.func74, rfl, rfl⟩
theorem fnOK_allOrder : FnOK Try.prog 73 := ⟨_, Try.func73, rfl, rfl⟩
theorem callOK_Order (n : Nat) (W0 : World) (h : ∀ m, m < n → OneOK 74 117 m W0) : CallOK 73 [.func (.func 74) #[] #[]] 57 n W0 := fun W v hb hg => by
  cases n with
  | zero => exact hg.elim
  | succ n => exact copyAll_Order n v W0 W hb hg (h n (Nat.lt_succ_self n))
theorem fnOK_Index : FnOK Try.prog 62 := ⟨_, Try.func62, rfl, rfl⟩
theorem fnOK_allIndex : FnOK Try.prog 71 := ⟨_, Try.func71, rfl, rfl⟩
theorem callOK_Index (n : Nat) (W0 : World) (h : ∀ m, m < n → OneOK 62 68 m W0) : CallOK 71 [.func (.func 62) #[] #[]] 49 n W0 := fun W v hb hg => by
  cases n with
  | zero => exact hg.elim
  | succ n => exact copyAll_Index n v W0 W hb hg (h n (Nat.lt_succ_self n))
theorem fnOK_Schema : FnOK Try.prog 72 := ⟨_, Try.func72, rfl, rfl⟩
theorem fnOK_allSchema : FnOK Try.prog 80 := ⟨_, Try.func80, rfl, rfl⟩
theorem callOK_Schema (n : Nat) (W0 : World) (h : ∀ m, m < n → OneOK 72 54 m W0) : CallOK 80 [.func (.func 72) #[] #[]] 52 n W0 := fun W v hb hg => by
  cases n with
  | zero => exact hg.elim
  | succ n => exact copyAll_Schema n v W0 W hb hg (h n (Nat.lt_succ_self n))
theorem fnOK_Prop : FnOK Try.prog 79 := ⟨_, Try.func79, rfl, rfl⟩
theorem fnOK_allProp : FnOK Try.prog 78 := ⟨_, Try.func78, rfl, rfl⟩
theorem callOK_Prop (n : Nat) (W0 : World) (h : ∀ m, m < n → OneOK 79 115 m W0) : CallOK 78 [.func (.func 79) #[] #[]] 51 n W0 := fun W v hb hg => by
  cases n with
  | zero => exact hg.elim
  | succ n => exact copyAll_Prop n v W0 W hb hg (h n (Nat.lt_succ_self n))
theorem fnOK_Space : FnOK Try.prog 61 := ⟨_, Try.func61, rfl, rfl⟩
theorem fnOK_Write : FnOK Try.prog 56 := ⟨_, Try.func56, rfl, rfl⟩
theorem fnOK_allWrite : FnOK Try.prog 63 := ⟨_, Try.func63, rfl, rfl⟩
theorem callOK_Write (n : Nat) (W0 : World) (h : ∀ m, m < n → OneOK 56 71 m W0) : CallOK 63 [.func (.func 56) #[] #[]] 69 n W0 := fun W v hb hg => by
  cases n with
  | zero => exact hg.elim
  | succ n => exact copyAll_Write n v W0 W hb hg (h n (Nat.lt_succ_self n))
theorem fnOK_Entry : FnOK Try.prog 48 := ⟨_, Try.func48, rfl, rfl⟩
theorem fnOK_allEntry : FnOK Try.prog 47 := ⟨_, Try.func47, rfl, rfl⟩
theorem callOK_Entry (n : Nat) (W0 : World) (h : ∀ m, m < n → OneOK 48 73 m W0) : CallOK 47 [.func (.func 48) #[] #[]] 22 n W0 := fun W v hb hg => by
  cases n with
  | zero => exact hg.elim
  | succ n => exact copyAll_Entry n v W0 W hb hg (h n (Nat.lt_succ_self n))
theorem shape_size : ((Try.prog.info? 60).map (·.size)).getD 0 ≠ 0 := by
  have : (Try.prog.info? 60).map (·.size) = some 3 := by kernel_rfl
  rw [this]
  decide
theorem good_points {n : Nat} {W0 : World} {cs : List Value} (h : GoodC Try.prog W0 n 60 (part_ cs 10 (Try.prog.cellsOf 60))) : ∃ m, m ≤ n ∧ GoodC Try.prog W0 m 58 (part_ cs 11 1) := by
  cases n with
  | zero => exact h.elim
  | succ n =>
    have e3 : Try.prog.cellsOf 60 = 3 := by kernel_rfl
    have e1 : Try.prog.cellsOf 58 = 1 := by kernel_rfl
    have := ((goodC_struct Try.underlying60).1 h).2 1 _ rfl
    refine ⟨n, Nat.le_succ n, ?_⟩
    rw [e3] at this
    have h2 : GoodC Try.prog W0 n 58 (part_ (part_ cs 10 3) 1 (Try.prog.cellsOf 58)) := this
    rw [e1, part_part (by decide)] at h2
    exact h2
theorem copyValue_at (n : Nat) (W0 : World) (hValue : ∀ m, m < n + 1 → OneOK 60 48 m W0) (hField : ∀ m, m < n + 1 → OneOK 70 104 m W0) : OneOK 60 48 (n + 1) W0 := by
  intro W cs hb0 hg
  have hgs := ((goodC_struct Try.underlying48).1 hg).2
  have hlen : cs.length = 5 := ((goodC_struct Try.underlying48).1 hg).1.trans (by kernel_rfl)
  have h1 := good_cells_of (by decide) hg
  refine copy_enter Try.func60 rfl rfl (fun a0 h0 hN hd => ?_)
  refine seg_start (W0 := W0) (n := n) h0 hN (by decide) hd hlen (by kernel_rfl) h1 (fun a1 w1 ha1 hs1 => ?_)
  refine seg_cell (off := 3) hb0 ha1 hs1 hgs (callOK_Value n W0 (fun m hm => hValue m (Nat.lt_succ_of_lt hm))) Try.underlying48 rfl rfl rfl (by kernel_rfl) (by kernel_rfl) Try.underlying45 fnOK_allValue (fun _ => rfl) (by decide) (by kernel_rfl) (by decide) (fun a2 w2 ha2 hs2 => ?_)
  refine seg_cell (off := 4) hb0 ha2 hs2 hgs (callOK_Field n W0 (fun m hm => hField m (Nat.lt_succ_of_lt hm))) Try.underlying48 rfl rfl rfl (by kernel_rfl) (by kernel_rfl) Try.underlying46 fnOK_allField (fun _ => rfl) (by decide) (by kernel_rfl) (by decide) (fun a3 w3 ha3 hs3 => ?_)
  exact seg_end hb0 ha3 hs3 Try.underlying48 (by kernel_rfl) (by kernel_rfl) hlen hg (by kernel_rfl) (by decide) rfl (fun ds w' hc => ⟨ds, rfl, hc⟩)
theorem copyField_at (n : Nat) (W0 : World) (hValue : OneOK 60 48 n W0) : OneOK 70 104 (n + 1) W0 := by
  intro W cs hb0 hg
  have hlen : cs.length = 6 := ((goodC_struct Try.underlying104).1 hg).1.trans (by kernel_rfl)
  have h1 := good_cells_of (by decide) hg
  refine copy_enter Try.func70 rfl rfl (fun a0 h0 hN hd => ?_)
  refine seg_start (W0 := W0) (n := n) h0 hN (by decide) hd hlen (by kernel_rfl) h1 (fun a1 w1 ha1 hs1 => ?_)
  exact seg_pair (q := 5) _ rfl (by kernel_rfl) (by kernel_rfl) hb0 ha1 hs1 hlen rfl hg hValue Try.underlying104 rfl rfl rfl ⟨rfl, rfl⟩ ⟨rfl, rfl⟩ (by kernel_rfl) (by kernel_rfl) (by decide) Try.underlying48 (by decide) (by decide) fnOK_Value (by kernel_rfl) (by kernel_rfl) (by kernel_rfl) (by kernel_rfl) (by decide) rfl (fun ds w' hc => ⟨ds, rfl, hc⟩)
theorem strong {p : Nat → Prop} (h0 : p 0) (h : ∀ n, (∀ m, m < n + 1 → p m) → p (n + 1)) (n : Nat) : p n := by
  induction n using Nat.strongRecOn with
  | _ n ih =>
    cases n with
    | zero => exact h0
    | succ n => exact h n ih
theorem copyVF (W0 : World) (n : Nat) : OneOK 60 48 n W0 ∧ OneOK 70 104 n W0 := by
  refine strong (p := fun n => OneOK 60 48 n W0 ∧ OneOK 70 104 n W0) ⟨oneOK_zero, oneOK_zero⟩ (fun n ih => ⟨copyValue_at n W0 (fun m hm => (ih m hm).1) (fun m hm => (ih m hm).2), copyField_at n W0 (ih n (Nat.lt_succ_self n)).1⟩) n
theorem copyValue_ok (n : Nat) (W0 : World) : OneOK 60 48 n W0 := (copyVF W0 n).1
theorem copyOrder_at (n : Nat) (W0 : World)  : OneOK 74 117 (n + 1) W0 := by
  intro W cs hb0 hg
  have hgs := ((goodC_struct Try.underlying117).1 hg).2
  have hlen : cs.length = 2 := ((goodC_struct Try.underlying117).1 hg).1.trans (by kernel_rfl)
  have h1 := good_cells_of (by decide) hg
  refine copy_enter Try.func74 rfl rfl (fun a0 h0 hN hd => ?_)
  refine seg_start (W0 := W0) (n := n) h0 hN (by decide) hd hlen (by kernel_rfl) h1 (fun a1 w1 ha1 hs1 => ?_)
  refine seg_cell (off := 0) (xs := []) (es := []) hb0 ha1 hs1 hgs (callOK_strs n W0) Try.underlying117 rfl rfl rfl (by kernel_rfl) (by kernel_rfl) Try.underlying50 fnOK_strs (fun _ => rfl) (by decide) (by kernel_rfl) (by decide) (fun a2 w2 ha2 hs2 => ?_)
  exact seg_end hb0 ha2 hs2 Try.underlying117 (by kernel_rfl) (by kernel_rfl) hlen hg (by kernel_rfl) (by decide) rfl (fun ds w' hc => ⟨ds, rfl, hc⟩)
theorem copyOrder_ok (n : Nat) (W0 : World) : OneOK 74 117 n W0 := by
  cases n with
  | zero => exact oneOK_zero
  | succ n => exact copyOrder_at n W0 
theorem copyExpr_at (n : Nat) (W0 : World) (hValue : ∀ m, m < n + 1 → OneOK 60 48 m W0) (hExpr : ∀ m, m < n + 1 → OneOK 81 63 m W0) : OneOK 81 63 (n + 1) W0 := by
  intro W cs hb0 hg
  have hgs := ((goodC_struct Try.underlying63).1 hg).2
  have hlen : cs.length = 11 := ((goodC_struct Try.underlying63).1 hg).1.trans (by kernel_rfl)
  have h1 := good_cells_of (by decide) hg
  refine copy_enter Try.func81 rfl rfl (fun a0 h0 hN hd => ?_)
  refine seg_start (W0 := W0) (n := n) h0 hN (by decide) hd hlen (by kernel_rfl) h1 (fun a1 w1 ha1 hs1 => ?_)
  refine seg_cell (off := 1) (xs := []) (es := []) hb0 ha1 hs1 hgs (callOK_strs n W0) Try.underlying63 rfl rfl rfl (by kernel_rfl) (by kernel_rfl) Try.underlying50 fnOK_strs (fun _ => rfl) (by decide) (by kernel_rfl) (by decide) (fun a2 w2 ha2 hs2 => ?_)
  refine seg_cell (off := 3) (xs := []) (es := []) hb0 ha2 hs2 hgs (callOK_strs n W0) Try.underlying63 rfl rfl rfl (by kernel_rfl) (by kernel_rfl) Try.underlying50 fnOK_strs (fun _ => rfl) (by decide) (by kernel_rfl) (by decide) (fun a3 w3 ha3 hs3 => ?_)
  refine seg_row (off := 4) (q := 5) hb0 ha3 hs3 hgs (hValue n (Nat.lt_succ_self n)) Try.underlying63 rfl rfl rfl (by kernel_rfl) (by kernel_rfl) _ Try.underlying48 (by decide) fnOK_Value (by decide) (by decide) (by kernel_rfl) (by decide) (fun a4 w4 ha4 hs4 => ?_)
  refine seg_cell (off := 10) hb0 ha4 hs4 hgs (callOK_Expr n W0 (fun m hm => hExpr m (Nat.lt_succ_of_lt hm))) Try.underlying63 rfl rfl rfl (by kernel_rfl) (by kernel_rfl) Try.underlying61 fnOK_allExpr (fun _ => rfl) (by decide) (by kernel_rfl) (by decide) (fun a5 w5 ha5 hs5 => ?_)
  exact seg_end hb0 ha5 hs5 Try.underlying63 (by kernel_rfl) (by kernel_rfl) hlen hg (by kernel_rfl) (by decide) rfl (fun ds w' hc => ⟨ds, rfl, hc⟩)
theorem copyExpr_ok (n : Nat) (W0 : World) : OneOK 81 63 n W0 := by
  refine strong (p := fun n => OneOK 81 63 n W0) oneOK_zero (fun n ih => copyExpr_at n W0 (fun m _ => copyValue_ok m W0) (fun m hm => ih m hm)) n
theorem copyPred_at (n : Nat) (W0 : World) (hValue : ∀ m, m < n + 1 → OneOK 60 48 m W0) (hExpr : ∀ m, m < n + 1 → OneOK 81 63 m W0) (hPred : ∀ m, m < n + 1 → OneOK 75 66 m W0) : OneOK 75 66 (n + 1) W0 := by
  intro W cs hb0 hg
  have hgs := ((goodC_struct Try.underlying66).1 hg).2
  have hlen : cs.length = 25 := ((goodC_struct Try.underlying66).1 hg).1.trans (by kernel_rfl)
  have h1 := good_cells_of (by decide) hg
  refine copy_enter Try.func75 rfl rfl (fun a0 h0 hN hd => ?_)
  refine seg_start (W0 := W0) (n := n) h0 hN (by decide) hd hlen (by kernel_rfl) h1 (fun a1 w1 ha1 hs1 => ?_)
  refine seg_cell (off := 1) (xs := []) (es := []) hb0 ha1 hs1 hgs (callOK_strs n W0) Try.underlying66 rfl rfl rfl (by kernel_rfl) (by kernel_rfl) Try.underlying50 fnOK_strs (fun _ => rfl) (by decide) (by kernel_rfl) (by decide) (fun a2 w2 ha2 hs2 => ?_)
  refine seg_row (off := 2) (q := 5) hb0 ha2 hs2 hgs (hValue n (Nat.lt_succ_self n)) Try.underlying66 rfl rfl rfl (by kernel_rfl) (by kernel_rfl) _ Try.underlying48 (by decide) fnOK_Value (by decide) (by decide) (by kernel_rfl) (by decide) (fun a3 w3 ha3 hs3 => ?_)
  refine seg_cell (off := 7) hb0 ha3 hs3 hgs (callOK_Value n W0 (fun m hm => hValue m (Nat.lt_succ_of_lt hm))) Try.underlying66 rfl rfl rfl (by kernel_rfl) (by kernel_rfl) Try.underlying45 fnOK_allValue (fun _ => rfl) (by decide) (by kernel_rfl) (by decide) (fun a4 w4 ha4 hs4 => ?_)
  obtain ⟨m, hm, hgp⟩ := good_points (n := n) (hgs 6 _ rfl)
  refine seg_points (off := 11) hb0 ha4 hs4 hm hgp Try.underlying66 rfl shape_size Try.underlying60 rfl rfl rfl (by decide) (by kernel_rfl) (by decide) (fun a5 w5 ha5 hs5 => ?_)
  refine seg_row (off := 13) (q := 11) hb0 ha5 hs5 hgs (hExpr n (Nat.lt_succ_self n)) Try.underlying66 rfl rfl rfl (by kernel_rfl) (by kernel_rfl) _ Try.underlying63 (by decide) fnOK_Expr (by decide) (by decide) (by kernel_rfl) (by decide) (fun a6 w6 ha6 hs6 => ?_)
  refine seg_cell (off := 24) hb0 ha6 hs6 hgs (callOK_Pred n W0 (fun m hm => hPred m (Nat.lt_succ_of_lt hm))) Try.underlying66 rfl rfl rfl (by kernel_rfl) (by kernel_rfl) Try.underlying64 fnOK_allPred (fun _ => rfl) (by decide) (by kernel_rfl) (by decide) (fun a7 w7 ha7 hs7 => ?_)
  exact seg_end hb0 ha7 hs7 Try.underlying66 (by kernel_rfl) (by kernel_rfl) hlen hg (by kernel_rfl) (by decide) rfl (fun ds w' hc => ⟨ds, rfl, hc⟩)
theorem copyPred_ok (n : Nat) (W0 : World) : OneOK 75 66 n W0 := by
  refine strong (p := fun n => OneOK 75 66 n W0) oneOK_zero (fun n ih => copyPred_at n W0 (fun m _ => copyValue_ok m W0) (fun m _ => copyExpr_ok m W0) (fun m hm => ih m hm)) n
theorem copyIndex_at (n : Nat) (W0 : World) (hOrder : ∀ m, m < n + 1 → OneOK 74 117 m W0) (hPred : ∀ m, m < n + 1 → OneOK 75 66 m W0) : OneOK 62 68 (n + 1) W0 := by
  intro W cs hb0 hg
  have hgs := ((goodC_struct Try.underlying68).1 hg).2
  have hlen : cs.length = 31 := ((goodC_struct Try.underlying68).1 hg).1.trans (by kernel_rfl)
  have h1 := good_cells_of (by decide) hg
  refine copy_enter Try.func62 rfl rfl (fun a0 h0 hN hd => ?_)
  refine seg_start (W0 := W0) (n := n) h0 hN (by decide) hd hlen (by kernel_rfl) h1 (fun a1 w1 ha1 hs1 => ?_)
  refine seg_cell (off := 2) hb0 ha1 hs1 hgs (callOK_Order n W0 (fun m hm => hOrder m (Nat.lt_succ_of_lt hm))) Try.underlying68 rfl rfl rfl (by kernel_rfl) (by kernel_rfl) Try.underlying57 fnOK_allOrder (fun _ => rfl) (by decide) (by kernel_rfl) (by decide) (fun a2 w2 ha2 hs2 => ?_)
  refine seg_row (off := 6) (q := 25) hb0 ha2 hs2 hgs (hPred n (Nat.lt_succ_self n)) Try.underlying68 rfl rfl rfl (by kernel_rfl) (by kernel_rfl) _ Try.underlying66 (by decide) fnOK_Pred (by decide) (by decide) (by kernel_rfl) (by decide) (fun a3 w3 ha3 hs3 => ?_)
  exact seg_end hb0 ha3 hs3 Try.underlying68 (by kernel_rfl) (by kernel_rfl) hlen hg (by kernel_rfl) (by decide) rfl (fun ds w' hc => ⟨ds, rfl, hc⟩)
theorem copyIndex_ok (n : Nat) (W0 : World) : OneOK 62 68 n W0 := by
  cases n with
  | zero => exact oneOK_zero
  | succ n => exact copyIndex_at n W0 (fun m _ => copyOrder_ok m W0) (fun m _ => copyPred_ok m W0)
theorem copySchema_at (n : Nat) (W0 : World) (hValue : ∀ m, m < n + 1 → OneOK 60 48 m W0) (hProp : ∀ m, m < n + 1 → OneOK 79 115 m W0) (hSchema : ∀ m, m < n + 1 → OneOK 72 54 m W0) : OneOK 72 54 (n + 1) W0 := by
  intro W cs hb0 hg
  have hgs := ((goodC_struct Try.underlying54).1 hg).2
  have hlen : cs.length = 21 := ((goodC_struct Try.underlying54).1 hg).1.trans (by kernel_rfl)
  have h1 := good_cells_of (by decide) hg
  refine copy_enter Try.func72 rfl rfl (fun a0 h0 hN hd => ?_)
  refine seg_start (W0 := W0) (n := n) h0 hN (by decide) hd hlen (by kernel_rfl) h1 (fun a1 w1 ha1 hs1 => ?_)
  refine seg_row (off := 2) (q := 5) hb0 ha1 hs1 hgs (hValue n (Nat.lt_succ_self n)) Try.underlying54 rfl rfl rfl (by kernel_rfl) (by kernel_rfl) _ Try.underlying48 (by decide) fnOK_Value (by decide) (by decide) (by kernel_rfl) (by decide) (fun a2 w2 ha2 hs2 => ?_)
  refine seg_row (off := 8) (q := 5) hb0 ha2 hs2 hgs (hValue n (Nat.lt_succ_self n)) Try.underlying54 rfl rfl rfl (by kernel_rfl) (by kernel_rfl) _ Try.underlying48 (by decide) fnOK_Value (by decide) (by decide) (by kernel_rfl) (by decide) (fun a3 w3 ha3 hs3 => ?_)
  refine seg_cell (off := 13) hb0 ha3 hs3 hgs (callOK_Value n W0 (fun m hm => hValue m (Nat.lt_succ_of_lt hm))) Try.underlying54 rfl rfl rfl (by kernel_rfl) (by kernel_rfl) Try.underlying45 fnOK_allValue (fun _ => rfl) (by decide) (by kernel_rfl) (by decide) (fun a4 w4 ha4 hs4 => ?_)
  refine seg_cell (off := 16) (xs := []) (es := []) hb0 ha4 hs4 hgs (callOK_strs n W0) Try.underlying54 rfl rfl rfl (by kernel_rfl) (by kernel_rfl) Try.underlying50 fnOK_strs (fun _ => rfl) (by decide) (by kernel_rfl) (by decide) (fun a5 w5 ha5 hs5 => ?_)
  refine seg_cell (off := 17) hb0 ha5 hs5 hgs (callOK_Prop n W0 (fun m hm => hProp m (Nat.lt_succ_of_lt hm))) Try.underlying54 rfl rfl rfl (by kernel_rfl) (by kernel_rfl) Try.underlying51 fnOK_allProp (fun _ => rfl) (by decide) (by kernel_rfl) (by decide) (fun a6 w6 ha6 hs6 => ?_)
  refine seg_cell (off := 19) hb0 ha6 hs6 hgs (callOK_Schema n W0 (fun m hm => hSchema m (Nat.lt_succ_of_lt hm))) Try.underlying54 rfl rfl rfl (by kernel_rfl) (by kernel_rfl) Try.underlying52 fnOK_allSchema (fun _ => rfl) (by decide) (by kernel_rfl) (by decide) (fun a7 w7 ha7 hs7 => ?_)
  exact seg_end hb0 ha7 hs7 Try.underlying54 (by kernel_rfl) (by kernel_rfl) hlen hg (by kernel_rfl) (by decide) rfl (fun ds w' hc => ⟨ds, rfl, hc⟩)
theorem copyProp_at (n : Nat) (W0 : World) (hSchema : OneOK 72 54 n W0) : OneOK 79 115 (n + 1) W0 := by
  intro W cs hb0 hg
  have hlen : cs.length = 22 := ((goodC_struct Try.underlying115).1 hg).1.trans (by kernel_rfl)
  have h1 := good_cells_of (by decide) hg
  refine copy_enter Try.func79 rfl rfl (fun a0 h0 hN hd => ?_)
  refine seg_start (W0 := W0) (n := n) h0 hN (by decide) hd hlen (by kernel_rfl) h1 (fun a1 w1 ha1 hs1 => ?_)
  exact seg_pair (q := 21) _ rfl (by kernel_rfl) (by kernel_rfl) hb0 ha1 hs1 hlen rfl hg hSchema Try.underlying115 rfl rfl rfl ⟨rfl, rfl⟩ ⟨rfl, rfl⟩ (by kernel_rfl) (by kernel_rfl) (by decide) Try.underlying54 (by decide) (by decide) fnOK_Schema (by kernel_rfl) (by kernel_rfl) (by kernel_rfl) (by kernel_rfl) (by decide) rfl (fun ds w' hc => ⟨ds, rfl, hc⟩)
theorem copySP (W0 : World) (n : Nat) : OneOK 72 54 n W0 ∧ OneOK 79 115 n W0 := by
  refine strong (p := fun n => OneOK 72 54 n W0 ∧ OneOK 79 115 n W0) ⟨oneOK_zero, oneOK_zero⟩ (fun n ih => ⟨copySchema_at n W0 (fun m _ => copyValue_ok m W0) (fun m hm => (ih m hm).2) (fun m hm => (ih m hm).1), copyProp_at n W0 (ih n (Nat.lt_succ_self n)).1⟩) n
theorem copySchema_ok (n : Nat) (W0 : World) : OneOK 72 54 n W0 := (copySP W0 n).1
theorem copySpace_at (n : Nat) (W0 : World) (hIndex : ∀ m, m < n + 1 → OneOK 62 68 m W0) (hSchema : ∀ m, m < n + 1 → OneOK 72 54 m W0) : OneOK 61 56 (n + 1) W0 := by
  intro W cs hb0 hg
  have hgs := ((goodC_struct Try.underlying56).1 hg).2
  have hlen : cs.length = 25 := ((goodC_struct Try.underlying56).1 hg).1.trans (by kernel_rfl)
  have h1 := good_cells_of (by decide) hg
  refine copy_enter Try.func61 rfl rfl (fun a0 h0 hN hd => ?_)
  refine seg_start (W0 := W0) (n := n) h0 hN (by decide) hd hlen (by kernel_rfl) h1 (fun a1 w1 ha1 hs1 => ?_)
  refine seg_cell (off := 1) hb0 ha1 hs1 hgs (callOK_Index n W0 (fun m hm => hIndex m (Nat.lt_succ_of_lt hm))) Try.underlying56 rfl rfl rfl (by kernel_rfl) (by kernel_rfl) Try.underlying49 fnOK_allIndex (fun _ => rfl) (by decide) (by kernel_rfl) (by decide) (fun a2 w2 ha2 hs2 => ?_)
  refine seg_row (off := 2) (q := 21) hb0 ha2 hs2 hgs (hSchema n (Nat.lt_succ_self n)) Try.underlying56 rfl rfl rfl (by kernel_rfl) (by kernel_rfl) _ Try.underlying54 (by decide) fnOK_Schema (by decide) (by decide) (by kernel_rfl) (by decide) (fun a3 w3 ha3 hs3 => ?_)
  exact seg_end hb0 ha3 hs3 Try.underlying56 (by kernel_rfl) (by kernel_rfl) hlen hg (by kernel_rfl) (by decide) rfl (fun ds w' hc => ⟨ds, rfl, hc⟩)
theorem copySpace_ok (n : Nat) (W0 : World) : OneOK 61 56 n W0 := by
  cases n with
  | zero => exact oneOK_zero
  | succ n => exact copySpace_at n W0 (fun m _ => copyIndex_ok m W0) (fun m _ => copySchema_ok m W0)
theorem copyWrite_at (n : Nat) (W0 : World) (hValue : ∀ m, m < n + 1 → OneOK 60 48 m W0) (hSpace : ∀ m, m < n + 1 → OneOK 61 56 m W0) (hIndex : ∀ m, m < n + 1 → OneOK 62 68 m W0) (hWrite : ∀ m, m < n + 1 → OneOK 56 71 m W0) : OneOK 56 71 (n + 1) W0 := by
  intro W cs hb0 hg
  have hgs := ((goodC_struct Try.underlying71).1 hg).2
  have hlen : cs.length = 78 := ((goodC_struct Try.underlying71).1 hg).1.trans (by kernel_rfl)
  have h1 := good_cells_of (by decide) hg
  refine copy_enter Try.func56 rfl rfl (fun a0 h0 hN hd => ?_)
  refine seg_start (W0 := W0) (n := n) h0 hN (by decide) hd hlen (by kernel_rfl) h1 (fun a1 w1 ha1 hs1 => ?_)
  refine seg_row (off := 2) (q := 5) hb0 ha1 hs1 hgs (hValue n (Nat.lt_succ_self n)) Try.underlying71 rfl rfl rfl (by kernel_rfl) (by kernel_rfl) _ Try.underlying48 (by decide) fnOK_Value (by decide) (by decide) (by kernel_rfl) (by decide) (fun a2 w2 ha2 hs2 => ?_)
  refine seg_row (off := 7) (q := 5) hb0 ha2 hs2 hgs (hValue n (Nat.lt_succ_self n)) Try.underlying71 rfl rfl rfl (by kernel_rfl) (by kernel_rfl) _ Try.underlying48 (by decide) fnOK_Value (by decide) (by decide) (by kernel_rfl) (by decide) (fun a3 w3 ha3 hs3 => ?_)
  refine seg_row (off := 12) (q := 5) hb0 ha3 hs3 hgs (hValue n (Nat.lt_succ_self n)) Try.underlying71 rfl rfl rfl (by kernel_rfl) (by kernel_rfl) _ Try.underlying48 (by decide) fnOK_Value (by decide) (by decide) (by kernel_rfl) (by decide) (fun a4 w4 ha4 hs4 => ?_)
  refine seg_row (off := 17) (q := 25) hb0 ha4 hs4 hgs (hSpace n (Nat.lt_succ_self n)) Try.underlying71 rfl rfl rfl (by kernel_rfl) (by kernel_rfl) _ Try.underlying56 (by decide) fnOK_Space (by decide) (by decide) (by kernel_rfl) (by decide) (fun a5 w5 ha5 hs5 => ?_)
  refine seg_row (off := 42) (q := 31) hb0 ha5 hs5 hgs (hIndex n (Nat.lt_succ_self n)) Try.underlying71 rfl rfl rfl (by kernel_rfl) (by kernel_rfl) _ Try.underlying68 (by decide) fnOK_Index (by decide) (by decide) (by kernel_rfl) (by decide) (fun a6 w6 ha6 hs6 => ?_)
  refine seg_cell (off := 75) hb0 ha6 hs6 hgs (callOK_Write n W0 (fun m hm => hWrite m (Nat.lt_succ_of_lt hm))) Try.underlying71 rfl rfl rfl (by kernel_rfl) (by kernel_rfl) Try.underlying69 fnOK_allWrite (fun _ => rfl) (by decide) (by kernel_rfl) (by decide) (fun a7 w7 ha7 hs7 => ?_)
  refine seg_cell (off := 76) (xs := []) (es := []) hb0 ha7 hs7 hgs (callOK_ints n W0) Try.underlying71 rfl rfl rfl (by kernel_rfl) (by kernel_rfl) Try.underlying23 fnOK_ints (fun _ => rfl) (by decide) (by kernel_rfl) (by decide) (fun a8 w8 ha8 hs8 => ?_)
  exact seg_end hb0 ha8 hs8 Try.underlying71 (by kernel_rfl) (by kernel_rfl) hlen hg (by kernel_rfl) (by decide) rfl (fun ds w' hc => ⟨ds, rfl, hc⟩)
theorem copyWrite_ok (n : Nat) (W0 : World) : OneOK 56 71 n W0 := by
  refine strong (p := fun n => OneOK 56 71 n W0) oneOK_zero (fun n ih => copyWrite_at n W0 (fun m _ => copyValue_ok m W0) (fun m _ => copySpace_ok m W0) (fun m _ => copyIndex_ok m W0) (fun m hm => ih m hm)) n
theorem copyEntry_at (n : Nat) (W0 : World) (hWrite : ∀ m, m < n + 1 → OneOK 56 71 m W0) : OneOK 48 73 (n + 1) W0 := by
  intro W cs hb0 hg
  have hgs := ((goodC_struct Try.underlying73).1 hg).2
  have hlen : cs.length = 82 := ((goodC_struct Try.underlying73).1 hg).1.trans (by kernel_rfl)
  have h1 := good_cells_of (by decide) hg
  refine copy_enter Try.func48 rfl rfl (fun a0 h0 hN hd => ?_)
  refine seg_start (W0 := W0) (n := n) h0 hN (by decide) hd hlen (by kernel_rfl) h1 (fun a1 w1 ha1 hs1 => ?_)
  refine seg_row (off := 4) (q := 78) hb0 ha1 hs1 hgs (hWrite n (Nat.lt_succ_self n)) Try.underlying73 rfl rfl rfl (by kernel_rfl) (by kernel_rfl) _ Try.underlying71 (by decide) fnOK_Write (by decide) (by decide) (by kernel_rfl) (by decide) (fun a2 w2 ha2 hs2 => ?_)
  exact seg_end hb0 ha2 hs2 Try.underlying73 (by kernel_rfl) (by kernel_rfl) hlen hg (by kernel_rfl) (by decide) rfl (fun ds w' hc => ⟨ds, rfl, hc⟩)
theorem copyEntry_ok (n : Nat) (W0 : World) : OneOK 48 73 n W0 := by
  cases n with
  | zero => exact oneOK_zero
  | succ n => exact copyEntry_at n W0 (fun m _ => copyWrite_ok m W0)
theorem good_cells_member {W : World} {n : Nat} {cs : List Value} (h : GoodC Try.prog W n 25 cs) : ∀ v ∈ cs, v.oneCell' = true := good_cells 12 25 (by kernel_rfl) n cs h
theorem copyMember_at (n : Nat) (W0 : World) (hEntry : ∀ m, m < n + 1 → OneOK 48 73 m W0) : OneOK 36 25 (n + 1) W0 := by
  intro W cs hb0 hg
  have hgs := ((goodC_struct Try.underlying25).1 hg).2
  have hlen : cs.length = 12 := ((goodC_struct Try.underlying25).1 hg).1.trans (by kernel_rfl)
  have h1 := good_cells_member hg
  refine copy_enter Try.func36 rfl rfl (fun a0 h0 hN hd => ?_)
  refine seg_start (W0 := W0) (n := n) h0 hN (by decide) hd hlen (by kernel_rfl) h1 (fun a1 w1 ha1 hs1 => ?_)
  refine seg_cell (off := 8) hb0 ha1 hs1 hgs (callOK_Entry n W0 (fun m hm => hEntry m (Nat.lt_succ_of_lt hm))) Try.underlying25 rfl rfl rfl (by kernel_rfl) (by kernel_rfl) Try.underlying22 fnOK_allEntry (fun _ => rfl) (by decide) (by kernel_rfl) (by decide) (fun a2 w2 ha2 hs2 => ?_)
  refine seg_cell (off := 10) (xs := []) (es := []) hb0 ha2 hs2 hgs (callOK_ints n W0) Try.underlying25 rfl rfl rfl (by kernel_rfl) (by kernel_rfl) Try.underlying23 fnOK_ints (fun _ => rfl) (by decide) (by kernel_rfl) (by decide) (fun a3 w3 ha3 hs3 => ?_)
  refine seg_cell (off := 11) (xs := []) (es := []) hb0 ha3 hs3 hgs (callOK_ints n W0) Try.underlying25 rfl rfl rfl (by kernel_rfl) (by kernel_rfl) Try.underlying23 fnOK_ints (fun _ => rfl) (by decide) (by kernel_rfl) (by decide) (fun a4 w4 ha4 hs4 => ?_)
  exact seg_end hb0 ha4 hs4 Try.underlying25 (by kernel_rfl) (by kernel_rfl) hlen hg (by kernel_rfl) (by decide) rfl (fun ds w' hc => ⟨ds, rfl, hc⟩)
theorem copyMember_ok (n : Nat) (W0 : World) : OneOK 36 25 n W0 := by
  cases n with
  | zero => exact oneOK_zero
  | succ n => exact copyMember_at n W0 (fun m _ => copyEntry_ok m W0)
end Go.Proofs.Ytfpgklhbghahoaa
/- Functions that compare two values that hold the same: their operations by symbols. -/
namespace Go.Proofs.Ytfpgklhbghahoaa
open Go.ChangeShapes Go.WideShapes Go.ChangeAt Go.RowKit Go.ChangeMaps Go.Joins Go.Deep
set_option linter.unusedVariables false
set_option linter.unusedSimpArgs false
set_option maxRecDepth 100000
/-- what a temporary holds: the address of a place of the box of side s, the value of such a place, a length, the counter, .. -/
inductive SV where
  | ptr (s : Bool) (o : Nat)
  | fld (s : Bool) (o : Nat) (t : TypeId)
  | len (o : Nat)
  | idx
  | idx1
  | zero
  | bool (b : Bool)
  | lt (o : Nat)
  | eptr (s : Bool) (o : Nat)
  | efld (s : Bool) (o : Nat) (t : TypeId)
def SV.same : SV → SV → Bool
  | .ptr s o, .ptr s' o' => s == s' && o == o'
  | .fld s o t, .fld s' o' t' => s == s' && o == o' && t == t'
  | .len o, .len o' => o == o'
  | .idx, .idx => true
  | .idx1, .idx1 => true
  | .zero, .zero => true
  | .bool b, .bool b' => b == b'
  | .lt o, .lt o' => o == o'
  | .eptr s o, .eptr s' o' => s == s' && o == o'
  | .efld s o t, .efld s' o' t' => s == s' && o == o' && t == t'
  | _, _ => false
theorem SV.same_eq {a b : SV} (h : a.same b = true) : a = b := by
  cases a <;> cases b <;> simp_all [SV.same]
/-- two values, and an element of each -/
structure Cx where
  cs : List Value
  ds : List Value
  xs : List Value
  ys : List Value
  C : Nat
  q : Nat
  B0 : Nat
  o0 : Nat
  B1 : Nat
  o1 : Nat
def valOf (P : Program) (t : TypeId) (cs : List Value) : Value := match P.underlying t with
  | some d => if d.isRow then .agg cs.toArray else cs.headD undef
  | none => undef
def slen : List Value → Nat
  | [.slice _ l _] => l
  | _ => 0
def den (P : Program) (X : Cx) : SV → Value
  | .ptr s o => .pointer (some ⟨if s then X.C + 1 else X.C, o, none⟩)
  | .fld s o t => valOf P t (part_ (if s then X.ds else X.cs) o (P.cellsOf t))
  | .len o => .int .i64 (slen (part_ X.cs o 1))
  | .idx => .int .i64 X.q
  | .idx1 => .int .i64 (X.q + 1 : Nat)
  | .zero => .int .i64 0
  | .bool b => .bool b
  | .lt o => .bool (decide (X.q < slen (part_ X.cs o 1)))
  | .eptr s o => .pointer (some ⟨if s then X.B1 else X.B0, (if s then X.o1 else X.o0) + o, none⟩)
  | .efld s o t => valOf P t (part_ (if s then X.ys else X.xs) o (P.cellsOf t))
abbrev Env := List (Nat × SV)
def Rel (P : Program) (X : Cx) (env : Env) (a : Act) : Prop := ∀ t sv, env.lookup t = some sv → a.eval (.tmp t) = den P X sv
abbrev TT : Nat → Prop := fun _ => True
/-- two values of type T that hold the same at level n; of each an element of the slice at place o -/
structure WOK (P : Program) (n : Nat) (T : TypeId) (boxed : Bool) (lp : Option (Nat × TypeId × TypeId)) (X : Cx) (w : World) : Prop where
  eqc : EqC P w w TT TT n T X.cs X.ds
  box : boxed = true → Box w X.C X.cs ∧ Box w (X.C + 1) X.ds
  loop : ∀ o ts e, lp = some (o, ts, e) → ∃ m b0 b1 l c0 c1, part_ X.cs o 1 = [.slice (some ⟨X.B0, b0, none⟩) l c0] ∧ part_ X.ds o 1 = [.slice (some ⟨X.B1, b1, none⟩) l c1] ∧ X.q < l ∧ l ≤ maxLen ∧ X.o0 = b0 + X.q * P.cellsOf e ∧ X.o1 = b1 + X.q * P.cellsOf e ∧
    X.B0 < w.heap.size ∧ X.B1 < w.heap.size ∧ w.rangeAt X.B0 X.o0 X.xs ∧ w.rangeAt X.B1 X.o1 X.ys ∧ X.xs.length = P.cellsOf e ∧ X.ys.length = P.cellsOf e ∧ m < n ∧ EqC P w w TT TT m e X.xs X.ys
theorem WOK.next {P : Program} {n : Nat} {T : TypeId} {boxed : Bool} {lp : Option (Nat × TypeId × TypeId)} {X : Cx} {w w' : World} (h : WOK P n T boxed lp X w) (hb : Below w.heap.size w w') : WOK P n T boxed lp X w' := by
  refine ⟨EqC.below hb hb _ _ _ _ h.eqc, fun hbx => ⟨(h.box hbx).1.keep hb, (h.box hbx).2.keep hb⟩, fun o ts e hlp => ?_⟩
  obtain ⟨m, b0, b1, l, c0, c1, h1, h2, h3, h4, h5, h6, h7, h8, h9, h10, h11, h12, h13, h14⟩ := h.loop o ts e hlp
  exact ⟨m, b0, b1, l, c0, c1, h1, h2, h3, h4, h5, h6, Nat.lt_of_lt_of_le h7 hb.size, Nat.lt_of_lt_of_le h8 hb.size, range_below h9 hb h7, range_below h10 hb h8, h11, h12, h13, EqC.below hb hb _ _ _ _ h14⟩
theorem WOK.drew {P : Program} {n : Nat} {T : TypeId} {boxed : Bool} {lp : Option (Nat × TypeId × TypeId)} {X : Cx} {w : World} (h : WOK P n T boxed lp X w) : WOK P n T boxed lp X w.drew := h.next (Below.refl _ _).drew
def structB (P : Program) (t : TypeId) : Bool := match P.underlying t with | some (.struct _) => true | _ => false
def sliceB (P : Program) (t : TypeId) : Option TypeId := match P.underlying t with | some (.slice e) => some e | _ => none
theorem structB_spec {P : Program} {t : TypeId} (h : structB P t = true) : ∃ fs, P.underlying t = some (.struct fs) := by
  unfold structB at h
  split at h
  · rename_i fs hu; exact ⟨fs, hu⟩
  · cases h
theorem sliceB_spec {P : Program} {t e : TypeId} (h : sliceB P t = some e) : P.underlying t = some (.slice e) := by
  unfold sliceB at h
  split at h
  · rename_i e' hu; rw [hu, Option.some.inj h]
  · cases h
/-- t lies at o in T -/
def placeB (P : Program) : Nat → TypeId → Nat → TypeId → Bool
  | 0, _, _, _ => false
  | m + 1, T, o, t => (o == 0 && T == t && ((match P.underlying T with | some (.struct _) => true | _ => false) || P.cellsOf t == 1)) || match P.underlying T with
    | some (.struct fs) => fs.toList.any fun f => decide (f.offset ≤ o) && decide (f.offset + P.cellsOf f.type ≤ P.cellsOf T) && decide (o - f.offset + P.cellsOf t ≤ P.cellsOf f.type) && placeB P m f.type (o - f.offset) t
    | _ => false
theorem eqC_one {P : Program} {w w' : World} {F F' : Nat → Prop} {n : Nat} {t : TypeId} {cs ds : List Value} (hns : ∀ fs, P.underlying t ≠ some (.struct fs)) (h : EqC P w w' F F' n t cs ds) : ∃ u v, cs = [u] ∧ ds = [v] := by
  cases n with
  | zero => exact h.elim
  | succ n =>
    unfold EqC at h
    split at h
    · obtain ⟨b, h1, h2⟩ := h; exact ⟨_, _, h1, h2⟩
    · obtain ⟨b, h1, h2, _⟩ := h; exact ⟨_, _, h1, h2⟩
    · obtain ⟨b, h1, h2, _⟩ := h; exact ⟨_, _, h1, h2⟩
    · obtain ⟨a, l, c, a', c', h1, h2, _⟩ := h; exact ⟨_, _, h1, h2⟩
    · rename_i fs hu; exact absurd hu (hns fs)
    · exact h.elim
theorem place_eq {P : Program} {w w' : World} {F F' : Nat → Prop} : ∀ (k n : Nat) (T : TypeId) (o : Nat) (t : TypeId) (cs ds : List Value), placeB P k T o t = true → EqC P w w' F F' n T cs ds → ∃ m, m ≤ n ∧ EqC P w w' F F' m t (part_ cs o (P.cellsOf t)) (part_ ds o (P.cellsOf t))
  | 0, _, _, _, _, _, _, h, _ => by cases h
  | k + 1, n, T, o, t, cs, ds, h, he => by
    unfold placeB at h
    rw [Bool.or_eq_true] at h
    rcases h with h | h
    · simp only [Bool.and_eq_true, beq_iff_eq, Bool.or_eq_true] at h
      obtain ⟨⟨rfl, rfl⟩, h⟩ := h
      refine ⟨n, Nat.le_refl _, ?_⟩
      cases n with
      | zero => exact he.elim
      | succ n =>
        by_cases hs : ∃ fs, P.underlying T = some (.struct fs)
        · obtain ⟨fs, hu⟩ := hs
          obtain ⟨h1, h2, _⟩ := (eqC_struct hu).1 he
          rw [part_all h1, part_all h2]
          exact he
        · have hns : ∀ fs, P.underlying T ≠ some (.struct fs) := fun fs hu => hs ⟨fs, hu⟩
          obtain ⟨u, v, rfl, rfl⟩ := eqC_one hns he
          have : P.cellsOf T = 1 := by
            rcases h with h | h
            · exfalso
              split at h
              · rename_i fs hu; exact hns fs hu
              · cases h
            · exact h
          rw [this]
          exact he
    · split at h
      · rename_i fs hu
        obtain ⟨f, hf, hh⟩ := List.any_eq_true.1 h
        simp only [Bool.and_eq_true, decide_eq_true_eq] at hh
        obtain ⟨⟨⟨h1, h2⟩, h3⟩, h4⟩ := hh
        cases n with
        | zero => exact he.elim
        | succ n =>
          obtain ⟨_, _, hall⟩ := (eqC_struct hu).1 he
          obtain ⟨i, hi, hif⟩ := List.mem_iff_getElem.1 hf
          have hfi : fs[i]? = some f := by rw [← Array.getElem?_toList, List.getElem?_eq_getElem hi, hif]
          obtain ⟨m, hm, hres⟩ := place_eq k n f.type (o - f.offset) t _ _ h4 (hall i f hfi)
          rw [part_part h3, part_part h3, show f.offset + (o - f.offset) = o by omega] at hres
          exact ⟨m, by omega, hres⟩
      · cases h
/-- t lies at o within the struct T -/
def properB (P : Program) (k : Nat) (T : TypeId) (o : Nat) (t : TypeId) : Bool := match P.underlying T with
    | some (.struct fs) => fs.toList.any fun f => decide (f.offset ≤ o) && decide (f.offset + P.cellsOf f.type ≤ P.cellsOf T) && decide (o - f.offset + P.cellsOf t ≤ P.cellsOf f.type) && placeB P k f.type (o - f.offset) t
    | _ => false
theorem proper_eq {P : Program} {w w' : World} {F F' : Nat → Prop} (k n : Nat) (T : TypeId) (o : Nat) (t : TypeId) (cs ds : List Value) (h : properB P k T o t = true) (he : EqC P w w' F F' n T cs ds) : ∃ m, m < n ∧ EqC P w w' F F' m t (part_ cs o (P.cellsOf t)) (part_ ds o (P.cellsOf t)) := by
  unfold properB at h
  split at h
  · rename_i fs hu
    obtain ⟨f, hf, hh⟩ := List.any_eq_true.1 h
    simp only [Bool.and_eq_true, decide_eq_true_eq] at hh
    obtain ⟨⟨⟨h1, h2⟩, h3⟩, h4⟩ := hh
    cases n with
    | zero => exact he.elim
    | succ n =>
      obtain ⟨_, _, hall⟩ := (eqC_struct hu).1 he
      obtain ⟨i, hi, hif⟩ := List.mem_iff_getElem.1 hf
      have hfi : fs[i]? = some f := by rw [← Array.getElem?_toList, List.getElem?_eq_getElem hi, hif]
      obtain ⟨m, hm, hres⟩ := place_eq k n f.type (o - f.offset) t _ _ h4 (hall i f hfi)
      rw [part_part h3, part_part h3, show f.offset + (o - f.offset) = o by omega] at hres
      exact ⟨m, by omega, hres⟩
  · cases h
/-- a function that compares -/
def SameOK (P : Program) (g : FuncId) (t : TypeId) (m : Nat) : Prop := ∀ (w : World) (xs ys : List Value), EqC P w w TT TT m t xs ys → Calls P g #[valOf P t xs, valOf P t ys] w fun e w' => e = .returned (.bool true) ∧ Below w.heap.size w w'
/-- '==' and '!=' of values of this type -/
def CmpOK (P : Program) (t : TypeId) : Prop := ∀ (n : Nat) (w : World) (xs ys : List Value) (x y : Operand), EqC P w w TT TT n t xs ys →
  (do eqGuard .neq t x y (valOf P t xs) (valOf P t ys); binOp .neq t (valOf P t xs) (valOf P t ys)).run P w = .ok (.bool false) w ∧ (do eqGuard .eql t x y (valOf P t xs) (valOf P t ys); binOp .eql t (valOf P t xs) (valOf P t ys)).run P w = .ok (.bool true) w
/-- the functions and the types of comparison; the type of the arguments; whether they are boxed -/
structure Cfg where
  tab : List (FuncId × TypeId)
  tabA : List (FuncId × TypeId)
  cmp : List TypeId
  T : TypeId
  boxed : Bool
  N : Nat
def sOp (env : Env) : Operand → Option SV
  | .tmp t => env.lookup t
  | .const (.bool b) => some (.bool b)
  | .const (.int .i64 m) => if m = 0 then some .zero else none
  | _ => none
theorem sOp_sound {P : Program} {X : Cx} {env : Env} {a : Act} (h : Rel P X env a) {x : Operand} {sv : SV} (hs : sOp env x = some sv) : a.eval x = den P X sv := by
  unfold sOp at hs
  split at hs
  · exact h _ _ hs
  · obtain rfl := Option.some.inj hs; rfl
  · split at hs
    · rename_i h0; obtain rfl := Option.some.inj hs; subst h0; rfl
    · cases hs
  · cases hs
def fldOff (P : Program) (S : TypeId) (j : Nat) : Option Nat := match P.underlying S with
  | some (.struct fs) => match fs[j]? with
    | some f => if ((P.info? f.type).map (·.size)).getD 0 = 0 then none else some f.offset
    | none => none
  | _ => none
theorem fldOff_sound {P : Program} {S j p : Nat} (h : fldOff P S j = some p) : ∃ (fs : Array Field) (f : Field), P.underlying S = some (.struct fs) ∧ fs[j]? = some f ∧ ((P.info? f.type).map (·.size)).getD 0 ≠ 0 ∧ f.offset = p := by
  unfold fldOff at h
  split at h
  · rename_i fs hu
    split at h
    · rename_i f hf
      split at h
      · cases h
      · rename_i h0; exact ⟨fs, f, hu, hf, h0, Option.some.inj h⟩
    · cases h
  · cases h
def symField (P : Program) (S : TypeId) (j : Nat) : Option SV → Option SV
  | some (.ptr s p) => (fldOff P S j).map fun f => .ptr s (p + f)
  | some (.eptr s p) => (fldOff P S j).map fun f => .eptr s (p + f)
  | _ => none
def readB (P : Program) (t : TypeId) (p k : Nat) : Bool := decide (p + P.cellsOf t ≤ k) && ((P.info? t).map (·.size) == some (P.cellsOf t)) && (match P.underlying t with | some d => d.isRow || P.cellsOf t == 1 | none => false)
def symLoad (P : Program) (c : Cfg) (lp : Option (Nat × TypeId × TypeId)) (t : TypeId) : Option SV → Option SV
  | some (.ptr s p) => if c.boxed && structB P c.T && readB P t p (P.cellsOf c.T) then some (.fld s p t) else none
  | some (.eptr s p) => match lp with
    | some (_, _, e) => if readB P t p (P.cellsOf e) then some (.efld s p t) else none
    | none => none
  | _ => none
def symCmp (op : BinOp) : Option SV := match op with
  | .neq => some (.bool false)
  | .eql => some (.bool true)
  | _ => none
def symBin (P : Program) (c : Cfg) (lp : Option (Nat × TypeId × TypeId)) (op : BinOp) (xT : TypeId) : Option SV → Option SV → Option SV
  | some (.fld s p t), some (.fld s' p' t') => if !s && s' && p == p' && t == t' && xT == t && c.cmp.contains t && placeB P 4 c.T p t then symCmp op else none
  | some (.efld s p t), some (.efld s' p' t') => match lp with
    | some (_, _, e) => if !s && s' && p == p' && t == t' && xT == t && c.cmp.contains t && placeB P 4 e p t then symCmp op else none
    | none => none
  | some (.len p), some (.len p') => if p == p' then (match op with | .neq => some (.bool false) | .eql => some (.bool true) | .gtr => some (.bool false) | _ => none) else none
  | some .idx, some (.len p) => match op with
    | .lss => some (.lt p)
    | _ => none
  | _, _ => none
def symCall (P : Program) (c : Cfg) (lp : Option (Nat × TypeId × TypeId)) (g : FuncId) : Option SV → Option SV → Option SV
  | some (.fld s p t), some (.fld s' p' t') => if !s && s' && p == p' && t == t' && (c.tab.contains (g, t) && properB P 4 c.T p t || c.tabA.contains (g, t) && placeB P 4 c.T p t) then some (.bool true) else none
  | some (.efld s p t), some (.efld s' p' t') => match lp with
    | some (_, _, e) => if !s && s' && p == p' && t == t' && (c.tab.contains (g, t) || c.tabA.contains (g, t)) && placeB P 4 e p t then some (.bool true) else none
    | none => none
  | _, _ => none
def symLen (P : Program) (c : Cfg) (t' : TypeId) : Option SV → Option SV
  | some (.fld _ p t) => if t' == t && placeB P 4 c.T p t && P.cellsOf t == 1 && (sliceB P t).isSome then some (.len p) else none
  | _ => none
def symIndex (P : Program) (lp : Option (Nat × TypeId × TypeId)) (t' : TypeId) : Option SV → Option SV → Option SV
  | some (.fld s p t), some .idx => match lp with
    | some (o, ts, e) => if p == o && t == ts && t' == ts && P.cellsOf ts == 1 && (sliceB P ts == some e) && ((P.info? e).map (·.size) == some (P.cellsOf e)) then some (.eptr s 0) else none
    | none => none
  | _, _ => none
def symOp (P : Program) (c : Cfg) (lp : Option (Nat × TypeId × TypeId)) (env : Env) (o : Oper) : Option SV := match o.op with
  | .move x => sOp env x
  | .assign x => sOp env x
  | .pick b x y => match sOp env b with
    | some (.bool true) => sOp env x
    | some (.bool false) => sOp env y
    | _ => none
  | .fieldAddr S x j => symField P S j (sOp env x)
  | .load t x => symLoad P c lp t (sOp env x)
  | .binOp .add _ x (.const (.int .i64 m)) _ => if m = 1 then (match sOp env x, lp with | some .idx, some _ => some .idx1 | _, _ => none) else none
  | .binOp op xT x y _ => symBin P c lp op xT (sOp env x) (sOp env y)
  | .unOp .not _ x => match sOp env x with
    | some (.bool b) => some (.bool (!b))
    | _ => none
  | .call { callee := .value (.func g), args := xs, argTypes := _ } => match xs.toList with
    | [x, y] => symCall P c lp g (sOp env x) (sOp env y)
    | _ => none
  | .call { callee := .builtin .len, args := xs, argTypes := ts } => match xs.toList, ts.toList with
    | [x], [t] => symLen P c t (sOp env x)
    | _, _ => none
  | .indexAddr t x i => symIndex P lp t (sOp env x) (sOp env i)
  | _ => none
end Go.Proofs.Ytfpgklhbghahoaa
/- Functions that compare two values that hold the same: the symbols say what the operations do. -/
namespace Go.Proofs.Ytfpgklhbghahoaa
open Go.ChangeShapes Go.WideShapes Go.ChangeAt Go.RowKit Go.ChangeMaps Go.Joins Go.Deep
set_option linter.unusedVariables false
set_option linter.unusedSimpArgs false
set_option maxRecDepth 100000
section
variable {P : Program} {c : Cfg} {lp : Option (Nat × TypeId × TypeId)} {X : Cx} {env : Env} {a : Act} {w : World} {o : Oper} {n : Nat}
structure CfgOK (P : Program) (c : Cfg) (n : Nat) : Prop where
  tab : ∀ g t, c.tab.contains (g, t) = true → FnOK P g ∧ ∀ m, m < n → SameOK P g t m
  tabA : ∀ g t, c.tabA.contains (g, t) = true → FnOK P g ∧ ∀ m, SameOK P g t m
  cmp : ∀ t, c.cmp.contains t = true → CmpOK P t
theorem wp_ok {v : Value} {K : Act → World → Prop} {Q : Exit → Act → World → Prop} (hrun : (execOp a.eval o).run P w = .ok (.value v) w) (h : K (a.put o.dst v) w) : o.wp P a w K Q := by
  unfold Oper.wp
  rw [hrun, Oper.upon_value]
  exact h
theorem field_sound {S : TypeId} {x : Operand} {j : Nat} {sv : SV} (ho : o.op = .fieldAddr S x j) (hrel : Rel P X env a) (hs : symField P S j (sOp env x) = some sv) : (execOp a.eval o).run P w = .ok (.value (den P X sv)) w := by
  unfold symField at hs
  split at hs
  · rename_i s p hsv
    obtain ⟨f, hf, rfl⟩ := Option.map_eq_some_iff.1 hs
    obtain ⟨fs, ff, h1, h2, h3, rfl⟩ := fldOff_sound hf
    exact ex_field S x j _ p fs ff ho (sOp_sound hrel hsv) h1 h2 h3
  · rename_i s p hsv
    obtain ⟨f, hf, rfl⟩ := Option.map_eq_some_iff.1 hs
    obtain ⟨fs, ff, h1, h2, h3, rfl⟩ := fldOff_sound hf
    have := ex_field (w := w) S x j _ _ fs ff ho (sOp_sound hrel hsv) h1 h2 h3
    rw [Nat.add_assoc] at this
    exact this
  · cases hs
theorem read_ok {t : TypeId} {x : Operand} {b p k o' : Nat} {cs : List Value} (ho : o.op = .load t x) (hx : a.eval x = .pointer (some ⟨b, o' + p, none⟩)) (hr : readB P t p k = true) (hl : cs.length = k) (hc : w.rangeAt b o' cs) : (execOp a.eval o).run P w = .ok (.value (valOf P t (part_ cs p (P.cellsOf t)))) w := by
  unfold readB at hr
  simp only [Bool.and_eq_true, decide_eq_true_eq, beq_iff_eq] at hr
  obtain ⟨⟨h1, h2⟩, h3⟩ := hr
  have hpl : (part_ cs p (P.cellsOf t)).length = P.cellsOf t := part_len (by omega)
  split at h3
  · rename_i d hu
    unfold valOf
    simp only [hu]
    by_cases hd : d.isRow = true
    · rw [if_pos hd]
      exact ex_load_row t x b (o' + p) _ d ho hx (range_part hc p _) hu hd (by rw [hpl]; exact h2)
    · rw [if_neg hd]
      have hd' : d.isRow = false := by simpa using hd
      rw [hd', Bool.false_or, beq_iff_eq] at h3
      rw [h3] at hpl ⊢
      obtain ⟨v, hv⟩ : ∃ v, part_ cs p 1 = [v] := by
        match part_ cs p 1, hpl with
        | [v], _ => exact ⟨v, rfl⟩
      have hcell := range_part hc p 1 0 v (by rw [hv]; rfl)
      rw [hv]
      exact ex_load_cell t x b (o' + p) v d ho hx hcell hu hd'
  · cases h3
theorem load_sound {t : TypeId} {x : Operand} {sv : SV} (ho : o.op = .load t x) (hrel : Rel P X env a) (hok : WOK P n c.T c.boxed lp X w) (hs : symLoad P c lp t (sOp env x) = some sv) : (execOp a.eval o).run P w = .ok (.value (den P X sv)) w := by
  unfold symLoad at hs
  split at hs
  · rename_i s p hsv
    split at hs
    · rename_i hh
      obtain rfl := Option.some.inj hs
      simp only [Bool.and_eq_true] at hh
      obtain ⟨⟨h1, h2⟩, h3⟩ := hh
      obtain ⟨hb0, hb1⟩ := hok.box h1
      have he := hok.eqc
      obtain ⟨fs, hu⟩ := structB_spec h2
      cases n with
      | zero => exact he.elim
      | succ n =>
        obtain ⟨l1, l2, _⟩ := (eqC_struct hu).1 he
        have hx := sOp_sound hrel hsv
        cases s
        · exact read_ok (o' := 0) ho (by rw [Nat.zero_add]; exact hx) h3 l1 hb0.rng
        · exact read_ok (o' := 0) ho (by rw [Nat.zero_add]; exact hx) h3 l2 hb1.rng
    · cases hs
  · rename_i s p hsv
    split at hs
    · rename_i o' ts e
      split at hs
      · rename_i hh
        obtain rfl := Option.some.inj hs
        obtain ⟨m, b0, b1, l, c0, c1, h1, h2, h3, h4, h5, h6, h7, h8, h9, h10, h11, h12, h13, h14⟩ := hok.loop o' ts e rfl
        have hx := sOp_sound hrel hsv
        cases s
        · exact read_ok ho hx hh h11 h9
        · exact read_ok ho hx hh h12 h10
      · cases hs
    · cases hs
  · cases hs
theorem cmp_sound {op : BinOp} {t : TypeId} {x y : Operand} {yT : TypeId} {xs ys : List Value} {m : Nat} {sv : SV} (ho : o.op = .binOp op t x y yT) (hx : a.eval x = valOf P t xs) (hy : a.eval y = valOf P t ys) (hc : CmpOK P t) (he : EqC P w w TT TT m t xs ys) (hs : symCmp op = some sv) : (execOp a.eval o).run P w = .ok (.value (den P X sv)) w := by
  obtain ⟨h1, h2⟩ := hc m w xs ys x y he
  unfold symCmp at hs
  split at hs
  · obtain rfl := Option.some.inj hs
    unfold execOp
    simp only [ho, hx, hy]
    rw [Sem.run_bind, h1]
    rfl
  · obtain rfl := Option.some.inj hs
    unfold execOp
    simp only [ho, hx, hy]
    rw [Sem.run_bind, h2]
    rfl
  · cases hs
theorem int_cmp {op : BinOp} {xT yT : TypeId} {x y : Operand} {p q : Nat} {r : Bool} (ho : o.op = .binOp op xT x y yT) (hx : a.eval x = .int .i64 p) (hy : a.eval y = .int .i64 q) (hop : (op = .neq ∧ r = decide (p ≠ q)) ∨ (op = .eql ∧ r = decide (p = q)) ∨ (op = .gtr ∧ r = decide (q < p)) ∨ (op = .lss ∧ r = decide (p < q))) : (execOp a.eval o).run P w = .ok (.value (.bool r)) w := by
  rcases hop with ⟨rfl, rfl⟩ | ⟨rfl, rfl⟩ | ⟨rfl, rfl⟩ | ⟨rfl, rfl⟩ <;>
  · unfold execOp
    simp only [ho, hx, hy]
    simp [go_sem]
    try (rw [Bool.eq_iff_iff]; simp; omega)
theorem bin_sound {op : BinOp} {xT yT : TypeId} {x y : Operand} {sv : SV} (hc : CfgOK P c n) (ho : o.op = .binOp op xT x y yT) (hrel : Rel P X env a) (hok : WOK P n c.T c.boxed lp X w) (hs : symBin P c lp op xT (sOp env x) (sOp env y) = some sv) : (execOp a.eval o).run P w = .ok (.value (den P X sv)) w := by
  unfold symBin at hs
  split at hs
  · rename_i s p t s' p' t' hx hy
    split at hs
    · rename_i hh
      simp only [Bool.and_eq_true, beq_iff_eq, Bool.not_eq_true'] at hh
      obtain ⟨⟨⟨⟨⟨⟨rfl, rfl⟩, rfl⟩, rfl⟩, rfl⟩, hcm⟩, hpl⟩ := hh
      obtain ⟨m, _, he⟩ := place_eq 4 n c.T p xT X.cs X.ds hpl hok.eqc
      exact cmp_sound ho (sOp_sound hrel hx) (sOp_sound hrel hy) (hc.cmp _ hcm) he hs
    · cases hs
  · rename_i s p t s' p' t' hx hy
    split at hs
    · rename_i o' ts e
      split at hs
      · rename_i hh
        simp only [Bool.and_eq_true, beq_iff_eq, Bool.not_eq_true'] at hh
        obtain ⟨⟨⟨⟨⟨⟨rfl, rfl⟩, rfl⟩, rfl⟩, rfl⟩, hcm⟩, hpl⟩ := hh
        obtain ⟨m, b0, b1, l, c0, c1, h1, h2, h3, h4, h5, h6, h7, h8, h9, h10, h11, h12, h13, h14⟩ := hok.loop o' ts e rfl
        obtain ⟨m', _, he⟩ := place_eq 4 m e p xT X.xs X.ys hpl h14
        exact cmp_sound ho (sOp_sound hrel hx) (sOp_sound hrel hy) (hc.cmp _ hcm) he hs
      · cases hs
    · cases hs
  · rename_i p p' hx hy
    split at hs
    · rename_i hh
      rw [beq_iff_eq] at hh
      subst hh
      have ex := sOp_sound hrel hx
      have ey := sOp_sound hrel hy
      split at hs
      · obtain rfl := Option.some.inj hs
        exact int_cmp ho ex ey (.inl ⟨rfl, by simp⟩)
      · obtain rfl := Option.some.inj hs
        exact int_cmp ho ex ey (.inr (.inl ⟨rfl, by simp⟩))
      · obtain rfl := Option.some.inj hs
        exact int_cmp ho ex ey (.inr (.inr (.inl ⟨rfl, by simp⟩)))
      · cases hs
    · cases hs
  · rename_i p hx hy
    split at hs
    · obtain rfl := Option.some.inj hs
      exact int_cmp ho (sOp_sound hrel hx) (sOp_sound hrel hy) (.inr (.inr (.inr ⟨rfl, rfl⟩)))
    · cases hs
  · cases hs
theorem add_sound {xT yT : TypeId} {x : Operand} (ho : o.op = .binOp .add xT x (.const (.int .i64 1)) yT) (hx : a.eval x = .int .i64 X.q) (hq : X.q + 1 ≤ maxLen) : (execOp a.eval o).run P w = .ok (.value (den P X .idx1)) w := by
  have h1 : a.eval (.const (.int .i64 1)) = .int .i64 1 := rfl
  have hw : IntKind.i64.wrap ((X.q : Int) + 1) = ((X.q + 1 : Nat) : Int) := by
    unfold maxLen at hq
    rw [IntKind.wrap_i64]
    omega
  unfold execOp
  simp only [ho, hx, h1]
  simp [go_sem]
  unfold den
  rw [← hw]
theorem len_sound {t' : TypeId} {x : Operand} {sv : SV} (ho : o.op = .call { callee := .builtin .len, args := #[x], argTypes := #[t'] }) (hrel : Rel P X env a) (hok : WOK P n c.T c.boxed lp X w) (hs : symLen P c t' (sOp env x) = some sv) : (execOp a.eval o).run P w = .ok (.value (den P X sv)) w := by
  unfold symLen at hs
  split at hs
  · rename_i s p t hx
    split at hs
    · rename_i hh
      obtain rfl := Option.some.inj hs
      simp only [Bool.and_eq_true, beq_iff_eq] at hh
      obtain ⟨⟨⟨rfl, hpl⟩, h1⟩, hsl⟩ := hh
      obtain ⟨m, _, he⟩ := place_eq 4 n c.T p t' X.cs X.ds hpl hok.eqc
      obtain ⟨e, hse⟩ := Option.isSome_iff_exists.1 hsl
      have hu := sliceB_spec hse
      · rw [h1] at he
        cases m with
        | zero => exact he.elim
        | succ m =>
          unfold EqC at he
          simp only [hu] at he
          obtain ⟨ad, l, cp, ad', cp', e1, e2, _⟩ := he
          have hel : P.underlying t' = some (.slice (P.elem t')) := by simp [Program.elem, hu]
          have hval : ∀ s : Bool, ∃ ad cp, valOf P t' (part_ (if s then X.ds else X.cs) p (P.cellsOf t')) = .slice ad l cp := fun s => by
            cases s
            · exact ⟨ad, cp, by unfold valOf; simp only [hu, h1]; simp [e1]⟩
            · exact ⟨ad', cp', by unfold valOf; simp only [hu, h1]; simp [e2]⟩
          obtain ⟨ad2, cp2, hv⟩ := hval s
          have hx2 : a.eval x = .slice ad2 l cp2 := (sOp_sound hrel hx).trans hv
          have hln : slen (part_ X.cs p 1) = l := by rw [e1]; rfl
          unfold execOp
          simp only [ho, resolve, invoke, builtin, Sem.run_bind, Sem.run_pure, Result.andThen_ok, List.map_toArray, List.map_cons, List.map_nil, hx2, run_len_slice w t' _ ad2 l cp2 hel]
          have hd : den P X (.len p) = .int .i64 (l : Int) := by
            show Value.int .i64 (slen (part_ X.cs p 1) : Int) = _
            rw [hln]
          rw [hd]
          rfl
    · cases hs
  · cases hs
theorem index_sound {t' : TypeId} {x i : Operand} {sv : SV} (ho : o.op = .indexAddr t' x i) (hrel : Rel P X env a) (hok : WOK P n c.T c.boxed lp X w) (hs : symIndex P lp t' (sOp env x) (sOp env i) = some sv) : (execOp a.eval o).run P w = .ok (.value (den P X sv)) w := by
  unfold symIndex at hs
  split at hs
  · rename_i s p t hx hi
    split at hs
    · rename_i o' ts e
      split at hs
      · rename_i hh
        obtain rfl := Option.some.inj hs
        simp only [Bool.and_eq_true, beq_iff_eq] at hh
        obtain ⟨⟨⟨⟨⟨rfl, rfl⟩, rfl⟩, h1⟩, hsl⟩, hsz⟩ := hh
        obtain ⟨m, b0, b1, l, c0, c1, k1, k2, k3, k4, k5, k6, _⟩ := hok.loop p t' e rfl
        have hu := sliceB_spec hsl
        · have hel : P.underlying t' = some (.slice (P.elem t')) := by simp [Program.elem, hu]
          have hee : P.elem t' = e := by simp [Program.elem, hu]
          have hei : a.eval i = .int .i64 X.q := sOp_sound hrel hi
          have hsize : (sizeOf (P.elem t')).run P w = .ok (P.cellsOf e) w := by
            rw [hee]
            cases hq : P.info? e with
            | none => simp [hq] at hsz
            | some inf =>
              have : inf.size = P.cellsOf e := by simpa [hq] using hsz
              simp [sizeOf, typeInfo, hq, this]
          have key : ∀ B b cc, a.eval x = .slice (some ⟨B, b, none⟩) l cc → (execOp a.eval o).run P w = .ok (.value (.pointer (some ⟨B, b + X.q * P.cellsOf e, none⟩))) w := fun B b cc hxv => by
            unfold execOp
            simp only [ho, hxv, hei, Sem.run_bind, run_indexAt_slice w t' ⟨B, b, none⟩ l cc .i64 X.q hel]
            rw [if_pos ⟨by omega, by omega⟩, hsize]
            simp only [Result.andThen_ok, Int.toNat_natCast, Addr.add_mid, Sem.run_pure]
          cases s
          · have hv : a.eval x = .slice (some ⟨X.B0, b0, none⟩) l c0 := (sOp_sound hrel hx).trans (by unfold den valOf; simp only [hu, h1]; simp [k1])
            rw [key _ _ _ hv]
            show _ = Result.ok (Next.value (Value.pointer (some ⟨X.B0, X.o0 + 0, none⟩))) w
            rw [k5]
            rfl
          · have hv : a.eval x = .slice (some ⟨X.B1, b1, none⟩) l c1 := (sOp_sound hrel hx).trans (by unfold den valOf; simp only [hu, h1]; simp [k2])
            rw [key _ _ _ hv]
            show _ = Result.ok (Next.value (Value.pointer (some ⟨X.B1, X.o1 + 0, none⟩))) w
            rw [k6]
            rfl
      · cases hs
    · cases hs
  · cases hs
theorem call_sound {g : FuncId} {ts : Array TypeId} {x y : Operand} {sv : SV} {K : Act → World → Prop} {Q : Exit → Act → World → Prop} (hc : CfgOK P c n) (ho : o.op = .call { callee := .value (.func g), args := #[x, y], argTypes := ts }) (hrel : Rel P X env a) (hok : WOK P n c.T c.boxed lp X w) (hs : symCall P c lp g (sOp env x) (sOp env y) = some sv)
    (hK : ∀ w', Below w.heap.size w w' → K (a.put o.dst (den P X sv)) w') : o.wp P a w K Q := by
  have main : ∀ (t : TypeId) (xs ys : List Value) (m : Nat), FnOK P g → SameOK P g t m → a.eval x = valOf P t xs → a.eval y = valOf P t ys → EqC P w w TT TT m t xs ys → sv = .bool true → o.wp P a w K Q := by
    intro t xs ys m hF hS hx hy he hsv
    subst hsv
    unfold Oper.wp
    rw [ex_call (w := w) hF rfl ho, Oper.upon_enter, List.map_toArray, List.map_cons, List.map_cons, List.map_nil, hx, hy]
    refine (hS w xs ys he).mono ?_
    rintro e w' ⟨rfl, hb⟩
    exact hK w' hb
  unfold symCall at hs
  split at hs
  · rename_i s p t s' p' t' hx hy
    split at hs
    · rename_i hh
      obtain rfl := Option.some.inj hs
      simp only [Bool.and_eq_true, Bool.or_eq_true, beq_iff_eq, Bool.not_eq_true'] at hh
      obtain ⟨⟨⟨⟨rfl, rfl⟩, rfl⟩, rfl⟩, ht⟩ := hh
      rcases ht with ⟨ht, hpl⟩ | ⟨ht, hpl⟩
      · obtain ⟨m, hm, he⟩ := proper_eq 4 n c.T p t X.cs X.ds hpl hok.eqc
        obtain ⟨hF, hS⟩ := hc.tab g t ht
        exact main t _ _ m hF (hS m hm) (sOp_sound hrel hx) (sOp_sound hrel hy) he rfl
      · obtain ⟨m, hm, he⟩ := place_eq 4 n c.T p t X.cs X.ds hpl hok.eqc
        obtain ⟨hF, hS⟩ := hc.tabA g t ht
        exact main t _ _ m hF (hS m) (sOp_sound hrel hx) (sOp_sound hrel hy) he rfl
    · cases hs
  · rename_i s p t s' p' t' hx hy
    split at hs
    · rename_i o' ts' e
      split at hs
      · rename_i hh
        obtain rfl := Option.some.inj hs
        simp only [Bool.and_eq_true, Bool.or_eq_true, beq_iff_eq, Bool.not_eq_true'] at hh
        obtain ⟨⟨⟨⟨⟨rfl, rfl⟩, rfl⟩, rfl⟩, ht⟩, hpl⟩ := hh
        obtain ⟨m, b0, b1, l, c0, c1, h1, h2, h3, h4, h5, h6, h7, h8, h9, h10, h11, h12, h13, h14⟩ := hok.loop o' ts' e rfl
        obtain ⟨m', hm', he⟩ := place_eq 4 m e p t X.xs X.ys hpl h14
        rcases ht with ht | ht
        · obtain ⟨hF, hS⟩ := hc.tab g t ht
          exact main t _ _ m' hF (hS m' (by omega)) (sOp_sound hrel hx) (sOp_sound hrel hy) he rfl
        · obtain ⟨hF, hS⟩ := hc.tabA g t ht
          exact main t _ _ m' hF (hS m') (sOp_sound hrel hx) (sOp_sound hrel hy) he rfl
      · cases hs
    · cases hs
  · cases hs
end
end Go.Proofs.Ytfpgklhbghahoaa
