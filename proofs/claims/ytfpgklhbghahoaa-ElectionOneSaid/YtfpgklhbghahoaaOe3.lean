/- Merged texts: Eg7, Eh1, Sv1, Ord, Sy1, Eh2, Eh3. -/
import Derived.Test.YtfpgklhbghahoaaOe2
import Derived.OrdersHeld
import Derived.StillTail
import Derived.WalkKit
/- Election: copies of values. -/
namespace Go.Proofs.Ytfpgklhbghahoaa
open Go.ChangeShapes Go.WideShapes Go.ChangeAt Go.RowKit Go.ChangeMaps Go.Joins Go.Deep
set_option linter.unusedVariables false
set_option linter.unusedSimpArgs false
set_option maxRecDepth 100000
attribute [local go_sem] Oper.semAt_some
theorem eqC_form {W W' : World} {F F' : Nat → Prop} {n : Nat} {t e : TypeId} {v v' : Value} (hu : Try.prog.underlying t = some (.slice e)) (h : EqC Try.prog W W' F F' n t [v] [v']) : ∃ a len cap, v' = .slice a len cap := by
  cases n with
  | zero => exact h.elim
  | succ n =>
    unfold EqC at h
    simp only [hu] at h
    obtain ⟨a, len, cap, a', cap', _, h2, _⟩ := h
    exact ⟨a', len, cap', (List.cons.inj h2).1⟩
end Go.Proofs.Ytfpgklhbghahoaa
/- Operations by their runs: boxes, loads and stores of parts of structs, whatever the cells are. -/
namespace Go.Proofs.Ytfpgklhbghahoaa
open Go.ChangeShapes Go.WideShapes Go.ChangeAt Go.RowKit Go.ChangeMaps Go.Joins Go.Deep
set_option linter.unusedVariables false
set_option linter.unusedSimpArgs false
set_option maxRecDepth 100000
section
variable {P : Program} {w : World} {o : Oper} {ρ : Operand → Value}
theorem run_program_ (P : Program) (w : World) : (program).run P w = .ok P w := rfl
theorem ex_box (T : TypeId) (x : Operand) (cs : List Value) (ho : o.op = .box T x) (hx : ρ x = .agg cs.toArray) : (execOp ρ o).run P w = .ok (.value (.pointer (some ⟨w.heap.size, 0, none⟩))) (w.alloc (.cells cs.toArray T)) := by
  unfold execOp
  simp only [ho, hx, Instr.box, newVar, newRow, run_newObj_alloc, Sem.run_bind, Sem.run_pure, Result.andThen_ok, Value.cells]
theorem ex_alloc (T : TypeId) (i : TypeInfo) (zs : List Value) (ho : o.op = .alloc T) (hi : P.info? T = some i) (hz : i.zero = some (.agg zs.toArray)) : (execOp ρ o).run P w = .ok (.value (.pointer (some ⟨w.heap.size, 0, none⟩))) (w.alloc (.cells zs.toArray T)) := by
  unfold execOp
  simp only [ho, Instr.alloc, zeroValue, typeInfo, hi, hz, newVar, newRow, run_newObj_alloc, Sem.run_bind, Sem.run_pure, Result.andThen_ok, Value.cells, run_program_]
theorem ex_field (T : TypeId) (x : Operand) (j b p : Nat) (fs : Array Field) (f : Field) (ho : o.op = .fieldAddr T x j) (hx : ρ x = .pointer (some ⟨b, p, none⟩)) (hu : P.underlying T = some (.struct fs)) (hf : fs[j]? = some f) (hs : ((P.info? f.type).map (·.size)).getD 0 ≠ 0) : (execOp ρ o).run P w = .ok (.value (.pointer (some ⟨b, p + f.offset, none⟩))) w := by
  unfold execOp
  cases hq : P.info? f.type with
  | none => simp [hq] at hs
  | some i =>
    have h0 : i.size ≠ 0 := by simpa [hq] using hs
    simp only [ho, hx, Instr.fieldAt, Sem.run_bind, run_underlying hu w, Result.andThen_ok, hf, Instr.sureAddr, Sem.run_pure, fieldPlace, sizeOf, typeInfo, hq, run_program_, if_neg h0, Addr.add_mid]
theorem ex_load_row (T : TypeId) (x : Operand) (b p : Nat) (cs : List Value) (d : TypeDesc) (ho : o.op = .load T x) (hx : ρ x = .pointer (some ⟨b, p, none⟩)) (hc : w.rangeAt b p cs) (hu : P.underlying T = some d) (hd : d.isRow = true) (hi : (P.info? T).map (·.size) = some cs.length) : (execOp ρ o).run P w = .ok (.value (.agg cs.toArray)) w := by
  unfold execOp
  simp only [ho, hx, Instr.loadAt, Instr.sureAddr, Sem.run_bind, Sem.run_pure, Result.andThen_ok, run_loadVar_mid w b p T cs d hc hu hd hi]
theorem run_load_cell {a : Addr} {v : Value} (h : w.cell? a = some v) : (load a).run P w = .ok v w := by simp [go_sem, h]
theorem ex_load_cell (T : TypeId) (x : Operand) (b p : Nat) (v : Value) (d : TypeDesc) (ho : o.op = .load T x) (hx : ρ x = .pointer (some ⟨b, p, none⟩)) (hc : w.cell? ⟨b, p, none⟩ = some v) (hu : P.underlying T = some d) (hd : d.isRow = false) : (execOp ρ o).run P w = .ok (.value v) w := by
  unfold execOp
  have hagg : (isAgg T).run P w = .ok false w := by
    unfold isAgg
    rw [Sem.run_bind, run_underlying hu w]
    cases d <;> simp_all
  simp only [ho, hx, Instr.loadAt, Instr.sureAddr, Sem.run_bind, Sem.run_pure, Result.andThen_ok, loadVar, hagg]
  rw [if_neg (by decide), run_load_cell hc]
  rfl
theorem ex_store_row (T : TypeId) (x y : Operand) (b p : Nat) (cs : List Value) (ho : o.op = .store T x y) (hx : ρ x = .pointer (some ⟨b, p, none⟩)) (hy : ρ y = .agg cs.toArray) (ht : w.there b p cs.length) (hi : (P.info? T).map (·.size) = some cs.length) (h1 : ∀ v ∈ cs, v.oneCell' = true) : (execOp ρ o).run P w = .ok .skip (w.setCells b p cs) := by
  unfold execOp
  have := run_storeVar_mid (P := P) w b p T cs.toArray (by simpa using ht) (by simpa using hi) (all_oneCell_toArray h1)
  simp only [ho, hx, hy, Instr.storeAt, Instr.sureAddr, Sem.run_bind, Sem.run_pure, Result.andThen_ok, this]
theorem cells_one {v : Value} (h : v.oneCell' = true) : v.cells = #[v] := by
  cases v <;> simp_all [Value.oneCell', Value.cells]
theorem ex_store_cell (T : TypeId) (x y : Operand) (b p : Nat) (v : Value) (ho : o.op = .store T x y) (hx : ρ x = .pointer (some ⟨b, p, none⟩)) (hy : ρ y = v) (ht : w.there b p 1) (hi : (P.info? T).map (·.size) = some 1) (h1 : v.oneCell' = true) : (execOp ρ o).run P w = .ok .skip (w.setCells b p [v]) := by
  unfold execOp
  have hk : (storeCells ⟨b, p, none⟩ [v]).run P w = .ok () (w.setCells b p [v]) := by
    have := run_storeCells_cells (P := P) b p [v] 0 w (fun j hj => by simpa using (ht j (by simpa using hj)).1) (fun j hj => by simpa using (ht j (by simpa using hj)).2) (fun u hu => by
      have : u = v := by simpa using hu
      rw [this]; exact h1)
    simpa using this
  cases hq : P.info? T with
  | none => simp [hq] at hi
  | some i =>
    have hs : i.size = 1 := by simpa [hq] using hi
    simp only [ho, hx, hy, Instr.storeAt, Instr.sureAddr, Sem.run_bind, Sem.run_pure, Result.andThen_ok, storeVar, sizeOf, typeInfo, hq, run_program_, cells_one h1, hs]
    rw [if_neg (by simp), hk]
    rfl
theorem wpList_ok {ops : Array Oper} {rest : List Oper} {a : Act} {w w' : World} {Q : Exit → Act → World → Prop} {v : Value} (hg : o.guard = none) (hrun : (execOp a.eval o).run P w = .ok (.value v) w')
    (h : wpList P ops Q rest (a.put o.dst v) w') : wpList P ops Q (o :: rest) a w := by
  refine wpList_plain hg fun K hK => ?_
  unfold Oper.wp
  rw [hrun, Oper.upon_value]
  exact hK _ _ h
theorem wpList_done {ops : Array Oper} {rest : List Oper} {a : Act} {w w' : World} {Q : Exit → Act → World → Prop} (hg : o.guard = none) (hd : o.dst = none) (hrun : (execOp a.eval o).run P w = .ok .skip w')
    (h : wpList P ops Q rest a w') : wpList P ops Q (o :: rest) a w := by
  refine wpList_plain hg fun K hK => ?_
  unfold Oper.wp
  rw [hrun, Oper.upon_skip, hd]
  exact hK _ _ h
/-- a function of the program, with a body -/
def FnOK (P : Program) (g : FuncId) : Prop := ∃ fn, P.funcs[g]? = some fn ∧ (fn.name == "runtime.NumGoroutine") = false ∧ fn.body.isNone = false
theorem ex_call {g : FuncId} {xs : Array Operand} {ts : Array TypeId} (hF : FnOK P g) (hρ : ρ (.func g) = .func (.func g) #[] #[]) (ho : o.op = .call { callee := .value (.func g), args := xs, argTypes := ts }) : (execOp ρ o).run P w = .ok (.enter g (xs.map ρ)) w := by
  obtain ⟨fn, h1, h2, h3⟩ := hF
  unfold execOp
  simp only [ho, resolve, hρ, Deferred.ofValue, Sem.run_bind, Sem.run_pure, Result.andThen_ok, invoke, callFunc, run_program_, h1, h2, h3, Array.append_empty, Array.empty_append, if_neg]
  rfl
/-- a call of a function that is named, with whatever arguments -/
theorem wpList_calls {ops : Array Oper} {rest : List Oper} {a : Act} {Q : Exit → Act → World → Prop} {g : FuncId} {xs : Array Operand} {ts : Array TypeId} {R : Ending → World → Prop} (hF : FnOK P g) (hg : o.guard = none) (ho : o.op = .call { callee := .value (.func g), args := xs, argTypes := ts }) (hc : Calls P g (xs.map a.eval) w R)
    (hR : ∀ e w', R e w' → ∃ v, e = .returned v ∧ wpList P ops Q rest (a.put o.dst v) w') : wpList P ops Q (o :: rest) a w := by
  refine wpList_plain hg fun K hK => ?_
  unfold Oper.wp
  rw [ex_call (w := w) hF rfl ho, Oper.upon_enter]
  refine hc.mono ?_
  intro e w' hr
  obtain ⟨v, rfl, h⟩ := hR e w' hr
  exact hK _ _ h
end
end Go.Proofs.Ytfpgklhbghahoaa
/- Walks with a frame of which only some temporaries are known, and boxes that are known whole (plain). -/
namespace Go.Proofs.Ytfpgklhbghahoaa
open Go.ChangeShapes Go.WideShapes Go.ChangeAt Go.RowKit Go.ChangeMaps Go.Joins Go.Deep
set_option linter.unusedVariables false
set_option linter.unusedSimpArgs false
set_option maxRecDepth 100000
abbrev VEnv := List (Nat × Value)
/-- what is known of a frame -/
structure FrV (N : Nat) (env : VEnv) (a : Act) : Prop where
  size : a.tmps.size = N
  defers : a.defers = []
  rel : ∀ t v, env.lookup t = some v → a.eval (.tmp t) = v
theorem FrV.put {N : Nat} {env : VEnv} {a : Act} (h : FrV N env a) {d : Nat} (hd : d < N) (v : Value) : FrV N ((d, v) :: env) (a.put (some d) v) := by
  refine ⟨by simp [Act.put, h.size], h.defers, fun t u hl => ?_⟩
  by_cases e : t = d
  · subst e
    simp [List.lookup] at hl
    subst hl
    simp [Act.put, Act.eval, Array.getElem?_setIfInBounds, h.size, hd]
  · have hb : (t == d) = false := by simpa using e
    simp only [List.lookup, hb] at hl
    rw [← h.rel t u hl]
    have hne : ¬ d = t := fun e' => e e'.symm
    simp [Act.put, Act.eval, Array.getElem?_setIfInBounds, hne]
theorem FrV.drop {N : Nat} {env : VEnv} {a : Act} (h : FrV N env a) {d : Nat} (hn : env.lookup d = none) (v : Value) : FrV N env (a.put (some d) v) := by
  refine ⟨by simp [Act.put, h.size], h.defers, fun t u hl => ?_⟩
  have e : t ≠ d := fun e => by subst e; rw [hn] at hl; cases hl
  rw [← h.rel t u hl]
  have hne : ¬ d = t := fun e' => e e'.symm
  simp [Act.put, Act.eval, Array.getElem?_setIfInBounds, hne]
/-- fewer temporaries -/
theorem FrV.sub {N : Nat} {env : VEnv} {a : Act} (h : FrV N env a) : ∀ {env' : VEnv}, (∀ p ∈ env', env.lookup p.1 = some p.2) → FrV N env' a := fun {env'} hs => by
  refine ⟨h.size, h.defers, fun t v hl => h.rel t v ?_⟩
  have : (t, v) ∈ env' := by
    clear hs
    induction env' with
    | nil => cases hl
    | cons p env' ih =>
      obtain ⟨k, u⟩ := p
      by_cases e : t = k
      · subst e
        simp [List.lookup] at hl
        subst hl
        exact List.mem_cons_self
      · have hb : (t == k) = false := by simpa using e
        simp only [List.lookup, hb] at hl
        exact List.mem_cons_of_mem _ (ih hl)
  exact hs _ this
theorem sub_nil {env : VEnv} : ∀ p ∈ ([] : VEnv), env.lookup p.1 = some p.2 := fun p h => by cases h
theorem sub_cons {env env' : VEnv} {t : Nat} {v : Value} (h : env.lookup t = some v) (hs : ∀ p ∈ env', env.lookup p.1 = some p.2) : ∀ p ∈ (t, v) :: env', env.lookup p.1 = some p.2 := fun p hp => by
  rcases List.mem_cons.1 hp with rfl | hp
  · exact h
  · exact hs p hp
/-- worlds to which memory is compared: the first; others, in blocks of a kind -/
structure Base where
  w : World
  bs : List (World × (Nat → Prop))
/-- boxes that are known whole; what lay below is as it was -/
structure Bx (b : Base) (l : List (Nat × List Value)) (W : World) : Prop where
  box : ∀ x ∈ l, Box W x.1 x.2
  low : Below b.w.heap.size b.w W
  ge : ∀ x ∈ l, b.w.heap.size ≤ x.1
  nd : ∀ (i j : Nat) (x y : Nat × List Value), l[i]? = some x → l[j]? = some y → x.1 = y.1 → i = j
  bas : ∀ p ∈ b.bs, p.1.heap.size ≤ W.heap.size ∧ ∀ i, i < p.1.heap.size → p.2 i → W.heap[i]? = p.1.heap[i]?
  bge : ∀ p ∈ b.bs, ∀ x ∈ l, x.1 < p.1.heap.size → ¬ p.2 x.1
theorem Bx.start (w : World) : Bx ⟨w, []⟩ [] w := ⟨fun x h => (by cases h), Below.refl _ _, fun x h => (by cases h), fun i j x y h => (by simp at h), fun p h => (by cases h), fun p h => (by cases h)⟩
theorem Bx.keep {b : Base} {W W' : World} {l : List (Nat × List Value)} (h : Bx b l W) (hb : Below W.heap.size W W') : Bx b l W' := ⟨fun x hx => (h.box x hx).keep hb, h.low.trans (hb.mono h.low.size), h.ge, h.nd, fun p hp => ⟨Nat.le_trans (h.bas p hp).1 hb.size, fun i hi hpi => (hb.block i (Nat.lt_of_lt_of_le hi (h.bas p hp).1)).trans ((h.bas p hp).2 i hi hpi)⟩, h.bge⟩
theorem Bx.drew {b : Base} {W : World} {l : List (Nat × List Value)} (h : Bx b l W) : Bx b l W.drew := h.keep (Below.refl _ _).drew
theorem Bx.get {b : Base} {W : World} {l : List (Nat × List Value)} (h : Bx b l W) {i C : Nat} {cs : List Value} (hi : l[i]? = some (C, cs)) : Box W C cs := h.box _ (List.mem_of_getElem? hi)
theorem Bx.new {b : Base} {W : World} {l : List (Nat × List Value)} (h : Bx b l W) (cs : List Value) (T : TypeId) : Bx b ((W.heap.size, cs) :: l) (W.alloc (.cells cs.toArray T)) := by
  have hb : Below W.heap.size W (W.alloc (.cells cs.toArray T)) := (Below.refl _ _).alloc (Nat.le_refl _) _
  have h1 := h.keep hb
  refine ⟨fun x hx => ?_, h1.low, fun x hx => ?_, ?_, h1.bas, fun p hp x hx hlt => ?_⟩
  · rcases List.mem_cons.1 hx with rfl | hx
    · exact Box.new W cs T
    · exact h1.box x hx
  · rcases List.mem_cons.1 hx with rfl | hx
    · exact h.low.size
    · exact h.ge x hx
  · intro i j x y hi hj he
    match i, j, hi, hj with
    | 0, 0, _, _ => rfl
    | 0, j + 1, hi, hj =>
      have h1 : (W.heap.size, cs) = x := Option.some.inj hi
      have := (h.box y (List.mem_of_getElem? (by simpa using hj))).lt
      rw [← h1] at he
      have he' : W.heap.size = y.1 := he
      omega
    | i + 1, 0, hi, hj =>
      have h1 : (W.heap.size, cs) = y := Option.some.inj hj
      have := (h.box x (List.mem_of_getElem? (by simpa using hi))).lt
      rw [← h1] at he
      have he' : x.1 = W.heap.size := he
      omega
    | i + 1, j + 1, hi, hj => rw [h.nd i j x y (by simpa using hi) (by simpa using hj) he]
  · rcases List.mem_cons.1 hx with rfl | hx
    · have := (h.bas p hp).1
      have hlt' : W.heap.size < p.1.heap.size := hlt
      omega
    · exact h.bge p hp x hx hlt
theorem Bx.set {b : Base} {W W' : World} {l : List (Nat × List Value)} (h : Bx b l W) {i C : Nat} {cs cs' : List Value} (hi : l[i]? = some (C, cs)) (hb : Box W' C cs') (ho : Only W W' C) : Bx b (l.set i (C, cs')) W' := by
  have hil : i < l.length := (List.getElem?_eq_some_iff.1 hi).1
  have hli : l[i] = (C, cs) := (List.getElem?_eq_some_iff.1 hi).2
  have hge := h.ge _ (List.mem_of_getElem? hi)
  have hmi := List.mem_of_getElem? hi
  refine ⟨fun x hx => ?_, h.low.trans (ho.below _ hge), fun x hx => ?_, fun j k x y hj hk he => ?_, fun p hp => ⟨by rw [ho.size]; exact (h.bas p hp).1, fun k hk hpk => ?_⟩, fun p hp x hx hlt => ?_⟩
  · obtain ⟨j, hj, hjx⟩ := List.mem_iff_getElem.1 hx
    rw [List.length_set] at hj
    rw [List.getElem_set] at hjx
    split at hjx
    · subst hjx; exact hb
    · rename_i hne
      have hx2 : x ∈ l := hjx ▸ List.getElem_mem hj
      refine (h.box x hx2).other ho (fun e => hne ?_)
      exact (h.nd i j _ _ hi (by rw [List.getElem?_eq_getElem hj, hjx]) e.symm)
  · rcases List.mem_or_eq_of_mem_set hx with hx | rfl
    · exact h.ge x hx
    · exact hge
  · have key : ∀ (j : Nat) (x : Nat × List Value), (l.set i (C, cs'))[j]? = some x → ∃ x', l[j]? = some x' ∧ x'.1 = x.1 := fun j x hj => by
      by_cases e : i = j
      · subst e
        rw [List.getElem?_set_self hil] at hj
        obtain rfl := Option.some.inj hj
        exact ⟨_, hi, rfl⟩
      · rw [List.getElem?_set_ne e] at hj
        exact ⟨x, hj, rfl⟩
    obtain ⟨x', h1, h2⟩ := key j x hj
    obtain ⟨y', h3, h4⟩ := key k y hk
    exact h.nd j k x' y' h1 h3 (h2.trans (he.trans h4.symm))
  · refine (ho.heap k (fun e => ?_)).trans ((h.bas p hp).2 k hk hpk)
    subst e
    exact h.bge p hp _ hmi hk hpk
  · rcases List.mem_or_eq_of_mem_set hx with hx | rfl
    · exact h.bge p hp x hx hlt
    · exact h.bge p hp (C, cs) hmi hlt
/-- more is known below -/
theorem Bx.sub {b : Base} {W : World} {x : Nat × List Value} {l : List (Nat × List Value)} (h : Bx b (x :: l) W) : Bx b l W := ⟨fun y hy => h.box y (List.mem_cons_of_mem _ hy), h.low, fun y hy => h.ge y (List.mem_cons_of_mem _ hy), fun i j y z hi hj he => by have := h.nd (i + 1) (j + 1) y z (by simpa using hi) (by simpa using hj) he; omega, h.bas, fun p hp y hy => h.bge p hp y (List.mem_cons_of_mem _ hy)⟩
/-- behind a call that made memory: what it made, and what came in, stays -/
theorem Bx.made {b : Base} {W W2 : World} {l : List (Nat × List Value)} (h : Bx b l W) (hb : Below W.heap.size W W2) : Bx ⟨b.w, (W2, fun k => k < b.w.heap.size ∨ W.heap.size ≤ k) :: b.bs⟩ l W2 := by
  have h1 := h.keep hb
  refine ⟨h1.box, h1.low, h1.ge, h1.nd, fun p hp => ?_, fun p hp x hx hlt hpx => ?_⟩
  · rcases List.mem_cons.1 hp with rfl | hp
    · exact ⟨Nat.le_refl _, fun _ _ _ => rfl⟩
    · exact h1.bas p hp
  · rcases List.mem_cons.1 hp with rfl | hp
    · have h2 := h.ge x hx
      have h3 := (h.box x hx).lt
      have hpx' : x.1 < b.w.heap.size ∨ W.heap.size ≤ x.1 := hpx
      omega
    · exact h1.bge p hp x hx hlt hpx
theorem Bx.later {P : Program} {b : Base} {X W2 : World} {l : List (Nat × List Value)} {p F F' : Nat → Prop} (h : Bx b l X) (hp : (W2, p) ∈ b.bs) (h1 : ∀ k, F k → p k) (h2 : ∀ k, F' k → p k) {n : Nat} {t : TypeId} {cs ds : List Value} (he : EqC P W2 W2 F F' n t cs ds) : EqC P X X (fun _ => True) (fun _ => True) n t cs ds :=
  EqC.kept (h.bas _ hp).1 (h.bas _ hp).1 (fun k hk hlt => (h.bas _ hp).2 k hlt (h1 k hk)) (fun k hk hlt => (h.bas _ hp).2 k hlt (h2 k hk)) (fun _ _ _ => trivial) (fun _ _ _ => trivial) _ _ _ _ he
theorem Bx.later2 {P : Program} {b : Base} {X W2 : World} {l : List (Nat × List Value)} {p F F' G G' : Nat → Prop} (h : Bx b l X) (hp : (W2, p) ∈ b.bs) (h1 : ∀ k, F k → p k) (h2 : ∀ k, F' k → p k) (h3 : ∀ k, F k → G k) (h4 : ∀ k, F' k → G' k) {n : Nat} {t : TypeId} {cs ds : List Value} (he : EqC P W2 W2 F F' n t cs ds) : EqC P X X G G' n t cs ds :=
  EqC.kept (h.bas _ hp).1 (h.bas _ hp).1 (fun k hk hlt => (h.bas _ hp).2 k hlt (h1 k hk)) (fun k hk hlt => (h.bas _ hp).2 k hlt (h2 k hk)) (fun k hk _ => h3 k hk) (fun k hk _ => h4 k hk) _ _ _ _ he
section
variable {P : Program} {N : Nat} {env : VEnv} {a : Act} {ops : Array Oper} {rest : List Oper} {Q : Exit → Act → World → Prop} {w : World} {w0 : Base} {l : List (Nat × List Value)} {d y x z : Nat} {ps : String} {af : Array Edge} {T t : TypeId}
theorem sv_run {op : Op} {v : Value} {w' : World} (hf : FrV N env a) (hd : d < N) (hrun : ∀ a : Act, FrV N env a → (execOp a.eval { dst := some d, op := op, type := y, pos := ps, after := af, guard := none }).run P w = .ok (.value v) w') (h : ∀ a', FrV N ((d, v) :: env) a' → wpList P ops Q rest a' w') : wpList P ops Q ({ dst := some d, op := op, type := y, pos := ps, after := af, guard := none } :: rest) a w :=
  wpList_ok rfl (hrun a hf) (h _ (hf.put hd v))
theorem sv_mv {v : Value} (hf : FrV N env a) (hx : env.lookup x = some v) (hd : d < N) (h : ∀ a', FrV N ((d, v) :: env) a' → wpList P ops Q rest a' w) : wpList P ops Q ({ dst := some d, op := .move (.tmp x), type := y, pos := ps, after := af, guard := none } :: rest) a w :=
  sv_run hf hd (fun a hf => by unfold execOp; simp only [hf.rel x v hx, Sem.run_pure]) h
theorem sv_as {v : Value} (hf : FrV N env a) (hx : env.lookup x = some v) (hd : d < N) (h : ∀ a', FrV N ((d, v) :: env) a' → wpList P ops Q rest a' w) : wpList P ops Q ({ dst := some d, op := .assign (.tmp x), type := y, pos := ps, after := af, guard := none } :: rest) a w :=
  sv_run hf hd (fun a hf => by unfold execOp; simp only [hf.rel x v hx, Sem.run_pure]) h
theorem sv_ac {v : Value} (hf : FrV N env a) (hd : d < N) (h : ∀ a', FrV N ((d, v) :: env) a' → wpList P ops Q rest a' w) : wpList P ops Q ({ dst := some d, op := .assign (.const v), type := y, pos := ps, after := af, guard := none } :: rest) a w :=
  sv_run hf hd (fun a hf => by unfold execOp; simp only [Sem.run_pure]; rfl) h
/-- the value of an operand -/
def ev (env : VEnv) : Operand → Option Value
  | .tmp t => env.lookup t
  | .const v => some v
  | .global g => some (.pointer (some ⟨g, 0, none⟩))
  | .func f => some (.func (.func f) #[] #[])
theorem FrV.ev {x : Operand} {v : Value} (hf : FrV N env a) (h : ev env x = some v) : a.eval x = v := by
  cases x with
  | tmp t => exact hf.rel t v h
  | const u => exact Option.some.inj h
  | global g => exact Option.some.inj h
  | func f => exact Option.some.inj h
theorem sv_pk {b : Bool} {p q : Operand} {v : Value} (hf : FrV N env a) (hx : env.lookup x = some (.bool b)) (hp : ev env (if b then p else q) = some v) (hd : d < N) (h : ∀ a', FrV N ((d, v) :: env) a' → wpList P ops Q rest a' w) : wpList P ops Q ({ dst := some d, op := .pick (.tmp x) p q, type := y, pos := ps, after := af, guard := none } :: rest) a w :=
  sv_run hf hd (fun a hf => by
    unfold execOp
    have hv := hf.ev hp
    cases b
    · simp only [hf.rel x _ hx, asBool, Sem.run_bind, Sem.run_pure, Result.andThen_ok]
      rw [show a.eval q = v from hv]; rfl
    · simp only [hf.rel x _ hx, asBool, Sem.run_bind, Sem.run_pure, Result.andThen_ok]
      rw [show a.eval p = v from hv]; rfl) h
theorem sv_fld {j b p : Nat} {fs : Array Field} {f : Field} (hf : FrV N env a) (hx : env.lookup x = some (.pointer (some ⟨b, p, none⟩))) (hu : P.underlying T = some (.struct fs)) (hj : fs[j]? = some f) (hs : ((P.info? f.type).map (·.size)).getD 0 ≠ 0) (off : Nat) (ho : p + f.offset = off) (hd : d < N) (h : ∀ a', FrV N ((d, .pointer (some ⟨b, off, none⟩)) :: env) a' → wpList P ops Q rest a' w) : wpList P ops Q ({ dst := some d, op := .fieldAddr T (.tmp x) j, type := y, pos := ps, after := af, guard := none } :: rest) a w := by
  subst ho
  exact sv_run hf hd (fun a hf => ex_field T (.tmp x) j b p fs f rfl (hf.rel x _ hx) hu hj hs) h
/-- a cell of a box -/
theorem sv_lc {b p : Nat} {cs : List Value} {v : Value} {td : TypeDesc} (hf : FrV N env a) (hB : Bx w0 l w) (hx : env.lookup x = some (.pointer (some ⟨b, p, none⟩))) (i : Nat) (hi : l[i]? = some (b, cs)) (hc : cs[p]? = some v) (hu : P.underlying t = some td) (hr : td.isRow = false) (hd : d < N) (h : ∀ a', FrV N ((d, v) :: env) a' → wpList P ops Q rest a' w) : wpList P ops Q ({ dst := some d, op := .load t (.tmp x), type := y, pos := ps, after := af, guard := none } :: rest) a w :=
  sv_run hf hd (fun a hf => ex_load_cell t (.tmp x) b p v td rfl (hf.rel x _ hx) ((hB.get hi).cell p v hc) hu hr) h
/-- a cell of whatever memory -/
theorem sv_lm {b p : Nat} {v : Value} {td : TypeDesc} (hf : FrV N env a) (hx : env.lookup x = some (.pointer (some ⟨b, p, none⟩))) (hc : w.cell? ⟨b, p, none⟩ = some v) (hu : P.underlying t = some td) (hr : td.isRow = false) (hd : d < N) (h : ∀ a', FrV N ((d, v) :: env) a' → wpList P ops Q rest a' w) : wpList P ops Q ({ dst := some d, op := .load t (.tmp x), type := y, pos := ps, after := af, guard := none } :: rest) a w :=
  sv_run hf hd (fun a hf => ex_load_cell t (.tmp x) b p v td rfl (hf.rel x _ hx) hc hu hr) h
/-- a whole box -/
theorem sv_lr {b : Nat} {cs : List Value} {fs : Array Field} (hf : FrV N env a) (hB : Bx w0 l w) (hx : env.lookup x = some (.pointer (some ⟨b, 0, none⟩))) (i : Nat) (hi : l[i]? = some (b, cs)) (hu : P.underlying t = some (.struct fs)) (hn : (P.info? t).map (·.size) = some cs.length) (hd : d < N) (h : ∀ a', FrV N ((d, .agg cs.toArray) :: env) a' → wpList P ops Q rest a' w) : wpList P ops Q ({ dst := some d, op := .load t (.tmp x), type := y, pos := ps, after := af, guard := none } :: rest) a w :=
  sv_run hf hd (fun a hf => ex_load_row t (.tmp x) b 0 cs (.struct fs) rfl (hf.rel x _ hx) (hB.get hi).rng hu rfl hn) h
theorem sv_sc {b p : Nat} {cs cs' : List Value} {v : Value} {z : Operand} (hf : FrV N env a) (hB : Bx w0 l w) (hx : env.lookup x = some (.pointer (some ⟨b, p, none⟩))) (hz : ev env z = some v) (i : Nat) (hi : l[i]? = some (b, cs)) (hp : p < cs.length) (hcs : cs.set p v = cs') (hn : (P.info? t).map (·.size) = some 1) (h1 : v.oneCell' = true) (l' : List (Nat × List Value)) (hl : l.set i (b, cs') = l') (h : ∀ w', Bx w0 l' w' → Only w w' b → wpList P ops Q rest a w') : wpList P ops Q ({ dst := none, op := .store t (.tmp x) z, type := y, pos := ps, after := af, guard := none } :: rest) a w := by
  have hb := hB.get hi
  refine wpList_done rfl rfl (ex_store_cell t (.tmp x) z b p v rfl (hf.rel x _ hx) (hf.ev hz) (hb.there p 1 (by omega)) hn h1) (h _ ?_ (Only.setCell w b p v))
  subst hcs hl
  exact hB.set hi (hb.setCell p v hp) (Only.setCell w b p v)
theorem sv_sr {b : Nat} {cs vs : List Value} {z : Operand} (hf : FrV N env a) (hB : Bx w0 l w) (hx : env.lookup x = some (.pointer (some ⟨b, 0, none⟩))) (hz : ev env z = some (.agg vs.toArray)) (i : Nat) (hi : l[i]? = some (b, cs)) (hlen : vs.length = cs.length) (hn : (P.info? t).map (·.size) = some vs.length) (h1 : ∀ v ∈ vs, v.oneCell' = true) (l' : List (Nat × List Value)) (hl : l.set i (b, vs) = l') (h : ∀ w', Bx w0 l' w' → Only w w' b → wpList P ops Q rest a w') : wpList P ops Q ({ dst := none, op := .store t (.tmp x) z, type := y, pos := ps, after := af, guard := none } :: rest) a w := by
  have hb := hB.get hi
  refine wpList_done rfl rfl (ex_store_row t (.tmp x) z b 0 vs rfl (hf.rel x _ hx) (hf.ev hz) (hb.there 0 vs.length (by omega)) hn h1) (h _ ?_ (Only.setCells w b 0 vs hb.lt))
  subst hl
  exact hB.set hi (hb.store hlen) (Only.setCells w b 0 vs hb.lt)
theorem sv_box {vs : List Value} (hf : FrV N env a) (hB : Bx w0 l w) (hx : env.lookup x = some (.agg vs.toArray)) (hd : d < N) (h : ∀ a' C w', C = w.heap.size → FrV N ((d, .pointer (some ⟨C, 0, none⟩)) :: env) a' → Bx w0 ((C, vs) :: l) w' → Below w.heap.size w w' → wpList P ops Q rest a' w') : wpList P ops Q ({ dst := some d, op := .box T (.tmp x), type := y, pos := ps, after := af, guard := none } :: rest) a w :=
  wpList_ok rfl (ex_box T (.tmp x) vs rfl (hf.rel x _ hx)) (h _ _ _ rfl (hf.put hd _) (hB.new vs T) ((Below.refl _ _).alloc (Nat.le_refl _) _))
theorem sv_alloc {zs : List Value} (hf : FrV N env a) (hB : Bx w0 l w) (hz : (P.info? T).bind (·.zero) = some (.agg zs.toArray)) (hd : d < N) (h : ∀ a' C w', C = w.heap.size → FrV N ((d, .pointer (some ⟨C, 0, none⟩)) :: env) a' → Bx w0 ((C, zs) :: l) w' → Below w.heap.size w w' → wpList P ops Q rest a' w') : wpList P ops Q ({ dst := some d, op := .alloc T, type := y, pos := ps, after := af, guard := none } :: rest) a w := by
  obtain ⟨i, hi, hzz⟩ := Option.bind_eq_some_iff.1 hz
  exact wpList_ok rfl (ex_alloc T i zs rfl hi hzz) (h _ _ _ rfl (hf.put hd _) (hB.new zs T) ((Below.refl _ _).alloc (Nat.le_refl _) _))
/-- comparisons of ints -/
def cmpI (op : BinOp) (m n : Int) : Option Bool := match op with
  | .eql => some (decide (m = n))
  | .neq => some (!decide (m = n))
  | .lss => some (decide (m < n))
  | .leq => some (decide (m ≤ n))
  | .gtr => some (decide (n < m))
  | .geq => some (decide (n ≤ m))
  | _ => none
theorem cmpI_run {op : BinOp} {m n : Int} {b : Bool} {xT : TypeId} {x z : Operand} (h : cmpI op m n = some b) (w : World) : (do eqGuard op xT x z (.int .i64 m) (.int .i64 n); binOp op xT (.int .i64 m) (.int .i64 n)).run P w = .ok (.bool b) w := by
  unfold cmpI at h
  split at h <;> first
    | (obtain rfl := Option.some.inj h; simp [go_sem]; done)
    | (obtain rfl := Option.some.inj h; simp [go_sem]; rw [Bool.eq_iff_iff]; simp; done)
    | (obtain rfl := Option.some.inj h; simp [go_sem]; rw [Bool.eq_iff_iff]; simp; omega)
    | cases h
theorem sv_cmp {op : BinOp} {xT zT : TypeId} {x z : Operand} {m n : Int} (hf : FrV N env a) (hx : ev env x = some (.int .i64 m)) (hz : ev env z = some (.int .i64 n)) (b : Bool) (hb : cmpI op m n = some b) (hd : d < N) (h : ∀ a', FrV N ((d, .bool b) :: env) a' → wpList P ops Q rest a' w) : wpList P ops Q ({ dst := some d, op := .binOp op xT x z zT, type := y, pos := ps, after := af, guard := none } :: rest) a w :=
  sv_run hf hd (fun a hf => by
    unfold execOp
    simp only [hf.ev hx, hf.ev hz]
    have := cmpI_run (P := P) (xT := xT) (x := x) (z := z) hb w
    simp only [Sem.run_bind] at this ⊢
    rw [this]
    rfl) h
theorem sv_not {b : Bool} {xT : TypeId} (hf : FrV N env a) (hx : env.lookup x = some (.bool b)) (hd : d < N) (h : ∀ a', FrV N ((d, .bool (!b)) :: env) a' → wpList P ops Q rest a' w) : wpList P ops Q ({ dst := some d, op := .unOp .not xT (.tmp x), type := y, pos := ps, after := af, guard := none } :: rest) a w :=
  sv_run hf hd (fun a hf => by
    unfold execOp
    simp only [hf.rel x _ hx]
    simp [go_sem]) h
def evs (env : VEnv) : List Operand → Option (List Value)
  | [] => some []
  | x :: xs => match ev env x, evs env xs with
    | some v, some vs => some (v :: vs)
    | _, _ => none
theorem FrV.evs (hf : FrV N env a) : ∀ {xs : List Operand} {vs : List Value}, evs env xs = some vs → xs.map a.eval = vs
  | [], vs, h => by obtain rfl := Option.some.inj h; rfl
  | x :: xs, vs, h => by
    unfold Proofs.Ytfpgklhbghahoaa.evs at h
    split at h
    · rename_i v us hv hus
      obtain rfl := Option.some.inj h
      rw [List.map_cons, hf.ev hv, hf.evs hus]
    · cases h
theorem sv_call {g : FuncId} {xs : List Operand} {vs : List Value} {ts : Array TypeId} {R : Ending → World → Prop} (hf : FrV N env a) (hF : FnOK P g) (hx : evs env xs = some vs) (hc : Calls P g vs.toArray w R) (hd : d < N) (h : ∀ e w', R e w' → ∃ v, e = .returned v ∧ ∀ a', FrV N ((d, v) :: env) a' → wpList P ops Q rest a' w') : wpList P ops Q ({ dst := some d, op := .call { callee := .value (.func g), args := xs.toArray, argTypes := ts }, type := y, pos := ps, after := af, guard := none } :: rest) a w := by
  refine wpList_calls hF rfl rfl (R := R) (by rw [List.map_toArray, hf.evs hx]; exact hc) (fun e w' hr => ?_)
  obtain ⟨v, rfl, hv⟩ := h e w' hr
  exact ⟨v, rfl, hv _ (hf.put hd v)⟩
theorem sv_len {e : TypeId} {ad : Option Addr} {n c : Nat} (hf : FrV N env a) (hx : env.lookup x = some (.slice ad n c)) (hu : P.underlying t = some (.slice e)) (hd : d < N) (h : ∀ a', FrV N ((d, .int .i64 n) :: env) a' → wpList P ops Q rest a' w) : wpList P ops Q ({ dst := some d, op := .call { callee := .builtin .len, args := #[.tmp x], argTypes := #[t] }, type := y, pos := ps, after := af, guard := none } :: rest) a w :=
  sv_run hf hd (fun a hf => by
    have hel : P.underlying t = some (.slice (P.elem t)) := by simp [Program.elem, hu]
    unfold execOp
    simp only [resolve, invoke, builtin, Sem.run_bind, Sem.run_pure, Result.andThen_ok, List.map_toArray, List.map_cons, List.map_nil, hf.rel x _ hx, run_len_slice w t _ ad n c hel]
    rfl) h
theorem sv_idx {e : TypeId} {B o n c q k : Nat} (hf : FrV N env a) {z : Operand} (hx : env.lookup x = some (.slice (some ⟨B, o, none⟩) n c)) (hz : ev env z = some (.int .i64 (q : Int))) (hq : q < n) (hu : P.underlying t = some (.slice e)) (hk : (P.info? e).map (·.size) = some k) (hd : d < N) (h : ∀ a', FrV N ((d, .pointer (some ⟨B, o + q * k, none⟩)) :: env) a' → wpList P ops Q rest a' w) : wpList P ops Q ({ dst := some d, op := .indexAddr t (.tmp x) z, type := y, pos := ps, after := af, guard := none } :: rest) a w :=
  sv_run hf hd (fun a hf => by
    have hel : P.underlying t = some (.slice (P.elem t)) := by simp [Program.elem, hu]
    have hee : P.elem t = e := by simp [Program.elem, hu]
    have hsize : (sizeOf (P.elem t)).run P w = .ok k w := by
      rw [hee]
      cases hq : P.info? e with
      | none => simp [hq] at hk
      | some inf =>
        have : inf.size = k := by simpa [hq] using hk
        simp [sizeOf, typeInfo, hq, this]
    unfold execOp
    simp only [hf.rel x _ hx, hf.ev hz, Sem.run_bind, run_indexAt_slice w t ⟨B, o, none⟩ n c .i64 q hel]
    rw [if_pos ⟨by omega, by omega⟩, hsize]
    simp only [Result.andThen_ok, Int.toNat_natCast, Addr.add_mid, Sem.run_pure]) h
def evp (env : VEnv) : List (Nat × Operand) → Option (List (Nat × Value))
  | [] => some []
  | (i, x) :: xs => match ev env x, evp env xs with
    | some v, some vs => some ((i, v) :: vs)
    | _, _ => none
theorem FrV.evp (hf : FrV N env a) : ∀ {xs : List (Nat × Operand)} {vs : List (Nat × Value)}, evp env xs = some vs → xs.map (fun p => (p.1, a.eval p.2)) = vs
  | [], vs, h => by obtain rfl := Option.some.inj h; rfl
  | (i, x) :: xs, vs, h => by
    unfold Proofs.Ytfpgklhbghahoaa.evp at h
    split at h
    · rename_i v us hv hus
      obtain rfl := Option.some.inj h
      rw [List.map_cons, hf.ev hv, hf.evp hus]
    · cases h
theorem sv_build {xs : List (Nat × Operand)} {vs : List (Nat × Value)} {cs : List Value} (hf : FrV N env a) (hx : evp env xs = some vs) (hb : P.built T vs = some cs.toArray) (hd : d < N) (h : ∀ a', FrV N ((d, .agg cs.toArray) :: env) a' → wpList P ops Q rest a' w) : wpList P ops Q ({ dst := some d, op := .build T xs.toArray, type := y, pos := ps, after := af, guard := none } :: rest) a w :=
  sv_run hf hd (fun a hf => by
    have he : (xs.toArray.map fun (i, x) => (i, a.eval x)) = vs.toArray := by
      rw [List.map_toArray]
      exact congrArg List.toArray (hf.evp hx)
    unfold execOp
    simp only [he, Sem.run_bind, run_build w T _ cs.toArray (by simpa using hb), Result.andThen_ok, Sem.run_pure]) h
theorem sv_ext {j : Nat} {vs : Array Value} {v : Value} (hf : FrV N env a) (hx : env.lookup x = some (.tuple vs)) (hj : vs[j]? = some v) (hd : d < N) (h : ∀ a', FrV N ((d, v) :: env) a' → wpList P ops Q rest a' w) : wpList P ops Q ({ dst := some d, op := .extract (.tmp x) j, type := y, pos := ps, after := af, guard := none } :: rest) a w :=
  sv_run hf hd (fun a hf => by
    unfold execOp
    simp [hf.rel x _ hx, Instr.extract, hj]) h
/-- a guard that is known -/
def gv (ops : Array Oper) (env : VEnv) (j : Nat) : Option Value := match ops[j]? with
  | some o => match o.dst with
    | some d => env.lookup d
    | none => none
  | none => none
theorem wanted_of {o : Oper} {j : Nat} {b b' : Bool} (hf : FrV N env a) (hN : ∀ d o', ops[j]? = some o' → o'.dst = some d → d < N) (hg : o.guard = some (j, b)) (h : gv ops env j = some (.bool b')) : Region.wanted o (yielded ops a.tmps) = (b' == b) := by
  unfold gv at h
  split at h
  · rename_i o' ho
    split at h
    · rename_i d hd
      have hv := hf.rel d _ h
      have hdN := hN d o' ho hd
      have h1 : a.tmps.getD d undef = .bool b' := hv
      have h2 : d < a.tmps.size := by rw [hf.size]; exact hdN
      have h3 : a.tmps[d]? = some (.bool b') := by
        rw [Array.getElem?_eq_getElem h2]
        simp [h2] at h1
        rw [h1]
      unfold Region.wanted
      rw [hg]
      unfold yielded
      simp only [ho, hd, Option.bind_some, h3]
      cases b <;> cases b' <;> rfl
    · cases h
  · cases h
def dstB (ops : Array Oper) (j N : Nat) : Bool := match ops[j]? with
  | some o => match o.dst with
    | some d => decide (d < N)
    | none => true
  | none => true
theorem dstB_spec {j : Nat} (h : dstB ops j N = true) : ∀ d o', ops[j]? = some o' → o'.dst = some d → d < N := by
  intro d o' ho hd
  unfold dstB at h
  simp only [ho, hd] at h
  simpa using h
theorem sv_want {dst : Option Nat} {op : Op} {j : Nat} {b : Bool} (hf : FrV N env a) (hN : dstB ops j N = true) (h : gv ops env j = some (.bool b)) (hk : wpList P ops Q ({ dst := dst, op := op, type := y, pos := ps, after := af, guard := none } :: rest) a w) : wpList P ops Q ({ dst := dst, op := op, type := y, pos := ps, after := af, guard := some (j, b) } :: rest) a w := by
  have hw := wanted_of (o := { dst := dst, op := op, type := y, pos := ps, after := af, guard := some (j, b) }) hf (dstB_spec hN) rfl h
  unfold wpList at hk ⊢
  rw [if_pos (by rw [hw]; simp)]
  rw [if_pos (by rfl)] at hk
  exact hk
theorem sv_nil (hf : FrV N env a) (h : Q .normal a w) : wpList P ops Q [] a w := wpList_nil h
theorem calls_frv {g : FuncId} {fn : Func} {k : Code} {vs : List Value} {R : Ending → World → Prop} (env : VEnv) (hf : P.funcs[g]? = some fn) (hb : fn.body = some k) (hN : fn.ntmps = N) (hvs : vs.length ≤ N) (henv : ∀ p ∈ env, vs[p.1]? = some p.2)
    (h : ∀ a : Act, FrV N env a → k.wp P (bodyPost P fn R) a w) : Calls P g vs.toArray w R := by
  refine calls_of_wp hf hb (h _ ⟨by simp [hN]; omega, rfl, fun t v hl => ?_⟩)
  have hm : (t, v) ∈ env := by
    clear henv h
    induction env with
    | nil => cases hl
    | cons p env ih =>
      obtain ⟨k, u⟩ := p
      by_cases e : t = k
      · subst e
        simp [List.lookup] at hl
        subst hl
        exact List.mem_cons_self
      · have hb : (t == k) = false := by simpa using e
        simp only [List.lookup, hb] at hl
        exact List.mem_cons_of_mem _ (ih hl)
  have h1 := henv _ hm
  have h2 : t < vs.length := (List.getElem?_eq_some_iff.1 h1).1
  have h3 : vs[t] = v := (List.getElem?_eq_some_iff.1 h1).2
  simp [Act.eval, Array.getElem?_append, h2, h3]
end
end Go.Proofs.Ytfpgklhbghahoaa
/- Drawn regions in an order of one's own (wp_region_ord, wp_region_ordW, wp_region_tree). -/
namespace Go.Proofs.Ytfpgklhbghahoaa
open Go.ChangeShapes Go.WideShapes Go.ChangeAt Go.RowKit Go.Deep
set_option linter.unusedVariables false
set_option linter.unusedSimpArgs false
section
variable {P : Program} {ops : Array Oper} {md : Region.Mode} {Q : Exit → Act → World → Prop} {S : World → Prop}
def Before (c : Nat) (S : World → Prop) (listed : Array Bool) (w : World) : Prop := listed.getD c false = false → S w
def wpAnyT (P : Program) (md : Region.Mode) (ops : Array Oper) (Q : Exit → Act → World → Prop) (S : World → Prop) (n c : Nat) (L : Array Bool → Act → World → Prop) : Nat → Array Bool → Act → World → Prop
  | 0, listed, a, w => L listed a w
  | f + 1, listed, a, w =>
    Region.ready md ops listed ≠ [] ∧ ∀ i ∈ Region.ready md ops listed, i < n ∧ wpOp P ops Q i (fun a' w' => Before c S (listed.setIfInBounds i true) w' ∧ wpAnyT P md ops Q S n c L f (listed.setIfInBounds i true) a' w') a w
theorem wpAny_of_T {n c g : Nat} {L : Array Bool → Act → World → Prop} (hL : ∀ listed a w, L listed a w → wpAny P md ops Q g listed a w) :
    ∀ (f : Nat) (listed : Array Bool) (a : Act) (w : World), wpAnyT P md ops Q S n c L f listed a w → wpAny P md ops Q (f + g) listed a w
  | 0, listed, a, w, h => by rw [Nat.zero_add]; exact hL _ _ _ h
  | f + 1, listed, a, w, h => by
    rw [show f + 1 + g = (f + g) + 1 by omega]
    exact ⟨fun h0 => absurd h0 h.1, fun i hi => wpOp_mono (fun a' w' h' => wpAny_of_T hL f _ a' w' h'.2) (h.2 i hi).2⟩
theorem set_other {listed : Array Bool} {i c : Nat} (h : (listed.setIfInBounds i true).getD c false = false) : listed.getD c false = false := by
  cases hl : listed.getD c false with
  | false => rfl
  | true => rw [getD_set_true hl] at h; cases h
/-- operation c waits for i, by way of others -/
def Region.anc (md : Region.Mode) (ops : Array Oper) (c : Nat) : Nat → Nat → Bool
  | 0, i => Region.waitsFor md ops c i
  | f + 1, i => Region.waitsFor md ops c i || (List.range c).any fun j => Region.waitsFor md ops j i && Region.anc md ops c f j
theorem anc_listed {n c : Nat} {listed : Array Bool} (inv : HeadInv md ops n listed) : ∀ (f i : Nat), Region.anc md ops c f i = true → listed.getD c false = true → listed.getD i false = true
  | 0, i, h, hc => by
    obtain ⟨oj, hj, e, he, hb, ho⟩ := Region.waitsFor_spec h
    rw [← ho]
    exact inv.closed c oj hj hc e he hb
  | f + 1, i, h, hc => by
    simp only [Region.anc, Bool.or_eq_true] at h
    rcases h with h | h
    · obtain ⟨oj, hj, e, he, hb, ho⟩ := Region.waitsFor_spec h
      rw [← ho]
      exact inv.closed c oj hj hc e he hb
    · obtain ⟨j, _, h⟩ := List.any_eq_true.1 h
      simp only [Bool.and_eq_true] at h
      have hl := anc_listed inv f j h.2 hc
      obtain ⟨oj, hj, e, he, hb, ho⟩ := Region.waitsFor_spec h.1
      rw [← ho]
      exact inv.closed j oj hj hl e he hb
/-- kinds: 0 a value in whatever world; 1 a value in every world that meets S; 2 an effect ahead of c; 3 c, or an effect behind it -/
def KindS (S : World → Prop) : Nat → World → Prop
  | 1 => S
  | _ => fun _ => True
def wpOrd (P : Program) (ops : Array Oper) (Q : Exit → Act → World → Prop) (S : World → Prop) (R : Act → World → Prop) : List (Nat × Nat) → Act → World → Prop
  | [], a, w => R a w
  | (i, 0) :: rest, a, w => ∃ oi v, ops[i]? = some oi ∧ YieldsIf P ops (KindS S 0) oi v a ∧ wpOrd P ops Q S R rest (a.put oi.dst v) w
  | (i, 1) :: rest, a, w => ∃ oi v, ops[i]? = some oi ∧ YieldsIf P ops (KindS S 1) oi v a ∧ wpOrd P ops Q S R rest (a.put oi.dst v) w
  | (i, 2) :: rest, a, w => wpOp P ops Q i (fun a' w' => S w' ∧ wpOrd P ops Q S R rest a' w') a w
  | (i, _) :: rest, a, w => wpOp P ops Q i (fun a' w' => wpOrd P ops Q S R rest a' w') a w
def Region.ordB (md : Region.Mode) (ops : Array Oper) (n c g : Nat) : List (Nat × Nat) → Array Bool → Bool
  | [], listed => Region.seqB md ops g n listed
  | (i, 0) :: rest, listed => (Region.ready md ops listed).contains i && Region.free md ops listed i && decide (i < n) && decide (i ≠ c) && Region.ordB md ops n c g rest (listed.setIfInBounds i true)
  | (i, 1) :: rest, listed => (Region.ready md ops listed).contains i && Region.free md ops listed i && decide (i < n) && decide (i ≠ c) && Region.anc md ops c 6 i && Region.ordB md ops n c g rest (listed.setIfInBounds i true)
  | (i, 2) :: rest, listed => decide (Region.ready md ops listed = [i]) && decide (i < n) && Region.ordB md ops n c g rest (listed.setIfInBounds i true)
  | (i, _) :: rest, listed => decide (Region.ready md ops listed = [i]) && decide (i < n) && (listed.setIfInBounds i true).getD c false && Region.ordB md ops n c g rest (listed.setIfInBounds i true)
def Region.regB (md : Region.Mode) (ops : Array Oper) (n c : Nat) (ord : List (Nat × Nat)) : Bool :=
  Region.noSelect ops && decide (n < ops.size) && decide (ord.length = n) && Region.sinkB md ops n && Region.chainB md ops n && Region.ordB md ops n c (ops.size - n) ord (Array.replicate ops.size false)
theorem wpOrd_read0 {R : Act → World → Prop} {i : Nat} {rest : List (Nat × Nat)} {a : Act} {w : World} {oi : Oper} (v : Value) (hi : ops[i]? = some oi) (hw : Region.wanted oi (yielded ops a.tmps) = true) (hy : ∀ w, (execOp a.eval oi).run P w = .ok (.value v) w)
    (h : ∀ K : Act → World → Prop, (∀ a w, wpOrd P ops Q S R rest a w → K a w) → K (a.put oi.dst v) w) : wpOrd P ops Q S R ((i, 0) :: rest) a w :=
  ⟨oi, v, hi, .inl ⟨hw, fun w _ => hy w⟩, h _ (fun _ _ h => h)⟩
theorem wpOrd_read1 {R : Act → World → Prop} {i : Nat} {rest : List (Nat × Nat)} {a : Act} {w : World} {oi : Oper} (v : Value) (hi : ops[i]? = some oi) (hw : Region.wanted oi (yielded ops a.tmps) = true) (hy : ∀ w, S w → (execOp a.eval oi).run P w = .ok (.value v) w)
    (h : ∀ K : Act → World → Prop, (∀ a w, wpOrd P ops Q S R rest a w → K a w) → K (a.put oi.dst v) w) : wpOrd P ops Q S R ((i, 1) :: rest) a w :=
  ⟨oi, v, hi, .inl ⟨hw, hy⟩, h _ (fun _ _ h => h)⟩
theorem wpOrd_eff2 {R : Act → World → Prop} {i : Nat} {rest : List (Nat × Nat)} {a : Act} {w : World} {oi : Oper} (hi : ops[i]? = some oi) (hw : Region.wanted oi (yielded ops a.tmps) = true)
    (h : ∀ K : Act → World → Prop, (∀ a w, S w → wpOrd P ops Q S R rest a w → K a w) → oi.wp P a w K Q) : wpOrd P ops Q S R ((i, 2) :: rest) a w := by
  show wpOp P ops Q i _ a w
  unfold wpOp
  simp only [hi, hw, if_true]
  exact .inl (h _ (fun _ _ h1 h2 => ⟨h1, h2⟩))
theorem wpOrd_eff3 {R : Act → World → Prop} {i : Nat} {rest : List (Nat × Nat)} {a : Act} {w : World} {oi : Oper} (hi : ops[i]? = some oi) (hw : Region.wanted oi (yielded ops a.tmps) = true)
    (h : ∀ K : Act → World → Prop, (∀ a w, wpOrd P ops Q S R rest a w → K a w) → oi.wp P a w K Q) : wpOrd P ops Q S R ((i, 3) :: rest) a w := by
  show wpOp P ops Q i _ a w
  unfold wpOp
  simp only [hi, hw, if_true]
  exact .inl (h _ (fun _ _ h => h))
theorem wpOrd_nil {R : Act → World → Prop} {a : Act} {w : World} (h : R a w) : wpOrd P ops Q S R [] a w := h
end
section
variable {P : Program} {ops : Array Oper} {md : Region.Mode} {Q : Exit → Act → World → Prop} {S : World → Prop}
theorem wpAnyT_firstW {n c i : Nat} {oi : Oper} {v : Value} {Sx : World → Prop} {L : Array Bool → Act → World → Prop} (hi : ops[i]? = some oi) (hsel : ∀ (j : Nat) (o : Oper) cs b, ops[j]? = some o → o.op ≠ .select cs b)
    (hQ : ∀ c (a : Act) (d : Option Tmp) (v : Value) w, Q (.panic c) (a.put d v) w → Q (.panic c) a w)
    (hn : n = ops.size) (hin : i < n) (hic : i ≠ c)
    (hSx : ∀ listed w, HeadInv md ops n listed → listed.getD i true = false → Before c S listed w → Sx w)
    (hdone : ∀ listed a w, L listed a w → ∀ j ∈ Region.ready md ops listed, n ≤ j) :
    ∀ (f : Nat) (listed : Array Bool) (a : Act) (w : World), HeadInv md ops n listed →
      (∀ j oj, ops[j]? = some oj → j ≠ i → listed.getD j true = false → (∀ e ∈ oj.after, Region.binds md e = true → e.on ≠ i) → oi.apart ops oj = true) →
      i ∈ Region.ready md ops listed → YieldsIf P ops Sx oi v a → Before c S listed w →
      wpAnyT P md ops Q S n c L f (listed.setIfInBounds i true) (a.put oi.dst v) w → wpAnyT P md ops Q S n c L (f + 1) listed a w := by
  intro f
  induction f with
  | zero =>
    intro listed a w inv _ hr hy hS H
    have hun := (mem_ready.1 hr).1
    refine ⟨fun h => (by rw [h] at hr; cases hr), fun j hj => ?_⟩
    have hjn : j < n := by
      obtain ⟨_, oj, hoj, _⟩ := mem_ready.1 hj
      have := (Array.getElem?_eq_some_iff.1 hoj).1
      omega
    refine ⟨hjn, ?_⟩
    by_cases hji : j = i
    · subst hji; exact hy.wpOp hi (hSx _ _ inv hun hS) ⟨fun h => hS (set_other h), H⟩
    · have := hdone _ _ _ H j (ready_mono hj hji)
      omega
  | succ f ih =>
    intro listed a w inv hfree hr hy hS H
    have hun := (mem_ready.1 hr).1
    refine ⟨fun h => (by rw [h] at hr; cases hr), fun j hj => ?_⟩
    have hjn : j < n := by
      obtain ⟨_, oj, hoj, _⟩ := mem_ready.1 hj
      have := (Array.getElem?_eq_some_iff.1 hoj).1
      omega
    refine ⟨hjn, ?_⟩
    by_cases hji : j = i
    · subst hji; exact hy.wpOp hi (hSx _ _ inv hun hS) ⟨fun h => hS (set_other h), H⟩
    · have h1 := (H.2 j (ready_mono hj hji)).2
      obtain ⟨hjun, oj, hoj, hall⟩ := mem_ready.1 hj
      have hnot : ∀ e ∈ oj.after, Region.binds md e = true → e.on ≠ i := fun e he hb heq => by
        have h1 := hall e he hb
        rw [heq, getD_both hun] at h1
        cases h1
      have h2 := wpOp_putIf hoj (hfree j oj hoj hji hjun hnot) (fun cs b => hsel i oi cs b hi) (fun cs b => hsel j oj cs b hoj) (fun c a w => hQ c a _ _ w) hy h1
      have hfree' : ∀ k ok, ops[k]? = some ok → k ≠ i → (listed.setIfInBounds j true).getD k true = false →
          (∀ e ∈ ok.after, Region.binds md e = true → e.on ≠ i) → oi.apart ops ok = true := fun k ok hk hki hun hno => by
        refine hfree k ok hk hki ?_ hno
        by_cases hjk : j = k
        · subst hjk; exact hjun
        · rw [getD_set_ne true hjk] at hun; exact hun
      refine wpOp_mono (fun a' w' h3 => ?_) h2
      obtain ⟨hy3, hS3, h3⟩ := h3
      rw [Array.setIfInBounds_comm _ _ (Ne.symm hji)] at hS3 h3
      have hS4 : Before c S (listed.setIfInBounds j true) w' := fun h => by
        refine hS3 ?_
        rw [getD_set_ne false hic]; exact h
      exact ⟨hS4, ih (listed.setIfInBounds j true) a' w' (inv.set hj hjn) hfree' (ready_mono hr (Ne.symm hji)) hy3 hS4 h3⟩
def Region.regWB (md : Region.Mode) (ops : Array Oper) (n c : Nat) (ord : List (Nat × Nat)) : Bool :=
  Region.noSelect ops && decide (n = ops.size) && decide (ord.length = n) && Region.ordB md ops n c 0 ord (Array.replicate ops.size false)
theorem wpAnyT_ordW {n c g : Nat} {R : Act → World → Prop} (hsel : Region.noSelect ops = true) (hQ : ∀ c (a : Act) (d : Option Tmp) (v : Value) w, Q (.panic c) (a.put d v) w → Q (.panic c) a w)
    (hn : n = ops.size) :
    ∀ (l : List (Nat × Nat)) (listed : Array Bool) (a : Act) (w : World), HeadInv md ops n listed → Before c S listed w →
    Region.ordB md ops n c g l listed = true → wpOrd P ops Q S R l a w →
    wpAnyT P md ops Q S n c (fun listed' a' w' => Region.seqB md ops g n listed' = true ∧ R a' w') l.length listed a w
  | [], listed, a, w, inv, hS, hB, h => ⟨hB, h⟩
  | (i, 0) :: l, listed, a, w, inv, hS, hB, h => by
    simp only [Region.ordB, Bool.and_eq_true, decide_eq_true_eq] at hB
    obtain ⟨⟨⟨⟨hr, hf⟩, hin⟩, hic⟩, hB'⟩ := hB
    have hr' : i ∈ Region.ready md ops listed := by simpa using hr
    obtain ⟨oi, v, h0, hy, hK⟩ := h
    exact wpAnyT_firstW h0 (Region.noSelect_spec hsel) hQ hn hin hic (fun _ _ _ _ _ => trivial) (fun listed' a' w' hL => seqB_ready hL.1) l.length listed a w inv (Region.free_spec h0 hf) hr' hy hS
      (wpAnyT_ordW hsel hQ hn l _ _ _ (inv.set hr' hin) (fun h => hS (set_other h)) hB' hK)
  | (i, 1) :: l, listed, a, w, inv, hS, hB, h => by
    simp only [Region.ordB, Bool.and_eq_true, decide_eq_true_eq] at hB
    obtain ⟨⟨⟨⟨⟨hr, hf⟩, hin⟩, hic⟩, hanc⟩, hB'⟩ := hB
    have hr' : i ∈ Region.ready md ops listed := by simpa using hr
    obtain ⟨oi, v, h0, hy, hK⟩ := h
    exact wpAnyT_firstW h0 (Region.noSelect_spec hsel) hQ hn hin hic (fun listed w inv hun hb => hb (by
        cases hl : listed.getD c false with
        | false => rfl
        | true => have := anc_listed inv 6 i hanc hl; rw [getD_both hun] at this; cases this)) (fun listed' a' w' hL => seqB_ready hL.1) l.length listed a w inv (Region.free_spec h0 hf) hr' hy hS
      (wpAnyT_ordW hsel hQ hn l _ _ _ (inv.set hr' hin) (fun h => hS (set_other h)) hB' hK)
  | (i, 2) :: l, listed, a, w, inv, hS, hB, h => by
    simp only [Region.ordB, Bool.and_eq_true, decide_eq_true_eq] at hB
    obtain ⟨⟨hr, hin⟩, hB'⟩ := hB
    refine ⟨fun h0 => (by rw [hr] at h0; cases h0), fun j hj => ?_⟩
    have hj' := hj
    rw [hr] at hj
    have hji : j = i := by simpa using hj
    subst hji
    have h1 : wpOp P ops Q j (fun a' w' => S w' ∧ wpOrd P ops Q S R l a' w') a w := h
    exact ⟨hin, wpOp_mono (fun a' w' h2 => ⟨fun _ => h2.1, wpAnyT_ordW hsel hQ hn l _ _ _ (inv.set hj' hin) (fun _ => h2.1) hB' h2.2⟩) h1⟩
  | (i, k + 3) :: l, listed, a, w, inv, hS, hB, h => by
    simp only [Region.ordB, Bool.and_eq_true, decide_eq_true_eq] at hB
    obtain ⟨⟨⟨hr, hin⟩, hcl⟩, hB'⟩ := hB
    refine ⟨fun h0 => (by rw [hr] at h0; cases h0), fun j hj => ?_⟩
    have hj' := hj
    rw [hr] at hj
    have hji : j = i := by simpa using hj
    subst hji
    have h1 : wpOp P ops Q j (fun a' w' => wpOrd P ops Q S R l a' w') a w := h
    have hno : ∀ w', Before c S (listed.setIfInBounds j true) w' := fun w' h => by rw [hcl] at h; cases h
    exact ⟨hin, wpOp_mono (fun a' w' h2 => ⟨hno w', wpAnyT_ordW hsel hQ hn l _ _ _ (inv.set hj' hin) (hno w') hB' h2⟩) h1⟩
theorem wp_region_ordW {id : Nat} {a : Act} {w : World} {l : List Oper} (n c : Nat) (ord : List (Nat × Nat)) (S : World → Prop) (hm : P.follows .mixedOrders = true) (hB : Region.regWB .any l.toArray n c ord = true) (hS : S w.drew)
    (hQ : ∀ c (a : Act) (d : Option Tmp) (v : Value) w, Q (.panic c) (a.put d v) w → Q (.panic c) a w)
    (h : wpOrd P l.toArray Q S (fun a' w' => Q .normal a' w') ord a w.drew) : (Code.region id l.toArray true).wp P Q a w := by
  simp only [Region.regWB, Bool.and_eq_true, decide_eq_true_eq] at hB
  obtain ⟨⟨⟨hsel, hn⟩, hol⟩, hlex⟩ := hB
  have inv0 : HeadInv .any l.toArray n (Array.replicate l.toArray.size false) :=
    ⟨by simp, fun j oj _ hl => (by rw [getD_replicate_false] at hl; cases hl), fun t _ ht => getD_in (by simpa using ht) (getD_replicate_false _ _)⟩
  have H := wpAnyT_ordW (md := .any) (g := 0) hsel hQ hn ord _ a _ inv0 (fun _ => hS) hlex h
  refine wp_region_any hm ?_
  have := wpAny_of_T (g := 0) (fun listed a' w' hL => by
    have hr : Region.ready .any l.toArray listed = [] := by simpa [Region.seqB] using hL.1
    exact wpAny_done (P := P) (Q := Q) hr hL.2 0) _ _ _ _ H
  rwa [Nat.add_zero, hol, hn] at this
end
/-- an order with forks: 'fork m r s': operation m or the call c comes next, r is the order behind m, s the order behind c -/
inductive OrdT where
  | nil
  | one (i k : Nat) (r : OrdT)
  | fork (m : Nat) (r s : OrdT)
def OrdT.size : OrdT → Nat
  | .nil => 0
  | .one _ _ r => r.size + 1
  | .fork _ r _ => r.size + 1
section
variable {P : Program} {ops : Array Oper} {md : Region.Mode} {Q : Exit → Act → World → Prop} {S : World → Prop}
def wpTree (P : Program) (ops : Array Oper) (Q : Exit → Act → World → Prop) (S : World → Prop) (c : Nat) (R : Act → World → Prop) : OrdT → Act → World → Prop
  | .nil, a, w => R a w
  | .one i 0 rest, a, w => ∃ oi v, ops[i]? = some oi ∧ YieldsIf P ops (KindS S 0) oi v a ∧ wpTree P ops Q S c R rest (a.put oi.dst v) w
  | .one i 1 rest, a, w => ∃ oi v, ops[i]? = some oi ∧ YieldsIf P ops (KindS S 1) oi v a ∧ wpTree P ops Q S c R rest (a.put oi.dst v) w
  | .one i 2 rest, a, w => wpOp P ops Q i (fun a' w' => S w' ∧ wpTree P ops Q S c R rest a' w') a w
  | .one i _ rest, a, w => wpOp P ops Q i (fun a' w' => wpTree P ops Q S c R rest a' w') a w
  | .fork m r s, a, w => wpOp P ops Q m (fun a' w' => S w' ∧ wpTree P ops Q S c R r a' w') a w ∧ wpOp P ops Q c (fun a' w' => wpTree P ops Q S c R s a' w') a w
def Region.treeB (md : Region.Mode) (ops : Array Oper) (n c g : Nat) : OrdT → Array Bool → Bool
  | .nil, listed => Region.seqB md ops g n listed
  | .one i 0 rest, listed => (Region.ready md ops listed).contains i && Region.free md ops listed i && decide (i < n) && decide (i ≠ c) && Region.treeB md ops n c g rest (listed.setIfInBounds i true)
  | .one i 1 rest, listed => (Region.ready md ops listed).contains i && Region.free md ops listed i && decide (i < n) && decide (i ≠ c) && Region.anc md ops c 6 i && Region.treeB md ops n c g rest (listed.setIfInBounds i true)
  | .one i 2 rest, listed => decide (Region.ready md ops listed = [i]) && decide (i < n) && Region.treeB md ops n c g rest (listed.setIfInBounds i true)
  | .one i _ rest, listed => decide (Region.ready md ops listed = [i]) && decide (i < n) && (listed.setIfInBounds i true).getD c false && Region.treeB md ops n c g rest (listed.setIfInBounds i true)
  | .fork m r s, listed => (decide (Region.ready md ops listed = [c, m]) || decide (Region.ready md ops listed = [m, c])) && decide (m < n) && decide (c < n) && decide (r.size = s.size) && (listed.setIfInBounds c true).getD c false && Region.treeB md ops n c g r (listed.setIfInBounds m true) && Region.treeB md ops n c g s (listed.setIfInBounds c true)
def Region.regTB (md : Region.Mode) (ops : Array Oper) (n c : Nat) (ord : OrdT) : Bool :=
  Region.noSelect ops && decide (n = ops.size) && decide (ord.size = n) && Region.treeB md ops n c 0 ord (Array.replicate ops.size false)
end
end Go.Proofs.Ytfpgklhbghahoaa
/- Regions whose operations read and call only, in whatever order (plain). -/
namespace Go.Proofs.Ytfpgklhbghahoaa
open Go.ChangeShapes Go.WideShapes Go.ChangeAt Go.RowKit Go.Deep
set_option linter.unusedVariables false
set_option linter.unusedSimpArgs false
theorem count_set : ∀ (l : List Bool) (i : Nat), l[i]? = some false → (l.set i true).count false + 1 = l.count false
  | [], i, h => by simp at h
  | b :: l, 0, h => by
    obtain rfl := Option.some.inj h
    simp
  | b :: l, i + 1, h => by
    have := count_set l i (by simpa using h)
    simp [List.count_cons]
    omega
section
variable {P : Program} {ops : Array Oper} {md : Region.Mode} {Q : Exit → Act → World → Prop} {S : World → Prop}
/-- operation i waits for operation j -/
def waitsB (md : Region.Mode) (ops : Array Oper) (i j : Nat) : Bool := Region.waitsFor md ops i j
/-- all operations that write the temporary t are among those of p -/
def Avail (ops : Array Oper) (p : Nat → Prop) (t : Nat) : Prop := ∀ (j : Nat) (o : Oper), ops[j]? = some o → o.dst = some t → p j
/-- every edge leads back -/
def backB (md : Region.Mode) (ops : Array Oper) : Bool := (List.range ops.size).all fun i => match ops[i]? with
  | some o => o.after.all fun e => !Region.binds md e || decide (e.on < i)
  | none => true
theorem backB_spec (h : backB md ops = true) (i : Nat) (o : Oper) (ho : ops[i]? = some o) : ∀ e ∈ o.after, Region.binds md e = true → e.on < i := by
  have hi : i < ops.size := (Array.getElem?_eq_some_iff.1 ho).1
  have h1 := (List.all_eq_true.1 h) i (List.mem_range.2 hi)
  simp only [ho] at h1
  intro e he hb
  have := (Array.all_eq_true_iff_forall_mem.1 h1) e he
  simpa [hb] using this
theorem ready_none (hb : backB md ops = true) (listed : Array Bool) (hs : listed.size = ops.size) (h : Region.ready md ops listed = []) : ∀ i, i < ops.size → listed.getD i false = true := by
  intro i
  induction i using Nat.strongRecOn with
  | _ i ih =>
    intro hi
    cases hl : listed.getD i false with
    | true => rfl
    | false =>
      have hl' : listed.getD i true = false := getD_in (by omega) hl
      have ho : ops[i]? = some ops[i] := Array.getElem?_eq_getElem hi
      have : i ∈ Region.ready md ops listed := mem_ready.2 ⟨hl', _, ho, fun e he hbe => by
        have h1 := backB_spec hb i _ ho e he hbe
        exact ih e.on h1 (by omega)⟩
      rw [h] at this
      cases this
/-- V: the values that are known of the temporaries -/
structure FreeInv (ops : Array Oper) (V : Nat → Option Value) (N : Nat) (listed : Array Bool) (a : Act) : Prop where
  size : a.tmps.size = N
  defers : a.defers = []
  val : ∀ t v, V t = some v → Avail ops (fun j => listed.getD j false = true) t → a.eval (.tmp t) = v
theorem wp_region_free {id : Nat} {a : Act} {w : World} {N : Nat} {V : Nat → Option Value} (hm : P.follows .mixedOrders = true) (hb : backB .any ops = true)
    (hS : S w.drew) (hN : a.tmps.size = N) (hd : a.defers = []) (hV : ∀ t v, V t = some v → Avail ops (fun _ => False) t → a.eval (.tmp t) = v)
    (hop : ∀ i o, ops[i]? = some o → ∃ d, o.dst = some d ∧ d < N ∧ ∀ (a : Act) (w : World), S w → a.tmps.size = N → a.defers = [] → (∀ t v, V t = some v → Avail ops (fun j => Region.waitsFor .any ops i j = true) t → a.eval (.tmp t) = v) →
      (Region.wanted o (yielded ops a.tmps) = true ∧ ∀ K : Act → World → Prop, (∀ v w', S w' → (∀ u, V d = some u → v = u) → K (a.put (some d) v) w') → o.wp P a w K Q) ∨ (Region.wanted o (yielded ops a.tmps) = false ∧ V d = none))
    (hQ : ∀ a' w', S w' → a'.tmps.size = N → a'.defers = [] → (∀ t v, V t = some v → a'.eval (.tmp t) = v) → Q .normal a' w') : (Code.region id ops true).wp P Q a w := by
  refine wp_region_any hm ?_
  have key : ∀ (f : Nat) (listed : Array Bool) (a : Act) (w : World), listed.size = ops.size → listed.toList.count false ≤ f → FreeInv ops V N listed a → S w → wpAny P .any ops Q f listed a w := by
    intro f
    induction f with
    | zero =>
      intro listed a w hs hc inv hSw
      have hall : ∀ i, i < ops.size → listed.getD i true = true := fun i hi => by
        cases hl : listed.getD i true with
        | true => rfl
        | false =>
          exfalso
          have hi' : i < listed.size := by omega
          have hm : false ∈ listed.toList := by
            have : listed[i] = false := by simpa [hi'] using hl
            rw [← this]
            exact Array.mem_toList_iff.2 (Array.getElem_mem hi')
          have := List.count_pos_iff.2 hm
          omega
      have hr : Region.ready .any ops listed = [] := by
        rw [List.eq_nil_iff_forall_not_mem]
        intro j hj
        obtain ⟨h1, o, ho, _⟩ := mem_ready.1 hj
        have := hall j (Array.getElem?_eq_some_iff.1 ho).1
        rw [this] at h1
        cases h1
      refine ⟨hr, hQ a w hSw inv.size inv.defers (fun t v hv => inv.val t v hv (fun j o ho _ => ready_none hb listed hs hr j (Array.getElem?_eq_some_iff.1 ho).1))⟩
    | succ f ih =>
      intro listed a w hs hc inv hSw
      refine ⟨fun hr => hQ a w hSw inv.size inv.defers (fun t v hv => inv.val t v hv (fun j o ho _ => ready_none hb listed hs hr j (Array.getElem?_eq_some_iff.1 ho).1)), fun i hi => ?_⟩
      obtain ⟨hun, o, ho, hall⟩ := mem_ready.1 hi
      have hi' : i < listed.size := by rw [hs]; exact (Array.getElem?_eq_some_iff.1 ho).1
      have hcnt : (listed.setIfInBounds i true).toList.count false ≤ f := by
        rw [Array.toList_setIfInBounds]
        have := count_set listed.toList i (by
          rw [Array.getElem?_toList, Array.getElem?_eq_getElem hi']
          have : listed[i] = false := by simpa [hi'] using hun
          rw [this])
        omega
      obtain ⟨d, hod, hdN, h⟩ := hop i o ho
      have hpast : ∀ j, Region.waitsFor .any ops i j = true → listed.getD j false = true := fun j hj => by
        obtain ⟨oj, hoj, e, he, hbe, hon⟩ := Region.waitsFor_spec hj
        have : oj = o := Option.some.inj (hoj.symm.trans ho)
        subst this
        rw [← hon]
        exact hall e he hbe
      have hnext : ∀ v, (∀ u, V d = some u → v = u) → FreeInv ops V N (listed.setIfInBounds i true) (a.put (some d) v) := fun v hv => by
        refine ⟨by simp [Act.put, inv.size], inv.defers, fun t u hu hav => ?_⟩
        by_cases e : d = t
        · subst e
          have := hv u hu
          subst this
          simp [Act.put, Act.eval, Array.getElem?_setIfInBounds, inv.size, hdN]
        · have : (a.put (some d) v).eval (.tmp t) = a.eval (.tmp t) := by simp [Act.put, Act.eval, Array.getElem?_setIfInBounds, e]
          rw [this]
          refine inv.val t u hu (fun j oj hoj hdj => ?_)
          have h1 := hav j oj hoj hdj
          by_cases hji : i = j
          · subst hji
            have : oj = o := Option.some.inj (hoj.symm.trans ho)
            subst this
            rw [hod] at hdj
            exact absurd (Option.some.inj hdj) e
          · have h1' : (listed.setIfInBounds i true).getD j false = true := h1
            rw [getD_set_ne false hji] at h1'
            exact h1'
      have hs' : (listed.setIfInBounds i true).size = ops.size := by simp [hs]
      unfold wpOp
      simp only [ho]
      rcases h a w hSw inv.size inv.defers (fun t v hv hav => inv.val t v hv (fun j oj hoj hdj => hpast j (hav j oj hoj hdj))) with ⟨hw, hwp⟩ | ⟨hw, hv⟩
      · rw [if_pos hw]
        exact .inl (hwp _ (fun v w' hS' hv => ih _ _ _ hs' hcnt (hnext v hv) hS'))
      · rw [if_neg (by rw [hw]; decide), hod]
        exact ih _ _ _ hs' hcnt (hnext undef (fun u hu => by rw [hv] at hu; cases hu)) hSw
  refine key ops.size _ a _ (by simp) (by simp) ⟨hN, hd, fun t v hv hav => hV t v hv (fun j o ho hdj => ?_)⟩ hS
  have : (Array.replicate ops.size false).getD j false = true := hav j o ho hdj
  rw [getD_replicate_false] at this
  cases this
end
end Go.Proofs.Ytfpgklhbghahoaa
/- Election: functions that copy a struct field by field, by their form. -/
namespace Go.Proofs.Ytfpgklhbghahoaa
open Go.ChangeShapes Go.WideShapes Go.ChangeAt Go.RowKit Go.ChangeMaps Go.Joins Go.Deep
set_option linter.unusedVariables false
set_option linter.unusedSimpArgs false
set_option maxRecDepth 100000
theorem eval_put_ne {a : Act} {d t : Nat} {v : Value} (h : d ≠ t) : (a.put (some d) v).eval (.tmp t) = a.eval (.tmp t) := by
  simp [Act.put, Act.eval, Array.getElem?_setIfInBounds, h]
theorem eval_put_same {a : Act} {d : Nat} {v : Value} (h : d < a.tmps.size) : (a.put (some d) v).eval (.tmp d) = v := by
  simp [Act.put, Act.eval, Array.getElem?_setIfInBounds, h]
theorem size_put {a : Act} {d : Nat} {v : Value} : (a.put (some d) v).tmps.size = a.tmps.size := by simp [Act.put]
/-- the frame of a function that copies: two boxes -/
structure ActC (a : Act) (N C : Nat) : Prop where
  size : a.tmps.size = N
  src : a.eval (.tmp 1) = .pointer (some ⟨C, 0, none⟩)
  dst : a.eval (.tmp 2) = .pointer (some ⟨C + 1, 0, none⟩)
  defers : a.defers = []
theorem ActC.put {a : Act} {N C d : Nat} (h : ActC a N C) (hd : 2 < d) (v : Value) : ActC (a.put (some d) v) N C :=
  ⟨size_put.trans h.size, (eval_put_ne (by omega)).trans h.src, (eval_put_ne (by omega)).trans h.dst, h.defers⟩
/-- a struct under copy: the places of 'done' hold copies, all else is as it came -/
structure CpSt (W0 W : World) (n k : Nat) (cs0 : List Value) (done : List (Nat × TypeId)) (w : World) : Prop where
  low : Below W.heap.size W w
  src : ∃ cs, BoxN k w W.heap.size cs ∧ (∀ v ∈ cs, v.oneCell' = true) ∧
    (∀ p ∈ done, EqC Try.prog w w (fun i => i < W0.heap.size) (fun i => W.heap.size + 1 < i) n p.2 (part_ cs0 p.1 (Try.prog.cellsOf p.2)) (part_ cs p.1 (Try.prog.cellsOf p.2))) ∧
    ∀ a q, (∀ p ∈ done, a + q ≤ p.1 ∨ p.1 + Try.prog.cellsOf p.2 ≤ a) → part_ cs a q = part_ cs0 a q
  dst : ∃ zs, BoxN k w (W.heap.size + 1) zs
theorem mem_spl {cs ys : List Value} {p : Nat} {v : Value} (h : v ∈ spl cs p ys) : v ∈ cs ∨ v ∈ ys := by
  unfold spl at h
  rcases List.mem_append.1 h with h | h
  · rcases List.mem_append.1 h with h | h
    · exact .inl (List.mem_of_mem_take h)
    · exact .inr h
  · exact .inl (List.mem_of_mem_drop h)
theorem CpSt.lt {W0 W w : World} {n k : Nat} {cs0 : List Value} {done : List (Nat × TypeId)} (h : CpSt W0 W n k cs0 done w) : W.heap.size + 1 < w.heap.size := by
  obtain ⟨zs, hz⟩ := h.dst
  exact hz.1.lt
theorem CpSt.store {W0 W w w' : World} {n k off q : Nat} {t : TypeId} {cs0 ds : List Value} {done : List (Nat × TypeId)} (hb0 : W0.heap.size ≤ W.heap.size) (h : CpSt W0 W n k cs0 done w) (hq : Try.prog.cellsOf t = q) (hcp : CopyOf W0 w n t (part_ cs0 off q) w' ds) (hl : ds.length = q) (hle : off + q ≤ k)
    (hd : ∀ p ∈ done, off + q ≤ p.1 ∨ p.1 + Try.prog.cellsOf p.2 ≤ off) (hone : ∀ v ∈ ds, v.oneCell' = true) : CpSt W0 W n k cs0 ((off, t) :: done) (w'.setCells W.heap.size off ds) := by
  have hlt := h.lt
  obtain ⟨cs, hbx, h1, hdn, hrest⟩ := h.src
  obtain ⟨zs, hzs⟩ := h.dst
  have hb2 := hbx.keep hcp.2
  have hz2 := hzs.keep hcp.2
  have ho := Only.setCells w' W.heap.size off ds hb2.1.lt
  have hle2 : off + ds.length ≤ cs.length := by rw [hl, hbx.2]; exact hle
  have hks : ∀ i, i ≠ W.heap.size → (w'.setCells W.heap.size off ds).heap[i]? = w'.heap[i]? := fun i hi => ho.heap i hi
  refine ⟨(h.low.trans (hcp.2.mono h.low.size)).trans (ho.below _ (Nat.le_refl _)), ⟨spl cs off ds, ⟨hb2.1.mid off hle2, by rw [spl_len hle2]; exact hbx.2⟩, fun v hv => ?_, fun p hp => ?_, fun a r har => ?_⟩, ⟨zs, hz2.other ho (by omega)⟩⟩
  · rcases mem_spl hv with hv | hv
    · exact h1 v hv
    · exact hone v hv
  · have hs' : (w'.setCells W.heap.size off ds).heap.size = w'.heap.size := ho.size
    rcases List.mem_cons.1 hp with rfl | hp
    · rw [hq, show q = ds.length from hl.symm, part_spl hle2, hl]
      exact EqC.kept (Nat.le_of_eq hs'.symm) (Nat.le_of_eq hs'.symm) (fun i hi _ => hks i (by omega)) (fun i hi _ => hks i (by omega)) (fun _ hi _ => hi) (fun i hi _ => by show W.heap.size + 1 < i; omega) _ _ _ _ hcp.1
    · have := hd p hp
      rw [part_spl_other hle2 (by rw [hl]; omega)]
      exact EqC.kept (Nat.le_of_eq hs'.symm) (Nat.le_of_eq hs'.symm) (fun i hi _ => hks i (by omega)) (fun i hi _ => hks i (by omega)) (fun _ hi _ => hi) (fun i hi _ => hi) _ _ _ _ (EqC.below hcp.2 hcp.2 _ _ _ _ (hdn p hp))
  · have h0 := har (off, t) List.mem_cons_self
    rw [hq] at h0
    have h0' : a + r ≤ off ∨ off + q ≤ a := h0
    rw [part_spl_other hle2 (by rw [hl]; omega)]
    exact hrest a r (fun p hp => har p (List.mem_cons_of_mem _ hp))
/-- what a call with a struct or a slice has copied -/
def CallOK (g : FuncId) (es : List Value) (t : TypeId) (n : Nat) (W0 : World) : Prop := ∀ (W : World) (v : Value), Below W0.heap.size W0 W → GoodC Try.prog W0 n t [v] → Calls Try.prog g (v :: es).toArray W fun e W' => ∃ v', e = .returned v' ∧ CopyOf W0 W n t [v] W' [v']
theorem oneOK_zero {g : FuncId} {T : TypeId} {W0 : World} : OneOK g T 0 W0 := fun _ _ _ h => h.elim
theorem apart_of {P : Program} {done : List (Nat × TypeId)} {off q : Nat} (h : done.all (fun p => decide (off + q ≤ p.1) || decide (p.1 + P.cellsOf p.2 ≤ off)) = true) : ∀ p ∈ done, off + q ≤ p.1 ∨ p.1 + P.cellsOf p.2 ≤ off := fun p hp => by
  simpa using (List.all_eq_true.1 h) p hp
/-- region by region -/
theorem seg_row {W0 W w : World} {id N n k q off j d1 d2 d3 d4 y1 y2 y3 y4 y5 : Nat} {p1 p2 p3 p4 p5 : String} {f1 f2 f3 f4 f5 : Array Edge} {T t : TypeId} {g : FuncId} {ts : Array TypeId} {fs : Array Field} {f : Field} {cs0 : List Value} {done : List (Nat × TypeId)} {a : Act} {Q : Exit → Act → World → Prop} {rest : Code}
    (hb0 : Below W0.heap.size W0 W) (ha : ActC a N W.heap.size) (hst : CpSt W0 W n k cs0 done w) (hgs : ∀ (i : Nat) (f : Field), fs[i]? = some f → GoodC Try.prog W0 n f.type (part_ cs0 f.offset (Try.prog.cellsOf f.type))) (hone : OneOK g t n W0)
    (hu : Try.prog.underlying T = some (.struct fs)) (hf : fs[j]? = some f) (hfo : f.offset = off) (hft : f.type = t) (hq : Try.prog.cellsOf t = q) (hi : (Try.prog.info? t).map (·.size) = some q) (gs : Array Field) (hr : Try.prog.underlying t = some (.struct gs)) (ht : tysE.contains t = true) (hF : FnOK Try.prog g)
    (hq0 : q ≠ 0) (hle : off + q ≤ k) (hdB : done.all (fun p => decide (off + q ≤ p.1) || decide (p.1 + Try.prog.cellsOf p.2 ≤ off)) = true) (hdd : 2 < d1 ∧ d1 < N ∧ 2 < d2 ∧ d2 < N ∧ 2 < d3 ∧ d3 < N ∧ 2 < d4 ∧ d4 < N ∧ d3 ≠ d4)
    (hK : ∀ a' w', ActC a' N W.heap.size → CpSt W0 W n k cs0 ((off, t) :: done) w' → rest.wp Try.prog Q a' w') :
    (Code.seq (Code.region id #[{ dst := some d1, op := .fieldAddr T (.tmp 1) j, type := y1, pos := p1, after := f1, guard := none }, { dst := some d2, op := .load t (.tmp d1), type := y2, pos := p2, after := f2, guard := none }, { dst := some d3, op := .call { callee := .value (.func g), args := #[.tmp d2], argTypes := ts }, type := y3, pos := p3, after := f3, guard := none }, { dst := some d4, op := .fieldAddr T (.tmp 1) j, type := y4, pos := p4, after := f4, guard := none }, { dst := none, op := .store t (.tmp d4) (.tmp d3), type := y5, pos := p5, after := f5, guard := none }] false) rest).wp Try.prog Q a w := by
  obtain ⟨hd1, hn1, hd2, hn2, hd3, hn3, hd4, hn4, h34⟩ := hdd
  subst hfo hft
  have hg := hgs j f hf
  rw [hq] at hg
  have hd := apart_of hdB
  have hsz : ((Try.prog.info? f.type).map (·.size)).getD 0 ≠ 0 := by rw [hi]; exact hq0
  obtain ⟨cs, hbx, h1, hdn, hrest⟩ := hst.src
  have hpart : part_ cs f.offset q = part_ cs0 f.offset q := hrest _ _ hd
  have hrng : w.rangeAt W.heap.size (0 + f.offset) (part_ cs0 f.offset q) := by rw [← hpart]; exact range_part hbx.1.rng _ _
  have hlen0 : (part_ cs0 f.offset q).length = q := by rw [← hpart]; exact part_len (by rw [hbx.2]; exact hle)
  refine wp_seq (wp_region_lit ?_)
  refine wpList_ok rfl (ex_field T (.tmp 1) j W.heap.size 0 fs f rfl ha.src hu hf hsz) ?_
  refine wpList_ok rfl (ex_load_row f.type (.tmp d1) W.heap.size (0 + f.offset) (part_ cs0 f.offset q) (.struct gs) rfl (eval_put_same (by rw [ha.size]; exact hn1)) hrng hr rfl (by rw [hlen0]; exact hi)) ?_
  have ha2 := (ha.put hd1 (.pointer (some ⟨W.heap.size, 0 + f.offset, none⟩))).put hd2 (.agg (part_ cs0 f.offset q).toArray)
  have hxs : (#[Operand.tmp d2] : Array Operand).map (((a.put (some d1) (.pointer (some ⟨W.heap.size, 0 + f.offset, none⟩))).put (some d2) (.agg (part_ cs0 f.offset q).toArray)).eval) = #[.agg (part_ cs0 f.offset q).toArray] := by
    have : ((a.put (some d1) (.pointer (some ⟨W.heap.size, 0 + f.offset, none⟩))).put (some d2) (.agg (part_ cs0 f.offset q).toArray)).eval (.tmp d2) = .agg (part_ cs0 f.offset q).toArray := eval_put_same (by rw [size_put, ha.size]; exact hn2)
    rw [List.map_toArray, List.map_cons, this, List.map_nil]
  refine wpList_calls hF rfl rfl (by rw [hxs]; exact hone w _ (hb0.trans (hst.low.mono hb0.size)) hg) ?_
  rintro e w' ⟨ds, rfl, hcp⟩
  refine ⟨_, rfl, ?_⟩
  have ha3 := ha2.put hd3 (.agg ds.toArray)
  generalize hA3 : (((a.put (some d1) (.pointer (some ⟨W.heap.size, 0 + f.offset, none⟩))).put (some d2) (.agg (part_ cs0 f.offset q).toArray)).put (some d3) (.agg ds.toArray)) = a3 at *
  have he3 : a3.eval (.tmp d3) = .agg ds.toArray := by rw [← hA3]; exact eval_put_same (by rw [size_put, size_put, ha.size]; exact hn3)
  have hl : ds.length = q := (eqC_len hr hcp.1).trans hq
  have hone' := good_cells_of ht (EqC.good _ _ _ _ (EqC.symm _ _ _ _ hcp.1))
  have hb2 := hbx.keep hcp.2
  have hth : w'.there W.heap.size (0 + f.offset) ds.length := by rw [Nat.zero_add]; exact hb2.1.there _ _ (by rw [hl, hb2.2]; exact hle)
  refine wpList_ok rfl (ex_field T (.tmp 1) j W.heap.size 0 fs f rfl ha3.src hu hf hsz) ?_
  have ha4 := ha3.put hd4 (.pointer (some ⟨W.heap.size, 0 + f.offset, none⟩))
  refine wpList_done rfl rfl (ex_store_row f.type (.tmp d4) (.tmp d3) W.heap.size (0 + f.offset) ds rfl (eval_put_same (by rw [ha3.size]; exact hn4)) ((eval_put_ne h34.symm).trans he3) hth (by rw [hl]; exact hi) hone') ?_
  refine wpList_nil (hK _ _ ha4 ?_)
  rw [Nat.zero_add]
  exact CpSt.store hb0.size hst hq hcp hl hle hd hone'
theorem seg_cell {W0 W w : World} {id N n k off j d1 d2 d3 d4 y1 y2 y3 y4 y5 : Nat} {p1 p2 p3 p4 p5 : String} {f1 f2 f3 f4 f5 : Array Edge} {T t e : TypeId} {g : FuncId} {ts : Array TypeId} {xs : List Operand} {es : List Value} {fs : Array Field} {f : Field} {cs0 : List Value} {done : List (Nat × TypeId)} {a : Act} {Q : Exit → Act → World → Prop} {rest : Code}
    (hb0 : Below W0.heap.size W0 W) (ha : ActC a N W.heap.size) (hst : CpSt W0 W n k cs0 done w) (hgs : ∀ (i : Nat) (f : Field), fs[i]? = some f → GoodC Try.prog W0 n f.type (part_ cs0 f.offset (Try.prog.cellsOf f.type))) (hone : CallOK g es t n W0)
    (hu : Try.prog.underlying T = some (.struct fs)) (hf : fs[j]? = some f) (hfo : f.offset = off) (hft : f.type = t) (hq : Try.prog.cellsOf t = 1) (hi : (Try.prog.info? t).map (·.size) = some 1) (hr : Try.prog.underlying t = some (.slice e)) (hF : FnOK Try.prog g) (hes : ∀ a : Act, xs.map a.eval = es)
    (hle : off + 1 ≤ k) (hdB : done.all (fun p => decide (off + 1 ≤ p.1) || decide (p.1 + Try.prog.cellsOf p.2 ≤ off)) = true) (hdd : 2 < d1 ∧ d1 < N ∧ 2 < d2 ∧ d2 < N ∧ 2 < d3 ∧ d3 < N ∧ 2 < d4 ∧ d4 < N ∧ d3 ≠ d4)
    (hK : ∀ a' w', ActC a' N W.heap.size → CpSt W0 W n k cs0 ((off, t) :: done) w' → rest.wp Try.prog Q a' w') :
    (Code.seq (Code.region id #[{ dst := some d1, op := .fieldAddr T (.tmp 1) j, type := y1, pos := p1, after := f1, guard := none }, { dst := some d2, op := .load t (.tmp d1), type := y2, pos := p2, after := f2, guard := none }, { dst := some d3, op := .call { callee := .value (.func g), args := (.tmp d2 :: xs).toArray, argTypes := ts }, type := y3, pos := p3, after := f3, guard := none }, { dst := some d4, op := .fieldAddr T (.tmp 1) j, type := y4, pos := p4, after := f4, guard := none }, { dst := none, op := .store t (.tmp d4) (.tmp d3), type := y5, pos := p5, after := f5, guard := none }] false) rest).wp Try.prog Q a w := by
  obtain ⟨hd1, hn1, hd2, hn2, hd3, hn3, hd4, hn4, h34⟩ := hdd
  subst hfo hft
  have hg := hgs j f hf
  rw [hq] at hg
  have hd := apart_of hdB
  have hsz : ((Try.prog.info? f.type).map (·.size)).getD 0 ≠ 0 := by rw [hi]; exact Nat.one_ne_zero
  obtain ⟨cs, hbx, h1, hdn, hrest⟩ := hst.src
  have hpart : part_ cs f.offset 1 = part_ cs0 f.offset 1 := hrest _ _ hd
  have hrng : w.rangeAt W.heap.size (0 + f.offset) (part_ cs0 f.offset 1) := by rw [← hpart]; exact range_part hbx.1.rng _ _
  have hlen0 : (part_ cs0 f.offset 1).length = 1 := by rw [← hpart]; exact part_len (by rw [hbx.2]; exact hle)
  obtain ⟨v, hv⟩ : ∃ v, part_ cs0 f.offset 1 = [v] := by
    match part_ cs0 f.offset 1, hlen0 with
    | [v], _ => exact ⟨v, rfl⟩
  rw [hv] at hrng hg
  have hcell : w.cell? ⟨W.heap.size, 0 + f.offset, none⟩ = some v := hrng 0 v rfl
  refine wp_seq (wp_region_lit ?_)
  refine wpList_ok rfl (ex_field T (.tmp 1) j W.heap.size 0 fs f rfl ha.src hu hf hsz) ?_
  refine wpList_ok rfl (ex_load_cell f.type (.tmp d1) W.heap.size (0 + f.offset) v (.slice e) rfl (eval_put_same (by rw [ha.size]; exact hn1)) hcell hr rfl) ?_
  have ha2 := (ha.put hd1 (.pointer (some ⟨W.heap.size, 0 + f.offset, none⟩))).put hd2 v
  have hxs : ((.tmp d2 :: xs : List Operand).toArray).map (((a.put (some d1) (.pointer (some ⟨W.heap.size, 0 + f.offset, none⟩))).put (some d2) v).eval) = (v :: es).toArray := by
    have : ((a.put (some d1) (.pointer (some ⟨W.heap.size, 0 + f.offset, none⟩))).put (some d2) v).eval (.tmp d2) = v := eval_put_same (by rw [size_put, ha.size]; exact hn2)
    rw [List.map_toArray, List.map_cons, this, hes]
  refine wpList_calls hF rfl rfl (by rw [hxs]; exact hone w _ (hb0.trans (hst.low.mono hb0.size)) hg) ?_
  rintro e' w' ⟨v', rfl, hcp⟩
  refine ⟨_, rfl, ?_⟩
  have ha3 := ha2.put hd3 v'
  generalize hA3 : (((a.put (some d1) (.pointer (some ⟨W.heap.size, 0 + f.offset, none⟩))).put (some d2) v).put (some d3) v') = a3 at *
  have he3 : a3.eval (.tmp d3) = v' := by rw [← hA3]; exact eval_put_same (by rw [size_put, size_put, ha.size]; exact hn3)
  obtain ⟨b2, l2, c2, rfl⟩ := eqC_form hr hcp.1
  have hb2 := hbx.keep hcp.2
  have hth : w'.there W.heap.size (0 + f.offset) 1 := by rw [Nat.zero_add]; exact hb2.1.there _ _ (by rw [hb2.2]; exact hle)
  refine wpList_ok rfl (ex_field T (.tmp 1) j W.heap.size 0 fs f rfl ha3.src hu hf hsz) ?_
  have ha4 := ha3.put hd4 (.pointer (some ⟨W.heap.size, 0 + f.offset, none⟩))
  refine wpList_done rfl rfl (ex_store_cell f.type (.tmp d4) (.tmp d3) W.heap.size (0 + f.offset) _ rfl (eval_put_same (by rw [ha3.size]; exact hn4)) ((eval_put_ne h34.symm).trans he3) hth hi rfl) ?_
  refine wpList_nil (hK _ _ ha4 ?_)
  rw [Nat.zero_add]
  exact CpSt.store hb0.size hst hq (by rw [hv]; exact hcp) rfl hle hd (by intro u hu; rw [List.mem_singleton.1 hu]; rfl)
end Go.Proofs.Ytfpgklhbghahoaa
/- Election: copies by form: the start, the end, what has been copied. -/
namespace Go.Proofs.Ytfpgklhbghahoaa
open Go.ChangeShapes Go.WideShapes Go.ChangeAt Go.RowKit Go.ChangeMaps Go.Joins Go.Deep
set_option linter.unusedVariables false
set_option linter.unusedSimpArgs false
set_option maxRecDepth 100000
theorem range_same {W : World} {B o : Nat} {xs ys : List Value} (h : W.rangeAt B o xs) (h' : W.rangeAt B o ys) (hl : xs.length = ys.length) : xs = ys := by
  apply List.ext_getElem hl
  intro j h1 h2
  have e1 := h j _ (List.getElem?_eq_getElem h1)
  have e2 := h' j _ (List.getElem?_eq_getElem h2)
  rw [e1] at e2
  exact Option.some.inj e2
/-- the bound of the depth is that of the original -/
theorem EqC.level {P : Program} {W W' : World} {F F' : Nat → Prop} : ∀ (n m : Nat) (t : TypeId) (cs ds : List Value), GoodC P W n t cs → EqC P W W' F F' m t cs ds → EqC P W W' F F' n t cs ds
  | 0, _, _, _, _, h, _ => h.elim
  | n + 1, 0, _, _, _, _, h => h.elim
  | n + 1, m + 1, t, cs, ds, hg, h => by
    unfold GoodC at hg
    unfold EqC at h ⊢
    split at h
    · rename_i hu; simp only [hu] at hg; exact h
    · rename_i hu; simp only [hu] at hg; exact h
    · rename_i hu; simp only [hu] at hg; exact h
    · rename_i e hu
      simp only [hu] at hg
      obtain ⟨a, len, cap, a', cap', h1, h2, h3, h4, h5, h6, h7⟩ := h
      obtain ⟨ga, glen, gcap, g1, g2, g3, g4⟩ := hg
      refine ⟨a, len, cap, a', cap', h1, h2, h3, h4, h5, h6, fun h0 => ?_⟩
      rw [h1] at g1
      obtain ⟨rfl, rfl, rfl⟩ := Value.slice.inj (List.cons.inj g1).1
      obtain ⟨B, o, B', o', e, e', hB, hB', hj⟩ := h7 h0
      obtain ⟨gB, go, ge, gBl, gj⟩ := g4 h0
      rw [e] at ge
      obtain ⟨rfl, rfl, _⟩ := Addr.mk.inj (Option.some.inj ge)
      exact ⟨B, o, B', o', e, e', hB, hB', fun j hjl => by
        obtain ⟨xs, ys, k1, k2, k3, k4, k5⟩ := hj j hjl
        obtain ⟨zs, z1, z2, z3⟩ := gj j hjl
        have : zs = xs := range_same z2 k3 (z1.trans k1.symm)
        subst this
        exact ⟨zs, ys, k1, k2, k3, k4, EqC.level n m _ _ _ z3 k5⟩⟩
    · rename_i fs hu
      simp only [hu] at hg
      exact ⟨h.1, h.2.1, fun i f hf => EqC.level n m _ _ _ (hg.2 i f hf) (h.2.2 i f hf)⟩
    · exact h.elim
def leafT (P : Program) (t : TypeId) : Bool := match P.underlying t with
  | some .bool | some (.int _) | some .string => true
  | _ => false
theorem leaf_any {P : Program} {W V V' : World} {F F' : Nat → Prop} {n : Nat} {t : TypeId} {cs : List Value} (ht : leafT P t = true) (h : GoodC P W n t cs) : EqC P V V' F F' n t cs cs := by
  cases n with
  | zero => exact h.elim
  | succ n =>
    unfold leafT at ht
    unfold GoodC at h
    unfold EqC
    split at ht
    · rename_i hu; simp only [hu] at h ⊢; obtain ⟨b, e⟩ := h; exact ⟨b, e, e⟩
    · rename_i hu; simp only [hu] at h ⊢; obtain ⟨b, e, hw⟩ := h; exact ⟨b, e, e, hw⟩
    · rename_i hu; simp only [hu] at h ⊢; obtain ⟨b, e, hw⟩ := h; exact ⟨b, e, e, hw⟩
    · cases ht
theorem part_part {cs : List Value} {p q a r : Nat} (h : a + r ≤ q) : part_ (part_ cs p q) a r = part_ cs (p + a) r := by
  apply List.ext_getElem?
  intro j
  rw [part_getElem, part_getElem, part_getElem]
  by_cases hj : j < r
  · rw [if_pos hj, if_pos hj, if_pos (by omega), Nat.add_assoc]
  · rw [if_neg hj, if_neg hj]
/-- the places of 'done' cover what a copy must not share -/
def doneB (P : Program) : Nat → List (Nat × TypeId) → Nat → TypeId → Bool
  | 0, _, _, _ => false
  | m + 1, done, off, t => done.contains (off, t) || match P.underlying t with
    | some (.struct fs) => fs.toList.all fun f => decide (f.offset + P.cellsOf f.type ≤ P.cellsOf t) && doneB P m done (off + f.offset) f.type
    | _ => leafT P t && done.all fun p => decide (off + P.cellsOf t ≤ p.1) || decide (p.1 + P.cellsOf p.2 ≤ off)
theorem eqC_of_done {P : Program} {w : World} {F F' : Nat → Prop} {k : Nat} {cs0 cs : List Value} {done : List (Nat × TypeId)} (hdn : ∀ p ∈ done, ∃ m, EqC P w w F F' m p.2 (part_ cs0 p.1 (P.cellsOf p.2)) (part_ cs p.1 (P.cellsOf p.2)))
    (hrest : ∀ a q, (∀ p ∈ done, a + q ≤ p.1 ∨ p.1 + P.cellsOf p.2 ≤ a) → part_ cs a q = part_ cs0 a q) (hk : cs0.length = k) (hk' : cs.length = k) : ∀ (m n off : Nat) (t : TypeId), doneB P m done off t = true → off + P.cellsOf t ≤ k → GoodC P w n t (part_ cs0 off (P.cellsOf t)) → EqC P w w F F' n t (part_ cs0 off (P.cellsOf t)) (part_ cs off (P.cellsOf t))
  | 0, _, _, _, h, _, _ => by cases h
  | m + 1, 0, off, t, h, hle, hg => hg.elim
  | m + 1, n + 1, off, t, h, hle, hg => by
    unfold doneB at h
    rw [Bool.or_eq_true] at h
    rcases h with h | h
    · obtain ⟨m', he⟩ := hdn (off, t) (by simpa using h)
      exact EqC.level _ _ _ _ _ hg he
    · split at h
      · rename_i fs hu
        refine (eqC_struct hu).2 ⟨part_len (by omega), part_len (by omega), fun i f hfi => ?_⟩
        have hf := (List.all_eq_true.1 h) f (Array.mem_toList_iff.2 (Array.mem_of_getElem? hfi))
        rw [Bool.and_eq_true, decide_eq_true_eq] at hf
        have hgf := ((goodC_struct hu).1 hg).2 i f hfi
        rw [part_part hf.1] at hgf
        rw [part_part hf.1, part_part hf.1]
        exact eqC_of_done hdn hrest hk hk' m n (off + f.offset) f.type hf.2 (by omega) hgf
      · rw [Bool.and_eq_true] at h
        rw [hrest off (P.cellsOf t) (fun p hp => by
          have := (List.all_eq_true.1 h.2) p hp
          simpa using this)]
        exact leaf_any h.1 hg
theorem part_all {cs : List Value} {k : Nat} (h : cs.length = k) : part_ cs 0 k = cs := by
  unfold part_
  rw [List.drop_zero, ← h, List.take_length]
def zeroB (P : Program) (T : TypeId) (k : Nat) : Bool := match P.info? T with
  | some i => match i.zero with
    | some (.agg zs) => zs.size == k
    | _ => false
  | none => false
theorem zeroB_spec {P : Program} {T : TypeId} {k : Nat} (h : zeroB P T k = true) : ∃ i zs, P.info? T = some i ∧ i.zero = some (.agg (List.toArray zs)) ∧ zs.length = k := by
  unfold zeroB at h
  split at h
  · rename_i i hi
    split at h
    · rename_i zs hz
      exact ⟨i, zs.toList, hi, by rw [hz], by simpa using h⟩
    · cases h
  · cases h
theorem seg_start {W0 W : World} {id N n k y1 y2 : Nat} {p1 p2 : String} {f1 f2 : Array Edge} {T : TypeId} {cs0 : List Value} {a : Act} {Q : Exit → Act → World → Prop} {rest : Code}
    (h0 : a.eval (.tmp 0) = .agg cs0.toArray) (hN : a.tmps.size = N) (hN2 : 2 < N) (hd : a.defers = []) (hk : cs0.length = k) (hz : zeroB Try.prog T k = true) (hone : ∀ v ∈ cs0, v.oneCell' = true)
    (hK : ∀ a' w', ActC a' N W.heap.size → CpSt W0 W n k cs0 [] w' → rest.wp Try.prog Q a' w') :
    (Code.seq (Code.region id #[{ dst := some 1, op := .box T (.tmp 0), type := y1, pos := p1, after := f1, guard := none }, { dst := some 2, op := .alloc T, type := y2, pos := p2, after := f2, guard := none }] false) rest).wp Try.prog Q a W := by
  obtain ⟨i, zs, hi, hzz, hzl⟩ := zeroB_spec hz
  refine wp_seq (wp_region_lit ?_)
  refine wpList_ok rfl (ex_box T (.tmp 0) cs0 rfl h0) ?_
  refine wpList_ok rfl (ex_alloc T i zs rfl hi hzz) ?_
  have hx1 := (BoxN.new W cs0 k T hk).alloc (.cells zs.toArray T)
  have hx2 := BoxN.new (W.alloc (.cells cs0.toArray T)) zs k T hzl
  rw [World.size_alloc] at hx2
  have hl2 : Below W.heap.size W ((W.alloc (.cells cs0.toArray T)).alloc (.cells zs.toArray T)) := ((Below.refl _ _).alloc (Nat.le_refl _) _).alloc (by simp) _
  refine wpList_nil (hK _ _ ⟨by rw [size_put, size_put, hN], ?_, ?_, hd⟩ ⟨hl2, ⟨cs0, hx1, hone, fun p hp => (by cases hp), fun _ _ _ => rfl⟩, ⟨zs, hx2⟩⟩)
  · rw [eval_put_ne (by decide)]; exact eval_put_same (by omega)
  · rw [eval_put_same (by rw [size_put]; omega), World.size_alloc]
theorem results_cell {fn : Func} {T : TypeId} {C : Nat} {cs : List Value} {a : Act} {w : World} {d : TypeDesc} (hr : fn.results = #[.cell 2 T]) (ha : a.eval (.tmp 2) = .pointer (some ⟨C, 0, none⟩)) (hc : w.rangeAt C 0 cs) (hu : Try.prog.underlying T = some d) (hd : d.isRow = true) (hi : (Try.prog.info? T).map (·.size) = some cs.length) : (results fn a.tmps).run Try.prog w = .ok (.agg cs.toArray) w := by
  have h2 : a.tmps.getD 2 undef = .pointer (some ⟨C, 0, none⟩) := ha
  have hl := run_loadVar_mid (P := Try.prog) w C 0 T cs d hc hu hd hi
  have h3 : a.tmps[2]?.getD undef = .pointer (some ⟨C, 0, none⟩) := by simpa using h2
  simp [results, hr, asAddr, h3, hl]
theorem seg_end {W0 W w : World} {id N n m k d y1 y2 : Nat} {p1 p2 : String} {f1 f2 : Array Edge} {T : TypeId} {cs0 : List Value} {done : List (Nat × TypeId)} {a : Act} {fn : Func} {fs : Array Field} {R : Ending → World → Prop}
    (hb0 : Below W0.heap.size W0 W) (ha : ActC a N W.heap.size) (hst : CpSt W0 W n k cs0 done w) (hu : Try.prog.underlying T = some (.struct fs)) (hk : Try.prog.cellsOf T = k) (hi : (Try.prog.info? T).map (·.size) = some k) (hlen : cs0.length = k) (hg : GoodC Try.prog W0 m T cs0) (hdone : doneB Try.prog 4 done 0 T = true) (hdd : 2 < d ∧ d < N) (hres : fn.results = #[.cell 2 T])
    (hR : ∀ ds w', CopyOf W0 W m T cs0 w' ds → R (.returned (.agg ds.toArray)) w') :
    (Code.seq (Code.region id #[{ dst := some d, op := .load T (.tmp 1), type := y1, pos := p1, after := f1, guard := none }, { dst := none, op := .store T (.tmp 2) (.tmp d), type := y2, pos := p2, after := f2, guard := none }] false) .ret).wp Try.prog (bodyPost Try.prog fn R) a w := by
  obtain ⟨cs, hbx, hone, hdn, hrest⟩ := hst.src
  obtain ⟨zs, hzs⟩ := hst.dst
  have hcl : cs.length = k := hbx.2
  have hlt := hst.lt
  refine wp_seq (wp_region_lit ?_)
  refine wpList_ok rfl (ex_load_row T (.tmp 1) W.heap.size 0 cs (.struct fs) rfl ha.src hbx.1.rng hu rfl (by rw [hcl]; exact hi)) ?_
  have ha1 := ha.put hdd.1 (.agg cs.toArray)
  refine wpList_done rfl rfl (ex_store_row T (.tmp 2) (.tmp d) (W.heap.size + 1) 0 cs rfl ha1.dst (eval_put_same (by rw [ha.size]; exact hdd.2)) (hzs.1.there _ _ (by rw [hzs.2]; omega)) (by rw [hcl]; exact hi) hone) ?_
  have ho := Only.setCells w (W.heap.size + 1) 0 cs hzs.1.lt
  have hb3 := hzs.1.store (vs := cs) (by rw [hzs.2, hcl])
  refine wpList_nil (wp_ret (bodyPost_ret (results_cell hres ha1.dst hb3.rng hu rfl (by rw [hcl]; exact hi)) ha1.defers (hR cs _ ⟨?_, hst.low.trans (ho.below _ (Nat.le_succ _))⟩)))
  have hWw := hb0.trans (hst.low.mono hb0.size)
  have h1 := eqC_of_done (P := Try.prog) (w := w) (F := fun i => i < W0.heap.size) (F' := fun i => W.heap.size + 1 < i) (k := k) (fun p hp => ⟨n, hdn p hp⟩) hrest hlen hcl 4 m 0 T hdone (by omega) (by rw [hk, part_all hlen]; exact GoodC.below hWw _ _ _ hg)
  rw [hk, part_all hlen, part_all hcl] at h1
  have := hb0.size
  exact EqC.kept (Nat.le_of_eq ho.size.symm) (Nat.le_of_eq ho.size.symm) (fun i hi _ => ho.heap i (by omega)) (fun i hi _ => ho.heap i (by omega)) (fun _ hi _ => hi) (fun i hi _ => by show W.heap.size ≤ i; omega) _ _ _ _ h1
/-- into such a function -/
theorem copy_enter {g : FuncId} {fn : Func} {c : Code} {N : Nat} {v : Value} {w : World} {R : Ending → World → Prop} (hf : Try.prog.funcs[g]? = some fn) (hb : fn.body = some c) (hN : fn.ntmps = N + 1)
    (h : ∀ a : Act, a.eval (.tmp 0) = v → a.tmps.size = N + 1 → a.defers = [] → c.wp Try.prog (bodyPost Try.prog fn R) a w) : Calls Try.prog g #[v] w R := by
  refine calls_of_wp hf hb (h _ ?_ ?_ rfl)
  · simp [Act.eval, Array.getElem?_append]
  · simp [hN]; omega
end Go.Proofs.Ytfpgklhbghahoaa
