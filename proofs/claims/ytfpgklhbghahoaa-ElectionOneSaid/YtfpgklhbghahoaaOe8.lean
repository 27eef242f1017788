/- Merged texts: Sy2, Sy3, Sy4, Sy5, Sy6. -/
import Derived.Test.YtfpgklhbghahoaaOe7
/- Functions that compare two values that hold the same: their operations by symbols. -/
namespace Go.Proofs.Ytfpgklhbghahoaa
open Go.ChangeShapes Go.WideShapes Go.ChangeAt Go.RowKit Go.ChangeMaps Go.Joins Go.Deep
set_option linter.unusedVariables false
set_option linter.unusedSimpArgs false
set_option maxRecDepth 100000
/-- what a temporary holds: the address of a place of the box of side s, the value of such a place, a length, the counter, .. -/
inductive SV where
  | ptr (s : Bool) (o : Nat)
  | fld (s : Bool) (o : Nat) (t : TypeId)
  | len (o : Nat)
  | idx
  | idx1
  | zero
  | bool (b : Bool)
  | lt (o : Nat)
  | eptr (s : Bool) (o : Nat)
  | efld (s : Bool) (o : Nat) (t : TypeId)
def SV.same : SV → SV → Bool
  | .ptr s o, .ptr s' o' => s == s' && o == o'
  | .fld s o t, .fld s' o' t' => s == s' && o == o' && t == t'
  | .len o, .len o' => o == o'
  | .idx, .idx => true
  | .idx1, .idx1 => true
  | .zero, .zero => true
  | .bool b, .bool b' => b == b'
  | .lt o, .lt o' => o == o'
  | .eptr s o, .eptr s' o' => s == s' && o == o'
  | .efld s o t, .efld s' o' t' => s == s' && o == o' && t == t'
  | _, _ => false
theorem SV.same_eq {a b : SV} (h : a.same b = true) : a = b := by
  cases a <;> cases b <;> simp_all [SV.same]
/-- two values, and an element of each -/
structure Cx where
  cs : List Value
  ds : List Value
  xs : List Value
  ys : List Value
  C : Nat
  q : Nat
  B0 : Nat
  o0 : Nat
  B1 : Nat
  o1 : Nat
def valOf (P : Program) (t : TypeId) (cs : List Value) : Value := match P.underlying t with
  | some d => if d.isRow then .agg cs.toArray else cs.headD undef
  | none => undef
def slen : List Value → Nat
  | [.slice _ l _] => l
  | _ => 0
def den (P : Program) (X : Cx) : SV → Value
  | .ptr s o => .pointer (some ⟨if s then X.C + 1 else X.C, o, none⟩)
  | .fld s o t => valOf P t (part_ (if s then X.ds else X.cs) o (P.cellsOf t))
  | .len o => .int .i64 (slen (part_ X.cs o 1))
  | .idx => .int .i64 X.q
  | .idx1 => .int .i64 (X.q + 1 : Nat)
  | .zero => .int .i64 0
  | .bool b => .bool b
  | .lt o => .bool (decide (X.q < slen (part_ X.cs o 1)))
  | .eptr s o => .pointer (some ⟨if s then X.B1 else X.B0, (if s then X.o1 else X.o0) + o, none⟩)
  | .efld s o t => valOf P t (part_ (if s then X.ys else X.xs) o (P.cellsOf t))
abbrev Env := List (Nat × SV)
def Rel (P : Program) (X : Cx) (env : Env) (a : Act) : Prop := ∀ t sv, env.lookup t = some sv → a.eval (.tmp t) = den P X sv
abbrev TT : Nat → Prop := fun _ => True
/-- two values of type T that hold the same at level n; of each an element of the slice at place o -/
structure WOK (P : Program) (n : Nat) (T : TypeId) (boxed : Bool) (lp : Option (Nat × TypeId × TypeId)) (X : Cx) (w : World) : Prop where
  eqc : EqC P w w TT TT n T X.cs X.ds
  box : boxed = true → Box w X.C X.cs ∧ Box w (X.C + 1) X.ds
  loop : ∀ o ts e, lp = some (o, ts, e) → ∃ m b0 b1 l c0 c1, part_ X.cs o 1 = [.slice (some ⟨X.B0, b0, none⟩) l c0] ∧ part_ X.ds o 1 = [.slice (some ⟨X.B1, b1, none⟩) l c1] ∧ X.q < l ∧ l ≤ maxLen ∧ X.o0 = b0 + X.q * P.cellsOf e ∧ X.o1 = b1 + X.q * P.cellsOf e ∧
    X.B0 < w.heap.size ∧ X.B1 < w.heap.size ∧ w.rangeAt X.B0 X.o0 X.xs ∧ w.rangeAt X.B1 X.o1 X.ys ∧ X.xs.length = P.cellsOf e ∧ X.ys.length = P.cellsOf e ∧ m < n ∧ EqC P w w TT TT m e X.xs X.ys
theorem WOK.next {P : Program} {n : Nat} {T : TypeId} {boxed : Bool} {lp : Option (Nat × TypeId × TypeId)} {X : Cx} {w w' : World} (h : WOK P n T boxed lp X w) (hb : Below w.heap.size w w') : WOK P n T boxed lp X w' := by
  refine ⟨EqC.below hb hb _ _ _ _ h.eqc, fun hbx => ⟨(h.box hbx).1.keep hb, (h.box hbx).2.keep hb⟩, fun o ts e hlp => ?_⟩
  obtain ⟨m, b0, b1, l, c0, c1, h1, h2, h3, h4, h5, h6, h7, h8, h9, h10, h11, h12, h13, h14⟩ := h.loop o ts e hlp
  exact ⟨m, b0, b1, l, c0, c1, h1, h2, h3, h4, h5, h6, Nat.lt_of_lt_of_le h7 hb.size, Nat.lt_of_lt_of_le h8 hb.size, range_below h9 hb h7, range_below h10 hb h8, h11, h12, h13, EqC.below hb hb _ _ _ _ h14⟩
theorem WOK.drew {P : Program} {n : Nat} {T : TypeId} {boxed : Bool} {lp : Option (Nat × TypeId × TypeId)} {X : Cx} {w : World} (h : WOK P n T boxed lp X w) : WOK P n T boxed lp X w.drew := h.next (Below.refl _ _).drew
def structB (P : Program) (t : TypeId) : Bool := match P.underlying t with | some (.struct _) => true | _ => false
def sliceB (P : Program) (t : TypeId) : Option TypeId := match P.underlying t with | some (.slice e) => some e | _ => none
theorem structB_spec {P : Program} {t : TypeId} (h : structB P t = true) : ∃ fs, P.underlying t = some (.struct fs) := by
  unfold structB at h
  split at h
  · rename_i fs hu; exact ⟨fs, hu⟩
  · cases h
theorem sliceB_spec {P : Program} {t e : TypeId} (h : sliceB P t = some e) : P.underlying t = some (.slice e) := by
  unfold sliceB at h
  split at h
  · rename_i e' hu; rw [hu, Option.some.inj h]
  · cases h
/-- t lies at o in T -/
def placeB (P : Program) : Nat → TypeId → Nat → TypeId → Bool
  | 0, _, _, _ => false
  | m + 1, T, o, t => (o == 0 && T == t && ((match P.underlying T with | some (.struct _) => true | _ => false) || P.cellsOf t == 1)) || match P.underlying T with
    | some (.struct fs) => fs.toList.any fun f => decide (f.offset ≤ o) && decide (f.offset + P.cellsOf f.type ≤ P.cellsOf T) && decide (o - f.offset + P.cellsOf t ≤ P.cellsOf f.type) && placeB P m f.type (o - f.offset) t
    | _ => false
theorem eqC_one {P : Program} {w w' : World} {F F' : Nat → Prop} {n : Nat} {t : TypeId} {cs ds : List Value} (hns : ∀ fs, P.underlying t ≠ some (.struct fs)) (h : EqC P w w' F F' n t cs ds) : ∃ u v, cs = [u] ∧ ds = [v] := by
  cases n with
  | zero => exact h.elim
  | succ n =>
    unfold EqC at h
    split at h
    · obtain ⟨b, h1, h2⟩ := h; exact ⟨_, _, h1, h2⟩
    · obtain ⟨b, h1, h2, _⟩ := h; exact ⟨_, _, h1, h2⟩
    · obtain ⟨b, h1, h2, _⟩ := h; exact ⟨_, _, h1, h2⟩
    · obtain ⟨a, l, c, a', c', h1, h2, _⟩ := h; exact ⟨_, _, h1, h2⟩
    · rename_i fs hu; exact absurd hu (hns fs)
    · exact h.elim
theorem place_eq {P : Program} {w w' : World} {F F' : Nat → Prop} : ∀ (k n : Nat) (T : TypeId) (o : Nat) (t : TypeId) (cs ds : List Value), placeB P k T o t = true → EqC P w w' F F' n T cs ds → ∃ m, m ≤ n ∧ EqC P w w' F F' m t (part_ cs o (P.cellsOf t)) (part_ ds o (P.cellsOf t))
  | 0, _, _, _, _, _, _, h, _ => by cases h
  | k + 1, n, T, o, t, cs, ds, h, he => by
    unfold placeB at h
    rw [Bool.or_eq_true] at h
    rcases h with h | h
    · simp only [Bool.and_eq_true, beq_iff_eq, Bool.or_eq_true] at h
      obtain ⟨⟨rfl, rfl⟩, h⟩ := h
      refine ⟨n, Nat.le_refl _, ?_⟩
      cases n with
      | zero => exact he.elim
      | succ n =>
        by_cases hs : ∃ fs, P.underlying T = some (.struct fs)
        · obtain ⟨fs, hu⟩ := hs
          obtain ⟨h1, h2, _⟩ := (eqC_struct hu).1 he
          rw [part_all h1, part_all h2]
          exact he
        · have hns : ∀ fs, P.underlying T ≠ some (.struct fs) := fun fs hu => hs ⟨fs, hu⟩
          obtain ⟨u, v, rfl, rfl⟩ := eqC_one hns he
          have : P.cellsOf T = 1 := by
            rcases h with h | h
            · exfalso
              split at h
              · rename_i fs hu; exact hns fs hu
              · cases h
            · exact h
          rw [this]
          exact he
    · split at h
      · rename_i fs hu
        obtain ⟨f, hf, hh⟩ := List.any_eq_true.1 h
        simp only [Bool.and_eq_true, decide_eq_true_eq] at hh
        obtain ⟨⟨⟨h1, h2⟩, h3⟩, h4⟩ := hh
        cases n with
        | zero => exact he.elim
        | succ n =>
          obtain ⟨_, _, hall⟩ := (eqC_struct hu).1 he
          obtain ⟨i, hi, hif⟩ := List.mem_iff_getElem.1 hf
          have hfi : fs[i]? = some f := by rw [← Array.getElem?_toList, List.getElem?_eq_getElem hi, hif]
          obtain ⟨m, hm, hres⟩ := place_eq k n f.type (o - f.offset) t _ _ h4 (hall i f hfi)
          rw [part_part h3, part_part h3, show f.offset + (o - f.offset) = o by omega] at hres
          exact ⟨m, by omega, hres⟩
      · cases h
/-- t lies at o within the struct T -/
def properB (P : Program) (k : Nat) (T : TypeId) (o : Nat) (t : TypeId) : Bool := match P.underlying T with
    | some (.struct fs) => fs.toList.any fun f => decide (f.offset ≤ o) && decide (f.offset + P.cellsOf f.type ≤ P.cellsOf T) && decide (o - f.offset + P.cellsOf t ≤ P.cellsOf f.type) && placeB P k f.type (o - f.offset) t
    | _ => false
theorem proper_eq {P : Program} {w w' : World} {F F' : Nat → Prop} (k n : Nat) (T : TypeId) (o : Nat) (t : TypeId) (cs ds : List Value) (h : properB P k T o t = true) (he : EqC P w w' F F' n T cs ds) : ∃ m, m < n ∧ EqC P w w' F F' m t (part_ cs o (P.cellsOf t)) (part_ ds o (P.cellsOf t)) := by
  unfold properB at h
  split at h
  · rename_i fs hu
    obtain ⟨f, hf, hh⟩ := List.any_eq_true.1 h
    simp only [Bool.and_eq_true, decide_eq_true_eq] at hh
    obtain ⟨⟨⟨h1, h2⟩, h3⟩, h4⟩ := hh
    cases n with
    | zero => exact he.elim
    | succ n =>
      obtain ⟨_, _, hall⟩ := (eqC_struct hu).1 he
      obtain ⟨i, hi, hif⟩ := List.mem_iff_getElem.1 hf
      have hfi : fs[i]? = some f := by rw [← Array.getElem?_toList, List.getElem?_eq_getElem hi, hif]
      obtain ⟨m, hm, hres⟩ := place_eq k n f.type (o - f.offset) t _ _ h4 (hall i f hfi)
      rw [part_part h3, part_part h3, show f.offset + (o - f.offset) = o by omega] at hres
      exact ⟨m, by omega, hres⟩
  · cases h
/-- a function that compares -/
def SameOK (P : Program) (g : FuncId) (t : TypeId) (m : Nat) : Prop := ∀ (w : World) (xs ys : List Value), EqC P w w TT TT m t xs ys → Calls P g #[valOf P t xs, valOf P t ys] w fun e w' => e = .returned (.bool true) ∧ Below w.heap.size w w'
/-- '==' and '!=' of values of this type -/
def CmpOK (P : Program) (t : TypeId) : Prop := ∀ (n : Nat) (w : World) (xs ys : List Value) (x y : Operand), EqC P w w TT TT n t xs ys →
  (do eqGuard .neq t x y (valOf P t xs) (valOf P t ys); binOp .neq t (valOf P t xs) (valOf P t ys)).run P w = .ok (.bool false) w ∧ (do eqGuard .eql t x y (valOf P t xs) (valOf P t ys); binOp .eql t (valOf P t xs) (valOf P t ys)).run P w = .ok (.bool true) w
/-- the functions and the types of comparison; the type of the arguments; whether they are boxed -/
structure Cfg where
  tab : List (FuncId × TypeId)
  tabA : List (FuncId × TypeId)
  cmp : List TypeId
  T : TypeId
  boxed : Bool
  N : Nat
def sOp (env : Env) : Operand → Option SV
  | .tmp t => env.lookup t
  | .const (.bool b) => some (.bool b)
  | .const (.int .i64 m) => if m = 0 then some .zero else none
  | _ => none
theorem sOp_sound {P : Program} {X : Cx} {env : Env} {a : Act} (h : Rel P X env a) {x : Operand} {sv : SV} (hs : sOp env x = some sv) : a.eval x = den P X sv := by
  unfold sOp at hs
  split at hs
  · exact h _ _ hs
  · obtain rfl := Option.some.inj hs; rfl
  · split at hs
    · rename_i h0; obtain rfl := Option.some.inj hs; subst h0; rfl
    · cases hs
  · cases hs
def fldOff (P : Program) (S : TypeId) (j : Nat) : Option Nat := match P.underlying S with
  | some (.struct fs) => match fs[j]? with
    | some f => if ((P.info? f.type).map (·.size)).getD 0 = 0 then none else some f.offset
    | none => none
  | _ => none
theorem fldOff_sound {P : Program} {S j p : Nat} (h : fldOff P S j = some p) : ∃ (fs : Array Field) (f : Field), P.underlying S = some (.struct fs) ∧ fs[j]? = some f ∧ ((P.info? f.type).map (·.size)).getD 0 ≠ 0 ∧ f.offset = p := by
  unfold fldOff at h
  split at h
  · rename_i fs hu
    split at h
    · rename_i f hf
      split at h
      · cases h
      · rename_i h0; exact ⟨fs, f, hu, hf, h0, Option.some.inj h⟩
    · cases h
  · cases h
def symField (P : Program) (S : TypeId) (j : Nat) : Option SV → Option SV
  | some (.ptr s p) => (fldOff P S j).map fun f => .ptr s (p + f)
  | some (.eptr s p) => (fldOff P S j).map fun f => .eptr s (p + f)
  | _ => none
def readB (P : Program) (t : TypeId) (p k : Nat) : Bool := decide (p + P.cellsOf t ≤ k) && ((P.info? t).map (·.size) == some (P.cellsOf t)) && (match P.underlying t with | some d => d.isRow || P.cellsOf t == 1 | none => false)
def symLoad (P : Program) (c : Cfg) (lp : Option (Nat × TypeId × TypeId)) (t : TypeId) : Option SV → Option SV
  | some (.ptr s p) => if c.boxed && structB P c.T && readB P t p (P.cellsOf c.T) then some (.fld s p t) else none
  | some (.eptr s p) => match lp with
    | some (_, _, e) => if readB P t p (P.cellsOf e) then some (.efld s p t) else none
    | none => none
  | _ => none
def symCmp (op : BinOp) : Option SV := match op with
  | .neq => some (.bool false)
  | .eql => some (.bool true)
  | _ => none
def symBin (P : Program) (c : Cfg) (lp : Option (Nat × TypeId × TypeId)) (op : BinOp) (xT : TypeId) : Option SV → Option SV → Option SV
  | some (.fld s p t), some (.fld s' p' t') => if !s && s' && p == p' && t == t' && xT == t && c.cmp.contains t && placeB P 4 c.T p t then symCmp op else none
  | some (.efld s p t), some (.efld s' p' t') => match lp with
    | some (_, _, e) => if !s && s' && p == p' && t == t' && xT == t && c.cmp.contains t && placeB P 4 e p t then symCmp op else none
    | none => none
  | some (.len p), some (.len p') => if p == p' then (match op with | .neq => some (.bool false) | .eql => some (.bool true) | .gtr => some (.bool false) | _ => none) else none
  | some .idx, some (.len p) => match op with
    | .lss => some (.lt p)
    | _ => none
  | _, _ => none
def symCall (P : Program) (c : Cfg) (lp : Option (Nat × TypeId × TypeId)) (g : FuncId) : Option SV → Option SV → Option SV
  | some (.fld s p t), some (.fld s' p' t') => if !s && s' && p == p' && t == t' && (c.tab.contains (g, t) && properB P 4 c.T p t || c.tabA.contains (g, t) && placeB P 4 c.T p t) then some (.bool true) else none
  | some (.efld s p t), some (.efld s' p' t') => match lp with
    | some (_, _, e) => if !s && s' && p == p' && t == t' && (c.tab.contains (g, t) || c.tabA.contains (g, t)) && placeB P 4 e p t then some (.bool true) else none
    | none => none
  | _, _ => none
def symLen (P : Program) (c : Cfg) (t' : TypeId) : Option SV → Option SV
  | some (.fld _ p t) => if t' == t && placeB P 4 c.T p t && P.cellsOf t == 1 && (sliceB P t).isSome then some (.len p) else none
  | _ => none
def symIndex (P : Program) (lp : Option (Nat × TypeId × TypeId)) (t' : TypeId) : Option SV → Option SV → Option SV
  | some (.fld s p t), some .idx => match lp with
    | some (o, ts, e) => if p == o && t == ts && t' == ts && P.cellsOf ts == 1 && (sliceB P ts == some e) && ((P.info? e).map (·.size) == some (P.cellsOf e)) then some (.eptr s 0) else none
    | none => none
  | _, _ => none
def symOp (P : Program) (c : Cfg) (lp : Option (Nat × TypeId × TypeId)) (env : Env) (o : Oper) : Option SV := match o.op with
  | .move x => sOp env x
  | .assign x => sOp env x
  | .pick b x y => match sOp env b with
    | some (.bool true) => sOp env x
    | some (.bool false) => sOp env y
    | _ => none
  | .fieldAddr S x j => symField P S j (sOp env x)
  | .load t x => symLoad P c lp t (sOp env x)
  | .binOp .add _ x (.const (.int .i64 m)) _ => if m = 1 then (match sOp env x, lp with | some .idx, some _ => some .idx1 | _, _ => none) else none
  | .binOp op xT x y _ => symBin P c lp op xT (sOp env x) (sOp env y)
  | .unOp .not _ x => match sOp env x with
    | some (.bool b) => some (.bool (!b))
    | _ => none
  | .call { callee := .value (.func g), args := xs, argTypes := _ } => match xs.toList with
    | [x, y] => symCall P c lp g (sOp env x) (sOp env y)
    | _ => none
  | .call { callee := .builtin .len, args := xs, argTypes := ts } => match xs.toList, ts.toList with
    | [x], [t] => symLen P c t (sOp env x)
    | _, _ => none
  | .indexAddr t x i => symIndex P lp t (sOp env x) (sOp env i)
  | _ => none
end Go.Proofs.Ytfpgklhbghahoaa
/- Functions that compare two values that hold the same: the symbols say what the operations do. -/
namespace Go.Proofs.Ytfpgklhbghahoaa
open Go.ChangeShapes Go.WideShapes Go.ChangeAt Go.RowKit Go.ChangeMaps Go.Joins Go.Deep
set_option linter.unusedVariables false
set_option linter.unusedSimpArgs false
set_option maxRecDepth 100000
section
variable {P : Program} {c : Cfg} {lp : Option (Nat × TypeId × TypeId)} {X : Cx} {env : Env} {a : Act} {w : World} {o : Oper} {n : Nat}
structure CfgOK (P : Program) (c : Cfg) (n : Nat) : Prop where
  tab : ∀ g t, c.tab.contains (g, t) = true → FnOK P g ∧ ∀ m, m < n → SameOK P g t m
  tabA : ∀ g t, c.tabA.contains (g, t) = true → FnOK P g ∧ ∀ m, SameOK P g t m
  cmp : ∀ t, c.cmp.contains t = true → CmpOK P t
theorem wp_ok {v : Value} {K : Act → World → Prop} {Q : Exit → Act → World → Prop} (hrun : (execOp a.eval o).run P w = .ok (.value v) w) (h : K (a.put o.dst v) w) : o.wp P a w K Q := by
  unfold Oper.wp
  rw [hrun, Oper.upon_value]
  exact h
theorem field_sound {S : TypeId} {x : Operand} {j : Nat} {sv : SV} (ho : o.op = .fieldAddr S x j) (hrel : Rel P X env a) (hs : symField P S j (sOp env x) = some sv) : (execOp a.eval o).run P w = .ok (.value (den P X sv)) w := by
  unfold symField at hs
  split at hs
  · rename_i s p hsv
    obtain ⟨f, hf, rfl⟩ := Option.map_eq_some_iff.1 hs
    obtain ⟨fs, ff, h1, h2, h3, rfl⟩ := fldOff_sound hf
    exact ex_field S x j _ p fs ff ho (sOp_sound hrel hsv) h1 h2 h3
  · rename_i s p hsv
    obtain ⟨f, hf, rfl⟩ := Option.map_eq_some_iff.1 hs
    obtain ⟨fs, ff, h1, h2, h3, rfl⟩ := fldOff_sound hf
    have := ex_field (w := w) S x j _ _ fs ff ho (sOp_sound hrel hsv) h1 h2 h3
    rw [Nat.add_assoc] at this
    exact this
  · cases hs
theorem read_ok {t : TypeId} {x : Operand} {b p k o' : Nat} {cs : List Value} (ho : o.op = .load t x) (hx : a.eval x = .pointer (some ⟨b, o' + p, none⟩)) (hr : readB P t p k = true) (hl : cs.length = k) (hc : w.rangeAt b o' cs) : (execOp a.eval o).run P w = .ok (.value (valOf P t (part_ cs p (P.cellsOf t)))) w := by
  unfold readB at hr
  simp only [Bool.and_eq_true, decide_eq_true_eq, beq_iff_eq] at hr
  obtain ⟨⟨h1, h2⟩, h3⟩ := hr
  have hpl : (part_ cs p (P.cellsOf t)).length = P.cellsOf t := part_len (by omega)
  split at h3
  · rename_i d hu
    unfold valOf
    simp only [hu]
    by_cases hd : d.isRow = true
    · rw [if_pos hd]
      exact ex_load_row t x b (o' + p) _ d ho hx (range_part hc p _) hu hd (by rw [hpl]; exact h2)
    · rw [if_neg hd]
      have hd' : d.isRow = false := by simpa using hd
      rw [hd', Bool.false_or, beq_iff_eq] at h3
      rw [h3] at hpl ⊢
      obtain ⟨v, hv⟩ : ∃ v, part_ cs p 1 = [v] := by
        match part_ cs p 1, hpl with
        | [v], _ => exact ⟨v, rfl⟩
      have hcell := range_part hc p 1 0 v (by rw [hv]; rfl)
      rw [hv]
      exact ex_load_cell t x b (o' + p) v d ho hx hcell hu hd'
  · cases h3
theorem load_sound {t : TypeId} {x : Operand} {sv : SV} (ho : o.op = .load t x) (hrel : Rel P X env a) (hok : WOK P n c.T c.boxed lp X w) (hs : symLoad P c lp t (sOp env x) = some sv) : (execOp a.eval o).run P w = .ok (.value (den P X sv)) w := by
  unfold symLoad at hs
  split at hs
  · rename_i s p hsv
    split at hs
    · rename_i hh
      obtain rfl := Option.some.inj hs
      simp only [Bool.and_eq_true] at hh
      obtain ⟨⟨h1, h2⟩, h3⟩ := hh
      obtain ⟨hb0, hb1⟩ := hok.box h1
      have he := hok.eqc
      obtain ⟨fs, hu⟩ := structB_spec h2
      cases n with
      | zero => exact he.elim
      | succ n =>
        obtain ⟨l1, l2, _⟩ := (eqC_struct hu).1 he
        have hx := sOp_sound hrel hsv
        cases s
        · exact read_ok (o' := 0) ho (by rw [Nat.zero_add]; exact hx) h3 l1 hb0.rng
        · exact read_ok (o' := 0) ho (by rw [Nat.zero_add]; exact hx) h3 l2 hb1.rng
    · cases hs
  · rename_i s p hsv
    split at hs
    · rename_i o' ts e
      split at hs
      · rename_i hh
        obtain rfl := Option.some.inj hs
        obtain ⟨m, b0, b1, l, c0, c1, h1, h2, h3, h4, h5, h6, h7, h8, h9, h10, h11, h12, h13, h14⟩ := hok.loop o' ts e rfl
        have hx := sOp_sound hrel hsv
        cases s
        · exact read_ok ho hx hh h11 h9
        · exact read_ok ho hx hh h12 h10
      · cases hs
    · cases hs
  · cases hs
theorem cmp_sound {op : BinOp} {t : TypeId} {x y : Operand} {yT : TypeId} {xs ys : List Value} {m : Nat} {sv : SV} (ho : o.op = .binOp op t x y yT) (hx : a.eval x = valOf P t xs) (hy : a.eval y = valOf P t ys) (hc : CmpOK P t) (he : EqC P w w TT TT m t xs ys) (hs : symCmp op = some sv) : (execOp a.eval o).run P w = .ok (.value (den P X sv)) w := by
  obtain ⟨h1, h2⟩ := hc m w xs ys x y he
  unfold symCmp at hs
  split at hs
  · obtain rfl := Option.some.inj hs
    unfold execOp
    simp only [ho, hx, hy]
    rw [Sem.run_bind, h1]
    rfl
  · obtain rfl := Option.some.inj hs
    unfold execOp
    simp only [ho, hx, hy]
    rw [Sem.run_bind, h2]
    rfl
  · cases hs
theorem int_cmp {op : BinOp} {xT yT : TypeId} {x y : Operand} {p q : Nat} {r : Bool} (ho : o.op = .binOp op xT x y yT) (hx : a.eval x = .int .i64 p) (hy : a.eval y = .int .i64 q) (hop : (op = .neq ∧ r = decide (p ≠ q)) ∨ (op = .eql ∧ r = decide (p = q)) ∨ (op = .gtr ∧ r = decide (q < p)) ∨ (op = .lss ∧ r = decide (p < q))) : (execOp a.eval o).run P w = .ok (.value (.bool r)) w := by
  rcases hop with ⟨rfl, rfl⟩ | ⟨rfl, rfl⟩ | ⟨rfl, rfl⟩ | ⟨rfl, rfl⟩ <;>
  · unfold execOp
    simp only [ho, hx, hy]
    simp [go_sem]
    try (rw [Bool.eq_iff_iff]; simp; omega)
theorem bin_sound {op : BinOp} {xT yT : TypeId} {x y : Operand} {sv : SV} (hc : CfgOK P c n) (ho : o.op = .binOp op xT x y yT) (hrel : Rel P X env a) (hok : WOK P n c.T c.boxed lp X w) (hs : symBin P c lp op xT (sOp env x) (sOp env y) = some sv) : (execOp a.eval o).run P w = .ok (.value (den P X sv)) w := by
  unfold symBin at hs
  split at hs
  · rename_i s p t s' p' t' hx hy
    split at hs
    · rename_i hh
      simp only [Bool.and_eq_true, beq_iff_eq, Bool.not_eq_true'] at hh
      obtain ⟨⟨⟨⟨⟨⟨rfl, rfl⟩, rfl⟩, rfl⟩, rfl⟩, hcm⟩, hpl⟩ := hh
      obtain ⟨m, _, he⟩ := place_eq 4 n c.T p xT X.cs X.ds hpl hok.eqc
      exact cmp_sound ho (sOp_sound hrel hx) (sOp_sound hrel hy) (hc.cmp _ hcm) he hs
    · cases hs
  · rename_i s p t s' p' t' hx hy
    split at hs
    · rename_i o' ts e
      split at hs
      · rename_i hh
        simp only [Bool.and_eq_true, beq_iff_eq, Bool.not_eq_true'] at hh
        obtain ⟨⟨⟨⟨⟨⟨rfl, rfl⟩, rfl⟩, rfl⟩, rfl⟩, hcm⟩, hpl⟩ := hh
        obtain ⟨m, b0, b1, l, c0, c1, h1, h2, h3, h4, h5, h6, h7, h8, h9, h10, h11, h12, h13, h14⟩ := hok.loop o' ts e rfl
        obtain ⟨m', _, he⟩ := place_eq 4 m e p xT X.xs X.ys hpl h14
        exact cmp_sound ho (sOp_sound hrel hx) (sOp_sound hrel hy) (hc.cmp _ hcm) he hs
      · cases hs
    · cases hs
  · rename_i p p' hx hy
    split at hs
    · rename_i hh
      rw [beq_iff_eq] at hh
      subst hh
      have ex := sOp_sound hrel hx
      have ey := sOp_sound hrel hy
      split at hs
      · obtain rfl := Option.some.inj hs
        exact int_cmp ho ex ey (.inl ⟨rfl, by simp⟩)
      · obtain rfl := Option.some.inj hs
        exact int_cmp ho ex ey (.inr (.inl ⟨rfl, by simp⟩))
      · obtain rfl := Option.some.inj hs
        exact int_cmp ho ex ey (.inr (.inr (.inl ⟨rfl, by simp⟩)))
      · cases hs
    · cases hs
  · rename_i p hx hy
    split at hs
    · obtain rfl := Option.some.inj hs
      exact int_cmp ho (sOp_sound hrel hx) (sOp_sound hrel hy) (.inr (.inr (.inr ⟨rfl, rfl⟩)))
    · cases hs
  · cases hs
theorem add_sound {xT yT : TypeId} {x : Operand} (ho : o.op = .binOp .add xT x (.const (.int .i64 1)) yT) (hx : a.eval x = .int .i64 X.q) (hq : X.q + 1 ≤ maxLen) : (execOp a.eval o).run P w = .ok (.value (den P X .idx1)) w := by
  have h1 : a.eval (.const (.int .i64 1)) = .int .i64 1 := rfl
  have hw : IntKind.i64.wrap ((X.q : Int) + 1) = ((X.q + 1 : Nat) : Int) := by
    unfold maxLen at hq
    rw [IntKind.wrap_i64]
    omega
  unfold execOp
  simp only [ho, hx, h1]
  simp [go_sem]
  unfold den
  rw [← hw]
theorem len_sound {t' : TypeId} {x : Operand} {sv : SV} (ho : o.op = .call { callee := .builtin .len, args := #[x], argTypes := #[t'] }) (hrel : Rel P X env a) (hok : WOK P n c.T c.boxed lp X w) (hs : symLen P c t' (sOp env x) = some sv) : (execOp a.eval o).run P w = .ok (.value (den P X sv)) w := by
  unfold symLen at hs
  split at hs
  · rename_i s p t hx
    split at hs
    · rename_i hh
      obtain rfl := Option.some.inj hs
      simp only [Bool.and_eq_true, beq_iff_eq] at hh
      obtain ⟨⟨⟨rfl, hpl⟩, h1⟩, hsl⟩ := hh
      obtain ⟨m, _, he⟩ := place_eq 4 n c.T p t' X.cs X.ds hpl hok.eqc
      obtain ⟨e, hse⟩ := Option.isSome_iff_exists.1 hsl
      have hu := sliceB_spec hse
      · rw [h1] at he
        cases m with
        | zero => exact he.elim
        | succ m =>
          unfold EqC at he
          simp only [hu] at he
          obtain ⟨ad, l, cp, ad', cp', e1, e2, _⟩ := he
          have hel : P.underlying t' = some (.slice (P.elem t')) := by simp [Program.elem, hu]
          have hval : ∀ s : Bool, ∃ ad cp, valOf P t' (part_ (if s then X.ds else X.cs) p (P.cellsOf t')) = .slice ad l cp := fun s => by
            cases s
            · exact ⟨ad, cp, by unfold valOf; simp only [hu, h1]; simp [e1]⟩
            · exact ⟨ad', cp', by unfold valOf; simp only [hu, h1]; simp [e2]⟩
          obtain ⟨ad2, cp2, hv⟩ := hval s
          have hx2 : a.eval x = .slice ad2 l cp2 := (sOp_sound hrel hx).trans hv
          have hln : slen (part_ X.cs p 1) = l := by rw [e1]; rfl
          unfold execOp
          simp only [ho, resolve, invoke, builtin, Sem.run_bind, Sem.run_pure, Result.andThen_ok, List.map_toArray, List.map_cons, List.map_nil, hx2, run_len_slice w t' _ ad2 l cp2 hel]
          have hd : den P X (.len p) = .int .i64 (l : Int) := by
            show Value.int .i64 (slen (part_ X.cs p 1) : Int) = _
            rw [hln]
          rw [hd]
          rfl
    · cases hs
  · cases hs
theorem index_sound {t' : TypeId} {x i : Operand} {sv : SV} (ho : o.op = .indexAddr t' x i) (hrel : Rel P X env a) (hok : WOK P n c.T c.boxed lp X w) (hs : symIndex P lp t' (sOp env x) (sOp env i) = some sv) : (execOp a.eval o).run P w = .ok (.value (den P X sv)) w := by
  unfold symIndex at hs
  split at hs
  · rename_i s p t hx hi
    split at hs
    · rename_i o' ts e
      split at hs
      · rename_i hh
        obtain rfl := Option.some.inj hs
        simp only [Bool.and_eq_true, beq_iff_eq] at hh
        obtain ⟨⟨⟨⟨⟨rfl, rfl⟩, rfl⟩, h1⟩, hsl⟩, hsz⟩ := hh
        obtain ⟨m, b0, b1, l, c0, c1, k1, k2, k3, k4, k5, k6, _⟩ := hok.loop p t' e rfl
        have hu := sliceB_spec hsl
        · have hel : P.underlying t' = some (.slice (P.elem t')) := by simp [Program.elem, hu]
          have hee : P.elem t' = e := by simp [Program.elem, hu]
          have hei : a.eval i = .int .i64 X.q := sOp_sound hrel hi
          have hsize : (sizeOf (P.elem t')).run P w = .ok (P.cellsOf e) w := by
            rw [hee]
            cases hq : P.info? e with
            | none => simp [hq] at hsz
            | some inf =>
              have : inf.size = P.cellsOf e := by simpa [hq] using hsz
              simp [sizeOf, typeInfo, hq, this]
          have key : ∀ B b cc, a.eval x = .slice (some ⟨B, b, none⟩) l cc → (execOp a.eval o).run P w = .ok (.value (.pointer (some ⟨B, b + X.q * P.cellsOf e, none⟩))) w := fun B b cc hxv => by
            unfold execOp
            simp only [ho, hxv, hei, Sem.run_bind, run_indexAt_slice w t' ⟨B, b, none⟩ l cc .i64 X.q hel]
            rw [if_pos ⟨by omega, by omega⟩, hsize]
            simp only [Result.andThen_ok, Int.toNat_natCast, Addr.add_mid, Sem.run_pure]
          cases s
          · have hv : a.eval x = .slice (some ⟨X.B0, b0, none⟩) l c0 := (sOp_sound hrel hx).trans (by unfold den valOf; simp only [hu, h1]; simp [k1])
            rw [key _ _ _ hv]
            show _ = Result.ok (Next.value (Value.pointer (some ⟨X.B0, X.o0 + 0, none⟩))) w
            rw [k5]
            rfl
          · have hv : a.eval x = .slice (some ⟨X.B1, b1, none⟩) l c1 := (sOp_sound hrel hx).trans (by unfold den valOf; simp only [hu, h1]; simp [k2])
            rw [key _ _ _ hv]
            show _ = Result.ok (Next.value (Value.pointer (some ⟨X.B1, X.o1 + 0, none⟩))) w
            rw [k6]
            rfl
      · cases hs
    · cases hs
  · cases hs
theorem call_sound {g : FuncId} {ts : Array TypeId} {x y : Operand} {sv : SV} {K : Act → World → Prop} {Q : Exit → Act → World → Prop} (hc : CfgOK P c n) (ho : o.op = .call { callee := .value (.func g), args := #[x, y], argTypes := ts }) (hrel : Rel P X env a) (hok : WOK P n c.T c.boxed lp X w) (hs : symCall P c lp g (sOp env x) (sOp env y) = some sv)
    (hK : ∀ w', Below w.heap.size w w' → K (a.put o.dst (den P X sv)) w') : o.wp P a w K Q := by
  have main : ∀ (t : TypeId) (xs ys : List Value) (m : Nat), FnOK P g → SameOK P g t m → a.eval x = valOf P t xs → a.eval y = valOf P t ys → EqC P w w TT TT m t xs ys → sv = .bool true → o.wp P a w K Q := by
    intro t xs ys m hF hS hx hy he hsv
    subst hsv
    unfold Oper.wp
    rw [ex_call (w := w) hF rfl ho, Oper.upon_enter, List.map_toArray, List.map_cons, List.map_cons, List.map_nil, hx, hy]
    refine (hS w xs ys he).mono ?_
    rintro e w' ⟨rfl, hb⟩
    exact hK w' hb
  unfold symCall at hs
  split at hs
  · rename_i s p t s' p' t' hx hy
    split at hs
    · rename_i hh
      obtain rfl := Option.some.inj hs
      simp only [Bool.and_eq_true, Bool.or_eq_true, beq_iff_eq, Bool.not_eq_true'] at hh
      obtain ⟨⟨⟨⟨rfl, rfl⟩, rfl⟩, rfl⟩, ht⟩ := hh
      rcases ht with ⟨ht, hpl⟩ | ⟨ht, hpl⟩
      · obtain ⟨m, hm, he⟩ := proper_eq 4 n c.T p t X.cs X.ds hpl hok.eqc
        obtain ⟨hF, hS⟩ := hc.tab g t ht
        exact main t _ _ m hF (hS m hm) (sOp_sound hrel hx) (sOp_sound hrel hy) he rfl
      · obtain ⟨m, hm, he⟩ := place_eq 4 n c.T p t X.cs X.ds hpl hok.eqc
        obtain ⟨hF, hS⟩ := hc.tabA g t ht
        exact main t _ _ m hF (hS m) (sOp_sound hrel hx) (sOp_sound hrel hy) he rfl
    · cases hs
  · rename_i s p t s' p' t' hx hy
    split at hs
    · rename_i o' ts' e
      split at hs
      · rename_i hh
        obtain rfl := Option.some.inj hs
        simp only [Bool.and_eq_true, Bool.or_eq_true, beq_iff_eq, Bool.not_eq_true'] at hh
        obtain ⟨⟨⟨⟨⟨rfl, rfl⟩, rfl⟩, rfl⟩, ht⟩, hpl⟩ := hh
        obtain ⟨m, b0, b1, l, c0, c1, h1, h2, h3, h4, h5, h6, h7, h8, h9, h10, h11, h12, h13, h14⟩ := hok.loop o' ts' e rfl
        obtain ⟨m', hm', he⟩ := place_eq 4 m e p t X.xs X.ys hpl h14
        rcases ht with ht | ht
        · obtain ⟨hF, hS⟩ := hc.tab g t ht
          exact main t _ _ m' hF (hS m' (by omega)) (sOp_sound hrel hx) (sOp_sound hrel hy) he rfl
        · obtain ⟨hF, hS⟩ := hc.tabA g t ht
          exact main t _ _ m' hF (hS m') (sOp_sound hrel hx) (sOp_sound hrel hy) he rfl
      · cases hs
    · cases hs
  · cases hs
end
end Go.Proofs.Ytfpgklhbghahoaa
/- Functions that compare two values that hold the same: regions by symbols. -/
namespace Go.Proofs.Ytfpgklhbghahoaa
open Go.ChangeShapes Go.WideShapes Go.ChangeAt Go.RowKit Go.ChangeMaps Go.Joins Go.Deep
set_option linter.unusedVariables false
set_option linter.unusedSimpArgs false
set_option maxRecDepth 100000
section
variable {P : Program} {c : Cfg} {lp : Option (Nat × TypeId × TypeId)} {X : Cx} {n : Nat}
theorem symOp_sound {env : Env} {a : Act} {w : World} {o : Oper} {sv : SV} {K : Act → World → Prop} {Q : Exit → Act → World → Prop} (hc : CfgOK P c n) (hrel : Rel P X env a) (hok : WOK P n c.T c.boxed lp X w) (hs : symOp P c lp env o = some sv)
    (hK : ∀ w', Below w.heap.size w w' → K (a.put o.dst (den P X sv)) w') : o.wp P a w K Q := by
  have hrun : (execOp a.eval o).run P w = .ok (.value (den P X sv)) w → o.wp P a w K Q := fun h => wp_ok h (hK w (Below.refl _ _))
  unfold symOp at hs
  split at hs
  · rename_i x ho
    refine hrun ?_
    unfold execOp
    simp only [ho, sOp_sound hrel hs, Sem.run_pure]
  · rename_i x ho
    refine hrun ?_
    unfold execOp
    simp only [ho, sOp_sound hrel hs, Sem.run_pure]
  · rename_i b x y ho
    split at hs
    · rename_i hb
      have hbv : a.eval b = .bool true := sOp_sound hrel hb
      refine hrun ?_
      unfold execOp
      simp only [ho, hbv, asBool, Sem.run_bind, Sem.run_pure, Result.andThen_ok, if_true, sOp_sound hrel hs]
    · rename_i hb
      have hbv : a.eval b = .bool false := sOp_sound hrel hb
      refine hrun ?_
      unfold execOp
      simp only [ho, hbv, asBool, Sem.run_bind, Sem.run_pure, Result.andThen_ok, sOp_sound hrel hs]
      rfl
    · cases hs
  · rename_i S x j ho
    exact hrun (field_sound ho hrel hs)
  · rename_i t x ho
    exact hrun (load_sound ho hrel hok hs)
  · rename_i xT x m yT ho
    split at hs
    · rename_i hm
      subst hm
      split at hs
      · rename_i l1 hx
        obtain rfl := Option.some.inj hs
        obtain ⟨o', ts, e⟩ := l1
        obtain ⟨m, b0, b1, l, c0, c1, k1, k2, k3, k4, _⟩ := hok.loop o' ts e rfl
        exact hrun (add_sound ho (sOp_sound hrel hx) (by omega))
      · cases hs
    · cases hs
  · rename_i op xT x y yT _ ho
    exact hrun (bin_sound hc ho hrel hok hs)
  · rename_i xT x ho
    split at hs
    · rename_i b hx
      obtain rfl := Option.some.inj hs
      have hbv : a.eval x = .bool b := sOp_sound hrel hx
      refine hrun ?_
      unfold execOp
      simp only [ho, hbv]
      simp [go_sem]
      rfl
    · cases hs
  · rename_i g xs ts ho
    split at hs
    · rename_i x y hxs
      have : xs = #[x, y] := by rw [← Array.toList_inj]; exact hxs
      subst this
      exact call_sound hc ho hrel hok hs hK
    · cases hs
  · rename_i xs ts ho
    split at hs
    · rename_i x t hxs hts
      have h1 : xs = #[x] := by rw [← Array.toList_inj]; exact hxs
      have h2 : ts = #[t] := by rw [← Array.toList_inj]; exact hts
      subst h1 h2
      exact hrun (len_sound ho hrel hok hs)
    · cases hs
  · rename_i t x i ho
    exact hrun (index_sound ho hrel hok hs)
  · cases hs
/-- is an operation wanted? -/
def symWant (ops : Array Oper) (env : Env) (g : Option (Nat × Bool)) : Option Bool := match g with
  | none => some true
  | some (j, b) => match (ops[j]?).bind (·.dst) with
    | some d => match env.lookup d with
      | some (.bool b') => some (b' == b)
      | _ => none
    | none => none
theorem symWant_sound {ops : Array Oper} {env : Env} {a : Act} {o : Oper} {N : Nat} {b : Bool} (hN : a.tmps.size = N) (hrel : Rel P X env a) (hin : ∀ t sv, env.lookup t = some sv → t < N) (h : symWant ops env o.guard = some b) : Region.wanted o (yielded ops a.tmps) = b := by
  unfold symWant at h
  unfold Region.wanted
  split at h
  · rename_i hg
    rw [hg]
    exact Option.some.inj h
  · rename_i j b' hg
    rw [hg]
    split at h
    · rename_i d hd
      split at h
      · rename_i b2 hl
        have hv := hrel d _ hl
        have hdN := hin d _ hl
        have : a.tmps[d]? = some (.bool b2) := by
          have h1 : a.tmps.getD d undef = .bool b2 := hv
          have h2 : d < a.tmps.size := by rw [hN]; exact hdN
          rw [Array.getElem?_eq_getElem h2]
          simp [h2] at h1
          rw [h1]
        unfold yielded
        simp only [hd, Option.bind_some, this]
        have := Option.some.inj h
        rw [← this]
        cases b2 <;> cases b' <;> rfl
      · cases h
    · cases h
def symSeq (P : Program) (c : Cfg) (lp : Option (Nat × TypeId × TypeId)) (ops : Array Oper) : List Oper → Env → Option Env
  | [], env => some env
  | o :: rest, env => match o.dst with
    | none => none
    | some d => if d < c.N then (match symWant ops env o.guard with
      | some true => match symOp P c lp env o with
        | some sv => symSeq P c lp ops rest ((d, sv) :: env)
        | none => none
      | some false => symSeq P c lp ops rest (env.filter (fun p => p.1 != d))
      | none => none) else none
structure Fr (P : Program) (c : Cfg) (X : Cx) (env : Env) (a : Act) : Prop where
  size : a.tmps.size = c.N
  defers : a.defers = []
  rel : Rel P X env a
  ins : ∀ t sv, env.lookup t = some sv → t < c.N
theorem lookup_filter {env : Env} {d t : Nat} : (env.filter (fun p => p.1 != d)).lookup t = if t = d then none else env.lookup t := by
  induction env with
  | nil => simp
  | cons p env ih =>
    obtain ⟨k, v⟩ := p
    by_cases hk : k = d
    · subst hk
      simp only [List.filter, bne_self_eq_false, ih]
      by_cases ht : t = k
      · simp [ht]
      · have : (t == k) = false := by simpa using ht
        simp [List.lookup, ht, this]
    · have h1 : (k != d) = true := by simpa using hk
      simp only [List.filter, h1]
      by_cases ht : t = k
      · subst ht
        simp [List.lookup, hk]
      · have : (t == k) = false := by simpa using ht
        simp only [List.lookup, this, ih]
theorem Fr.put {env : Env} {a : Act} {d : Nat} {sv : SV} (h : Fr P c X env a) (hd : d < c.N) : Fr P c X ((d, sv) :: env) (a.put (some d) (den P X sv)) := by
  refine ⟨by simp [Act.put, h.size], h.defers, fun t sv' hl => ?_, fun t sv' hl => ?_⟩
  · by_cases e : t = d
    · subst e
      simp [List.lookup] at hl
      subst hl
      exact eval_put_same (by rw [h.size]; exact hd)
    · have : (t == d) = false := by simpa using e
      simp only [List.lookup, this] at hl
      rw [eval_put_ne (fun e' => e e'.symm)]
      exact h.rel t sv' hl
  · by_cases e : t = d
    · subst e; exact hd
    · have : (t == d) = false := by simpa using e
      simp only [List.lookup, this] at hl
      exact h.ins t sv' hl
theorem Fr.unput {env : Env} {a : Act} {d : Nat} {v : Value} (h : Fr P c X env a) (hd : d < c.N) : Fr P c X (env.filter (fun p => p.1 != d)) (a.put (some d) v) := by
  refine ⟨by simp [Act.put, h.size], h.defers, fun t sv' hl => ?_, fun t sv' hl => ?_⟩
  · rw [lookup_filter] at hl
    by_cases e : t = d
    · rw [if_pos e] at hl; cases hl
    · rw [if_neg e] at hl
      rw [eval_put_ne (fun e' => e e'.symm)]
      exact h.rel t sv' hl
  · rw [lookup_filter] at hl
    by_cases e : t = d
    · rw [if_pos e] at hl; cases hl
    · rw [if_neg e] at hl
      exact h.ins t sv' hl
theorem symSeq_sound (hc : CfgOK P c n) (ops : Array Oper) {Q : Exit → Act → World → Prop} : ∀ (l : List Oper) (env env' : Env) (a : Act) (w : World), symSeq P c lp ops l env = some env' → Fr P c X env a → WOK P n c.T c.boxed lp X w → (∀ a' w', Fr P c X env' a' → Below w.heap.size w w' → Q .normal a' w') → wpList P ops Q l a w
  | [], env, env', a, w, hs, hf, hok, hQ => by
    obtain rfl := Option.some.inj hs
    exact wpList_nil (hQ a w hf (Below.refl _ _))
  | o :: rest, env, env', a, w, hs, hf, hok, hQ => by
    unfold symSeq at hs
    split at hs
    · cases hs
    · rename_i d hd
      split at hs
      · rename_i hdN
        refine wpList_step fun K hK => ?_
        split at hs
        · rename_i hw
          rw [if_pos (symWant_sound hf.size hf.rel hf.ins hw)]
          split at hs
          · rename_i sv hop
            refine symOp_sound hc hf.rel hok hop (fun w' hb => hK _ _ ?_)
            rw [hd]
            exact symSeq_sound hc ops rest _ _ _ w' hs (hf.put hdN) (hok.next hb) (fun a' w'' hf' hb' => hQ a' w'' hf' (hb.trans (hb'.mono hb.size)))
          · cases hs
        · rename_i hw
          rw [if_neg (by rw [symWant_sound hf.size hf.rel hf.ins hw]; decide)]
          refine hK _ _ ?_
          rw [hd]
          exact symSeq_sound hc ops rest _ _ _ w hs (hf.unput hdN) hok hQ
        · cases hs
      · cases hs
/-- what operation i of a region that draws its order may know -/
def isDst (ops : Array Oper) (t : Nat) : Bool := ops.any fun o => o.dst == some t
def knows (ops : Array Oper) (i : Nat) (E : Env) : Env := E.filter fun p => (List.range ops.size).all fun j => match ops[j]? with
  | some o => !(o.dst == some p.1) || Region.waitsFor .any ops i j
  | none => true
def symFreeB (P : Program) (c : Cfg) (lp : Option (Nat × TypeId × TypeId)) (ops : Array Oper) (env E : Env) : Bool :=
  backB .any ops && (E.all fun p => decide (p.1 < c.N) && (isDst ops p.1 || (match env.lookup p.1 with | some sv => sv.same p.2 | none => false))) &&
  (List.range ops.size).all fun i => match ops[i]? with
    | some o => match o.dst with
      | some d => decide (d < c.N) && (match symWant ops (knows ops i E) o.guard with
        | some true => (match symOp P c lp (knows ops i E) o, E.lookup d with
          | some sv, some sv' => sv.same sv'
          | some _, none => true
          | none, _ => false)
        | some false => (E.lookup d).isNone
        | none => false)
      | none => false
    | none => true
def symFree (P : Program) (c : Cfg) (lp : Option (Nat × TypeId × TypeId)) (ops : Array Oper) (env : Env) : Option Env := match symSeq P c lp ops ops.toList env with
  | some E => if symFreeB P c lp ops env (E.reverse.reverse) then some E else none
  | none => none
theorem lookup_mem {env : Env} {t : Nat} {sv : SV} (h : env.lookup t = some sv) : (t, sv) ∈ env := by
  induction env with
  | nil => cases h
  | cons p env ih =>
    obtain ⟨k, v⟩ := p
    by_cases ht : t = k
    · subst ht
      simp [List.lookup] at h
      subst h
      exact List.mem_cons_self
    · have : (t == k) = false := by simpa using ht
      simp only [List.lookup, this] at h
      exact List.mem_cons_of_mem _ (ih h)
theorem lookup_knows {ops : Array Oper} {i : Nat} {E : Env} {t : Nat} {sv : SV} (h : (knows ops i E).lookup t = some sv) : E.lookup t = some sv ∧ Avail ops (fun j => Region.waitsFor .any ops i j = true) t := by
  unfold knows at h
  have key : ∀ (E : Env), (E.filter fun p => (List.range ops.size).all fun j => match ops[j]? with | some o => !(o.dst == some p.1) || Region.waitsFor .any ops i j | none => true).lookup t = some sv → E.lookup t = some sv := by
    intro E
    induction E with
    | nil => intro h; cases h
    | cons p E ih =>
      obtain ⟨k, v⟩ := p
      intro h
      by_cases ht : t = k
      · subst ht
        rw [List.filter_cons] at h
        split at h
        · simp [List.lookup] at h ⊢; exact h
        · rename_i hno
          exfalso
          obtain h1 := lookup_mem h
          have := (List.mem_filter.1 h1).2
          exact hno this
      · have hb : (t == k) = false := by simpa using ht
        rw [List.filter_cons] at h
        split at h
        · simp only [List.lookup, hb] at h ⊢; exact ih h
        · simp only [List.lookup, hb]; exact ih h
  refine ⟨key E h, fun j o ho hd => ?_⟩
  have h1 := (List.mem_filter.1 (lookup_mem h)).2
  have h2 := (List.all_eq_true.1 h1) j (List.mem_range.2 (Array.getElem?_eq_some_iff.1 ho).1)
  simp only [ho, hd] at h2
  simpa using h2
theorem symFree_sound (hm : P.follows .mixedOrders = true) (hc : CfgOK P c n) {id : Nat} {ops : Array Oper} {env env' : Env} {a : Act} {w : World} {Q : Exit → Act → World → Prop} (hs : symFree P c lp ops env = some env') (hf : Fr P c X env a) (hok : WOK P n c.T c.boxed lp X w) (hQ : ∀ a' w', Fr P c X env' a' → Below w.heap.size w w' → Q .normal a' w') : (Code.region id ops true).wp P Q a w := by
  unfold symFree at hs
  split at hs
  · rename_i E hE
    split at hs
    · rename_i hB
      obtain rfl := Option.some.inj hs
      rw [List.reverse_reverse] at hB
      unfold symFreeB at hB
      simp only [Bool.and_eq_true] at hB
      obtain ⟨⟨hback, hins⟩, hall⟩ := hB
      have hins' : ∀ t sv, E.lookup t = some sv → t < c.N ∧ (isDst ops t = true ∨ env.lookup t = some sv) := fun t sv hl => by
        have := (List.all_eq_true.1 hins) _ (lookup_mem hl)
        simp only [Bool.and_eq_true, decide_eq_true_eq, Bool.or_eq_true] at this
        refine ⟨this.1, this.2.imp (fun h => h) fun h => ?_⟩
        split at h
        · rename_i sv' hsv; rw [hsv, SV.same_eq h]
        · cases h
      refine wp_region_free (S := fun W => WOK P n c.T c.boxed lp X W ∧ Below w.heap.size w W) (V := fun t => (E.lookup t).map (den P X)) hm hback ⟨hok.drew, (Below.refl _ _).drew⟩ hf.size hf.defers (fun t v hv hav => ?_) (fun i o ho => ?_) (fun a' w' hS h1 h2 h3 => hQ a' w' ⟨h1, h2, fun t sv hl => h3 t _ (by rw [hl]; rfl), fun t sv hl => (hins' t sv hl).1⟩ hS.2)
      · obtain ⟨sv, hl, rfl⟩ := Option.map_eq_some_iff.1 hv
        rcases (hins' t sv hl).2 with hd | hd
        · exfalso
          obtain ⟨o, hmem, hod⟩ := Array.any_eq_true'.1 hd
          obtain ⟨j, hj, hjo⟩ := Array.mem_iff_getElem.1 hmem
          exact hav j o (by rw [Array.getElem?_eq_getElem hj, hjo]) (by simpa using hod)
        · exact hf.rel t sv hd
      · have hi := (List.all_eq_true.1 hall) i (List.mem_range.2 (Array.getElem?_eq_some_iff.1 ho).1)
        simp only [ho] at hi
        split at hi
        · rename_i d hd
          rw [Bool.and_eq_true, decide_eq_true_eq] at hi
          refine ⟨d, hd, hi.1, fun a w2 hS hN hdf hval => ?_⟩
          have hrel : Rel P X (knows ops i E) a := fun t sv hl => by
            obtain ⟨h1, h2⟩ := lookup_knows hl
            exact hval t _ (by rw [h1]; rfl) h2
          have hkin : ∀ t sv, (knows ops i E).lookup t = some sv → t < c.N := fun t sv hl => (hins' t sv (lookup_knows hl).1).1
          have hi2 := hi.2
          split at hi2
          · rename_i hw
            refine .inl ⟨symWant_sound hN hrel hkin hw, fun K hK => ?_⟩
            split at hi2
            · rename_i sv sv' hop hl
              refine symOp_sound hc hrel hS.1 hop (fun w' hb => ?_)
              rw [hd]
              exact hK _ w' ⟨hS.1.next hb, hS.2.trans (hb.mono hS.2.size)⟩ (fun u hu => by
                rw [hl] at hu
                rw [SV.same_eq hi2]
                exact Option.some.inj hu)
            · rename_i sv hop hl
              refine symOp_sound hc hrel hS.1 hop (fun w' hb => ?_)
              rw [hd]
              exact hK _ w' ⟨hS.1.next hb, hS.2.trans (hb.mono hS.2.size)⟩ (fun u hu => by rw [hl] at hu; cases hu)
            · cases hi2
          · rename_i hw
            refine .inr ⟨symWant_sound hN hrel hkin hw, ?_⟩
            have : E.lookup d = none := by simpa using hi2
            rw [this]
            rfl
          · cases hi2
        · cases hi
    · cases hs
  · cases hs
end
end Go.Proofs.Ytfpgklhbghahoaa
/- Functions that compare two values that hold the same: bodies and loops by symbols. -/
namespace Go.Proofs.Ytfpgklhbghahoaa
open Go.ChangeShapes Go.WideShapes Go.ChangeAt Go.RowKit Go.ChangeMaps Go.Joins Go.Deep
set_option linter.unusedVariables false
set_option linter.unusedSimpArgs false
set_option maxRecDepth 100000
section
variable {P : Program} {c : Cfg} {lp : Option (Nat × TypeId × TypeId)} {X : Cx} {n : Nat}
def symBody (P : Program) (c : Cfg) (lp : Option (Nat × TypeId × TypeId)) : Code → Env → Option (Option Env)
  | .skip, env => some (some env)
  | .region _ ops d, env => if d then (symFree P c lp ops env).map some else (symSeq P c lp ops ops.toList env).map some
  | .seq a b, env => match symBody P c lp a env with
    | some (some e) => symBody P c lp b e
    | some none => some none
    | none => none
  | .cond x a b, env => match sOp env x with
    | some (.bool true) => symBody P c lp a env
    | some (.bool false) => symBody P c lp b env
    | _ => none
  | .ret, env => match env.lookup 4 with
    | some (.bool true) => some none
    | _ => none
  | _, _ => none
theorem symBody_sound (hm : P.follows .mixedOrders = true) (hc : CfgOK P c n) : ∀ (k : Code) (env : Env) (r : Option Env) (a : Act) (w : World) (Q : Exit → Act → World → Prop), symBody P c lp k env = some r → Fr P c X env a → WOK P n c.T c.boxed lp X w →
    (∀ env' a' w', r = some env' → Fr P c X env' a' → Below w.heap.size w w' → Q .normal a' w') → (∀ a' w', r = none → a'.eval (.tmp 4) = .bool true → a'.defers = [] → Below w.heap.size w w' → Q .ret a' w') → k.wp P Q a w := by
  intro k
  induction k with
  | skip =>
    intro env r a w Q hs hf hok hN hR
    obtain rfl := Option.some.inj hs
    exact wp_skip (hN env a w rfl hf (Below.refl _ _))
  | region id ops d =>
    intro env r a w Q hs hf hok hN hR
    unfold symBody at hs
    cases d with
    | true =>
      rw [if_pos rfl] at hs
      obtain ⟨E, hE, rfl⟩ := Option.map_eq_some_iff.1 hs
      exact symFree_sound hm hc hE hf hok (fun a' w' h1 h2 => hN E a' w' rfl h1 h2)
    | false =>
      rw [if_neg (by decide)] at hs
      obtain ⟨E, hE, rfl⟩ := Option.map_eq_some_iff.1 hs
      exact wp_region_list (symSeq_sound hc ops ops.toList env E a w hE hf hok (fun a' w' h1 h2 => hN E a' w' rfl h1 h2))
  | seq x y ihx ihy =>
    intro env r a w Q hs hf hok hN hR
    unfold symBody at hs
    split at hs
    · rename_i e he
      refine wp_seq (ihx env _ a w _ he hf hok (fun env' a' w' h1 h2 h3 => ?_) (fun a' w' h => by cases h))
      obtain rfl := Option.some.inj h1
      exact ihy _ r a' w' Q hs h2 (hok.next h3) (fun env'' a'' w'' g1 g2 g3 => hN env'' a'' w'' g1 g2 (h3.trans (g3.mono h3.size))) (fun a'' w'' g1 g2 g3 g4 => hR a'' w'' g1 g2 g3 (h3.trans (g4.mono h3.size)))
    · rename_i he
      obtain rfl := Option.some.inj hs
      exact wp_seq (ihx env _ a w _ he hf hok (fun env' a' w' h1 => by cases h1) (fun a' w' h1 h2 h3 h4 => hR a' w' rfl h2 h3 h4))
    · cases hs
  | cond x y z ihy ihz =>
    intro env r a w Q hs hf hok hN hR
    unfold symBody at hs
    split at hs
    · rename_i hx
      exact wp_cond_true (sOp_sound hf.rel hx) (ihy env r a w Q hs hf hok hN hR)
    · rename_i hx
      exact wp_cond_false (sOp_sound hf.rel hx) (ihz env r a w Q hs hf hok hN hR)
    · cases hs
  | ret =>
    intro env r a w Q hs hf hok hN hR
    unfold symBody at hs
    split at hs
    · rename_i hx
      obtain rfl := Option.some.inj hs
      exact wp_ret (hR a w rfl (hf.rel _ _ hx) hf.defers (Below.refl _ _))
    · cases hs
  | block id k ih => intro env r a w Q hs; unfold symBody at hs; cases hs
  | loop k ih => intro env r a w Q hs; unfold symBody at hs; cases hs
  | rangeFunc x ts k k' ih ih' => intro env r a w Q hs; unfold symBody at hs; cases hs
  | exit id => intro env r a w Q hs; unfold symBody at hs; cases hs
  | scope k ih => intro env r a w Q hs; unfold symBody at hs; cases hs
  | label l => intro env r a w Q hs; unfold symBody at hs; cases hs
  | goto l => intro env r a w Q hs; unfold symBody at hs; cases hs
  | refuse s => intro env r a w Q hs; unfold symBody at hs; cases hs
def SV.static : SV → Bool
  | .ptr _ _ => true
  | .fld _ _ _ => true
  | .len _ => true
  | .zero => true
  | .bool _ => true
  | _ => false
def SV.plain : SV → Bool
  | .eptr _ _ => false
  | .efld _ _ _ => false
  | _ => true
theorem den_static {X X' : Cx} {sv : SV} (h : sv.static = true) (h1 : X'.cs = X.cs) (h2 : X'.ds = X.ds) (h3 : X'.C = X.C) : den P X' sv = den P X sv := by
  cases sv <;> simp_all [SV.static, den]
theorem den_plain {X X' : Cx} {sv : SV} (h : sv.plain = true) (h1 : X'.cs = X.cs) (h2 : X'.ds = X.ds) (h3 : X'.C = X.C) (h4 : X'.q = X.q) : den P X' sv = den P X sv := by
  cases sv <;> simp_all [SV.plain, den]
/-- the temporaries that code writes -/
def writes : Code → List Nat
  | .region _ ops _ => ops.toList.filterMap (·.dst)
  | .seq a b => writes a ++ writes b
  | .cond _ a b => writes a ++ writes b
  | _ => []
def keeps (H E : Env) : Bool := H.all fun p => match E.lookup p.1, H.lookup p.1 with
  | some a, some b => a.same b
  | _, _ => false
theorem keeps_spec {H E : Env} (h : keeps H E = true) {t : Nat} {sv : SV} (hl : H.lookup t = some sv) : E.lookup t = some sv := by
  have := (List.all_eq_true.1 h) _ (lookup_mem hl)
  simp only [hl] at this
  split at this
  · rename_i a b h1 h2
    obtain rfl := Option.some.inj h2
    rw [h1, SV.same_eq this]
  · cases this
def isNext : Option SV → Bool
  | some .idx1 => true
  | _ => false
theorem isNext_spec {o : Option SV} (h : isNext o = true) : o = some .idx1 := by
  unfold isNext at h
  split at h
  · rfl
  · cases h
/-- a loop over the elements of a slice of both -/
def symLoop (P : Program) (c : Cfg) (lts : List (Nat × TypeId × TypeId)) (test : Array Oper) (tc : Nat) (body : Code) (inc : Array Oper) (tk : Nat) (env : Env) : Option Env :=
  let wr := test.toList.filterMap (·.dst) ++ writes body ++ inc.toList.filterMap (·.dst)
  let H : Env := env.filter fun p => p.1 != tk && p.2.static && !wr.contains p.1
  match env.lookup tk with
  | some .zero => match symSeq P c none test test.toList ((tk, .idx) :: H) with
    | some E1 => match E1.lookup tc with
      | some (.lt o) => match lts.find? (fun p => p.1 == o) with
        | some (o', ts, e) => if o' == o && placeB P 4 c.T o ts && P.cellsOf ts == 1 && (sliceB P ts == some e) && decide (0 < P.cellsOf e) && (E1.all fun p => p.2.plain) && keeps H E1 && keeps H env && H.all (fun p => p.2.static && p.1 != tk) && decide (tk < c.N) then
            (match symBody P c (some (o, ts, e)) body E1 with
            | some (some E2) => match symSeq P c (some (o, ts, e)) inc inc.toList E2 with
              | some E3 => if keeps H E3 && isNext (E3.lookup tk) then some H else none
              | none => none
            | _ => none) else none
        | none => none
      | _ => none
    | none => none
  | _ => none
theorem symLoop_sound (hm : P.follows .mixedOrders = true) (hc : CfgOK P c n) {lts : List (Nat × TypeId × TypeId)} {b0 b1 i4 i5 tc tk : Nat} {test inc : Array Oper} {body : Code} {env H : Env} {a : Act} {w : World} {Q : Exit → Act → World → Prop} (hs : symLoop P c lts test tc body inc tk env = some H) (hf : Fr P c X env a) (hok : WOK P n c.T c.boxed none X w)
    (hQ : ∀ a' w', Fr P c X H a' → Below w.heap.size w w' → Q .normal a' w') : (Code.block b0 (.loop (.seq (.seq (.region i4 test false) (.cond (.tmp tc) .skip (.exit b0))) (.seq (.block b1 body) (.region i5 inc false))))).wp P Q a w := by
  unfold symLoop at hs
  simp only at hs
  generalize hH : env.filter _ = H0 at hs
  clear hH
  split at hs
  · rename_i hz
    split at hs
    · rename_i E1 hE1
      split at hs
      · rename_i o hlt
        split at hs
        · rename_i o' ts e hfd
          split at hs
          · rename_i hh
            simp only [Bool.and_eq_true, beq_iff_eq, decide_eq_true_eq] at hh
            obtain ⟨⟨⟨⟨⟨⟨⟨⟨⟨ho, hpl⟩, h1⟩, hsl⟩, he0⟩, hplain⟩, hk1⟩, hk0⟩, hst⟩, htk⟩ := hh
            split at hs
            · rename_i E2 hE2
              split at hs
              · rename_i E3 hE3
                split at hs
                · rename_i hh3
                  obtain rfl := Option.some.inj hs
                  rw [Bool.and_eq_true] at hh3
                  obtain ⟨hk3, hix⟩ := hh3
                  have hix' : E3.lookup tk = some .idx1 := isNext_spec hix
                  have hstat : ∀ t sv, H0.lookup t = some sv → sv.static = true ∧ t ≠ tk := fun t sv hl => by
                    have := (List.all_eq_true.1 hst) _ (lookup_mem hl)
                    simpa using this
                  obtain ⟨m, hmn, hes⟩ := place_eq 4 n c.T o ts X.cs X.ds hpl hok.eqc
                  have hu := sliceB_spec hsl
                  rw [h1] at hes
                  cases m with
                  | zero => exact hes.elim
                  | succ m =>
                    have hes2 := hes
                    unfold EqC at hes2
                    simp only [hu] at hes2
                    obtain ⟨ad, l, cp, ad', cp', e1, e2, e3, e4, e5, e6, _⟩ := hes2
                    have hsl2 : slen (part_ X.cs o 1) = l := by rw [e1]; rfl
                    have hlm : l ≤ maxLen := Nat.le_trans e3 e4.1
                    refine wp_block (wp_loop (fun a' w' => ∃ q : Nat, q ≤ l ∧ Fr P c { X with q := q } ((tk, .idx) :: H0) a' ∧ WOK P n c.T c.boxed none X w' ∧ Below w.heap.size w w') (fun a' _ => l - (intOf (a'.eval (.tmp tk))).toNat) ⟨0, Nat.zero_le _, ⟨hf.size, hf.defers, fun t sv hl => ?_, fun t sv hl => ?_⟩, hok, Below.refl _ _⟩ ?_)
                    · by_cases ht : t = tk
                      · subst ht
                        simp [List.lookup] at hl
                        subst hl
                        exact hf.rel _ _ hz
                      · have hb : (t == tk) = false := by simpa using ht
                        simp only [List.lookup, hb] at hl
                        rw [den_static (X := X) (X' := { X with q := 0 }) (hstat t sv hl).1 rfl rfl rfl]
                        exact hf.rel _ _ (keeps_spec hk0 hl)
                    · by_cases ht : t = tk
                      · subst ht; exact htk
                      · have hb : (t == tk) = false := by simpa using ht
                        simp only [List.lookup, hb] at hl
                        exact hf.ins _ _ (keeps_spec hk0 hl)
                    · rintro a1 w1 ⟨q, hq, hf1, hok1, hb1⟩
                      have hokq : WOK P n c.T c.boxed none { X with q := q } w1 := ⟨hok1.eqc, hok1.box, fun _ _ _ h => by cases h⟩
                      have hμ : a1.eval (.tmp tk) = .int .i64 q := hf1.rel tk .idx (by simp [List.lookup])
                      refine wp_seq (wp_seq (wp_region_list (symSeq_sound hc test test.toList _ E1 a1 w1 hE1 hf1 hokq (fun a2 w2 hf2 hb2 => ?_))))
                      have htc : a2.eval (.tmp tc) = .bool (decide (q < l)) := by
                        have := hf2.rel tc _ hlt
                        rw [this]
                        show Value.bool (decide (q < slen (part_ X.cs o 1))) = _
                        rw [hsl2]
                      have hHrel : ∀ {X2 : Cx} {E : Env} {a' : Act}, X2.cs = X.cs → X2.ds = X.ds → X2.C = X.C → keeps H0 E = true → Rel P X2 E a' → ∀ t sv, H0.lookup t = some sv → ∀ X3 : Cx, X3.cs = X.cs → X3.ds = X.ds → X3.C = X.C → a'.eval (.tmp t) = den P X3 sv := by
                        intro X2 E a' g1 g2 g3 g4 g5 t sv hl X3 k1 k2 k3
                        rw [den_static (X := X2) (X' := X3) (hstat t sv hl).1 (k1.trans g1.symm) (k2.trans g2.symm) (k3.trans g3.symm)]
                        exact g5 t sv (keeps_spec g4 hl)
                      by_cases hql : q < l
                      · show (Code.cond _ _ _).wp _ _ _ _
                        refine wp_cond_true (by rw [htc]; simp [hql]) (wp_skip ?_)
                        have hok2 := hok1.next hb2
                        have hes3 := EqC.below (hb1.trans (hb2.mono hb1.size)) (hb1.trans (hb2.mono hb1.size)) _ _ _ _ hes
                        unfold EqC at hes3
                        simp only [hu] at hes3
                        obtain ⟨ad2, l2, cp2, ad2', cp2', f1, f2, f3, f4, f5, f6, f7⟩ := hes3
                        rw [e1] at f1
                        obtain ⟨rfl, rfl, rfl⟩ := Value.slice.inj (List.cons.inj f1).1
                        rw [e2] at f2
                        obtain ⟨rfl, _, rfl⟩ := Value.slice.inj (List.cons.inj f2).1
                        obtain ⟨B, bo, B', bo', rfl, rfl, hB, hB', hjj⟩ := f7 (by omega)
                        obtain ⟨xs, ys, hx, hy, hrx, hry, hexy⟩ := hjj q hql
                        have hokX : WOK P n c.T c.boxed (some (o, ts, e)) { cs := X.cs, ds := X.ds, xs := xs, ys := ys, C := X.C, q := q, B0 := B, o0 := bo + q * P.cellsOf e, B1 := B', o1 := bo' + q * P.cellsOf e } w2 :=
                          ⟨hok2.eqc, hok2.box, fun o2 ts2 e2' hlp => by
                            obtain ⟨rfl, rfl, rfl⟩ : o = o2 ∧ ts = ts2 ∧ e = e2' := by simpa using hlp
                            exact ⟨m, bo, bo', l, cp, cp', e1, e2, hql, hlm, rfl, rfl, hB.2, hB'.2, hrx, hry, hx, hy, by omega, hexy⟩⟩
                        have hfX : Fr P c { cs := X.cs, ds := X.ds, xs := xs, ys := ys, C := X.C, q := q, B0 := B, o0 := bo + q * P.cellsOf e, B1 := B', o1 := bo' + q * P.cellsOf e } E1 a2 :=
                          ⟨hf2.size, hf2.defers, fun t sv hl => by
                            rw [hf2.rel t sv hl]
                            have hpp : sv.plain = true := (List.all_eq_true.1 hplain) _ (lookup_mem hl)
                            exact (den_plain (P := P) (X := { X with q := q }) (X' := { cs := X.cs, ds := X.ds, xs := xs, ys := ys, C := X.C, q := q, B0 := B, o0 := bo + q * P.cellsOf e, B1 := B', o1 := bo' + q * P.cellsOf e }) hpp rfl rfl rfl rfl).symm, hf2.ins⟩
                        refine wp_seq (wp_block (symBody_sound hm hc body E1 (some E2) a2 w2 _ hE2 hfX hokX (fun env' a3 w3 g1 hf3 hb3 => ?_) (fun _ _ h => by cases h)))
                        obtain rfl := Option.some.inj g1
                        refine wp_region_list (symSeq_sound hc inc inc.toList _ E3 a3 w3 hE3 hf3 (hokX.next hb3) (fun a4 w4 hf4 hb4 => ?_))
                        have htk4 : a4.eval (.tmp tk) = .int .i64 (q + 1 : Nat) := hf4.rel tk _ hix'
                        have hb14 := hb1.trans (((hb2.trans (hb3.mono hb2.size)).trans (hb4.mono (Nat.le_trans hb2.size hb3.size))).mono hb1.size)
                        refine ⟨⟨q + 1, hql, ⟨hf4.size, hf4.defers, fun t sv hl => ?_, fun t sv hl => ?_⟩, hok.next hb14, hb14⟩, ?_⟩
                        · by_cases ht : t = tk
                          · subst ht
                            simp [List.lookup] at hl
                            subst hl
                            exact htk4
                          · have hb : (t == tk) = false := by simpa using ht
                            simp only [List.lookup, hb] at hl
                            exact hHrel (X2 := { cs := X.cs, ds := X.ds, xs := xs, ys := ys, C := X.C, q := q, B0 := B, o0 := bo + q * P.cellsOf e, B1 := B', o1 := bo' + q * P.cellsOf e }) rfl rfl rfl hk3 hf4.rel t sv hl _ rfl rfl rfl
                        · by_cases ht : t = tk
                          · subst ht; exact htk
                          · have hb : (t == tk) = false := by simpa using ht
                            simp only [List.lookup, hb] at hl
                            exact hf4.ins _ _ (keeps_spec hk3 hl)
                        · rw [htk4, hμ]
                          simp only [intOf, Int.toNat_natCast]
                          omega
                      · show (Code.cond _ _ _).wp _ _ _ _
                        refine wp_cond_false (by rw [htc]; simp [hql]) (wp_exit ?_)
                        show (if b0 = b0 then Q .normal a2 w2 else _)
                        rw [if_pos rfl]
                        exact hQ a2 w2 ⟨hf2.size, hf2.defers, fun t sv hl => hHrel (X2 := { X with q := q }) rfl rfl rfl hk1 hf2.rel t sv hl _ rfl rfl rfl, fun t sv hl => hf2.ins _ _ (keeps_spec hk1 hl)⟩ (hb1.trans (hb2.mono hb1.size))
                · cases hs
              · cases hs
            · cases hs
          · cases hs
        · cases hs
      · cases hs
    · cases hs
  · cases hs
end
end Go.Proofs.Ytfpgklhbghahoaa
/- Functions that compare two values that hold the same: whole functions by symbols. -/
namespace Go.Proofs.Ytfpgklhbghahoaa
open Go.ChangeShapes Go.WideShapes Go.ChangeAt Go.RowKit Go.ChangeMaps Go.Joins Go.Deep
set_option linter.unusedVariables false
set_option linter.unusedSimpArgs false
set_option maxRecDepth 100000
section
variable {P : Program} {c : Cfg} {X : Cx} {n : Nat}
structure LP where
  b0 : Nat
  b1 : Nat
  i4 : Nat
  i5 : Nat
  tc : Nat
  tk : Nat
  test : Array Oper
  inc : Array Oper
  body : Code
def headTmp (ops : Array Oper) : Option Nat := match ops.toList with
  | { op := .move (.tmp tk), .. } :: _ => some tk
  | _ => none
def loopParts : Code → Option LP
  | .block b0 (.loop (.seq (.seq (.region i4 test false) (.cond (.tmp tc) .skip (.exit b2))) (.seq (.block b1 body) (.region i5 inc false)))) => if b2 = b0 then (headTmp test).map fun tk => ⟨b0, b1, i4, i5, tc, tk, test, inc, body⟩ else none
  | _ => none
theorem loopParts_spec {k : Code} {l : LP} (h : loopParts k = some l) : k = .block l.b0 (.loop (.seq (.seq (.region l.i4 l.test false) (.cond (.tmp l.tc) .skip (.exit l.b0))) (.seq (.block l.b1 l.body) (.region l.i5 l.inc false)))) := by
  unfold loopParts at h
  split at h
  · split at h
    · rename_i e
      obtain ⟨tk, htk, rfl⟩ := Option.map_eq_some_iff.1 h
      rw [e]
    · cases h
  · cases h
def symTop (P : Program) (c : Cfg) (lts : List (Nat × TypeId × TypeId)) : Code → Env → Option (Option Env)
  | .seq a b, env => match symTop P c lts a env with
    | some (some e) => symTop P c lts b e
    | some none => some none
    | none => none
  | k, env => match loopParts k with
    | some l => (symLoop P c lts l.test l.tc l.body l.inc l.tk env).map some
    | none => symBody P c none k env
theorem symLeaf_sound (hm : P.follows .mixedOrders = true) (hc : CfgOK P c n) (lts : List (Nat × TypeId × TypeId)) (k : Code) (env : Env) (r : Option Env) (a : Act) (w : World) (Q : Exit → Act → World → Prop) (hs : (match loopParts k with
    | some l => (symLoop P c lts l.test l.tc l.body l.inc l.tk env).map some
    | none => symBody P c none k env) = some r) (hf : Fr P c X env a) (hok : WOK P n c.T c.boxed none X w)
    (hN : ∀ env' a' w', r = some env' → Fr P c X env' a' → Below w.heap.size w w' → Q .normal a' w') (hR : ∀ a' w', r = none → a'.eval (.tmp 4) = .bool true → a'.defers = [] → Below w.heap.size w w' → Q .ret a' w') : k.wp P Q a w := by
  split at hs
  · rename_i l hl
    rw [loopParts_spec hl]
    obtain ⟨E, hE, rfl⟩ := Option.map_eq_some_iff.1 hs
    exact symLoop_sound hm hc hE hf hok (fun a' w' h1 h2 => hN E a' w' rfl h1 h2)
  · exact symBody_sound hm hc k env r a w Q hs hf hok hN hR
theorem symTop_sound (hm : P.follows .mixedOrders = true) (hc : CfgOK P c n) (lts : List (Nat × TypeId × TypeId)) : ∀ (k : Code) (env : Env) (r : Option Env) (a : Act) (w : World) (Q : Exit → Act → World → Prop), symTop P c lts k env = some r → Fr P c X env a → WOK P n c.T c.boxed none X w →
    (∀ env' a' w', r = some env' → Fr P c X env' a' → Below w.heap.size w w' → Q .normal a' w') → (∀ a' w', r = none → a'.eval (.tmp 4) = .bool true → a'.defers = [] → Below w.heap.size w w' → Q .ret a' w') → k.wp P Q a w := by
  intro k
  induction k with
  | seq x y ihx ihy =>
    intro env r a w Q hs hf hok hN hR
    unfold symTop at hs
    split at hs
    · rename_i e he
      refine wp_seq (ihx env _ a w _ he hf hok (fun env' a' w' h1 h2 h3 => ?_) (fun a' w' h => by cases h))
      obtain rfl := Option.some.inj h1
      exact ihy _ r a' w' Q hs h2 (hok.next h3) (fun env'' a'' w'' g1 g2 g3 => hN env'' a'' w'' g1 g2 (h3.trans (g3.mono h3.size))) (fun a'' w'' g1 g2 g3 g4 => hR a'' w'' g1 g2 g3 (h3.trans (g4.mono h3.size)))
    · rename_i he
      obtain rfl := Option.some.inj hs
      exact wp_seq (ihx env _ a w _ he hf hok (fun env' a' w' h1 => by cases h1) (fun a' w' h1 h2 h3 h4 => hR a' w' rfl h2 h3 h4))
    · cases hs
  | skip => intro env r a w Q hs; exact symLeaf_sound hm hc lts _ env r a w Q hs
  | region id ops d => intro env r a w Q hs; exact symLeaf_sound hm hc lts _ env r a w Q hs
  | cond x a b iha ihb => intro env r a w Q hs; exact symLeaf_sound hm hc lts _ env r a w Q hs
  | block id k ih => intro env r a w Q hs; exact symLeaf_sound hm hc lts _ env r a w Q hs
  | loop k ih => intro env r a w Q hs; exact symLeaf_sound hm hc lts _ env r a w Q hs
  | rangeFunc x ts k k' ih ih' => intro env r a w Q hs; exact symLeaf_sound hm hc lts _ env r a w Q hs
  | exit id => intro env r a w Q hs; exact symLeaf_sound hm hc lts _ env r a w Q hs
  | scope k ih => intro env r a w Q hs; exact symLeaf_sound hm hc lts _ env r a w Q hs
  | label l => intro env r a w Q hs; exact symLeaf_sound hm hc lts _ env r a w Q hs
  | goto l => intro env r a w Q hs; exact symLeaf_sound hm hc lts _ env r a w Q hs
  | ret => intro env r a w Q hs; exact symLeaf_sound hm hc lts _ env r a w Q hs
  | refuse s => intro env r a w Q hs; exact symLeaf_sound hm hc lts _ env r a w Q hs
theorem calls_two {g : FuncId} {fn : Func} {k : Code} {N : Nat} {u v : Value} {w : World} {R : Ending → World → Prop} (hf : P.funcs[g]? = some fn) (hb : fn.body = some k) (hN : fn.ntmps = N) (hN2 : 2 ≤ N)
    (h : ∀ a : Act, a.eval (.tmp 0) = u → a.eval (.tmp 1) = v → a.tmps.size = N → a.defers = [] → k.wp P (bodyPost P fn R) a w) : Calls P g #[u, v] w R := by
  refine calls_of_wp hf hb (h _ ?_ ?_ ?_ rfl)
  · simp [Act.eval, Array.getElem?_append]
  · simp [Act.eval, Array.getElem?_append]
  · simp [hN]; omega
theorem ret_true {fn : Func} {a : Act} {w w0 : World} (hr : fn.results = #[.tmp 4]) (h : a.eval (.tmp 4) = .bool true) (hd : a.defers = []) (hb : Below w0.heap.size w0 w) : bodyPost P fn (fun e w' => e = .returned (.bool true) ∧ Below w0.heap.size w0 w') .ret a w :=
  bodyPost_ret (results_tmp hr _ _ _) hd ⟨by rw [show a.tmps.getD 4 undef = .bool true from h], hb⟩
/-- slices that are compared -/
theorem same_rows {g : FuncId} {fn : Func} {k : Code} {lts : List (Nat × TypeId × TypeId)} {e : TypeId} (hm : P.follows .mixedOrders = true) (hc : CfgOK P c n) (hbx : c.boxed = false) (hf : P.funcs[g]? = some fn) (hb : fn.body = some k) (hN : fn.ntmps = c.N) (hr : fn.results = #[.tmp 4]) (hN2 : 2 ≤ c.N) (hu : sliceB P c.T = some e) (h1 : P.cellsOf c.T = 1)
    (hs : symTop P c lts k [(0, .fld false 0 c.T), (1, .fld true 0 c.T)] = some none) : SameOK P g c.T n := by
  intro w xs ys he
  have hu' := sliceB_spec hu
  obtain ⟨u, v, rfl, rfl⟩ := eqC_one (fun fs h => by rw [hu'] at h; cases h) he
  refine calls_two hf hb hN hN2 (fun a h0 h1' hsz hd => ?_)
  refine symTop_sound (X := { cs := [u], ds := [v], xs := [], ys := [], C := 0, q := 0, B0 := 0, o0 := 0, B1 := 0, o1 := 0 }) hm hc lts k _ none a w _ hs ⟨hsz, hd, fun t sv hl => ?_, fun t sv hl => ?_⟩ ⟨he, fun h => (by rw [hbx] at h; cases h), fun _ _ _ h => (by cases h)⟩ (fun _ _ _ h => by cases h) (fun a' w' _ h4 h5 h6 => ret_true hr h4 h5 h6)
  · by_cases ht : t = 0
    · subst ht
      simp [List.lookup] at hl
      subst hl
      rw [h0]
      show _ = valOf P c.T (part_ [u] 0 (P.cellsOf c.T))
      rw [h1]; rfl
    · by_cases ht1 : t = 1
      · subst ht1
        simp [List.lookup] at hl
        subst hl
        rw [h1']
        show _ = valOf P c.T (part_ [v] 0 (P.cellsOf c.T))
        rw [h1]; rfl
      · have e0 : (t == 0) = false := by simpa using ht
        have e1 : (t == 1) = false := by simpa using ht1
        simp [List.lookup, e0, e1] at hl
  · by_cases ht : t = 0
    · omega
    · by_cases ht1 : t = 1
      · omega
      · have e0 : (t == 0) = false := by simpa using ht
        have e1 : (t == 1) = false := by simpa using ht1
        simp [List.lookup, e0, e1] at hl
/-- structs that are compared: both are boxed first -/
theorem same_structs {g : FuncId} {fn : Func} {k : Code} {id y1 y2 y3 : Nat} {p1 p2 p3 : String} {f1 f2 f3 : Array Edge} {lts : List (Nat × TypeId × TypeId)} {fs : Array Field} (hm : P.follows .mixedOrders = true) (hc : CfgOK P c n) (hbx : c.boxed = true) (hf : P.funcs[g]? = some fn)
    (hb : fn.body = some (.seq (.region id #[{ dst := some 2, op := .box c.T (.tmp 0), type := y1, pos := p1, after := f1, guard := none }, { dst := some 3, op := .box c.T (.tmp 1), type := y2, pos := p2, after := f2, guard := none }, { dst := some 4, op := .assign (.const (.bool false)), type := y3, pos := p3, after := f3, guard := none }] false) k)) (hN : fn.ntmps = c.N) (hr : fn.results = #[.tmp 4]) (hN2 : 5 ≤ c.N) (hu : P.underlying c.T = some (.struct fs))
    (hs : symTop P c lts k [(3, .ptr true 0), (2, .ptr false 0)] = some none) : SameOK P g c.T n := by
  intro w xs ys he
  have hv : ∀ cs, valOf P c.T cs = .agg cs.toArray := fun cs => by unfold valOf; simp only [hu]; rfl
  refine calls_two hf hb hN (by omega) (fun a h0 h1 hsz hd => ?_)
  refine wp_seq (wp_region_lit ?_)
  refine wpList_ok rfl (ex_box c.T (.tmp 0) xs rfl (h0.trans (hv xs))) ?_
  refine wpList_ok rfl (ex_box c.T (.tmp 1) ys rfl ((eval_put_ne (by decide)).trans (h1.trans (hv ys)))) ?_
  refine wpList_ok rfl (v := .bool false) (w' := (w.alloc (.cells xs.toArray c.T)).alloc (.cells ys.toArray c.T)) (by unfold execOp; rfl) ?_
  have hl2 : Below w.heap.size w ((w.alloc (.cells xs.toArray c.T)).alloc (.cells ys.toArray c.T)) := ((Below.refl _ _).alloc (Nat.le_refl _) _).alloc (by simp) _
  have hx1 := (Box.new w xs c.T).alloc (.cells ys.toArray c.T)
  have hx2 := Box.new (w.alloc (.cells xs.toArray c.T)) ys c.T
  rw [World.size_alloc] at hx2
  refine wpList_nil ?_
  refine symTop_sound (X := { cs := xs, ds := ys, xs := [], ys := [], C := w.heap.size, q := 0, B0 := 0, o0 := 0, B1 := 0, o1 := 0 }) hm hc lts k _ none _ _ _ hs ⟨by rw [size_put, size_put, size_put, hsz], hd, fun t sv hl => ?_, fun t sv hl => ?_⟩ ⟨EqC.below hl2 hl2 _ _ _ _ he, fun h => ⟨hx1, hx2⟩, fun _ _ _ h => (by cases h)⟩ (fun _ _ _ h => by cases h) (fun a' w' _ h4 h5 h6 => ret_true hr h4 h5 (hl2.trans (h6.mono hl2.size)))
  · by_cases ht : t = 3
    · subst ht
      simp [List.lookup] at hl
      subst hl
      rw [eval_put_ne (by decide), eval_put_same (by rw [size_put, hsz]; omega), World.size_alloc]
      rfl
    · by_cases ht1 : t = 2
      · subst ht1
        simp [List.lookup] at hl
        subst hl
        rw [eval_put_ne (by decide), eval_put_ne (by decide), eval_put_same (by rw [hsz]; omega)]
        rfl
      · have e0 : (t == 3) = false := by simpa using ht
        have e1 : (t == 2) = false := by simpa using ht1
        simp [List.lookup, e0, e1] at hl
  · by_cases ht : t = 3
    · omega
    · by_cases ht1 : t = 2
      · omega
      · have e0 : (t == 3) = false := by simpa using ht
        have e1 : (t == 2) = false := by simpa using ht1
        simp [List.lookup, e0, e1] at hl
theorem cmp_int {t : TypeId} {k : IntKind} (hu : P.underlying t = some (.int k)) : CmpOK P t := by
  intro n w xs ys x y he
  cases n with
  | zero => exact he.elim
  | succ n =>
    unfold EqC at he
    simp only [hu] at he
    obtain ⟨m, rfl, rfl, _⟩ := he
    have hv : valOf P t [.int k m] = .int k m := by unfold valOf; simp only [hu]; rfl
    rw [hv]
    constructor <;> simp [go_sem]
theorem cmp_bool {t : TypeId} (hu : P.underlying t = some .bool) : CmpOK P t := by
  intro n w xs ys x y he
  cases n with
  | zero => exact he.elim
  | succ n =>
    unfold EqC at he
    simp only [hu] at he
    obtain ⟨m, rfl, rfl⟩ := he
    have hv : valOf P t [.bool m] = .bool m := by unfold valOf; simp only [hu]; rfl
    rw [hv]
    constructor <;> simp [go_sem, hu]
theorem cmp_string {t : TypeId} (hu : P.underlying t = some .string) : CmpOK P t := by
  intro n w xs ys x y he
  cases n with
  | zero => exact he.elim
  | succ n =>
    unfold EqC at he
    simp only [hu] at he
    obtain ⟨m, rfl, rfl, _⟩ := he
    have hv : valOf P t [.string m] = .string m := by unfold valOf; simp only [hu]; rfl
    rw [hv]
    constructor <;> simp [go_sem]
end
end Go.Proofs.Ytfpgklhbghahoaa
