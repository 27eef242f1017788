/- Merged texts: Sy4, Sy5, Sy6, Eh8. -/
import Derived.Test.YtfpgklhbghahoaaVo8
/- Functions that compare two values that hold the same: regions by symbols. -/
namespace Go.Proofs.Ytfpgklhbghahoaa
open Go.ChangeShapes Go.WideShapes Go.ChangeAt Go.RowKit Go.ChangeMaps Go.Joins Go.Deep
set_option linter.unusedVariables false
set_option linter.unusedSimpArgs false
set_option maxRecDepth 100000
section
variable {P : Program} {c : Cfg} {lp : Option (Nat × TypeId × TypeId)} {X : Cx} {n : Nat}
theorem symOp_sound {env : Env} {a : Act} {w : World} {o : Oper} {sv : SV} {K : Act → World → Prop} {Q : Exit → Act → World → Prop} (hc : CfgOK P c n) (hrel : Rel P X env a) (hok : WOK P n c.T c.boxed lp X w) (hs : symOp P c lp env o = some sv)
    (hK : ∀ w', Below w.heap.size w w' → K (a.put o.dst (den P X sv)) w') : o.wp P a w K Q := by
  have hrun : (execOp a.eval o).run P w = .ok (.value (den P X sv)) w → o.wp P a w K Q := fun h => wp_ok h (hK w (Below.refl _ _))
  unfold symOp at hs
  split at hs
  · rename_i x ho
    refine hrun ?_
    unfold execOp
    simp only [ho, sOp_sound hrel hs, Sem.run_pure]
  · rename_i x ho
    refine hrun ?_
    unfold execOp
    simp only [ho, sOp_sound hrel hs, Sem.run_pure]
  · rename_i b x y ho
    split at hs
    · rename_i hb
      have hbv : a.eval b = .bool true := sOp_sound hrel hb
      refine hrun ?_
      unfold execOp
      simp only [ho, hbv, asBool, Sem.run_bind, Sem.run_pure, Result.andThen_ok, if_true, sOp_sound hrel hs]
    · rename_i hb
      have hbv : a.eval b = .bool false := sOp_sound hrel hb
      refine hrun ?_
      unfold execOp
      simp only [ho, hbv, asBool, Sem.run_bind, Sem.run_pure, Result.andThen_ok, sOp_sound hrel hs]
      rfl
    · cases hs
  · rename_i S x j ho
    exact hrun (field_sound ho hrel hs)
  · rename_i t x ho
    exact hrun (load_sound ho hrel hok hs)
  · rename_i xT x m yT ho
    split at hs
    · rename_i hm
      subst hm
      split at hs
      · rename_i l1 hx
        obtain rfl := Option.some.inj hs
        obtain ⟨o', ts, e⟩ := l1
        obtain ⟨m, b0, b1, l, c0, c1, k1, k2, k3, k4, _⟩ := hok.loop o' ts e rfl
        exact hrun (add_sound ho (sOp_sound hrel hx) (by omega))
      · cases hs
    · cases hs
  · rename_i op xT x y yT _ ho
    exact hrun (bin_sound hc ho hrel hok hs)
  · rename_i xT x ho
    split at hs
    · rename_i b hx
      obtain rfl := Option.some.inj hs
      have hbv : a.eval x = .bool b := sOp_sound hrel hx
      refine hrun ?_
      unfold execOp
      simp only [ho, hbv]
      simp [go_sem]
      rfl
    · cases hs
  · rename_i g xs ts ho
    split at hs
    · rename_i x y hxs
      have : xs = #[x, y] := by rw [← Array.toList_inj]; exact hxs
      subst this
      exact call_sound hc ho hrel hok hs hK
    · cases hs
  · rename_i xs ts ho
    split at hs
    · rename_i x t hxs hts
      have h1 : xs = #[x] := by rw [← Array.toList_inj]; exact hxs
      have h2 : ts = #[t] := by rw [← Array.toList_inj]; exact hts
      subst h1 h2
      exact hrun (len_sound ho hrel hok hs)
    · cases hs
  · rename_i t x i ho
    exact hrun (index_sound ho hrel hok hs)
  · cases hs
/-- is an operation wanted? -/
def symWant (ops : Array Oper) (env : Env) (g : Option (Nat × Bool)) : Option Bool := match g with
  | none => some true
  | some (j, b) => match (ops[j]?).bind (·.dst) with
    | some d => match env.lookup d with
      | some (.bool b') => some (b' == b)
      | _ => none
    | none => none
theorem symWant_sound {ops : Array Oper} {env : Env} {a : Act} {o : Oper} {N : Nat} {b : Bool} (hN : a.tmps.size = N) (hrel : Rel P X env a) (hin : ∀ t sv, env.lookup t = some sv → t < N) (h : symWant ops env o.guard = some b) : Region.wanted o (yielded ops a.tmps) = b := by
  unfold symWant at h
  unfold Region.wanted
  split at h
  · rename_i hg
    rw [hg]
    exact Option.some.inj h
  · rename_i j b' hg
    rw [hg]
    split at h
    · rename_i d hd
      split at h
      · rename_i b2 hl
        have hv := hrel d _ hl
        have hdN := hin d _ hl
        have : a.tmps[d]? = some (.bool b2) := by
          have h1 : a.tmps.getD d undef = .bool b2 := hv
          have h2 : d < a.tmps.size := by rw [hN]; exact hdN
          rw [Array.getElem?_eq_getElem h2]
          simp [h2] at h1
          rw [h1]
        unfold yielded
        simp only [hd, Option.bind_some, this]
        have := Option.some.inj h
        rw [← this]
        cases b2 <;> cases b' <;> rfl
      · cases h
    · cases h
def symSeq (P : Program) (c : Cfg) (lp : Option (Nat × TypeId × TypeId)) (ops : Array Oper) : List Oper → Env → Option Env
  | [], env => some env
  | o :: rest, env => match o.dst with
    | none => none
    | some d => if d < c.N then (match symWant ops env o.guard with
      | some true => match symOp P c lp env o with
        | some sv => symSeq P c lp ops rest ((d, sv) :: env)
        | none => none
      | some false => symSeq P c lp ops rest (env.filter (fun p => p.1 != d))
      | none => none) else none
structure Fr (P : Program) (c : Cfg) (X : Cx) (env : Env) (a : Act) : Prop where
  size : a.tmps.size = c.N
  defers : a.defers = []
  rel : Rel P X env a
  ins : ∀ t sv, env.lookup t = some sv → t < c.N
theorem lookup_filter {env : Env} {d t : Nat} : (env.filter (fun p => p.1 != d)).lookup t = if t = d then none else env.lookup t := by
  induction env with
  | nil => simp
  | cons p env ih =>
    obtain ⟨k, v⟩ := p
    by_cases hk : k = d
    · subst hk
      simp only [List.filter, bne_self_eq_false, ih]
      by_cases ht : t = k
      · simp [ht]
      · have : (t == k) = false := by simpa using ht
        simp [List.lookup, ht, this]
    · have h1 : (k != d) = true := by simpa using hk
      simp only [List.filter, h1]
      by_cases ht : t = k
      · subst ht
        simp [List.lookup, hk]
      · have : (t == k) = false := by simpa using ht
        simp only [List.lookup, this, ih]
theorem Fr.put {env : Env} {a : Act} {d : Nat} {sv : SV} (h : Fr P c X env a) (hd : d < c.N) : Fr P c X ((d, sv) :: env) (a.put (some d) (den P X sv)) := by
  refine ⟨by simp [Act.put, h.size], h.defers, fun t sv' hl => ?_, fun t sv' hl => ?_⟩
  · by_cases e : t = d
    · subst e
      simp [List.lookup] at hl
      subst hl
      exact eval_put_same (by rw [h.size]; exact hd)
    · have : (t == d) = false := by simpa using e
      simp only [List.lookup, this] at hl
      rw [eval_put_ne (fun e' => e e'.symm)]
      exact h.rel t sv' hl
  · by_cases e : t = d
    · subst e; exact hd
    · have : (t == d) = false := by simpa using e
      simp only [List.lookup, this] at hl
      exact h.ins t sv' hl
theorem Fr.unput {env : Env} {a : Act} {d : Nat} {v : Value} (h : Fr P c X env a) (hd : d < c.N) : Fr P c X (env.filter (fun p => p.1 != d)) (a.put (some d) v) := by
  refine ⟨by simp [Act.put, h.size], h.defers, fun t sv' hl => ?_, fun t sv' hl => ?_⟩
  · rw [lookup_filter] at hl
    by_cases e : t = d
    · rw [if_pos e] at hl; cases hl
    · rw [if_neg e] at hl
      rw [eval_put_ne (fun e' => e e'.symm)]
      exact h.rel t sv' hl
  · rw [lookup_filter] at hl
    by_cases e : t = d
    · rw [if_pos e] at hl; cases hl
    · rw [if_neg e] at hl
      exact h.ins t sv' hl
theorem symSeq_sound (hc : CfgOK P c n) (ops : Array Oper) {Q : Exit → Act → World → Prop} : ∀ (l : List Oper) (env env' : Env) (a : Act) (w : World), symSeq P c lp ops l env = some env' → Fr P c X env a → WOK P n c.T c.boxed lp X w → (∀ a' w', Fr P c X env' a' → Below w.heap.size w w' → Q .normal a' w') → wpList P ops Q l a w
  | [], env, env', a, w, hs, hf, hok, hQ => by
    obtain rfl := Option.some.inj hs
    exact wpList_nil (hQ a w hf (Below.refl _ _))
  | o :: rest, env, env', a, w, hs, hf, hok, hQ => by
    unfold symSeq at hs
    split at hs
    · cases hs
    · rename_i d hd
      split at hs
      · rename_i hdN
        refine wpList_step fun K hK => ?_
        split at hs
        · rename_i hw
          rw [if_pos (symWant_sound hf.size hf.rel hf.ins hw)]
          split at hs
          · rename_i sv hop
            refine symOp_sound hc hf.rel hok hop (fun w' hb => hK _ _ ?_)
            rw [hd]
            exact symSeq_sound hc ops rest _ _ _ w' hs (hf.put hdN) (hok.next hb) (fun a' w'' hf' hb' => hQ a' w'' hf' (hb.trans (hb'.mono hb.size)))
          · cases hs
        · rename_i hw
          rw [if_neg (by rw [symWant_sound hf.size hf.rel hf.ins hw]; decide)]
          refine hK _ _ ?_
          rw [hd]
          exact symSeq_sound hc ops rest _ _ _ w hs (hf.unput hdN) hok hQ
        · cases hs
      · cases hs
/-- what operation i of a region that draws its order may know -/
def isDst (ops : Array Oper) (t : Nat) : Bool := ops.any fun o => o.dst == some t
def knows (ops : Array Oper) (i : Nat) (E : Env) : Env := E.filter fun p => (List.range ops.size).all fun j => match ops[j]? with
  | some o => !(o.dst == some p.1) || Region.waitsFor .any ops i j
  | none => true
def symFreeB (P : Program) (c : Cfg) (lp : Option (Nat × TypeId × TypeId)) (ops : Array Oper) (env E : Env) : Bool :=
  backB .any ops && (E.all fun p => decide (p.1 < c.N) && (isDst ops p.1 || (match env.lookup p.1 with | some sv => sv.same p.2 | none => false))) &&
  (List.range ops.size).all fun i => match ops[i]? with
    | some o => match o.dst with
      | some d => decide (d < c.N) && (match symWant ops (knows ops i E) o.guard with
        | some true => (match symOp P c lp (knows ops i E) o, E.lookup d with
          | some sv, some sv' => sv.same sv'
          | some _, none => true
          | none, _ => false)
        | some false => (E.lookup d).isNone
        | none => false)
      | none => false
    | none => true
def symFree (P : Program) (c : Cfg) (lp : Option (Nat × TypeId × TypeId)) (ops : Array Oper) (env : Env) : Option Env := match symSeq P c lp ops ops.toList env with
  | some E => if symFreeB P c lp ops env (E.reverse.reverse) then some E else none
  | none => none
theorem lookup_mem {env : Env} {t : Nat} {sv : SV} (h : env.lookup t = some sv) : (t, sv) ∈ env := by
  induction env with
  | nil => cases h
  | cons p env ih =>
    obtain ⟨k, v⟩ := p
    by_cases ht : t = k
    · subst ht
      simp [List.lookup] at h
      subst h
      exact List.mem_cons_self
    · have : (t == k) = false := by simpa using ht
      simp only [List.lookup, this] at h
      exact List.mem_cons_of_mem _ (ih h)
theorem lookup_knows {ops : Array Oper} {i : Nat} {E : Env} {t : Nat} {sv : SV} (h : (knows ops i E).lookup t = some sv) : E.lookup t = some sv ∧ Avail ops (fun j => Region.waitsFor .any ops i j = true) t := by
  unfold knows at h
  have key : ∀ (E : Env), (E.filter fun p => (List.range ops.size).all fun j => match ops[j]? with | some o => !(o.dst == some p.1) || Region.waitsFor .any ops i j | none => true).lookup t = some sv → E.lookup t = some sv := by
    intro E
    induction E with
    | nil => intro h; cases h
    | cons p E ih =>
      obtain ⟨k, v⟩ := p
      intro h
      by_cases ht : t = k
      · subst ht
        rw [List.filter_cons] at h
        split at h
        · simp [List.lookup] at h ⊢; exact h
        · rename_i hno
          exfalso
          obtain h1 := lookup_mem h
          have := (List.mem_filter.1 h1).2
          exact hno this
      · have hb : (t == k) = false := by simpa using ht
        rw [List.filter_cons] at h
        split at h
        · simp only [List.lookup, hb] at h ⊢; exact ih h
        · simp only [List.lookup, hb]; exact ih h
  refine ⟨key E h, fun j o ho hd => ?_⟩
  have h1 := (List.mem_filter.1 (lookup_mem h)).2
  have h2 := (List.all_eq_true.1 h1) j (List.mem_range.2 (Array.getElem?_eq_some_iff.1 ho).1)
  simp only [ho, hd] at h2
  simpa using h2
theorem symFree_sound (hm : P.follows .mixedOrders = true) (hc : CfgOK P c n) {id : Nat} {ops : Array Oper} {env env' : Env} {a : Act} {w : World} {Q : Exit → Act → World → Prop} (hs : symFree P c lp ops env = some env') (hf : Fr P c X env a) (hok : WOK P n c.T c.boxed lp X w) (hQ : ∀ a' w', Fr P c X env' a' → Below w.heap.size w w' → Q .normal a' w') : (Code.region id ops true).wp P Q a w := by
  unfold symFree at hs
  split at hs
  · rename_i E hE
    split at hs
    · rename_i hB
      obtain rfl := Option.some.inj hs
      rw [List.reverse_reverse] at hB
      unfold symFreeB at hB
      simp only [Bool.and_eq_true] at hB
      obtain ⟨⟨hback, hins⟩, hall⟩ := hB
      have hins' : ∀ t sv, E.lookup t = some sv → t < c.N ∧ (isDst ops t = true ∨ env.lookup t = some sv) := fun t sv hl => by
        have := (List.all_eq_true.1 hins) _ (lookup_mem hl)
        simp only [Bool.and_eq_true, decide_eq_true_eq, Bool.or_eq_true] at this
        refine ⟨this.1, this.2.imp (fun h => h) fun h => ?_⟩
        split at h
        · rename_i sv' hsv; rw [hsv, SV.same_eq h]
        · cases h
      refine wp_region_free (S := fun W => WOK P n c.T c.boxed lp X W ∧ Below w.heap.size w W) (V := fun t => (E.lookup t).map (den P X)) hm hback ⟨hok.drew, (Below.refl _ _).drew⟩ hf.size hf.defers (fun t v hv hav => ?_) (fun i o ho => ?_) (fun a' w' hS h1 h2 h3 => hQ a' w' ⟨h1, h2, fun t sv hl => h3 t _ (by rw [hl]; rfl), fun t sv hl => (hins' t sv hl).1⟩ hS.2)
      · obtain ⟨sv, hl, rfl⟩ := Option.map_eq_some_iff.1 hv
        rcases (hins' t sv hl).2 with hd | hd
        · exfalso
          obtain ⟨o, hmem, hod⟩ := Array.any_eq_true'.1 hd
          obtain ⟨j, hj, hjo⟩ := Array.mem_iff_getElem.1 hmem
          exact hav j o (by rw [Array.getElem?_eq_getElem hj, hjo]) (by simpa using hod)
        · exact hf.rel t sv hd
      · have hi := (List.all_eq_true.1 hall) i (List.mem_range.2 (Array.getElem?_eq_some_iff.1 ho).1)
        simp only [ho] at hi
        split at hi
        · rename_i d hd
          rw [Bool.and_eq_true, decide_eq_true_eq] at hi
          refine ⟨d, hd, hi.1, fun a w2 hS hN hdf hval => ?_⟩
          have hrel : Rel P X (knows ops i E) a := fun t sv hl => by
            obtain ⟨h1, h2⟩ := lookup_knows hl
            exact hval t _ (by rw [h1]; rfl) h2
          have hkin : ∀ t sv, (knows ops i E).lookup t = some sv → t < c.N := fun t sv hl => (hins' t sv (lookup_knows hl).1).1
          have hi2 := hi.2
          split at hi2
          · rename_i hw
            refine .inl ⟨symWant_sound hN hrel hkin hw, fun K hK => ?_⟩
            split at hi2
            · rename_i sv sv' hop hl
              refine symOp_sound hc hrel hS.1 hop (fun w' hb => ?_)
              rw [hd]
              exact hK _ w' ⟨hS.1.next hb, hS.2.trans (hb.mono hS.2.size)⟩ (fun u hu => by
                rw [hl] at hu
                rw [SV.same_eq hi2]
                exact Option.some.inj hu)
            · rename_i sv hop hl
              refine symOp_sound hc hrel hS.1 hop (fun w' hb => ?_)
              rw [hd]
              exact hK _ w' ⟨hS.1.next hb, hS.2.trans (hb.mono hS.2.size)⟩ (fun u hu => by rw [hl] at hu; cases hu)
            · cases hi2
          · rename_i hw
            refine .inr ⟨symWant_sound hN hrel hkin hw, ?_⟩
            have : E.lookup d = none := by simpa using hi2
            rw [this]
            rfl
          · cases hi2
        · cases hi
    · cases hs
  · cases hs
end
end Go.Proofs.Ytfpgklhbghahoaa
/- Functions that compare two values that hold the same: bodies and loops by symbols. -/
namespace Go.Proofs.Ytfpgklhbghahoaa
open Go.ChangeShapes Go.WideShapes Go.ChangeAt Go.RowKit Go.ChangeMaps Go.Joins Go.Deep
set_option linter.unusedVariables false
set_option linter.unusedSimpArgs false
set_option maxRecDepth 100000
section
variable {P : Program} {c : Cfg} {lp : Option (Nat × TypeId × TypeId)} {X : Cx} {n : Nat}
def symBody (P : Program) (c : Cfg) (lp : Option (Nat × TypeId × TypeId)) : Code → Env → Option (Option Env)
  | .skip, env => some (some env)
  | .region _ ops d, env => if d then (symFree P c lp ops env).map some else (symSeq P c lp ops ops.toList env).map some
  | .seq a b, env => match symBody P c lp a env with
    | some (some e) => symBody P c lp b e
    | some none => some none
    | none => none
  | .cond x a b, env => match sOp env x with
    | some (.bool true) => symBody P c lp a env
    | some (.bool false) => symBody P c lp b env
    | _ => none
  | .ret, env => match env.lookup 4 with
    | some (.bool true) => some none
    | _ => none
  | _, _ => none
theorem symBody_sound (hm : P.follows .mixedOrders = true) (hc : CfgOK P c n) : ∀ (k : Code) (env : Env) (r : Option Env) (a : Act) (w : World) (Q : Exit → Act → World → Prop), symBody P c lp k env = some r → Fr P c X env a → WOK P n c.T c.boxed lp X w →
    (∀ env' a' w', r = some env' → Fr P c X env' a' → Below w.heap.size w w' → Q .normal a' w') → (∀ a' w', r = none → a'.eval (.tmp 4) = .bool true → a'.defers = [] → Below w.heap.size w w' → Q .ret a' w') → k.wp P Q a w := by
  intro k
  induction k with
  | skip =>
    intro env r a w Q hs hf hok hN hR
    obtain rfl := Option.some.inj hs
    exact wp_skip (hN env a w rfl hf (Below.refl _ _))
  | region id ops d =>
    intro env r a w Q hs hf hok hN hR
    unfold symBody at hs
    cases d with
    | true =>
      rw [if_pos rfl] at hs
      obtain ⟨E, hE, rfl⟩ := Option.map_eq_some_iff.1 hs
      exact symFree_sound hm hc hE hf hok (fun a' w' h1 h2 => hN E a' w' rfl h1 h2)
    | false =>
      rw [if_neg (by decide)] at hs
      obtain ⟨E, hE, rfl⟩ := Option.map_eq_some_iff.1 hs
      exact wp_region_list (symSeq_sound hc ops ops.toList env E a w hE hf hok (fun a' w' h1 h2 => hN E a' w' rfl h1 h2))
  | seq x y ihx ihy =>
    intro env r a w Q hs hf hok hN hR
    unfold symBody at hs
    split at hs
    · rename_i e he
      refine wp_seq (ihx env _ a w _ he hf hok (fun env' a' w' h1 h2 h3 => ?_) (fun a' w' h => by cases h))
      obtain rfl := Option.some.inj h1
      exact ihy _ r a' w' Q hs h2 (hok.next h3) (fun env'' a'' w'' g1 g2 g3 => hN env'' a'' w'' g1 g2 (h3.trans (g3.mono h3.size))) (fun a'' w'' g1 g2 g3 g4 => hR a'' w'' g1 g2 g3 (h3.trans (g4.mono h3.size)))
    · rename_i he
      obtain rfl := Option.some.inj hs
      exact wp_seq (ihx env _ a w _ he hf hok (fun env' a' w' h1 => by cases h1) (fun a' w' h1 h2 h3 h4 => hR a' w' rfl h2 h3 h4))
    · cases hs
  | cond x y z ihy ihz =>
    intro env r a w Q hs hf hok hN hR
    unfold symBody at hs
    split at hs
    · rename_i hx
      exact wp_cond_true (sOp_sound hf.rel hx) (ihy env r a w Q hs hf hok hN hR)
    · rename_i hx
      exact wp_cond_false (sOp_sound hf.rel hx) (ihz env r a w Q hs hf hok hN hR)
    · cases hs
  | ret =>
    intro env r a w Q hs hf hok hN hR
    unfold symBody at hs
    split at hs
    · rename_i hx
      obtain rfl := Option.some.inj hs
      exact wp_ret (hR a w rfl (hf.rel _ _ hx) hf.defers (Below.refl _ _))
    · cases hs
  | block id k ih => intro env r a w Q hs; unfold symBody at hs; cases hs
  | loop k ih => intro env r a w Q hs; unfold symBody at hs; cases hs
  | rangeFunc x ts k k' ih ih' => intro env r a w Q hs; unfold symBody at hs; cases hs
  | exit id => intro env r a w Q hs; unfold symBody at hs; cases hs
  | scope k ih => intro env r a w Q hs; unfold symBody at hs; cases hs
  | label l => intro env r a w Q hs; unfold symBody at hs; cases hs
  | goto l => intro env r a w Q hs; unfold symBody at hs; cases hs
  | refuse s => intro env r a w Q hs; unfold symBody at hs; cases hs
def SV.static : SV → Bool
  | .ptr _ _ => true
  | .fld _ _ _ => true
  | .len _ => true
  | .zero => true
  | .bool _ => true
  | _ => false
def SV.plain : SV → Bool
  | .eptr _ _ => false
  | .efld _ _ _ => false
  | _ => true
theorem den_static {X X' : Cx} {sv : SV} (h : sv.static = true) (h1 : X'.cs = X.cs) (h2 : X'.ds = X.ds) (h3 : X'.C = X.C) : den P X' sv = den P X sv := by
  cases sv <;> simp_all [SV.static, den]
theorem den_plain {X X' : Cx} {sv : SV} (h : sv.plain = true) (h1 : X'.cs = X.cs) (h2 : X'.ds = X.ds) (h3 : X'.C = X.C) (h4 : X'.q = X.q) : den P X' sv = den P X sv := by
  cases sv <;> simp_all [SV.plain, den]
/-- the temporaries that code writes -/
def writes : Code → List Nat
  | .region _ ops _ => ops.toList.filterMap (·.dst)
  | .seq a b => writes a ++ writes b
  | .cond _ a b => writes a ++ writes b
  | _ => []
def keeps (H E : Env) : Bool := H.all fun p => match E.lookup p.1, H.lookup p.1 with
  | some a, some b => a.same b
  | _, _ => false
theorem keeps_spec {H E : Env} (h : keeps H E = true) {t : Nat} {sv : SV} (hl : H.lookup t = some sv) : E.lookup t = some sv := by
  have := (List.all_eq_true.1 h) _ (lookup_mem hl)
  simp only [hl] at this
  split at this
  · rename_i a b h1 h2
    obtain rfl := Option.some.inj h2
    rw [h1, SV.same_eq this]
  · cases this
def isNext : Option SV → Bool
  | some .idx1 => true
  | _ => false
theorem isNext_spec {o : Option SV} (h : isNext o = true) : o = some .idx1 := by
  unfold isNext at h
  split at h
  · rfl
  · cases h
/-- a loop over the elements of a slice of both -/
def symLoop (P : Program) (c : Cfg) (lts : List (Nat × TypeId × TypeId)) (test : Array Oper) (tc : Nat) (body : Code) (inc : Array Oper) (tk : Nat) (env : Env) : Option Env :=
  let wr := test.toList.filterMap (·.dst) ++ writes body ++ inc.toList.filterMap (·.dst)
  let H : Env := env.filter fun p => p.1 != tk && p.2.static && !wr.contains p.1
  match env.lookup tk with
  | some .zero => match symSeq P c none test test.toList ((tk, .idx) :: H) with
    | some E1 => match E1.lookup tc with
      | some (.lt o) => match lts.find? (fun p => p.1 == o) with
        | some (o', ts, e) => if o' == o && placeB P 4 c.T o ts && P.cellsOf ts == 1 && (sliceB P ts == some e) && decide (0 < P.cellsOf e) && (E1.all fun p => p.2.plain) && keeps H E1 && keeps H env && H.all (fun p => p.2.static && p.1 != tk) && decide (tk < c.N) then
            (match symBody P c (some (o, ts, e)) body E1 with
            | some (some E2) => match symSeq P c (some (o, ts, e)) inc inc.toList E2 with
              | some E3 => if keeps H E3 && isNext (E3.lookup tk) then some H else none
              | none => none
            | _ => none) else none
        | none => none
      | _ => none
    | none => none
  | _ => none
theorem symLoop_sound (hm : P.follows .mixedOrders = true) (hc : CfgOK P c n) {lts : List (Nat × TypeId × TypeId)} {b0 b1 i4 i5 tc tk : Nat} {test inc : Array Oper} {body : Code} {env H : Env} {a : Act} {w : World} {Q : Exit → Act → World → Prop} (hs : symLoop P c lts test tc body inc tk env = some H) (hf : Fr P c X env a) (hok : WOK P n c.T c.boxed none X w)
    (hQ : ∀ a' w', Fr P c X H a' → Below w.heap.size w w' → Q .normal a' w') : (Code.block b0 (.loop (.seq (.seq (.region i4 test false) (.cond (.tmp tc) .skip (.exit b0))) (.seq (.block b1 body) (.region i5 inc false))))).wp P Q a w := by
  unfold symLoop at hs
  simp only at hs
  generalize hH : env.filter _ = H0 at hs
  clear hH
  split at hs
  · rename_i hz
    split at hs
    · rename_i E1 hE1
      split at hs
      · rename_i o hlt
        split at hs
        · rename_i o' ts e hfd
          split at hs
          · rename_i hh
            simp only [Bool.and_eq_true, beq_iff_eq, decide_eq_true_eq] at hh
            obtain ⟨⟨⟨⟨⟨⟨⟨⟨⟨ho, hpl⟩, h1⟩, hsl⟩, he0⟩, hplain⟩, hk1⟩, hk0⟩, hst⟩, htk⟩ := hh
            split at hs
            · rename_i E2 hE2
              split at hs
              · rename_i E3 hE3
                split at hs
                · rename_i hh3
                  obtain rfl := Option.some.inj hs
                  rw [Bool.and_eq_true] at hh3
                  obtain ⟨hk3, hix⟩ := hh3
                  have hix' : E3.lookup tk = some .idx1 := isNext_spec hix
                  have hstat : ∀ t sv, H0.lookup t = some sv → sv.static = true ∧ t ≠ tk := fun t sv hl => by
                    have := (List.all_eq_true.1 hst) _ (lookup_mem hl)
                    simpa using this
                  obtain ⟨m, hmn, hes⟩ := place_eq 4 n c.T o ts X.cs X.ds hpl hok.eqc
                  have hu := sliceB_spec hsl
                  rw [h1] at hes
                  cases m with
                  | zero => exact hes.elim
                  | succ m =>
                    have hes2 := hes
                    unfold EqC at hes2
                    simp only [hu] at hes2
                    obtain ⟨ad, l, cp, ad', cp', e1, e2, e3, e4, e5, e6, _⟩ := hes2
                    have hsl2 : slen (part_ X.cs o 1) = l := by rw [e1]; rfl
                    have hlm : l ≤ maxLen := Nat.le_trans e3 e4.1
                    refine wp_block (wp_loop (fun a' w' => ∃ q : Nat, q ≤ l ∧ Fr P c { X with q := q } ((tk, .idx) :: H0) a' ∧ WOK P n c.T c.boxed none X w' ∧ Below w.heap.size w w') (fun a' _ => l - (intOf (a'.eval (.tmp tk))).toNat) ⟨0, Nat.zero_le _, ⟨hf.size, hf.defers, fun t sv hl => ?_, fun t sv hl => ?_⟩, hok, Below.refl _ _⟩ ?_)
                    · by_cases ht : t = tk
                      · subst ht
                        simp [List.lookup] at hl
                        subst hl
                        exact hf.rel _ _ hz
                      · have hb : (t == tk) = false := by simpa using ht
                        simp only [List.lookup, hb] at hl
                        rw [den_static (X := X) (X' := { X with q := 0 }) (hstat t sv hl).1 rfl rfl rfl]
                        exact hf.rel _ _ (keeps_spec hk0 hl)
                    · by_cases ht : t = tk
                      · subst ht; exact htk
                      · have hb : (t == tk) = false := by simpa using ht
                        simp only [List.lookup, hb] at hl
                        exact hf.ins _ _ (keeps_spec hk0 hl)
                    · rintro a1 w1 ⟨q, hq, hf1, hok1, hb1⟩
                      have hokq : WOK P n c.T c.boxed none { X with q := q } w1 := ⟨hok1.eqc, hok1.box, fun _ _ _ h => by cases h⟩
                      have hμ : a1.eval (.tmp tk) = .int .i64 q := hf1.rel tk .idx (by simp [List.lookup])
                      refine wp_seq (wp_seq (wp_region_list (symSeq_sound hc test test.toList _ E1 a1 w1 hE1 hf1 hokq (fun a2 w2 hf2 hb2 => ?_))))
                      have htc : a2.eval (.tmp tc) = .bool (decide (q < l)) := by
                        have := hf2.rel tc _ hlt
                        rw [this]
                        show Value.bool (decide (q < slen (part_ X.cs o 1))) = _
                        rw [hsl2]
                      have hHrel : ∀ {X2 : Cx} {E : Env} {a' : Act}, X2.cs = X.cs → X2.ds = X.ds → X2.C = X.C → keeps H0 E = true → Rel P X2 E a' → ∀ t sv, H0.lookup t = some sv → ∀ X3 : Cx, X3.cs = X.cs → X3.ds = X.ds → X3.C = X.C → a'.eval (.tmp t) = den P X3 sv := by
                        intro X2 E a' g1 g2 g3 g4 g5 t sv hl X3 k1 k2 k3
                        rw [den_static (X := X2) (X' := X3) (hstat t sv hl).1 (k1.trans g1.symm) (k2.trans g2.symm) (k3.trans g3.symm)]
                        exact g5 t sv (keeps_spec g4 hl)
                      by_cases hql : q < l
                      · show (Code.cond _ _ _).wp _ _ _ _
                        refine wp_cond_true (by rw [htc]; simp [hql]) (wp_skip ?_)
                        have hok2 := hok1.next hb2
                        have hes3 := EqC.below (hb1.trans (hb2.mono hb1.size)) (hb1.trans (hb2.mono hb1.size)) _ _ _ _ hes
                        unfold EqC at hes3
                        simp only [hu] at hes3
                        obtain ⟨ad2, l2, cp2, ad2', cp2', f1, f2, f3, f4, f5, f6, f7⟩ := hes3
                        rw [e1] at f1
                        obtain ⟨rfl, rfl, rfl⟩ := Value.slice.inj (List.cons.inj f1).1
                        rw [e2] at f2
                        obtain ⟨rfl, _, rfl⟩ := Value.slice.inj (List.cons.inj f2).1
                        obtain ⟨B, bo, B', bo', rfl, rfl, hB, hB', hjj⟩ := f7 (by omega)
                        obtain ⟨xs, ys, hx, hy, hrx, hry, hexy⟩ := hjj q hql
                        have hokX : WOK P n c.T c.boxed (some (o, ts, e)) { cs := X.cs, ds := X.ds, xs := xs, ys := ys, C := X.C, q := q, B0 := B, o0 := bo + q * P.cellsOf e, B1 := B', o1 := bo' + q * P.cellsOf e } w2 :=
                          ⟨hok2.eqc, hok2.box, fun o2 ts2 e2' hlp => by
                            obtain ⟨rfl, rfl, rfl⟩ : o = o2 ∧ ts = ts2 ∧ e = e2' := by simpa using hlp
                            exact ⟨m, bo, bo', l, cp, cp', e1, e2, hql, hlm, rfl, rfl, hB.2, hB'.2, hrx, hry, hx, hy, by omega, hexy⟩⟩
                        have hfX : Fr P c { cs := X.cs, ds := X.ds, xs := xs, ys := ys, C := X.C, q := q, B0 := B, o0 := bo + q * P.cellsOf e, B1 := B', o1 := bo' + q * P.cellsOf e } E1 a2 :=
                          ⟨hf2.size, hf2.defers, fun t sv hl => by
                            rw [hf2.rel t sv hl]
                            have hpp : sv.plain = true := (List.all_eq_true.1 hplain) _ (lookup_mem hl)
                            exact (den_plain (P := P) (X := { X with q := q }) (X' := { cs := X.cs, ds := X.ds, xs := xs, ys := ys, C := X.C, q := q, B0 := B, o0 := bo + q * P.cellsOf e, B1 := B', o1 := bo' + q * P.cellsOf e }) hpp rfl rfl rfl rfl).symm, hf2.ins⟩
                        refine wp_seq (wp_block (symBody_sound hm hc body E1 (some E2) a2 w2 _ hE2 hfX hokX (fun env' a3 w3 g1 hf3 hb3 => ?_) (fun _ _ h => by cases h)))
                        obtain rfl := Option.some.inj g1
                        refine wp_region_list (symSeq_sound hc inc inc.toList _ E3 a3 w3 hE3 hf3 (hokX.next hb3) (fun a4 w4 hf4 hb4 => ?_))
                        have htk4 : a4.eval (.tmp tk) = .int .i64 (q + 1 : Nat) := hf4.rel tk _ hix'
                        have hb14 := hb1.trans (((hb2.trans (hb3.mono hb2.size)).trans (hb4.mono (Nat.le_trans hb2.size hb3.size))).mono hb1.size)
                        refine ⟨⟨q + 1, hql, ⟨hf4.size, hf4.defers, fun t sv hl => ?_, fun t sv hl => ?_⟩, hok.next hb14, hb14⟩, ?_⟩
                        · by_cases ht : t = tk
                          · subst ht
                            simp [List.lookup] at hl
                            subst hl
                            exact htk4
                          · have hb : (t == tk) = false := by simpa using ht
                            simp only [List.lookup, hb] at hl
                            exact hHrel (X2 := { cs := X.cs, ds := X.ds, xs := xs, ys := ys, C := X.C, q := q, B0 := B, o0 := bo + q * P.cellsOf e, B1 := B', o1 := bo' + q * P.cellsOf e }) rfl rfl rfl hk3 hf4.rel t sv hl _ rfl rfl rfl
                        · by_cases ht : t = tk
                          · subst ht; exact htk
                          · have hb : (t == tk) = false := by simpa using ht
                            simp only [List.lookup, hb] at hl
                            exact hf4.ins _ _ (keeps_spec hk3 hl)
                        · rw [htk4, hμ]
                          simp only [intOf, Int.toNat_natCast]
                          omega
                      · show (Code.cond _ _ _).wp _ _ _ _
                        refine wp_cond_false (by rw [htc]; simp [hql]) (wp_exit ?_)
                        show (if b0 = b0 then Q .normal a2 w2 else _)
                        rw [if_pos rfl]
                        exact hQ a2 w2 ⟨hf2.size, hf2.defers, fun t sv hl => hHrel (X2 := { X with q := q }) rfl rfl rfl hk1 hf2.rel t sv hl _ rfl rfl rfl, fun t sv hl => hf2.ins _ _ (keeps_spec hk1 hl)⟩ (hb1.trans (hb2.mono hb1.size))
                · cases hs
              · cases hs
            · cases hs
          · cases hs
        · cases hs
      · cases hs
    · cases hs
  · cases hs
end
end Go.Proofs.Ytfpgklhbghahoaa
/- Functions that compare two values that hold the same: whole functions by symbols. -/
namespace Go.Proofs.Ytfpgklhbghahoaa
open Go.ChangeShapes Go.WideShapes Go.ChangeAt Go.RowKit Go.ChangeMaps Go.Joins Go.Deep
set_option linter.unusedVariables false
set_option linter.unusedSimpArgs false
set_option maxRecDepth 100000
section
variable {P : Program} {c : Cfg} {X : Cx} {n : Nat}
structure LP where
  b0 : Nat
  b1 : Nat
  i4 : Nat
  i5 : Nat
  tc : Nat
  tk : Nat
  test : Array Oper
  inc : Array Oper
  body : Code
def headTmp (ops : Array Oper) : Option Nat := match ops.toList with
  | { op := .move (.tmp tk), .. } :: _ => some tk
  | _ => none
def loopParts : Code → Option LP
  | .block b0 (.loop (.seq (.seq (.region i4 test false) (.cond (.tmp tc) .skip (.exit b2))) (.seq (.block b1 body) (.region i5 inc false)))) => if b2 = b0 then (headTmp test).map fun tk => ⟨b0, b1, i4, i5, tc, tk, test, inc, body⟩ else none
  | _ => none
theorem loopParts_spec {k : Code} {l : LP} (h : loopParts k = some l) : k = .block l.b0 (.loop (.seq (.seq (.region l.i4 l.test false) (.cond (.tmp l.tc) .skip (.exit l.b0))) (.seq (.block l.b1 l.body) (.region l.i5 l.inc false)))) := by
  unfold loopParts at h
  split at h
  · split at h
    · rename_i e
      obtain ⟨tk, htk, rfl⟩ := Option.map_eq_some_iff.1 h
      rw [e]
    · cases h
  · cases h
def symTop (P : Program) (c : Cfg) (lts : List (Nat × TypeId × TypeId)) : Code → Env → Option (Option Env)
  | .seq a b, env => match symTop P c lts a env with
    | some (some e) => symTop P c lts b e
    | some none => some none
    | none => none
  | k, env => match loopParts k with
    | some l => (symLoop P c lts l.test l.tc l.body l.inc l.tk env).map some
    | none => symBody P c none k env
theorem symLeaf_sound (hm : P.follows .mixedOrders = true) (hc : CfgOK P c n) (lts : List (Nat × TypeId × TypeId)) (k : Code) (env : Env) (r : Option Env) (a : Act) (w : World) (Q : Exit → Act → World → Prop) (hs : (match loopParts k with
    | some l => (symLoop P c lts l.test l.tc l.body l.inc l.tk env).map some
    | none => symBody P c none k env) = some r) (hf : Fr P c X env a) (hok : WOK P n c.T c.boxed none X w)
    (hN : ∀ env' a' w', r = some env' → Fr P c X env' a' → Below w.heap.size w w' → Q .normal a' w') (hR : ∀ a' w', r = none → a'.eval (.tmp 4) = .bool true → a'.defers = [] → Below w.heap.size w w' → Q .ret a' w') : k.wp P Q a w := by
  split at hs
  · rename_i l hl
    rw [loopParts_spec hl]
    obtain ⟨E, hE, rfl⟩ := Option.map_eq_some_iff.1 hs
    exact symLoop_sound hm hc hE hf hok (fun a' w' h1 h2 => hN E a' w' rfl h1 h2)
  · exact symBody_sound hm hc k env r a w Q hs hf hok hN hR
theorem symTop_sound (hm : P.follows .mixedOrders = true) (hc : CfgOK P c n) (lts : List (Nat × TypeId × TypeId)) : ∀ (k : Code) (env : Env) (r : Option Env) (a : Act) (w : World) (Q : Exit → Act → World → Prop), symTop P c lts k env = some r → Fr P c X env a → WOK P n c.T c.boxed none X w →
    (∀ env' a' w', r = some env' → Fr P c X env' a' → Below w.heap.size w w' → Q .normal a' w') → (∀ a' w', r = none → a'.eval (.tmp 4) = .bool true → a'.defers = [] → Below w.heap.size w w' → Q .ret a' w') → k.wp P Q a w := by
  intro k
  induction k with
  | seq x y ihx ihy =>
    intro env r a w Q hs hf hok hN hR
    unfold symTop at hs
    split at hs
    · rename_i e he
      refine wp_seq (ihx env _ a w _ he hf hok (fun env' a' w' h1 h2 h3 => ?_) (fun a' w' h => by cases h))
      obtain rfl := Option.some.inj h1
      exact ihy _ r a' w' Q hs h2 (hok.next h3) (fun env'' a'' w'' g1 g2 g3 => hN env'' a'' w'' g1 g2 (h3.trans (g3.mono h3.size))) (fun a'' w'' g1 g2 g3 g4 => hR a'' w'' g1 g2 g3 (h3.trans (g4.mono h3.size)))
    · rename_i he
      obtain rfl := Option.some.inj hs
      exact wp_seq (ihx env _ a w _ he hf hok (fun env' a' w' h1 => by cases h1) (fun a' w' h1 h2 h3 h4 => hR a' w' rfl h2 h3 h4))
    · cases hs
  | skip => intro env r a w Q hs; exact symLeaf_sound hm hc lts _ env r a w Q hs
  | region id ops d => intro env r a w Q hs; exact symLeaf_sound hm hc lts _ env r a w Q hs
  | cond x a b iha ihb => intro env r a w Q hs; exact symLeaf_sound hm hc lts _ env r a w Q hs
  | block id k ih => intro env r a w Q hs; exact symLeaf_sound hm hc lts _ env r a w Q hs
  | loop k ih => intro env r a w Q hs; exact symLeaf_sound hm hc lts _ env r a w Q hs
  | rangeFunc x ts k k' ih ih' => intro env r a w Q hs; exact symLeaf_sound hm hc lts _ env r a w Q hs
  | exit id => intro env r a w Q hs; exact symLeaf_sound hm hc lts _ env r a w Q hs
  | scope k ih => intro env r a w Q hs; exact symLeaf_sound hm hc lts _ env r a w Q hs
  | label l => intro env r a w Q hs; exact symLeaf_sound hm hc lts _ env r a w Q hs
  | goto l => intro env r a w Q hs; exact symLeaf_sound hm hc lts _ env r a w Q hs
  | ret => intro env r a w Q hs; exact symLeaf_sound hm hc lts _ env r a w Q hs
  | refuse s => intro env r a w Q hs; exact symLeaf_sound hm hc lts _ env r a w Q hs
theorem calls_two {g : FuncId} {fn : Func} {k : Code} {N : Nat} {u v : Value} {w : World} {R : Ending → World → Prop} (hf : P.funcs[g]? = some fn) (hb : fn.body = some k) (hN : fn.ntmps = N) (hN2 : 2 ≤ N)
    (h : ∀ a : Act, a.eval (.tmp 0) = u → a.eval (.tmp 1) = v → a.tmps.size = N → a.defers = [] → k.wp P (bodyPost P fn R) a w) : Calls P g #[u, v] w R := by
  refine calls_of_wp hf hb (h _ ?_ ?_ ?_ rfl)
  · simp [Act.eval, Array.getElem?_append]
  · simp [Act.eval, Array.getElem?_append]
  · simp [hN]; omega
theorem ret_true {fn : Func} {a : Act} {w w0 : World} (hr : fn.results = #[.tmp 4]) (h : a.eval (.tmp 4) = .bool true) (hd : a.defers = []) (hb : Below w0.heap.size w0 w) : bodyPost P fn (fun e w' => e = .returned (.bool true) ∧ Below w0.heap.size w0 w') .ret a w :=
  bodyPost_ret (results_tmp hr _ _ _) hd ⟨by rw [show a.tmps.getD 4 undef = .bool true from h], hb⟩
/-- slices that are compared -/
theorem same_rows {g : FuncId} {fn : Func} {k : Code} {lts : List (Nat × TypeId × TypeId)} {e : TypeId} (hm : P.follows .mixedOrders = true) (hc : CfgOK P c n) (hbx : c.boxed = false) (hf : P.funcs[g]? = some fn) (hb : fn.body = some k) (hN : fn.ntmps = c.N) (hr : fn.results = #[.tmp 4]) (hN2 : 2 ≤ c.N) (hu : sliceB P c.T = some e) (h1 : P.cellsOf c.T = 1)
    (hs : symTop P c lts k [(0, .fld false 0 c.T), (1, .fld true 0 c.T)] = some none) : SameOK P g c.T n := by
  intro w xs ys he
  have hu' := sliceB_spec hu
  obtain ⟨u, v, rfl, rfl⟩ := eqC_one (fun fs h => by rw [hu'] at h; cases h) he
  refine calls_two hf hb hN hN2 (fun a h0 h1' hsz hd => ?_)
  refine symTop_sound (X := { cs := [u], ds := [v], xs := [], ys := [], C := 0, q := 0, B0 := 0, o0 := 0, B1 := 0, o1 := 0 }) hm hc lts k _ none a w _ hs ⟨hsz, hd, fun t sv hl => ?_, fun t sv hl => ?_⟩ ⟨he, fun h => (by rw [hbx] at h; cases h), fun _ _ _ h => (by cases h)⟩ (fun _ _ _ h => by cases h) (fun a' w' _ h4 h5 h6 => ret_true hr h4 h5 h6)
  · by_cases ht : t = 0
    · subst ht
      simp [List.lookup] at hl
      subst hl
      rw [h0]
      show _ = valOf P c.T (part_ [u] 0 (P.cellsOf c.T))
      rw [h1]; rfl
    · by_cases ht1 : t = 1
      · subst ht1
        simp [List.lookup] at hl
        subst hl
        rw [h1']
        show _ = valOf P c.T (part_ [v] 0 (P.cellsOf c.T))
        rw [h1]; rfl
      · have e0 : (t == 0) = false := by simpa using ht
        have e1 : (t == 1) = false := by simpa using ht1
        simp [List.lookup, e0, e1] at hl
  · by_cases ht : t = 0
    · omega
    · by_cases ht1 : t = 1
      · omega
      · have e0 : (t == 0) = false := by simpa using ht
        have e1 : (t == 1) = false := by simpa using ht1
        simp [List.lookup, e0, e1] at hl
/-- structs that are compared: both are boxed first -/
theorem same_structs {g : FuncId} {fn : Func} {k : Code} {id y1 y2 y3 : Nat} {p1 p2 p3 : String} {f1 f2 f3 : Array Edge} {lts : List (Nat × TypeId × TypeId)} {fs : Array Field} (hm : P.follows .mixedOrders = true) (hc : CfgOK P c n) (hbx : c.boxed = true) (hf : P.funcs[g]? = some fn)
    (hb : fn.body = some (.seq (.region id #[{ dst := some 2, op := .box c.T (.tmp 0), type := y1, pos := p1, after := f1, guard := none }, { dst := some 3, op := .box c.T (.tmp 1), type := y2, pos := p2, after := f2, guard := none }, { dst := some 4, op := .assign (.const (.bool false)), type := y3, pos := p3, after := f3, guard := none }] false) k)) (hN : fn.ntmps = c.N) (hr : fn.results = #[.tmp 4]) (hN2 : 5 ≤ c.N) (hu : P.underlying c.T = some (.struct fs))
    (hs : symTop P c lts k [(3, .ptr true 0), (2, .ptr false 0)] = some none) : SameOK P g c.T n := by
  intro w xs ys he
  have hv : ∀ cs, valOf P c.T cs = .agg cs.toArray := fun cs => by unfold valOf; simp only [hu]; rfl
  refine calls_two hf hb hN (by omega) (fun a h0 h1 hsz hd => ?_)
  refine wp_seq (wp_region_lit ?_)
  refine wpList_ok rfl (ex_box c.T (.tmp 0) xs rfl (h0.trans (hv xs))) ?_
  refine wpList_ok rfl (ex_box c.T (.tmp 1) ys rfl ((eval_put_ne (by decide)).trans (h1.trans (hv ys)))) ?_
  refine wpList_ok rfl (v := .bool false) (w' := (w.alloc (.cells xs.toArray c.T)).alloc (.cells ys.toArray c.T)) (by unfold execOp; rfl) ?_
  have hl2 : Below w.heap.size w ((w.alloc (.cells xs.toArray c.T)).alloc (.cells ys.toArray c.T)) := ((Below.refl _ _).alloc (Nat.le_refl _) _).alloc (by simp) _
  have hx1 := (Box.new w xs c.T).alloc (.cells ys.toArray c.T)
  have hx2 := Box.new (w.alloc (.cells xs.toArray c.T)) ys c.T
  rw [World.size_alloc] at hx2
  refine wpList_nil ?_
  refine symTop_sound (X := { cs := xs, ds := ys, xs := [], ys := [], C := w.heap.size, q := 0, B0 := 0, o0 := 0, B1 := 0, o1 := 0 }) hm hc lts k _ none _ _ _ hs ⟨by rw [size_put, size_put, size_put, hsz], hd, fun t sv hl => ?_, fun t sv hl => ?_⟩ ⟨EqC.below hl2 hl2 _ _ _ _ he, fun h => ⟨hx1, hx2⟩, fun _ _ _ h => (by cases h)⟩ (fun _ _ _ h => by cases h) (fun a' w' _ h4 h5 h6 => ret_true hr h4 h5 (hl2.trans (h6.mono hl2.size)))
  · by_cases ht : t = 3
    · subst ht
      simp [List.lookup] at hl
      subst hl
      rw [eval_put_ne (by decide), eval_put_same (by rw [size_put, hsz]; omega), World.size_alloc]
      rfl
    · by_cases ht1 : t = 2
      · subst ht1
        simp [List.lookup] at hl
        subst hl
        rw [eval_put_ne (by decide), eval_put_ne (by decide), eval_put_same (by rw [hsz]; omega)]
        rfl
      · have e0 : (t == 3) = false := by simpa using ht
        have e1 : (t == 2) = false := by simpa using ht1
        simp [List.lookup, e0, e1] at hl
  · by_cases ht : t = 3
    · omega
    · by_cases ht1 : t = 2
      · omega
      · have e0 : (t == 3) = false := by simpa using ht
        have e1 : (t == 2) = false := by simpa using ht1
        simp [List.lookup, e0, e1] at hl
theorem cmp_int {t : TypeId} {k : IntKind} (hu : P.underlying t = some (.int k)) : CmpOK P t := by
  intro n w xs ys x y he
  cases n with
  | zero => exact he.elim
  | succ n =>
    unfold EqC at he
    simp only [hu] at he
    obtain ⟨m, rfl, rfl, _⟩ := he
    have hv : valOf P t [.int k m] = .int k m := by unfold valOf; simp only [hu]; rfl
    rw [hv]
    constructor <;> simp [go_sem]
theorem cmp_bool {t : TypeId} (hu : P.underlying t = some .bool) : CmpOK P t := by
  intro n w xs ys x y he
  cases n with
  | zero => exact he.elim
  | succ n =>
    unfold EqC at he
    simp only [hu] at he
    obtain ⟨m, rfl, rfl⟩ := he
    have hv : valOf P t [.bool m] = .bool m := by unfold valOf; simp only [hu]; rfl
    rw [hv]
    constructor <;> simp [go_sem, hu]
theorem cmp_string {t : TypeId} (hu : P.underlying t = some .string) : CmpOK P t := by
  intro n w xs ys x y he
  cases n with
  | zero => exact he.elim
  | succ n =>
    unfold EqC at he
    simp only [hu] at he
    obtain ⟨m, rfl, rfl, _⟩ := he
    have hv : valOf P t [.string m] = .string m := by unfold valOf; simp only [hu]; rfl
    rw [hv]
    constructor <;> simp [go_sem]
end
end Go.Proofs.Ytfpgklhbghahoaa
/- Election: the functions of the references that compare logs say yes to logs that hold the same. -/
namespace Go.Proofs.Ytfpgklhbghahoaa
open Go.ChangeShapes Go.WideShapes Go.ChangeAt Go.RowKit Go.ChangeMaps Go.Joins Go.Deep
set_option linter.unusedVariables false
set_option linter.unusedSimpArgs false
set_option maxRecDepth 100000
theorem tab_nil {Pd : FuncId → TypeId → Prop} : ∀ g t, ([] : List (FuncId × TypeId)).contains (g, t) = true → Pd g t := fun g t h => by simp at h
theorem tab_cons {Pd : FuncId → TypeId → Prop} {L : List (FuncId × TypeId)} {g0 t0 : Nat} (h0 : Pd g0 t0) (hL : ∀ g t, L.contains (g, t) = true → Pd g t) : ∀ g t, ((g0, t0) :: L).contains (g, t) = true → Pd g t := fun g t h => by
  rw [List.contains_cons, Bool.or_eq_true] at h
  rcases h with h | h
  · obtain ⟨rfl, rfl⟩ := Prod.mk.inj (eq_of_beq h)
    exact h0
  · exact hL g t h
theorem cmp_nil : ∀ t, ([] : List TypeId).contains t = true → CmpOK Try.prog t := fun t h => by simp at h
theorem cmp_cons {L : List TypeId} {t0 : Nat} (h0 : CmpOK Try.prog t0) (hL : ∀ t, L.contains t = true → CmpOK Try.prog t) : ∀ t, (t0 :: L).contains t = true → CmpOK Try.prog t := fun t h => by
  rw [List.contains_cons, Bool.or_eq_true] at h
  rcases h with h | h
  · obtain rfl := eq_of_beq h
    exact h0
  · exact hL t h
theorem mixed : Try.prog.follows .mixedOrders = true := by kernel_rfl
theorem cmp_3 : CmpOK Try.prog 3 := cmp_int Try.underlying3
theorem cmp_4 : CmpOK Try.prog 4 := cmp_bool Try.underlying4
theorem cmp_9 : CmpOK Try.prog 9 := cmp_string Try.underlying9
theorem cmp_point : CmpOK Try.prog 129 := by
  intro n w xs ys x y he
  have hk : Try.prog.cellsOf 129 = 2 := by kernel_rfl
  have e3 : Try.prog.cellsOf 3 = 1 := by kernel_rfl
  cases n with
  | zero => exact he.elim
  | succ n =>
    obtain ⟨h1, h2, h3⟩ := (eqC_struct Try.underlying129).1 he
    rw [hk] at h1 h2
    match xs, h1, ys, h2 with
    | [a, b], _, [c, d], _ =>
      have f0 : EqC Try.prog w w TT TT n 3 (part_ [a, b] 0 (Try.prog.cellsOf 3)) (part_ [c, d] 0 (Try.prog.cellsOf 3)) := h3 0 _ rfl
      have f1 : EqC Try.prog w w TT TT n 3 (part_ [a, b] 1 (Try.prog.cellsOf 3)) (part_ [c, d] 1 (Try.prog.cellsOf 3)) := h3 1 _ rfl
      rw [e3] at f0 f1
      have key : ∀ u v, EqC Try.prog w w TT TT n 3 [u] [v] → ∃ m, u = .int .i64 m ∧ v = .int .i64 m := fun u v h => by
        cases n with
        | zero => exact h.elim
        | succ n =>
          unfold EqC at h
          simp only [Try.underlying3] at h
          obtain ⟨m, g1, g2, _⟩ := h
          exact ⟨m, (List.cons.inj g1).1, (List.cons.inj g2).1⟩
      obtain ⟨m0, rfl, rfl⟩ := key a c f0
      obtain ⟨m1, rfl, rfl⟩ := key b d f1
      have hv : valOf Try.prog 129 [.int .i64 m0, .int .i64 m1] = .agg #[.int .i64 m0, .int .i64 m1] := by unfold valOf; simp only [Try.underlying129]; rfl
      rw [hv]
      constructor <;> simp [go_sem, Try.underlying129, Try.underlying3]
theorem fnOK_numbers : FnOK Try.prog 29 := ⟨_, Try.func29, rfl, rfl⟩
theorem numbers_at (n : Nat)  : SameOK Try.prog 29 23 n := by
  have hc : CfgOK Try.prog { tab := [], tabA := [], cmp := [3], T := 23, boxed := false, N := 26 } n := ⟨tab_nil, tab_nil, cmp_cons cmp_3 (cmp_nil)⟩
  exact same_rows (e := 3) (lts := [(0, 23, 3)]) mixed hc rfl Try.func29 rfl rfl rfl (by decide) (by kernel_rfl) (by kernel_rfl) (by kernel_rfl)
theorem numbers_ok (n : Nat) : SameOK Try.prog 29 23 n := numbers_at n
theorem fnOK_prefix : FnOK Try.prog 76 := ⟨_, Try.func76, rfl, rfl⟩
theorem prefix_at (n : Nat)  : SameOK Try.prog 76 50 n := by
  have hc : CfgOK Try.prog { tab := [], tabA := [], cmp := [9], T := 50, boxed := false, N := 26 } n := ⟨tab_nil, tab_nil, cmp_cons cmp_9 (cmp_nil)⟩
  exact same_rows (e := 9) (lts := [(0, 50, 9)]) mixed hc rfl Try.func76 rfl rfl rfl (by decide) (by kernel_rfl) (by kernel_rfl) (by kernel_rfl)
theorem prefix_ok (n : Nat) : SameOK Try.prog 76 50 n := prefix_at n
theorem fnOK_Same04 : FnOK Try.prog 65 := ⟨_, Try.func65, rfl, rfl⟩
theorem Same04_at (n : Nat)  : SameOK Try.prog 65 50 n := by
  have hc : CfgOK Try.prog { tab := [], tabA := [(76, 50)], cmp := [], T := 50, boxed := false, N := 15 } n := ⟨tab_nil, tab_cons (Pd := fun g t => FnOK Try.prog g ∧ ∀ m, SameOK Try.prog g t m) ⟨fnOK_prefix, prefix_ok⟩ (tab_nil), cmp_nil⟩
  exact same_rows (e := 9) (lts := []) mixed hc rfl Try.func65 rfl rfl rfl (by decide) (by kernel_rfl) (by kernel_rfl) (by kernel_rfl)
theorem Same04_ok (n : Nat) : SameOK Try.prog 65 50 n := Same04_at n
theorem fnOK_Same01 : FnOK Try.prog 52 := ⟨_, Try.func52, rfl, rfl⟩
theorem Same01_at (n : Nat) (hSame01 : ∀ m, m < n → SameOK Try.prog 52 48 m) : SameOK Try.prog 52 48 n := by
  have hc : CfgOK Try.prog { tab := [(52, 48)], tabA := [], cmp := [3, 9], T := 48, boxed := true, N := (Try.f52).ntmps } n := ⟨tab_cons (Pd := fun g t => FnOK Try.prog g ∧ ∀ m, m < n → SameOK Try.prog g t m) ⟨fnOK_Same01, hSame01⟩ (tab_nil), tab_nil, cmp_cons cmp_3 (cmp_cons cmp_9 (cmp_nil))⟩
  exact same_structs (lts := [(3, 45, 48), (4, 46, 104)]) mixed hc rfl Try.func52 rfl rfl rfl (by decide) Try.underlying48 (by kernel_rfl)
theorem Same01_ok (n : Nat) : SameOK Try.prog 52 48 n := by
  induction n using Nat.strongRecOn with
  | _ n ih => exact Same01_at n ih
theorem fnOK_SameList01 : FnOK Try.prog 64 := ⟨_, Try.func64, rfl, rfl⟩
set_option maxHeartbeats 1600000 in
theorem SameList01_ok (n : Nat) : SameOK Try.prog 64 45 n := by
  intro w xs ys he
  obtain ⟨u, v, rfl, rfl⟩ := eqC_one (fun fs h => by rw [Try.underlying45] at h; cases h) he
  have hv : ∀ u, valOf Try.prog 45 [u] = u := fun u => by unfold valOf; simp only [Try.underlying45]; rfl
  have hl : EqC Try.prog w w TT TT (n + 1) 48 [.int .i64 6, .int .i64 0, .string ⟨#[]⟩, u, .slice none 0 0] [.int .i64 6, .int .i64 0, .string ⟨#[]⟩, v, .slice none 0 0] := by
    cases n with
    | zero => exact he.elim
    | succ n =>
      have e1 : Try.prog.cellsOf 48 = 5 := by kernel_rfl
      have e9 : Try.prog.cellsOf 9 = 1 := by kernel_rfl
      have e3 : Try.prog.cellsOf 3 = 1 := by kernel_rfl
      have eL : Try.prog.cellsOf 45 = 1 := by kernel_rfl
      have eD : Try.prog.cellsOf 46 = 1 := by kernel_rfl
      refine (eqC_struct Try.underlying48).2 ⟨by rw [e1]; rfl, by rw [e1]; rfl, fun i f hfi => ?_⟩
      match i, hfi with
      | 0, hfi => obtain rfl := Option.some.inj hfi; show EqC Try.prog _ _ _ _ (n + 1) 3 (part_ _ 0 (Try.prog.cellsOf 3)) (part_ _ 0 (Try.prog.cellsOf 3)); rw [e3]; unfold EqC; simp only [Try.underlying3]; exact ⟨6, rfl, rfl, by decide⟩
      | 1, hfi => obtain rfl := Option.some.inj hfi; show EqC Try.prog _ _ _ _ (n + 1) 3 (part_ _ 1 (Try.prog.cellsOf 3)) (part_ _ 1 (Try.prog.cellsOf 3)); rw [e3]; unfold EqC; simp only [Try.underlying3]; exact ⟨0, rfl, rfl, by decide⟩
      | 2, hfi => obtain rfl := Option.some.inj hfi; show EqC Try.prog _ _ _ _ (n + 1) 9 (part_ _ 2 (Try.prog.cellsOf 9)) (part_ _ 2 (Try.prog.cellsOf 9)); rw [e9]; unfold EqC; simp only [Try.underlying9]; exact ⟨⟨#[]⟩, rfl, rfl, Nat.zero_le _⟩
      | 3, hfi => obtain rfl := Option.some.inj hfi; show EqC Try.prog _ _ _ _ (n + 1) 45 (part_ _ 3 (Try.prog.cellsOf 45)) (part_ _ 3 (Try.prog.cellsOf 45)); rw [eL]; exact he
      | 4, hfi => obtain rfl := Option.some.inj hfi; show EqC Try.prog _ _ _ _ (n + 1) 46 (part_ _ 4 (Try.prog.cellsOf 46)) (part_ _ 4 (Try.prog.cellsOf 46)); rw [eD]; exact eqC_slice Try.underlying46 ⟨none, 0, 0, none, 0, rfl, rfl, Nat.le_refl _, ⟨by unfold maxLen; omega, by omega, fun _ => rfl⟩, Nat.le_refl _, ⟨by unfold maxLen; omega, by omega, fun _ => rfl⟩, fun h0 => absurd h0 (Nat.lt_irrefl _)⟩
      | j + 5, hfi => simp at hfi
  rw [hv, hv]
  have hcall := Same01_ok (n + 1) w _ _ hl
  have hV : ∀ cs, valOf Try.prog 48 cs = .agg cs.toArray := fun cs => by unfold valOf; simp only [Try.underlying48]; rfl
  rw [hV, hV] at hcall
  obtain ⟨a1, l1, c1, rfl⟩ := eqC_form Try.underlying45 he
  obtain ⟨a0, l0, c0, rfl⟩ := eqC_form Try.underlying45 (EqC.symm _ _ _ _ he)
  clear hl he
  go_enter Try.func64, Try.ntmps64
  go_wp2_with fail
  refine hcall.mono ?_
  rintro e w' ⟨rfl, hb⟩
  go_wp2_with fail
  go_ret
  exact ⟨rfl, hb⟩
theorem fnOK_SameShape : FnOK Try.prog 66 := ⟨_, Try.func66, rfl, rfl⟩
theorem SameShape_at (n : Nat)  : SameOK Try.prog 66 60 n := by
  have hc : CfgOK Try.prog { tab := [], tabA := [], cmp := [3, 129], T := 60, boxed := true, N := (Try.f66).ntmps } n := ⟨tab_nil, tab_nil, cmp_cons cmp_3 (cmp_cons cmp_point (cmp_nil))⟩
  exact same_structs (lts := [(1, 58, 129)]) mixed hc rfl Try.func66 rfl rfl rfl (by decide) Try.underlying60 (by kernel_rfl)
theorem SameShape_ok (n : Nat) : SameOK Try.prog 66 60 n := SameShape_at n
theorem fnOK_SameExpr : FnOK Try.prog 67 := ⟨_, Try.func67, rfl, rfl⟩
theorem SameExpr_at (n : Nat) (hSameExpr : ∀ m, m < n → SameOK Try.prog 67 63 m) : SameOK Try.prog 67 63 n := by
  have hc : CfgOK Try.prog { tab := [(67, 63)], tabA := [(65, 50), (52, 48)], cmp := [3, 9], T := 63, boxed := true, N := (Try.f67).ntmps } n := ⟨tab_cons (Pd := fun g t => FnOK Try.prog g ∧ ∀ m, m < n → SameOK Try.prog g t m) ⟨fnOK_SameExpr, hSameExpr⟩ (tab_nil), tab_cons (Pd := fun g t => FnOK Try.prog g ∧ ∀ m, SameOK Try.prog g t m) ⟨fnOK_Same04, Same04_ok⟩ (tab_cons (Pd := fun g t => FnOK Try.prog g ∧ ∀ m, SameOK Try.prog g t m) ⟨fnOK_Same01, Same01_ok⟩ (tab_nil)), cmp_cons cmp_3 (cmp_cons cmp_9 (cmp_nil))⟩
  exact same_structs (lts := [(10, 61, 63)]) mixed hc rfl Try.func67 rfl rfl rfl (by decide) Try.underlying63 (by kernel_rfl)
theorem SameExpr_ok (n : Nat) : SameOK Try.prog 67 63 n := by
  induction n using Nat.strongRecOn with
  | _ n ih => exact SameExpr_at n ih
theorem fnOK_SamePred : FnOK Try.prog 59 := ⟨_, Try.func59, rfl, rfl⟩
theorem SamePred_at (n : Nat) (hSamePred : ∀ m, m < n → SameOK Try.prog 59 66 m) : SameOK Try.prog 59 66 n := by
  have hc : CfgOK Try.prog { tab := [(59, 66)], tabA := [(65, 50), (52, 48), (64, 45), (66, 60), (67, 63)], cmp := [3], T := 66, boxed := true, N := (Try.f59).ntmps } n := ⟨tab_cons (Pd := fun g t => FnOK Try.prog g ∧ ∀ m, m < n → SameOK Try.prog g t m) ⟨fnOK_SamePred, hSamePred⟩ (tab_nil), tab_cons (Pd := fun g t => FnOK Try.prog g ∧ ∀ m, SameOK Try.prog g t m) ⟨fnOK_Same04, Same04_ok⟩ (tab_cons (Pd := fun g t => FnOK Try.prog g ∧ ∀ m, SameOK Try.prog g t m) ⟨fnOK_Same01, Same01_ok⟩ (tab_cons (Pd := fun g t => FnOK Try.prog g ∧ ∀ m, SameOK Try.prog g t m) ⟨fnOK_SameList01, SameList01_ok⟩ (tab_cons (Pd := fun g t => FnOK Try.prog g ∧ ∀ m, SameOK Try.prog g t m) ⟨fnOK_SameShape, SameShape_ok⟩ (tab_cons (Pd := fun g t => FnOK Try.prog g ∧ ∀ m, SameOK Try.prog g t m) ⟨fnOK_SameExpr, SameExpr_ok⟩ (tab_nil))))), cmp_cons cmp_3 (cmp_nil)⟩
  exact same_structs (lts := [(24, 64, 66)]) mixed hc rfl Try.func59 rfl rfl rfl (by decide) Try.underlying66 (by kernel_rfl)
theorem SamePred_ok (n : Nat) : SameOK Try.prog 59 66 n := by
  induction n using Nat.strongRecOn with
  | _ n ih => exact SamePred_at n ih
theorem fnOK_SameOrders : FnOK Try.prog 58 := ⟨_, Try.func58, rfl, rfl⟩
theorem SameOrders_at (n : Nat)  : SameOK Try.prog 58 57 n := by
  have hc : CfgOK Try.prog { tab := [], tabA := [(65, 50)], cmp := [4], T := 57, boxed := false, N := (Try.f58).ntmps } n := ⟨tab_nil, tab_cons (Pd := fun g t => FnOK Try.prog g ∧ ∀ m, SameOK Try.prog g t m) ⟨fnOK_Same04, Same04_ok⟩ (tab_nil), cmp_cons cmp_4 (cmp_nil)⟩
  exact same_rows (e := 117) (lts := [(0, 57, 117)]) mixed hc rfl Try.func58 rfl rfl rfl (by decide) (by kernel_rfl) (by kernel_rfl) (by kernel_rfl)
theorem SameOrders_ok (n : Nat) : SameOK Try.prog 58 57 n := SameOrders_at n
theorem fnOK_SameIndex : FnOK Try.prog 54 := ⟨_, Try.func54, rfl, rfl⟩
theorem SameIndex_at (n : Nat)  : SameOK Try.prog 54 68 n := by
  have hc : CfgOK Try.prog { tab := [], tabA := [(58, 57), (59, 66)], cmp := [9, 3, 4], T := 68, boxed := true, N := (Try.f54).ntmps } n := ⟨tab_nil, tab_cons (Pd := fun g t => FnOK Try.prog g ∧ ∀ m, SameOK Try.prog g t m) ⟨fnOK_SameOrders, SameOrders_ok⟩ (tab_cons (Pd := fun g t => FnOK Try.prog g ∧ ∀ m, SameOK Try.prog g t m) ⟨fnOK_SamePred, SamePred_ok⟩ (tab_nil)), cmp_cons cmp_9 (cmp_cons cmp_3 (cmp_cons cmp_4 (cmp_nil)))⟩
  exact same_structs (lts := []) mixed hc rfl Try.func54 rfl rfl rfl (by decide) Try.underlying68 (by kernel_rfl)
theorem SameIndex_ok (n : Nat) : SameOK Try.prog 54 68 n := SameIndex_at n
theorem fnOK_SameSchema : FnOK Try.prog 57 := ⟨_, Try.func57, rfl, rfl⟩
theorem SameSchema_at (n : Nat) (hSameSchema : ∀ m, m < n → SameOK Try.prog 57 54 m) : SameOK Try.prog 57 54 n := by
  have hc : CfgOK Try.prog { tab := [(57, 54)], tabA := [(52, 48), (64, 45), (65, 50)], cmp := [3, 4, 9], T := 54, boxed := true, N := (Try.f57).ntmps } n := ⟨tab_cons (Pd := fun g t => FnOK Try.prog g ∧ ∀ m, m < n → SameOK Try.prog g t m) ⟨fnOK_SameSchema, hSameSchema⟩ (tab_nil), tab_cons (Pd := fun g t => FnOK Try.prog g ∧ ∀ m, SameOK Try.prog g t m) ⟨fnOK_Same01, Same01_ok⟩ (tab_cons (Pd := fun g t => FnOK Try.prog g ∧ ∀ m, SameOK Try.prog g t m) ⟨fnOK_SameList01, SameList01_ok⟩ (tab_cons (Pd := fun g t => FnOK Try.prog g ∧ ∀ m, SameOK Try.prog g t m) ⟨fnOK_Same04, Same04_ok⟩ (tab_nil))), cmp_cons cmp_3 (cmp_cons cmp_4 (cmp_cons cmp_9 (cmp_nil)))⟩
  exact same_structs (lts := [(17, 51, 115), (19, 52, 54)]) mixed hc rfl Try.func57 rfl rfl rfl (by decide) Try.underlying54 (by kernel_rfl)
theorem SameSchema_ok (n : Nat) : SameOK Try.prog 57 54 n := by
  induction n using Nat.strongRecOn with
  | _ n ih => exact SameSchema_at n ih
theorem fnOK_Same23 : FnOK Try.prog 53 := ⟨_, Try.func53, rfl, rfl⟩
theorem Same23_at (n : Nat)  : SameOK Try.prog 53 56 n := by
  have hc : CfgOK Try.prog { tab := [], tabA := [(57, 54), (54, 68)], cmp := [9, 3], T := 56, boxed := true, N := (Try.f53).ntmps } n := ⟨tab_nil, tab_cons (Pd := fun g t => FnOK Try.prog g ∧ ∀ m, SameOK Try.prog g t m) ⟨fnOK_SameSchema, SameSchema_ok⟩ (tab_cons (Pd := fun g t => FnOK Try.prog g ∧ ∀ m, SameOK Try.prog g t m) ⟨fnOK_SameIndex, SameIndex_ok⟩ (tab_nil)), cmp_cons cmp_9 (cmp_cons cmp_3 (cmp_nil))⟩
  exact same_structs (lts := [(1, 49, 68)]) mixed hc rfl Try.func53 rfl rfl rfl (by decide) Try.underlying56 (by kernel_rfl)
theorem Same23_ok (n : Nat) : SameOK Try.prog 53 56 n := Same23_at n
theorem fnOK_SameWrites : FnOK Try.prog 55 := ⟨_, Try.func55, rfl, rfl⟩
theorem fnOK_SameWrite : FnOK Try.prog 45 := ⟨_, Try.func45, rfl, rfl⟩
theorem SameWrite_at (n : Nat) (hSameWrites : ∀ m, m < n → SameOK Try.prog 55 69 m) : SameOK Try.prog 45 71 n := by
  have hc : CfgOK Try.prog { tab := [(55, 69)], tabA := [(52, 48), (29, 23), (53, 56), (54, 68)], cmp := [3, 9, 4], T := 71, boxed := true, N := (Try.f45).ntmps } n := ⟨tab_cons (Pd := fun g t => FnOK Try.prog g ∧ ∀ m, m < n → SameOK Try.prog g t m) ⟨fnOK_SameWrites, hSameWrites⟩ (tab_nil), tab_cons (Pd := fun g t => FnOK Try.prog g ∧ ∀ m, SameOK Try.prog g t m) ⟨fnOK_Same01, Same01_ok⟩ (tab_cons (Pd := fun g t => FnOK Try.prog g ∧ ∀ m, SameOK Try.prog g t m) ⟨fnOK_numbers, numbers_ok⟩ (tab_cons (Pd := fun g t => FnOK Try.prog g ∧ ∀ m, SameOK Try.prog g t m) ⟨fnOK_Same23, Same23_ok⟩ (tab_cons (Pd := fun g t => FnOK Try.prog g ∧ ∀ m, SameOK Try.prog g t m) ⟨fnOK_SameIndex, SameIndex_ok⟩ (tab_nil)))), cmp_cons cmp_3 (cmp_cons cmp_9 (cmp_cons cmp_4 (cmp_nil)))⟩
  exact same_structs (lts := []) mixed hc rfl Try.func45 rfl rfl rfl (by decide) Try.underlying71 (by kernel_rfl)
theorem SameWrites_at (n : Nat) (hSameWrite : ∀ m, m < n → SameOK Try.prog 45 71 m) : SameOK Try.prog 55 69 n := by
  have hc : CfgOK Try.prog { tab := [(45, 71)], tabA := [], cmp := [], T := 69, boxed := false, N := (Try.f55).ntmps } n := ⟨tab_cons (Pd := fun g t => FnOK Try.prog g ∧ ∀ m, m < n → SameOK Try.prog g t m) ⟨fnOK_SameWrite, hSameWrite⟩ (tab_nil), tab_nil, cmp_nil⟩
  exact same_rows (e := 71) (lts := [(0, 69, 71)]) mixed hc rfl Try.func55 rfl rfl rfl (by decide) (by kernel_rfl) (by kernel_rfl) (by kernel_rfl)
theorem sameWs (n : Nat) : SameOK Try.prog 45 71 n ∧ SameOK Try.prog 55 69 n := by
  induction n using Nat.strongRecOn with
  | _ n ih => exact ⟨SameWrite_at n (fun m hm => (ih m hm).2), SameWrites_at n (fun m hm => (ih m hm).1)⟩
theorem SameWrite_ok (n : Nat) : SameOK Try.prog 45 71 n := (sameWs n).1
theorem fnOK_SameLog : FnOK Try.prog 25 := ⟨_, Try.func25, rfl, rfl⟩
theorem SameLog_at (n : Nat)  : SameOK Try.prog 25 22 n := by
  have hc : CfgOK Try.prog { tab := [], tabA := [(45, 71)], cmp := [3, 9], T := 22, boxed := false, N := (Try.f25).ntmps } n := ⟨tab_nil, tab_cons (Pd := fun g t => FnOK Try.prog g ∧ ∀ m, SameOK Try.prog g t m) ⟨fnOK_SameWrite, SameWrite_ok⟩ (tab_nil), cmp_cons cmp_3 (cmp_cons cmp_9 (cmp_nil))⟩
  exact same_rows (e := 73) (lts := [(0, 22, 73)]) mixed hc rfl Try.func25 rfl rfl rfl (by decide) (by kernel_rfl) (by kernel_rfl) (by kernel_rfl)
theorem SameLog_ok (n : Nat) : SameOK Try.prog 25 22 n := SameLog_at n
theorem fnOK_Same42 : FnOK Try.prog 11 := ⟨_, Try.func11, rfl, rfl⟩
theorem Same42_at (n : Nat)  : SameOK Try.prog 11 25 n := by
  have hc : CfgOK Try.prog { tab := [], tabA := [(29, 23), (25, 22)], cmp := [3], T := 25, boxed := true, N := (Try.f11).ntmps } n := ⟨tab_nil, tab_cons (Pd := fun g t => FnOK Try.prog g ∧ ∀ m, SameOK Try.prog g t m) ⟨fnOK_numbers, numbers_ok⟩ (tab_cons (Pd := fun g t => FnOK Try.prog g ∧ ∀ m, SameOK Try.prog g t m) ⟨fnOK_SameLog, SameLog_ok⟩ (tab_nil)), cmp_cons cmp_3 (cmp_nil)⟩
  exact same_structs (lts := []) mixed hc rfl Try.func11 rfl rfl rfl (by decide) Try.underlying25 (by kernel_rfl)
theorem Same42_ok (n : Nat) : SameOK Try.prog 11 25 n := Same42_at n
end Go.Proofs.Ytfpgklhbghahoaa
