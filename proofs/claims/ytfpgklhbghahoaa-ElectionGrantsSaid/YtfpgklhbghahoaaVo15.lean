/- Merged texts: SvB, Sv4, Eh18, Eh19, Sv5, Eh20, Eh21. -/
import Derived.Test.YtfpgklhbghahoaaVo14
import Derived.Maps.AppendAt
/- Steps that tell what they leave (plain). -/
namespace Go.Proofs.Ytfpgklhbghahoaa
open Go.ChangeShapes Go.WideShapes Go.ChangeAt Go.RowKit Go.ChangeMaps Go.Joins Go.Deep
set_option linter.unusedVariables false
set_option linter.unusedSimpArgs false
set_option maxRecDepth 100000
section
variable {P : Program} {N : Nat} {env : VEnv} {a : Act} {ops : Array Oper} {rest : List Oper} {Q : Exit → Act → World → Prop} {w : World} {w0 : Base} {l : List (Nat × List Value)} {d y x z : Nat} {ps : String} {af : Array Edge} {T t : TypeId}
theorem sv_scB {b p : Nat} {cs cs' : List Value} {v : Value} {z : Operand} (hf : FrV N env a) (hB : Bx w0 l w) (hx : env.lookup x = some (.pointer (some ⟨b, p, none⟩))) (hz : ev env z = some v) (i : Nat) (hi : l[i]? = some (b, cs)) (hp : p < cs.length) (hcs : cs.set p v = cs') (hn : (P.info? t).map (·.size) = some 1) (h1 : v.oneCell' = true) (l' : List (Nat × List Value)) (hl : l.set i (b, cs') = l') (h : ∀ w', Bx w0 l' w' → Only w w' b → wpList P ops Q rest a w') : wpList P ops Q ({ dst := none, op := .store t (.tmp x) z, type := y, pos := ps, after := af, guard := none } :: rest) a w := by
  have hb := hB.get hi
  refine wpList_done rfl rfl (ex_store_cell t (.tmp x) z b p v rfl (hf.rel x _ hx) (hf.ev hz) (hb.there p 1 (by omega)) hn h1) (h _ ?_ (Only.setCell w b p v))
  subst hcs hl
  exact hB.set hi (hb.setCell p v hp) (Only.setCell w b p v)
theorem sv_srB {b : Nat} {cs vs : List Value} {z : Operand} (hf : FrV N env a) (hB : Bx w0 l w) (hx : env.lookup x = some (.pointer (some ⟨b, 0, none⟩))) (hz : ev env z = some (.agg vs.toArray)) (i : Nat) (hi : l[i]? = some (b, cs)) (hlen : vs.length = cs.length) (hn : (P.info? t).map (·.size) = some vs.length) (h1 : ∀ v ∈ vs, v.oneCell' = true) (l' : List (Nat × List Value)) (hl : l.set i (b, vs) = l') (h : ∀ w', Bx w0 l' w' → Only w w' b → wpList P ops Q rest a w') : wpList P ops Q ({ dst := none, op := .store t (.tmp x) z, type := y, pos := ps, after := af, guard := none } :: rest) a w := by
  have hb := hB.get hi
  refine wpList_done rfl rfl (ex_store_row t (.tmp x) z b 0 vs rfl (hf.rel x _ hx) (hf.ev hz) (hb.there 0 vs.length (by omega)) hn h1) (h _ ?_ (Only.setCells w b 0 vs hb.lt))
  subst hl
  exact hB.set hi (hb.store hlen) (Only.setCells w b 0 vs hb.lt)
theorem sv_boxB {vs : List Value} (hf : FrV N env a) (hB : Bx w0 l w) (hx : env.lookup x = some (.agg vs.toArray)) (hd : d < N) (h : ∀ a' C w', C = w.heap.size → FrV N ((d, .pointer (some ⟨C, 0, none⟩)) :: env) a' → Bx w0 ((C, vs) :: l) w' → Below w.heap.size w w' → wpList P ops Q rest a' w') : wpList P ops Q ({ dst := some d, op := .box T (.tmp x), type := y, pos := ps, after := af, guard := none } :: rest) a w :=
  wpList_ok rfl (ex_box T (.tmp x) vs rfl (hf.rel x _ hx)) (h _ _ _ rfl (hf.put hd _) (hB.new vs T) ((Below.refl _ _).alloc (Nat.le_refl _) _))
theorem sv_allocB {zs : List Value} (hf : FrV N env a) (hB : Bx w0 l w) (hz : (P.info? T).bind (·.zero) = some (.agg zs.toArray)) (hd : d < N) (h : ∀ a' C w', C = w.heap.size → FrV N ((d, .pointer (some ⟨C, 0, none⟩)) :: env) a' → Bx w0 ((C, zs) :: l) w' → Below w.heap.size w w' → wpList P ops Q rest a' w') : wpList P ops Q ({ dst := some d, op := .alloc T, type := y, pos := ps, after := af, guard := none } :: rest) a w := by
  obtain ⟨i, hi, hzz⟩ := Option.bind_eq_some_iff.1 hz
  exact wpList_ok rfl (ex_alloc T i zs rfl hi hzz) (h _ _ _ rfl (hf.put hd _) (hB.new zs T) ((Below.refl _ _).alloc (Nat.le_refl _) _))
theorem sv_bs1B {e : TypeId} {cs : List Value} {k : Nat} (hf : FrV N env a) (hB : Bx w0 l w) (hx : env.lookup x = some (.agg cs.toArray)) (hu : P.underlying t = some (.slice e)) (hz : zeroB P e k = true) (hi : (P.info? e).map (·.size) = some k) (hc : cs.length = k) (hk : 0 < k) (hk2 : k ≤ 1000) (hd : d < N) (h : ∀ a' C w', C = w.heap.size → FrV N ((d, .slice (some ⟨C, 0, none⟩) 1 1) :: env) a' → Bx w0 ((C, cs) :: l) w' → Below w.heap.size w w' → wpList P ops Q rest a' w') : wpList P ops Q ({ dst := some d, op := .buildSlice t 1 #[(0, .tmp x)], type := y, pos := ps, after := af, guard := none } :: rest) a w :=
  wpList_ok rfl (ex_bs1 rfl (hf.rel x _ hx) hu hz hi hc hk hk2) (h _ _ _ rfl (hf.put hd _) (hB.new cs e) ((Below.refl _ _).alloc (Nat.le_refl _) _))
end
end Go.Proofs.Ytfpgklhbghahoaa
/- Rows of ints of one's own beside boxes: made, appended, stored (plain). -/
namespace Go.Proofs.Ytfpgklhbghahoaa
open Go.ChangeShapes Go.WideShapes Go.ChangeAt Go.RowKit Go.ChangeMaps Go.Joins Go.Deep
set_option linter.unusedVariables false
set_option linter.unusedSimpArgs false
set_option maxRecDepth 100000
theorem Only.grown {w w' : World} {b : Nat} (h : Only w w' b) : w.grownBy w' (some b) := by
  have hb := h.below 0 (Nat.zero_le _)
  exact ⟨hb.os, hb.tape, hb.output, Nat.le_of_eq h.size.symm, fun k hk hne => h.heap k (fun e => hne (by rw [e]))⟩
theorem Below.grown0 {w w' : World} (h : Below w.heap.size w w') : w.grownBy w' none := ⟨h.os, h.tape, h.output, h.size, fun k hk _ => h.block k hk⟩
theorem Bx.grown {b : Base} {W W' : World} {l : List (Nat × List Value)} {row : Option Nat} (h : Bx b l W) (hg : W.grownBy W' row) (hr : ∀ k, row = some k → b.w.heap.size ≤ k ∧ (∀ x ∈ l, x.1 ≠ k) ∧ ∀ p ∈ b.bs, k < p.1.heap.size → ¬ p.2 k) : Bx b l W' := by
  have hblk : ∀ x ∈ l, W'.heap[x.1]? = W.heap[x.1]? := fun x hx => hg.block x.1 (h.box x hx).lt (fun e => (hr x.1 e.symm).2.1 x hx rfl)
  refine ⟨fun x hx => ?_, ?_, h.ge, h.nd, fun p hp => ⟨Nat.le_trans (h.bas p hp).1 hg.size, fun k hk hpk => ?_⟩, h.bge⟩
  · have hb := h.box x hx
    exact ⟨fun j v hv => (World.cell?_of_block (a := ⟨x.1, 0 + j, none⟩) (hblk x hx)).trans (hb.rng j v hv), fun o => (World.frozen?_of_block (a := ⟨x.1, o, none⟩) (hblk x hx)).trans (hb.free o), Nat.lt_of_lt_of_le hb.lt hg.size⟩
  · refine ⟨hg.os.trans h.low.os, hg.tape.trans h.low.tape, hg.output.trans h.low.output, Nat.le_trans h.low.size hg.size, fun k hk => ?_⟩
    exact (hg.block k (Nat.lt_of_lt_of_le hk h.low.size) (fun e => by have := (hr k e.symm).1; omega)).trans (h.low.block k hk)
  · exact (hg.block k (Nat.lt_of_lt_of_le hk (h.bas p hp).1) (fun e => (hr k e.symm).2.2 p hp hk hpk)).trans ((h.bas p hp).2 k hk hpk)
/-- numbers that lie in memory -/
def IntRow (W : World) (v : Value) (xs : List Int) : Prop := ∃ g cap, v = .slice (some ⟨g, 0, none⟩) xs.length cap ∧ xs.length ≤ cap ∧ cap ≤ maxLen ∧ g < W.heap.size ∧ ∀ j (h : j < xs.length), W.cell? ⟨g, j, none⟩ = some (.int .i64 xs[j])
theorem IntRow.keep {W W' : World} {v : Value} {xs : List Int} {g : Nat} (h : IntRow W v xs) (hv : v.ownBlock = some g) (hg : W'.heap[g]? = W.heap[g]?) (hs : W.heap.size ≤ W'.heap.size) : IntRow W' v xs := by
  obtain ⟨g', cap, rfl, h1, h2, h3, h4⟩ := h
  have e : g' = g := Option.some.inj hv
  subst e
  exact ⟨g', cap, rfl, h1, h2, Nat.lt_of_lt_of_le h3 hs, fun j hj => (World.cell?_of_block (a := ⟨g', j, none⟩) hg).trans (h4 j hj)⟩
theorem IntRow.below {W W' : World} {v : Value} {xs : List Int} (h : IntRow W v xs) (hb : Below W.heap.size W W') : IntRow W' v xs := by
  obtain ⟨g', cap, rfl, h1, h2, h3, h4⟩ := h
  exact ⟨g', cap, rfl, h1, h2, Nat.lt_of_lt_of_le h3 hb.size, fun j hj => (hb.cell (p := ⟨g', j, none⟩) h3).trans (h4 j hj)⟩
section
variable {P : Program} {N : Nat} {env : VEnv} {a : Act} {ops : Array Oper} {rest : List Oper} {Q : Exit → Act → World → Prop} {w : World} {b : Base} {l : List (Nat × List Value)} {d y x z : Nat} {ps : String} {af : Array Edge} {t : TypeId}
theorem ex_mk {o : Oper} {ρ : Operand → Value} {e : TypeId} {p q : Operand} {k : Nat} (ho : o.op = .makeSlice t p q) (hp : ρ p = .int .i64 (k : Int)) (hq : ρ q = .int .i64 (k : Int)) (hu : P.underlying t = some (.slice e)) (hi : (P.info? e).map (fun i => (i.zero, i.size, i.bytes)) = some (some (.int .i64 0), 1, 8)) (hk : k ≤ 1000000) : (execOp ρ o).run P w = .ok (.value (.slice (some ⟨w.heap.size, 0, none⟩) k k)) (w.alloc (.cells (List.replicate k (.int .i64 0)).toArray e)) := by
  obtain ⟨i0, hi', hz0, hz1, hz2⟩ := info_parts hi
  have hr := run_make (P := P) w t e i0 (.int .i64 0) hu hi' hz0 .i64 .i64 k k (by omega) (by omega) (by rw [hz2]; omega) (by omega)
  have hmc : madeCells (Value.int .i64 0).cells (k * 1) = (List.replicate k (Value.int .i64 0)).toArray := by
    rw [Nat.mul_one]
    exact Array.ext' (toList_madeCells_one _ _)
  rw [hz1] at hr
  simp only [Int.toNat_natCast] at hr
  rw [hmc] at hr
  unfold execOp
  simp only [ho, hp, hq, Sem.run_bind, hr, Result.andThen_ok, Sem.run_pure]
theorem sv_mk {e : TypeId} {p q : Operand} {k : Nat} (hf : FrV N env a) (hB : Bx b l w) (hp : ev env p = some (.int .i64 (k : Int))) (hq : ev env q = some (.int .i64 (k : Int))) (hu : P.underlying t = some (.slice e)) (hi : (P.info? e).map (fun i => (i.zero, i.size, i.bytes)) = some (some (.int .i64 0), 1, 8)) (hk : k ≤ 1000000) (hd : d < N) (h : ∀ a' C w', C = w.heap.size → FrV N ((d, .slice (some ⟨C, 0, none⟩) k k) :: env) a' → Bx b ((C, List.replicate k (.int .i64 0)) :: l) w' → Below w.heap.size w w' → wpList P ops Q rest a' w') : wpList P ops Q ({ dst := some d, op := .makeSlice t p q, type := y, pos := ps, after := af, guard := none } :: rest) a w :=
  wpList_ok rfl (ex_mk rfl (hf.ev hp) (hf.ev hq) hu hi hk) (h _ _ _ rfl (hf.put hd _) (hB.new _ e) ((Below.refl _ _).alloc (Nat.le_refl _) _))
theorem ex_bsi {o : Oper} {ρ : Operand → Value} {e : TypeId} {p : Operand} {m : Int} (ho : o.op = .buildSlice t 1 #[(0, p)]) (hp : ρ p = .int .i64 m) (hu : P.underlying t = some (.slice e)) (hi : (P.info? e).map (fun i => (i.zero, i.size, i.bytes)) = some (some (.int .i64 0), 1, 8)) : (execOp ρ o).run P w = .ok (.value (.slice (some ⟨w.heap.size, 0, none⟩) 1 1)) (w.alloc (.cells (List.toArray [.int .i64 m]) e)) := by
  obtain ⟨i0, hi', hz0, hz1, hz2⟩ := info_parts hi
  unfold execOp
  simp only [ho, List.map_toArray, List.map_cons, List.map_nil, hp, Sem.run_bind]
  rw [run_buildSlice (P := P) w t e 1 _ (List.toArray [.int .i64 m]) i0 (.int .i64 0) hu hi' hz0 (by rw [hz1]; decide) (by rw [hz1]; decide) (by
    rw [hz1]
    first | kernel_rfl | simp [Instr.fill, Value.cells])]
  simp only [Result.andThen_ok, Sem.run_pure]
theorem sv_bsi {e : TypeId} {p : Operand} {m : Int} (hf : FrV N env a) (hB : Bx b l w) (hp : ev env p = some (.int .i64 m)) (hu : P.underlying t = some (.slice e)) (hi : (P.info? e).map (fun i => (i.zero, i.size, i.bytes)) = some (some (.int .i64 0), 1, 8)) (hd : d < N) (h : ∀ a' C w', C = w.heap.size → FrV N ((d, .slice (some ⟨C, 0, none⟩) 1 1) :: env) a' → Bx b ((C, [.int .i64 m]) :: l) w' → Below w.heap.size w w' → wpList P ops Q rest a' w') : wpList P ops Q ({ dst := some d, op := .buildSlice t 1 #[(0, p)], type := y, pos := ps, after := af, guard := none } :: rest) a w :=
  wpList_ok rfl (ex_bsi rfl (hf.ev hp) hu hi) (h _ _ _ rfl (hf.put hd _) (hB.new _ e) ((Below.refl _ _).alloc (Nat.le_refl _) _))
/-- one number behind a row of one's own -/
theorem sv_app {e : TypeId} {v : Value} {n : Nat} {xs : List Value} {m : Int} {G base : Nat} (hf : FrV N env a) (hB : Bx b ((G, [.int .i64 m]) :: l) w) (hx : env.lookup x = some v) (hz : env.lookup z = some (.slice (some ⟨G, 0, none⟩) 1 1)) (hu : P.underlying t = some (.slice e)) (hi : (P.info? e).map (fun i => (i.zero, i.size, i.bytes)) = some (some (.int .i64 0), 1, 8)) (hown : w.ownsRow base e 1 v n xs) (hn : n ≤ 1000000) (hbase : base ≤ w.heap.size) (hge : b.w.heap.size ≤ base) (hne : ∀ q ∈ l, v.ownBlock ≠ some q.1) (hbs : b.bs = []) (hty : y = t) (hd : d < N)
    (h : ∀ a' v' w', FrV N ((d, v') :: env) a' → Bx b l w' → w'.ownsRow base e 1 v' (n + 1) (xs ++ [.int .i64 m]) → w.grownBy w' v.ownBlock → (∀ k, v'.ownBlock = some k → v.ownBlock = some k ∨ w.heap.size ≤ k) → (∃ ad c, v' = .slice ad (n + 1) c) → wpList P ops Q rest a' w') : wpList P ops Q ({ dst := some d, op := .call { callee := .builtin .append, args := #[.tmp x, .tmp z], argTypes := #[t, t] }, type := y, pos := ps, after := af, guard := none } :: rest) a w := by
  obtain ⟨i0, hi', hz0, hz1, hz2⟩ := info_parts hi
  have hG := hB.get (i := 0) rfl
  have hwl : ∀ k, v.ownBlock = some k → base ≤ k := fun k hk => (hown.lt k hk).1
  refine wpList_append_own_at w rfl (.tmp x) (.tmp z) t rfl base e i0 (.int .i64 0) 1 8 hu hi' hz0 hz1 hz2 rfl (by decide) v n xs (hf.rel x v hx) hown ⟨G, 0, none⟩ 1 1 [.int .i64 m] (hf.rel z _ hz) rfl ?_ ?_ (by unfold maxLen; omega) (by omega) hbase ?_
  · intro j u hu
    have hj : j = 0 := by have := (List.getElem?_eq_some_iff.1 hu).1; simpa using this
    subst hj
    obtain rfl := Option.some.inj hu
    rw [addr_add']
    exact hG.cell 0 _ rfl
  · intro u hu
    rw [List.mem_singleton.1 hu]; rfl
  · intro v' w' h1 h2 h3 h4
    refine h _ v' w' (hf.put hd v') ?_ h1 h2 (fun k hk => ?_) ?_
    · refine (hB.sub).grown h2 (fun k hk => ⟨Nat.le_trans hge (hwl k hk), fun q hq e => hne q hq (by rw [hk, e]), fun p hp => by rw [hbs] at hp; cases hp⟩)
    · rcases h4 with h4 | h4
      · exact .inl (h4 ▸ hk)
      · rw [h4] at hk
        exact .inr (Nat.le_of_eq (Option.some.inj hk))
    · rcases h1.2 with ⟨_, h0⟩ | ⟨g, cap, cur, rfl, _⟩
      · omega
      · exact ⟨_, _, rfl⟩
end
end Go.Proofs.Ytfpgklhbghahoaa
/- Election: a member that wins; rows of numbers that hold the same. -/
namespace Go.Proofs.Ytfpgklhbghahoaa
open Go.ChangeShapes Go.WideShapes Go.ChangeAt Go.RowKit Go.ChangeMaps Go.Joins Go.Deep
set_option linter.unusedVariables false
set_option linter.unusedSimpArgs false
set_option maxRecDepth 100000
theorem infoI3 : (Try.prog.info? 3).map (fun i => (i.zero, i.size, i.bytes)) = some (some (.int .i64 0), 1, 8) := by kernel_rfl
/-- a row under filling: q of k are done -/
def fillR (n : Int) (q k : Nat) : List Value := List.replicate q (.int .i64 n) ++ List.replicate (k - q) (.int .i64 0)
theorem fillR_len (n : Int) {q k : Nat} (h : q ≤ k) : (fillR n q k).length = k := by unfold fillR; simp; omega
theorem fillR_0 (n : Int) (k : Nat) : List.replicate k (.int .i64 0) = fillR n 0 k := by simp [fillR]
theorem fillR_step (n : Int) {q k : Nat} (h : q < k) : (fillR n q k).set (0 + q * 1) (.int .i64 n) = fillR n (q + 1) k := by
  unfold fillR
  rw [Nat.zero_add, Nat.mul_one, List.set_append_right _ _ (by simp), List.length_replicate, Nat.sub_self]
  obtain ⟨r, hr⟩ : ∃ r, k - q = r + 1 := ⟨k - q - 1, by omega⟩
  rw [hr, List.replicate_succ, List.set_cons_zero, List.replicate_succ', show k - (q + 1) = r by omega]
  simp
/-- the places of a new primary -/
def nextL (n : Int) (k : Nat) : List Int := List.replicate k n
def matchL (n : Int) (k j : Nat) : List Int := (List.replicate k 0).set j n
theorem fillR_all (n : Int) (k : Nat) : fillR n k k = (nextL n k).map (.int .i64 ·) := by simp [fillR, nextL]
theorem matchL_val (n : Int) (k j : Nat) : (List.replicate k (Value.int .i64 0)).set (0 + j * 1) (.int .i64 n) = (matchL n k j).map (.int .i64 ·) := by
  rw [Nat.zero_add, Nat.mul_one, matchL, List.map_set, List.map_replicate]
theorem intRow_box {W : World} {g : Nat} {xs : List Int} (h : Box W g (xs.map (.int .i64 ·))) (hm : xs.length ≤ maxLen) : IntRow W (.slice (some ⟨g, 0, none⟩) xs.length xs.length) xs := by
  refine ⟨g, xs.length, rfl, Nat.le_refl _, hm, h.lt, fun j hj => ?_⟩
  exact h.cell j _ (by rw [List.getElem?_map, List.getElem?_eq_getElem hj]; rfl)
theorem intRow_own {W : World} {base : Nat} {v : Value} {xs : List Int} (h : W.ownsRow base 3 1 v xs.length (xs.map (.int .i64 ·))) (h0 : 0 < xs.length) : IntRow W v xs := by
  rcases h.2 with ⟨_, hn⟩ | ⟨g, cap, cur, rfl, h1, h2, h3, h4, h5, h6⟩
  · omega
  · refine ⟨g, cap, rfl, h3, h4, (Array.getElem?_eq_some_iff.1 h2).1, fun j hj => ?_⟩
    rw [h.cellAt j (by omega), List.getElem?_map, List.getElem?_eq_getElem hj]
    rfl
/-- rows of the same numbers hold the same -/
theorem intRow_eqC {W : World} {u v : Value} {xs : List Int} {n : Nat} (hu : IntRow W u xs) (hv : IntRow W v xs) (hw : ∀ x ∈ xs, (Lit.int .i64 x).wf = true) (hl : xs.length ≤ 1000000) : EqC Try.prog W W TT TT (n + 2) 23 [u] [v] := by
  obtain ⟨g, cap, rfl, h1, h2, h3, h4⟩ := hu
  obtain ⟨g', cap', rfl, k1, k2, k3, k4⟩ := hv
  have e1 : Try.prog.cellsOf 3 = 1 := by kernel_rfl
  have e8 : Try.prog.bytesOf 3 = 8 := by kernel_rfl
  refine eqC_slice Try.underlying23 ⟨_, xs.length, cap, _, cap', rfl, rfl, h1, ⟨h2, by rw [e8]; omega, fun h => by cases h⟩, k1, ⟨k2, by rw [e8]; omega, fun h => by cases h⟩, fun h0 => ⟨g, 0, g', 0, rfl, rfl, ⟨trivial, h3⟩, ⟨trivial, k3⟩, fun j hj => ⟨[.int .i64 xs[j]], [.int .i64 xs[j]], by rw [e1]; rfl, by rw [e1]; rfl, ?_, ?_, int_eqC (hw _ (List.getElem_mem hj))⟩⟩⟩
  · intro i u hi
    have hi0 : i = 0 := by have := (List.getElem?_eq_some_iff.1 hi).1; simpa using this
    subst hi0
    obtain rfl := Option.some.inj hi
    rw [e1, Nat.mul_one, Nat.zero_add, Nat.add_zero]
    exact h4 j hj
  · intro i u hi
    have hi0 : i = 0 := by have := (List.getElem?_eq_some_iff.1 hi).1; simpa using this
    subst hi0
    obtain rfl := Option.some.inj hi
    rw [e1, Nat.mul_one, Nat.zero_add, Nat.add_zero]
    exact k4 j hj
theorem win_any (j k : Nat) (tm vt rl ld ti vs : Int) (ga : Option Addr) (gl gc : Nat) (cm : Int) (na : Option Addr) (nl nc : Nat) (ma : Option Addr) (ml mc : Nat) (w : World) (hj : j < k) (hk : k ≤ 7) : Calls Try.prog 43 #[mem (j : Int) (k : Int) tm vt rl ld ti vs (.slice ga gl gc) cm (.slice na nl nc) (.slice ma ml mc)] w fun e w' => ∃ nv mv, e = .returned (mem (j : Int) (k : Int) tm vt 2 (j : Int) 1 vs (.slice ga gl gc) cm nv mv) ∧ IntRow w' nv (nextL gl k) ∧ IntRow w' mv (matchL gl k j) ∧ (∃ g, nv.ownBlock = some g ∧ w.heap.size ≤ g) ∧ (∃ g, mv.ownBlock = some g ∧ w.heap.size ≤ g) ∧ Below w.heap.size w w' := by
  refine calls_frv (N := 40) (vs := [.agg #[.int .i64 (j : Int), .int .i64 (k : Int), .int .i64 tm, .int .i64 vt, .int .i64 rl, .int .i64 ld, .int .i64 ti, .int .i64 vs, .slice ga gl gc, .int .i64 cm, .slice na nl nc, .slice ma ml mc]]) [(0, .agg #[.int .i64 (j : Int), .int .i64 (k : Int), .int .i64 tm, .int .i64 vt, .int .i64 rl, .int .i64 ld, .int .i64 ti, .int .i64 vs, .slice ga gl gc, .int .i64 cm, .slice na nl nc, .slice ma ml mc])] Try.func43 rfl rfl (of_decide_eq_true rfl) (fun p hp => by simp only [List.mem_cons, List.not_mem_nil, or_false] at hp; rcases hp with rfl <;> rfl) (fun a hf => ?_)
  have hX := Bx.start w
  refine wp_seq ?_
  refine wp_region_lit ?_
  refine sv_boxB hf hX rfl (by decide) (fun a C1 W hC hf hX hA => ?_)
  clear hC hA
  refine sv_allocB (zs := [.int .i64 0, .int .i64 0, .int .i64 0, .int .i64 0, .int .i64 0, .int .i64 0, .int .i64 0, .int .i64 0, .slice none 0 0, .int .i64 0, .slice none 0 0, .slice none 0 0]) hf hX zero_mem (by decide) (fun a C2 W hC hf hX hA => ?_)
  clear hC hA
  replace hf := hf.sub (env' := [(2, .pointer (some ⟨C2, 0, none⟩)), (1, .pointer (some ⟨C1, 0, none⟩))]) (sub_cons rfl (sub_cons rfl (sub_nil)))
  refine sv_nil hf ?_
  refine wp_seq ?_
  refine wp_region_lit ?_
  refine sv_fld hf rfl Try.underlying25 rfl sz_int (0) rfl (by decide) (fun a hf => ?_)
  refine sv_lc hf hX rfl 1 rfl rfl Try.underlying3 rfl (by decide) (fun a hf => ?_)
  refine sv_fld hf rfl Try.underlying25 rfl sz_int (4) rfl (by decide) (fun a hf => ?_)
  refine sv_scB (cs' := [.int .i64 (j : Int), .int .i64 (k : Int), .int .i64 tm, .int .i64 vt, .int .i64 2, .int .i64 ld, .int .i64 ti, .int .i64 vs, .slice ga gl gc, .int .i64 cm, .slice na nl nc, .slice ma ml mc]) hf hX rfl rfl 1 rfl (of_decide_eq_true rfl) rfl info_int rfl [(C2, [.int .i64 0, .int .i64 0, .int .i64 0, .int .i64 0, .int .i64 0, .int .i64 0, .int .i64 0, .int .i64 0, .slice none 0 0, .int .i64 0, .slice none 0 0, .slice none 0 0]), (C1, [.int .i64 (j : Int), .int .i64 (k : Int), .int .i64 tm, .int .i64 vt, .int .i64 2, .int .i64 ld, .int .i64 ti, .int .i64 vs, .slice ga gl gc, .int .i64 cm, .slice na nl nc, .slice ma ml mc])] rfl (fun W hX hO => ?_)
  clear hO
  refine sv_fld hf rfl Try.underlying25 rfl sz_int (5) rfl (by decide) (fun a hf => ?_)
  refine sv_scB (cs' := [.int .i64 (j : Int), .int .i64 (k : Int), .int .i64 tm, .int .i64 vt, .int .i64 2, .int .i64 (j : Int), .int .i64 ti, .int .i64 vs, .slice ga gl gc, .int .i64 cm, .slice na nl nc, .slice ma ml mc]) hf hX rfl rfl 1 rfl (of_decide_eq_true rfl) rfl info_int rfl [(C2, [.int .i64 0, .int .i64 0, .int .i64 0, .int .i64 0, .int .i64 0, .int .i64 0, .int .i64 0, .int .i64 0, .slice none 0 0, .int .i64 0, .slice none 0 0, .slice none 0 0]), (C1, [.int .i64 (j : Int), .int .i64 (k : Int), .int .i64 tm, .int .i64 vt, .int .i64 2, .int .i64 (j : Int), .int .i64 ti, .int .i64 vs, .slice ga gl gc, .int .i64 cm, .slice na nl nc, .slice ma ml mc])] rfl (fun W hX hO => ?_)
  clear hO
  refine sv_fld hf rfl Try.underlying25 rfl sz_int (6) rfl (by decide) (fun a hf => ?_)
  refine sv_scB (cs' := [.int .i64 (j : Int), .int .i64 (k : Int), .int .i64 tm, .int .i64 vt, .int .i64 2, .int .i64 (j : Int), .int .i64 1, .int .i64 vs, .slice ga gl gc, .int .i64 cm, .slice na nl nc, .slice ma ml mc]) hf hX rfl rfl 1 rfl (of_decide_eq_true rfl) rfl info_int rfl [(C2, [.int .i64 0, .int .i64 0, .int .i64 0, .int .i64 0, .int .i64 0, .int .i64 0, .int .i64 0, .int .i64 0, .slice none 0 0, .int .i64 0, .slice none 0 0, .slice none 0 0]), (C1, [.int .i64 (j : Int), .int .i64 (k : Int), .int .i64 tm, .int .i64 vt, .int .i64 2, .int .i64 (j : Int), .int .i64 1, .int .i64 vs, .slice ga gl gc, .int .i64 cm, .slice na nl nc, .slice ma ml mc])] rfl (fun W hX hO => ?_)
  clear hO
  replace hf := hf.sub (env' := [(2, .pointer (some ⟨C2, 0, none⟩)), (1, .pointer (some ⟨C1, 0, none⟩))]) (sub_cons rfl (sub_cons rfl (sub_nil)))
  refine sv_nil hf ?_
  refine wp_seq ?_
  refine wp_region_lit ?_
  refine sv_fld hf rfl Try.underlying25 rfl sz_int (1) rfl (by decide) (fun a hf => ?_)
  refine sv_lc hf hX rfl 1 rfl rfl Try.underlying3 rfl (by decide) (fun a hf => ?_)
  refine sv_mk (k := k) hf hX rfl rfl Try.underlying23 infoI3 (by omega) (by decide) (fun a G3 W hC hf hX hA => ?_)
  clear hC hA
  refine sv_fld hf rfl Try.underlying25 rfl sz_ints (10) rfl (by decide) (fun a hf => ?_)
  refine sv_scB (cs' := [.int .i64 (j : Int), .int .i64 (k : Int), .int .i64 tm, .int .i64 vt, .int .i64 2, .int .i64 (j : Int), .int .i64 1, .int .i64 vs, .slice ga gl gc, .int .i64 cm, .slice (some ⟨G3, 0, none⟩) k k, .slice ma ml mc]) hf hX rfl rfl 2 rfl (of_decide_eq_true rfl) rfl info_ints rfl [(G3, (List.replicate k (.int .i64 0))), (C2, [.int .i64 0, .int .i64 0, .int .i64 0, .int .i64 0, .int .i64 0, .int .i64 0, .int .i64 0, .int .i64 0, .slice none 0 0, .int .i64 0, .slice none 0 0, .slice none 0 0]), (C1, [.int .i64 (j : Int), .int .i64 (k : Int), .int .i64 tm, .int .i64 vt, .int .i64 2, .int .i64 (j : Int), .int .i64 1, .int .i64 vs, .slice ga gl gc, .int .i64 cm, .slice (some ⟨G3, 0, none⟩) k k, .slice ma ml mc])] rfl (fun W hX hO => ?_)
  clear hO
  replace hf := hf.sub (env' := [(2, .pointer (some ⟨C2, 0, none⟩)), (1, .pointer (some ⟨C1, 0, none⟩))]) (sub_cons rfl (sub_cons rfl (sub_nil)))
  refine sv_nil hf ?_
  refine wp_seq ?_
  refine wp_region_lit ?_
  refine sv_fld hf rfl Try.underlying25 rfl sz_int (1) rfl (by decide) (fun a hf => ?_)
  refine sv_lc hf hX rfl 2 rfl rfl Try.underlying3 rfl (by decide) (fun a hf => ?_)
  refine sv_mk (k := k) hf hX rfl rfl Try.underlying23 infoI3 (by omega) (by decide) (fun a G4 W hC hf hX hA => ?_)
  clear hC hA
  refine sv_fld hf rfl Try.underlying25 rfl sz_ints (11) rfl (by decide) (fun a hf => ?_)
  refine sv_scB (cs' := [.int .i64 (j : Int), .int .i64 (k : Int), .int .i64 tm, .int .i64 vt, .int .i64 2, .int .i64 (j : Int), .int .i64 1, .int .i64 vs, .slice ga gl gc, .int .i64 cm, .slice (some ⟨G3, 0, none⟩) k k, .slice (some ⟨G4, 0, none⟩) k k]) hf hX rfl rfl 3 rfl (of_decide_eq_true rfl) rfl info_ints rfl [(G4, (List.replicate k (.int .i64 0))), (G3, (List.replicate k (.int .i64 0))), (C2, [.int .i64 0, .int .i64 0, .int .i64 0, .int .i64 0, .int .i64 0, .int .i64 0, .int .i64 0, .int .i64 0, .slice none 0 0, .int .i64 0, .slice none 0 0, .slice none 0 0]), (C1, [.int .i64 (j : Int), .int .i64 (k : Int), .int .i64 tm, .int .i64 vt, .int .i64 2, .int .i64 (j : Int), .int .i64 1, .int .i64 vs, .slice ga gl gc, .int .i64 cm, .slice (some ⟨G3, 0, none⟩) k k, .slice (some ⟨G4, 0, none⟩) k k])] rfl (fun W hX hO => ?_)
  clear hO
  replace hf := hf.sub (env' := [(2, .pointer (some ⟨C2, 0, none⟩)), (1, .pointer (some ⟨C1, 0, none⟩))]) (sub_cons rfl (sub_cons rfl (sub_nil)))
  refine sv_nil hf ?_
  refine wp_seq ?_
  refine wp_seq ?_
  refine wp_region_lit ?_
  refine sv_fld hf rfl Try.underlying25 rfl sz_ints (10) rfl (by decide) (fun a hf => ?_)
  refine sv_lc hf hX rfl 3 rfl rfl Try.underlying23 rfl (by decide) (fun a hf => ?_)
  refine sv_len hf rfl Try.underlying23 (by decide) (fun a hf => ?_)
  refine sv_run (v := .int .i64 0) hf (by decide) (fun a hf => by unfold execOp; rfl) (fun a hf => ?_)
  replace hf := hf.sub (env' := [(20, .int .i64 0), (19, .int .i64 ((k : Nat) : Int)), (2, .pointer (some ⟨C2, 0, none⟩)), (1, .pointer (some ⟨C1, 0, none⟩))]) (sub_cons rfl (sub_cons rfl (sub_cons rfl (sub_cons rfl (sub_nil)))))
  refine sv_nil hf ?_
  have hX0 : Bx ⟨w, []⟩ [(G4, (List.replicate k (.int .i64 0))), (G3, (fillR gl 0 k)), (C2, [.int .i64 0, .int .i64 0, .int .i64 0, .int .i64 0, .int .i64 0, .int .i64 0, .int .i64 0, .int .i64 0, .slice none 0 0, .int .i64 0, .slice none 0 0, .slice none 0 0]), (C1, [.int .i64 (j : Int), .int .i64 (k : Int), .int .i64 tm, .int .i64 vt, .int .i64 2, .int .i64 (j : Int), .int .i64 1, .int .i64 vs, .slice ga gl gc, .int .i64 cm, .slice (some ⟨G3, 0, none⟩) k k, .slice (some ⟨G4, 0, none⟩) k k])] W := by rw [← fillR_0 gl k]; exact hX
  refine wp_block (wp_loop (fun a X => ∃ q : Nat, q ≤ k ∧ FrV 40 [(1, .pointer (some ⟨C1, 0, none⟩)), (2, .pointer (some ⟨C2, 0, none⟩)), (19, .int .i64 ((k : Nat) : Int)), (20, .int .i64 (q : Int))] a ∧ Bx ⟨w, []⟩ [(G4, (List.replicate k (.int .i64 0))), (G3, (fillR gl q k)), (C2, [.int .i64 0, .int .i64 0, .int .i64 0, .int .i64 0, .int .i64 0, .int .i64 0, .int .i64 0, .int .i64 0, .slice none 0 0, .int .i64 0, .slice none 0 0, .slice none 0 0]), (C1, [.int .i64 (j : Int), .int .i64 (k : Int), .int .i64 tm, .int .i64 vt, .int .i64 2, .int .i64 (j : Int), .int .i64 1, .int .i64 vs, .slice ga gl gc, .int .i64 cm, .slice (some ⟨G3, 0, none⟩) k k, .slice (some ⟨G4, 0, none⟩) k k])] X) (fun a _ => k - (intOf (a.eval (.tmp 20))).toNat) ⟨0, Nat.zero_le _, hf.sub (sub_cons rfl (sub_cons rfl (sub_cons rfl (sub_cons rfl sub_nil)))), hX0⟩ ?_)
  clear hX hX0
  rintro a W ⟨q, hq, hf, hX⟩
  have hq20 : a.eval (.tmp 20) = .int .i64 (q : Int) := hf.rel 20 _ rfl
  rcases Nat.lt_or_ge q k with hlt | hge
  ·
    refine wp_seq ?_
    refine wp_region_lit ?_
    refine sv_cmp hf rfl rfl true (congrArg some (decide_eq_true (by omega))) (by decide) (fun a hf => ?_)
    refine sv_nil hf ?_
    refine wp_seq (wp_cond_true (hf.rel _ _ rfl) (wp_skip ?_))
    refine wp_seq (wp_block ?_)
    refine wp_seq ?_
    refine wp_region_lit ?_
    refine sv_mv hf rfl (by decide) (fun a hf => ?_)
    refine sv_as hf rfl (by decide) (fun a hf => ?_)
    replace hf := hf.sub (env' := [(3, .int .i64 (q : Int)), (22, .int .i64 (q : Int)), (1, .pointer (some ⟨C1, 0, none⟩)), (2, .pointer (some ⟨C2, 0, none⟩)), (19, .int .i64 ((k : Nat) : Int)), (20, .int .i64 (q : Int))]) (sub_cons rfl (sub_cons rfl (sub_cons rfl (sub_cons rfl (sub_cons rfl (sub_cons rfl (sub_nil)))))))
    refine sv_nil hf ?_
    refine wp_region_lit ?_
    refine sv_fld hf rfl Try.underlying25 rfl sz_ints (10) rfl (by decide) (fun a hf => ?_)
    refine sv_lc hf hX rfl 3 rfl rfl Try.underlying23 rfl (by decide) (fun a hf => ?_)
    refine sv_mv hf rfl (by decide) (fun a hf => ?_)
    refine sv_fld hf rfl Try.underlying25 rfl sz_ents (8) rfl (by decide) (fun a hf => ?_)
    refine sv_lc hf hX rfl 3 rfl rfl Try.underlying22 rfl (by decide) (fun a hf => ?_)
    refine sv_len hf rfl Try.underlying22 (by decide) (fun a hf => ?_)
    refine sv_idx (q := q) hf rfl rfl (by omega) Try.underlying23 einfo_ints (by decide) (fun a hf => ?_)
    refine sv_scB (cs' := (fillR gl (q + 1) k)) hf hX rfl rfl 1 rfl (by rw [fillR_len _ (by omega)]; omega) (fillR_step _ (by omega)) info_int rfl [(G4, (List.replicate k (.int .i64 0))), (G3, (fillR gl (q + 1) k)), (C2, [.int .i64 0, .int .i64 0, .int .i64 0, .int .i64 0, .int .i64 0, .int .i64 0, .int .i64 0, .int .i64 0, .slice none 0 0, .int .i64 0, .slice none 0 0, .slice none 0 0]), (C1, [.int .i64 (j : Int), .int .i64 (k : Int), .int .i64 tm, .int .i64 vt, .int .i64 2, .int .i64 (j : Int), .int .i64 1, .int .i64 vs, .slice ga gl gc, .int .i64 cm, .slice (some ⟨G3, 0, none⟩) k k, .slice (some ⟨G4, 0, none⟩) k k])] rfl (fun W hX hO => ?_)
    clear hO
    refine sv_nil hf ?_
    refine wp_region_lit ?_
    refine sv_add ((q + 1 : Nat) : Int) hf rfl rfl (by rw [wrap_in (by omega)]; rfl) (by decide) (fun a hf => ?_)
    refine sv_mv hf rfl (by decide) (fun a hf => ?_)
    refine sv_nil hf ?_
    refine ⟨⟨q + 1, hlt, hf.sub (sub_cons rfl (sub_cons rfl (sub_cons rfl (sub_cons rfl sub_nil)))), hX⟩, ?_⟩
    have h5 : a.eval (.tmp 20) = .int .i64 ((q + 1 : Nat) : Int) := hf.rel 20 _ rfl
    rw [h5, hq20]; simp only [intOf, Int.toNat_natCast]; omega
  ·
    refine wp_seq ?_
    refine wp_region_lit ?_
    refine sv_cmp hf rfl rfl false (congrArg some (decide_eq_false (by omega))) (by decide) (fun a hf => ?_)
    refine sv_nil hf ?_
    refine wp_seq (wp_cond_false (hf.rel _ _ rfl) (wp_exit ?_))
    simp only [Exit.inBlock, Exit.then, ↓reduceIte]
    obtain rfl : k = q := by omega
    refine wp_seq ?_
    refine wp_region_lit ?_
    refine sv_fld hf rfl Try.underlying25 rfl sz_ints (11) rfl (by decide) (fun a hf => ?_)
    refine sv_lc hf hX rfl 3 rfl rfl Try.underlying23 rfl (by decide) (fun a hf => ?_)
    refine sv_fld hf rfl Try.underlying25 rfl sz_int (0) rfl (by decide) (fun a hf => ?_)
    refine sv_lc hf hX rfl 3 rfl rfl Try.underlying3 rfl (by decide) (fun a hf => ?_)
    refine sv_fld hf rfl Try.underlying25 rfl sz_ents (8) rfl (by decide) (fun a hf => ?_)
    refine sv_lc hf hX rfl 3 rfl rfl Try.underlying22 rfl (by decide) (fun a hf => ?_)
    refine sv_len hf rfl Try.underlying22 (by decide) (fun a hf => ?_)
    refine sv_idx (q := j) hf rfl rfl hj Try.underlying23 einfo_ints (by decide) (fun a hf => ?_)
    refine sv_scB (cs' := ((matchL gl k j).map (.int .i64 ·))) hf hX rfl rfl 0 rfl (by rw [List.length_replicate]; omega) (matchL_val _ _ _) info_int rfl [(G4, ((matchL gl k j).map (.int .i64 ·))), (G3, (fillR gl k k)), (C2, [.int .i64 0, .int .i64 0, .int .i64 0, .int .i64 0, .int .i64 0, .int .i64 0, .int .i64 0, .int .i64 0, .slice none 0 0, .int .i64 0, .slice none 0 0, .slice none 0 0]), (C1, [.int .i64 (j : Int), .int .i64 (k : Int), .int .i64 tm, .int .i64 vt, .int .i64 2, .int .i64 (j : Int), .int .i64 1, .int .i64 vs, .slice ga gl gc, .int .i64 cm, .slice (some ⟨G3, 0, none⟩) k k, .slice (some ⟨G4, 0, none⟩) k k])] rfl (fun W hX hO => ?_)
    clear hO
    replace hf := hf.sub (env' := [(1, .pointer (some ⟨C1, 0, none⟩)), (2, .pointer (some ⟨C2, 0, none⟩))]) (sub_cons rfl (sub_cons rfl (sub_nil)))
    refine sv_nil hf ?_
    refine wp_seq ?_
    refine wp_region_lit ?_
    refine sv_lr hf hX rfl 3 rfl Try.underlying25 info_mem (by decide) (fun a hf => ?_)
    refine sv_srB hf hX rfl rfl 2 rfl rfl info_mem (fun v hv => List.all_eq_true.1 (show List.all [.int .i64 (j : Int), .int .i64 (k : Int), .int .i64 tm, .int .i64 vt, .int .i64 2, .int .i64 (j : Int), .int .i64 1, .int .i64 vs, .slice ga gl gc, .int .i64 cm, .slice (some ⟨G3, 0, none⟩) k k, .slice (some ⟨G4, 0, none⟩) k k] (·.oneCell') = true from rfl) v hv) [(G4, ((matchL gl k j).map (.int .i64 ·))), (G3, (fillR gl k k)), (C2, [.int .i64 (j : Int), .int .i64 (k : Int), .int .i64 tm, .int .i64 vt, .int .i64 2, .int .i64 (j : Int), .int .i64 1, .int .i64 vs, .slice ga gl gc, .int .i64 cm, .slice (some ⟨G3, 0, none⟩) k k, .slice (some ⟨G4, 0, none⟩) k k]), (C1, [.int .i64 (j : Int), .int .i64 (k : Int), .int .i64 tm, .int .i64 vt, .int .i64 2, .int .i64 (j : Int), .int .i64 1, .int .i64 vs, .slice ga gl gc, .int .i64 cm, .slice (some ⟨G3, 0, none⟩) k k, .slice (some ⟨G4, 0, none⟩) k k])] rfl (fun W hX hO => ?_)
    clear hO
    replace hf := hf.sub (env' := [(2, .pointer (some ⟨C2, 0, none⟩))]) (sub_cons rfl (sub_nil))
    refine sv_nil hf ?_
    refine wp_ret ?_
    try simp only [Exit.inBlock, Exit.then]
    have hG := hX.get (i := 1) (C := G3) rfl
    have hH := hX.get (i := 0) (C := G4) rfl
    rw [fillR_all] at hG
    have r1 := intRow_box hG (by simp [nextL]; unfold maxLen; omega)
    have r2 := intRow_box hH (by simp [matchL]; unfold maxLen; omega)
    have e1 : (nextL gl k).length = k := by simp [nextL]
    have e2 : (matchL gl k j).length = k := by simp [matchL]
    rw [e1] at r1; rw [e2] at r2
    exact bodyPost_ret (res_cell (c := 2) (C := C2) (cs := [.int .i64 (j : Int), .int .i64 (k : Int), .int .i64 tm, .int .i64 vt, .int .i64 2, .int .i64 (j : Int), .int .i64 1, .int .i64 vs, .slice ga gl gc, .int .i64 cm, .slice (some ⟨G3, 0, none⟩) k k, .slice (some ⟨G4, 0, none⟩) k k]) (T := 25) rfl (hf.rel 2 _ rfl) (hX.get (i := 2) rfl) Try.underlying25 info_mem) hf.defers ⟨_, _, rfl, r1, r2, ⟨G3, rfl, hX.ge _ (List.mem_of_getElem? (i := 1) rfl)⟩, ⟨G4, rfl, hX.ge _ (List.mem_of_getElem? (i := 0) rfl)⟩, hX.low⟩
end Go.Proofs.Ytfpgklhbghahoaa
/- Election: the document's member that wins. -/
namespace Go.Proofs.Ytfpgklhbghahoaa
open Go.ChangeShapes Go.WideShapes Go.ChangeAt Go.RowKit Go.ChangeMaps Go.Joins Go.Deep
set_option linter.unusedVariables false
set_option linter.unusedSimpArgs false
set_option maxRecDepth 100000
/-- a row of ints of its own -/
def OwnR (B : Nat) (W : World) (v : Value) (xs : List Int) : Prop := W.ownsRow B 3 1 v xs.length (xs.map (.int .i64 ·))
theorem OwnR.nil (B : Nat) (W : World) : OwnR B W (.slice none 0 0) [] := World.ownsRow_nil _ _ _ _
theorem OwnR.lt {B : Nat} {W : World} {v : Value} {xs : List Int} (h : OwnR B W v xs) : ∀ k, v.ownBlock = some k → B ≤ k ∧ k < W.heap.size := World.ownsRow.lt h
theorem OwnR.keep {B : Nat} {W W' : World} {v : Value} {xs : List Int} (h : OwnR B W v xs) (hk : ∀ k, v.ownBlock = some k → W'.heap[k]? = W.heap[k]?) : OwnR B W' v xs := by
  obtain ⟨h1, h2⟩ := h
  refine ⟨h1, ?_⟩
  rcases h2 with h2 | ⟨g, cap, cur, e, h2, h3, h4⟩
  · exact .inl h2
  · subst e
    exact .inr ⟨g, cap, cur, rfl, h2, (hk g rfl).trans h3, h4⟩
theorem OwnR.push {B : Nat} {W : World} {v : Value} {xs : List Int} {x : Int} (h : W.ownsRow B 3 1 v (xs.length + 1) (xs.map (.int .i64 ·) ++ [.int .i64 x])) : OwnR B W v (xs ++ [x]) := by
  unfold OwnR
  rw [List.map_append, List.length_append]
  exact h
theorem OwnR.int {B : Nat} {W : World} {v : Value} {xs : List Int} (h : OwnR B W v xs) (h0 : 0 < xs.length) : IntRow W v xs ∧ ∃ g, v.ownBlock = some g ∧ B ≤ g := by
  have h1 := intRow_own h h0
  obtain ⟨g, cap, rfl, h2⟩ := id h1
  exact ⟨h1, g, rfl, (h.lt g rfl).1⟩
/-- two rows apart -/
structure NM (B : Nat) (W : World) (u v : Value) (xs ys : List Int) : Prop where
  a : OwnR B W u xs
  b : OwnR B W v ys
  ap : ∀ k, u.ownBlock = some k → v.ownBlock ≠ some k
  ge : B ≤ W.heap.size
theorem NM.start (W : World) : NM W.heap.size W (.slice none 0 0) (.slice none 0 0) [] [] := ⟨OwnR.nil _ _, OwnR.nil _ _, fun k h => (by cases h), Nat.le_refl _⟩
theorem NM.below {B : Nat} {W W' : World} {u v : Value} {xs ys : List Int} (h : NM B W u v xs ys) (hb : Below W.heap.size W W') : NM B W' u v xs ys :=
  ⟨h.a.keep (fun k hk => hb.block k (h.a.lt k hk).2), h.b.keep (fun k hk => hb.block k (h.b.lt k hk).2), h.ap, Nat.le_trans h.ge hb.size⟩
theorem NM.only {B : Nat} {W W' : World} {u v : Value} {xs ys : List Int} {c : Nat} (h : NM B W u v xs ys) (ho : Only W W' c) (hc : c < B) : NM B W' u v xs ys :=
  ⟨h.a.keep (fun k hk => ho.heap k (fun e => by have := (h.a.lt k hk).1; omega)), h.b.keep (fun k hk => ho.heap k (fun e => by have := (h.b.lt k hk).1; omega)), h.ap, by rw [ho.size]; exact h.ge⟩
theorem NM.left {B : Nat} {W W' : World} {u v u' : Value} {xs ys : List Int} {x : Int} (h : NM B W u v xs ys) (hg : W.grownBy W' u.ownBlock) (ho : W'.ownsRow B 3 1 u' (xs.length + 1) (xs.map (.int .i64 ·) ++ [.int .i64 x])) (hk : ∀ k, u'.ownBlock = some k → u.ownBlock = some k ∨ W.heap.size ≤ k) : NM B W' u' v (xs ++ [x]) ys :=
  ⟨OwnR.push ho, h.b.keep (fun k hv => hg.block k (h.b.lt k hv).2 (fun e => h.ap k e.symm hv)), fun k hu hv => by
    rcases hk k hu with h1 | h1
    · exact h.ap k h1 hv
    · have := (h.b.lt k hv).2; omega, Nat.le_trans h.ge hg.size⟩
theorem NM.right {B : Nat} {W W' : World} {u v v' : Value} {xs ys : List Int} {x : Int} (h : NM B W u v xs ys) (hg : W.grownBy W' v.ownBlock) (ho : W'.ownsRow B 3 1 v' (ys.length + 1) (ys.map (.int .i64 ·) ++ [.int .i64 x])) (hk : ∀ k, v'.ownBlock = some k → v.ownBlock = some k ∨ W.heap.size ≤ k) : NM B W' u v' xs (ys ++ [x]) :=
  ⟨h.a.keep (fun k hu => hg.block k (h.a.lt k hu).2 (fun e => h.ap k hu e.symm)), OwnR.push ho, fun k hu hv => by
    rcases hk k hv with h1 | h1
    · exact h.ap k hu h1
    · have := (h.a.lt k hu).2; omega, Nat.le_trans h.ge hg.size⟩
theorem nextL_step (n : Int) (q : Nat) : nextL n q ++ [n] = nextL n (q + 1) := by simp [nextL, List.replicate_succ']
theorem matchL_get (n : Int) {k j q : Nat} (hq : q < k) : (matchL n k j)[q]? = some (if j = q then n else 0) := by
  unfold matchL
  rw [List.getElem?_set]
  by_cases h : j = q
  · simp [h, hq]
  · simp [h, hq]
theorem matchL_eq (n : Int) {k j q : Nat} (hq : q < k) (h : (q : Int) = (j : Int)) : (matchL n k j).take q ++ [n] = (matchL n k j).take (q + 1) := by
  rw [List.take_add_one, matchL_get n hq, if_pos (by omega)]; rfl
theorem matchL_ne (n : Int) {k j q : Nat} (hq : q < k) (h : ¬ (q : Int) = (j : Int)) : (matchL n k j).take q ++ [0] = (matchL n k j).take (q + 1) := by
  rw [List.take_add_one, matchL_get n hq, if_neg (by omega)]; rfl
theorem matchL_len (n : Int) (k j : Nat) : (matchL n k j).length = k := by simp [matchL]
theorem matchL_all (n : Int) (k j : Nat) : (matchL n k j).take k = matchL n k j := List.take_of_length_le (by rw [matchL_len]; exact Nat.le_refl _)
theorem nextL_len {n : Int} {k : Nat} : (nextL n k).length = k := by simp [nextL]
theorem matchT_len (n : Int) (k : Nat) {j q : Nat} (h : q ≤ k) : ((matchL n k j).take q).length = q := by simp [matchL]; omega

theorem primary_any (j k : Nat) (tm vt rl ld ti vs : Int) (ga : Option Addr) (gl gc : Nat) (cm : Int) (na : Option Addr) (nl nc : Nat) (ma : Option Addr) (ml mc : Nat) (w : World) (hj : j < k) (hk : k ≤ 7) : Calls Try.prog 44 #[mem (j : Int) (k : Int) tm vt rl ld ti vs (.slice ga gl gc) cm (.slice na nl nc) (.slice ma ml mc)] w fun e w' => ∃ nv mv, e = .returned (mem (j : Int) (k : Int) tm vt 2 (j : Int) 1 vs (.slice ga gl gc) cm nv mv) ∧ IntRow w' nv (nextL gl k) ∧ IntRow w' mv (matchL gl k j) ∧ (∃ g, nv.ownBlock = some g ∧ w.heap.size ≤ g) ∧ (∃ g, mv.ownBlock = some g ∧ w.heap.size ≤ g) ∧ Below w.heap.size w w' := by
  refine calls_frv (N := 43) (vs := [.agg #[.int .i64 (j : Int), .int .i64 (k : Int), .int .i64 tm, .int .i64 vt, .int .i64 rl, .int .i64 ld, .int .i64 ti, .int .i64 vs, .slice ga gl gc, .int .i64 cm, .slice na nl nc, .slice ma ml mc]]) [(0, .agg #[.int .i64 (j : Int), .int .i64 (k : Int), .int .i64 tm, .int .i64 vt, .int .i64 rl, .int .i64 ld, .int .i64 ti, .int .i64 vs, .slice ga gl gc, .int .i64 cm, .slice na nl nc, .slice ma ml mc])] Try.func44 rfl rfl (of_decide_eq_true rfl) (fun p hp => by simp only [List.mem_cons, List.not_mem_nil, or_false] at hp; rcases hp with rfl <;> rfl) (fun a hf => ?_)
  have hX := Bx.start w
  refine wp_seq ?_
  refine wp_region_lit ?_
  refine sv_boxB hf hX rfl (by decide) (fun a C1 W hC hf hX hA => ?_)
  clear hC hA
  refine sv_allocB (zs := [.int .i64 0, .int .i64 0, .int .i64 0, .int .i64 0, .int .i64 0, .int .i64 0, .int .i64 0, .int .i64 0, .slice none 0 0, .int .i64 0, .slice none 0 0, .slice none 0 0]) hf hX zero_mem (by decide) (fun a C2 W hC hf hX hA => ?_)
  clear hC hA
  replace hf := hf.sub (env' := [(2, .pointer (some ⟨C2, 0, none⟩)), (1, .pointer (some ⟨C1, 0, none⟩))]) (sub_cons rfl (sub_cons rfl (sub_nil)))
  refine sv_nil hf ?_
  refine wp_seq ?_
  refine wp_region_lit ?_
  refine sv_fld hf rfl Try.underlying25 rfl sz_int (4) rfl (by decide) (fun a hf => ?_)
  refine sv_scB (cs' := [.int .i64 (j : Int), .int .i64 (k : Int), .int .i64 tm, .int .i64 vt, .int .i64 2, .int .i64 ld, .int .i64 ti, .int .i64 vs, .slice ga gl gc, .int .i64 cm, .slice na nl nc, .slice ma ml mc]) hf hX rfl rfl 1 rfl (of_decide_eq_true rfl) rfl info_int rfl [(C2, [.int .i64 0, .int .i64 0, .int .i64 0, .int .i64 0, .int .i64 0, .int .i64 0, .int .i64 0, .int .i64 0, .slice none 0 0, .int .i64 0, .slice none 0 0, .slice none 0 0]), (C1, [.int .i64 (j : Int), .int .i64 (k : Int), .int .i64 tm, .int .i64 vt, .int .i64 2, .int .i64 ld, .int .i64 ti, .int .i64 vs, .slice ga gl gc, .int .i64 cm, .slice na nl nc, .slice ma ml mc])] rfl (fun W hX hO => ?_)
  clear hO
  replace hf := hf.sub (env' := [(2, .pointer (some ⟨C2, 0, none⟩)), (1, .pointer (some ⟨C1, 0, none⟩))]) (sub_cons rfl (sub_cons rfl (sub_nil)))
  refine sv_nil hf ?_
  refine wp_seq ?_
  refine wp_region_lit ?_
  refine sv_fld hf rfl Try.underlying25 rfl sz_int (0) rfl (by decide) (fun a hf => ?_)
  refine sv_lc hf hX rfl 1 rfl rfl Try.underlying3 rfl (by decide) (fun a hf => ?_)
  refine sv_fld hf rfl Try.underlying25 rfl sz_int (5) rfl (by decide) (fun a hf => ?_)
  refine sv_scB (cs' := [.int .i64 (j : Int), .int .i64 (k : Int), .int .i64 tm, .int .i64 vt, .int .i64 2, .int .i64 (j : Int), .int .i64 ti, .int .i64 vs, .slice ga gl gc, .int .i64 cm, .slice na nl nc, .slice ma ml mc]) hf hX rfl rfl 1 rfl (of_decide_eq_true rfl) rfl info_int rfl [(C2, [.int .i64 0, .int .i64 0, .int .i64 0, .int .i64 0, .int .i64 0, .int .i64 0, .int .i64 0, .int .i64 0, .slice none 0 0, .int .i64 0, .slice none 0 0, .slice none 0 0]), (C1, [.int .i64 (j : Int), .int .i64 (k : Int), .int .i64 tm, .int .i64 vt, .int .i64 2, .int .i64 (j : Int), .int .i64 ti, .int .i64 vs, .slice ga gl gc, .int .i64 cm, .slice na nl nc, .slice ma ml mc])] rfl (fun W hX hO => ?_)
  clear hO
  replace hf := hf.sub (env' := [(2, .pointer (some ⟨C2, 0, none⟩)), (1, .pointer (some ⟨C1, 0, none⟩))]) (sub_cons rfl (sub_cons rfl (sub_nil)))
  refine sv_nil hf ?_
  refine wp_seq ?_
  refine wp_region_lit ?_
  refine sv_fld hf rfl Try.underlying25 rfl sz_int (6) rfl (by decide) (fun a hf => ?_)
  refine sv_scB (cs' := [.int .i64 (j : Int), .int .i64 (k : Int), .int .i64 tm, .int .i64 vt, .int .i64 2, .int .i64 (j : Int), .int .i64 1, .int .i64 vs, .slice ga gl gc, .int .i64 cm, .slice na nl nc, .slice ma ml mc]) hf hX rfl rfl 1 rfl (of_decide_eq_true rfl) rfl info_int rfl [(C2, [.int .i64 0, .int .i64 0, .int .i64 0, .int .i64 0, .int .i64 0, .int .i64 0, .int .i64 0, .int .i64 0, .slice none 0 0, .int .i64 0, .slice none 0 0, .slice none 0 0]), (C1, [.int .i64 (j : Int), .int .i64 (k : Int), .int .i64 tm, .int .i64 vt, .int .i64 2, .int .i64 (j : Int), .int .i64 1, .int .i64 vs, .slice ga gl gc, .int .i64 cm, .slice na nl nc, .slice ma ml mc])] rfl (fun W hX hO => ?_)
  clear hO
  replace hf := hf.sub (env' := [(2, .pointer (some ⟨C2, 0, none⟩)), (1, .pointer (some ⟨C1, 0, none⟩))]) (sub_cons rfl (sub_cons rfl (sub_nil)))
  refine sv_nil hf ?_
  refine wp_seq ?_
  refine wp_region_lit ?_
  refine sv_fld hf rfl Try.underlying25 rfl sz_ints (10) rfl (by decide) (fun a hf => ?_)
  refine sv_scB (cs' := [.int .i64 (j : Int), .int .i64 (k : Int), .int .i64 tm, .int .i64 vt, .int .i64 2, .int .i64 (j : Int), .int .i64 1, .int .i64 vs, .slice ga gl gc, .int .i64 cm, .slice none 0 0, .slice ma ml mc]) hf hX rfl rfl 1 rfl (of_decide_eq_true rfl) rfl info_ints rfl [(C2, [.int .i64 0, .int .i64 0, .int .i64 0, .int .i64 0, .int .i64 0, .int .i64 0, .int .i64 0, .int .i64 0, .slice none 0 0, .int .i64 0, .slice none 0 0, .slice none 0 0]), (C1, [.int .i64 (j : Int), .int .i64 (k : Int), .int .i64 tm, .int .i64 vt, .int .i64 2, .int .i64 (j : Int), .int .i64 1, .int .i64 vs, .slice ga gl gc, .int .i64 cm, .slice none 0 0, .slice ma ml mc])] rfl (fun W hX hO => ?_)
  clear hO
  replace hf := hf.sub (env' := [(2, .pointer (some ⟨C2, 0, none⟩)), (1, .pointer (some ⟨C1, 0, none⟩))]) (sub_cons rfl (sub_cons rfl (sub_nil)))
  refine sv_nil hf ?_
  refine wp_seq ?_
  refine wp_region_lit ?_
  refine sv_fld hf rfl Try.underlying25 rfl sz_ints (11) rfl (by decide) (fun a hf => ?_)
  refine sv_scB (cs' := [.int .i64 (j : Int), .int .i64 (k : Int), .int .i64 tm, .int .i64 vt, .int .i64 2, .int .i64 (j : Int), .int .i64 1, .int .i64 vs, .slice ga gl gc, .int .i64 cm, .slice none 0 0, .slice none 0 0]) hf hX rfl rfl 1 rfl (of_decide_eq_true rfl) rfl info_ints rfl [(C2, [.int .i64 0, .int .i64 0, .int .i64 0, .int .i64 0, .int .i64 0, .int .i64 0, .int .i64 0, .int .i64 0, .slice none 0 0, .int .i64 0, .slice none 0 0, .slice none 0 0]), (C1, [.int .i64 (j : Int), .int .i64 (k : Int), .int .i64 tm, .int .i64 vt, .int .i64 2, .int .i64 (j : Int), .int .i64 1, .int .i64 vs, .slice ga gl gc, .int .i64 cm, .slice none 0 0, .slice none 0 0])] rfl (fun W hX hO => ?_)
  clear hO
  replace hf := hf.sub (env' := [(2, .pointer (some ⟨C2, 0, none⟩)), (1, .pointer (some ⟨C1, 0, none⟩))]) (sub_cons rfl (sub_cons rfl (sub_nil)))
  refine sv_nil hf ?_
  refine wp_seq ?_
  refine wp_seq ?_
  refine wp_region_lit ?_
  refine sv_ac hf (by decide) (fun a hf => ?_)
  refine sv_nil hf ?_
  obtain ⟨B, hB⟩ : ∃ n, n = W.heap.size := ⟨_, rfl⟩
  have hc1 : C1 < B := by have := (hX.get (i := 1) rfl).lt; omega
  have hc2 : C2 < B := by have := (hX.get (i := 0) rfl).lt; omega
  have hn : NM B W (.slice none 0 0) (.slice none 0 0) (nextL gl 0) ((matchL gl k j).take 0) := by rw [hB]; exact NM.start W
  refine wp_block (wp_loop (fun a X => ∃ (q : Nat) (pa : Option Addr) (pl pc : Nat) (sa : Option Addr) (sl sc : Nat), q ≤ k ∧ FrV 43 [(1, .pointer (some ⟨C1, 0, none⟩)), (2, .pointer (some ⟨C2, 0, none⟩)), (3, .int .i64 (q : Int))] a ∧ Bx ⟨w, []⟩ [(C2, [.int .i64 0, .int .i64 0, .int .i64 0, .int .i64 0, .int .i64 0, .int .i64 0, .int .i64 0, .int .i64 0, .slice none 0 0, .int .i64 0, .slice none 0 0, .slice none 0 0]), (C1, [.int .i64 (j : Int), .int .i64 (k : Int), .int .i64 tm, .int .i64 vt, .int .i64 2, .int .i64 (j : Int), .int .i64 1, .int .i64 vs, .slice ga gl gc, .int .i64 cm, .slice pa pl pc, .slice sa sl sc])] X ∧ NM B X (.slice pa pl pc) (.slice sa sl sc) (nextL gl q) ((matchL gl k j).take q)) (fun a _ => k - (intOf (a.eval (.tmp 3))).toNat) ⟨0, _, _, _, _, _, _, Nat.zero_le _, hf.sub (sub_cons rfl (sub_cons rfl (sub_cons rfl sub_nil))), hX, hn⟩ ?_)
  clear hX hn hB
  rintro a W ⟨q, pa, pl, pc, sa, sl, sc, hq, hf, hX, hn⟩
  have hq20 : a.eval (.tmp 3) = .int .i64 (q : Int) := hf.rel 3 _ rfl
  rcases Nat.lt_or_ge q k with hlt | hge
  ·
    refine wp_seq (wp_seq ?_)
    refine wp_region_lit ?_
    refine sv_mv hf rfl (by decide) (fun a hf => ?_)
    refine sv_fld hf rfl Try.underlying25 rfl sz_int (1) rfl (by decide) (fun a hf => ?_)
    refine sv_lc hf hX rfl 1 rfl rfl Try.underlying3 rfl (by decide) (fun a hf => ?_)
    refine sv_cmp hf rfl rfl true (congrArg some (decide_eq_true (by omega))) (by decide) (fun a hf => ?_)
    refine sv_nil hf ?_
    refine wp_cond_true (hf.rel _ _ rfl) (wp_skip ?_)
    refine wp_seq (wp_block ?_)
    refine wp_seq ?_
    refine wp_region_lit ?_
    refine sv_fld hf rfl Try.underlying25 rfl sz_ints (10) rfl (by decide) (fun a hf => ?_)
    refine sv_lc hf hX rfl 1 rfl rfl Try.underlying23 rfl (by decide) (fun a hf => ?_)
    refine sv_fld hf rfl Try.underlying25 rfl sz_ents (8) rfl (by decide) (fun a hf => ?_)
    refine sv_lc hf hX rfl 1 rfl rfl Try.underlying22 rfl (by decide) (fun a hf => ?_)
    refine sv_len hf rfl Try.underlying22 (by decide) (fun a hf => ?_)
    refine sv_bsi (m := ((gl : Nat) : Int)) hf hX rfl Try.underlying23 infoI3 (by decide) (fun a G3 W hC hf hX hA => ?_)
    replace hn := hn.below hA
    clear hC hA
    refine sv_app (v := .slice pa pl pc) (xs := (nextL gl q : List Int).map (.int .i64 ·)) (n := (nextL gl q : List Int).length) hf hX rfl rfl Try.underlying23 infoI3 hn.a (by rw [nextL_len]; omega) hn.ge (Nat.le_of_lt (Nat.lt_of_le_of_lt (hX.ge _ (List.mem_of_getElem? (i := 2) rfl)) hc1)) (fun q hq e => ?_) rfl rfl (by decide) (fun a v4 W hf hX ho hg hu hs => ?_)
    · have := (hn.a.lt _ e).1; simp only [List.mem_cons, List.not_mem_nil, or_false] at hq; rcases hq with rfl | rfl <;> omega
    replace hn := hn.left hg ho hu
    rw [nextL_step] at hn
    clear ho hg hu
    obtain ⟨av4, cv4, rfl⟩ := hs
    refine sv_fld hf rfl Try.underlying25 rfl sz_ints (10) rfl (by decide) (fun a hf => ?_)
    refine sv_scB (cs' := [.int .i64 (j : Int), .int .i64 (k : Int), .int .i64 tm, .int .i64 vt, .int .i64 2, .int .i64 (j : Int), .int .i64 1, .int .i64 vs, .slice ga gl gc, .int .i64 cm, .slice av4 ((nextL gl q : List Int).length + 1) cv4, .slice sa sl sc]) hf hX rfl rfl 1 rfl (of_decide_eq_true rfl) rfl info_ints rfl [(C2, [.int .i64 0, .int .i64 0, .int .i64 0, .int .i64 0, .int .i64 0, .int .i64 0, .int .i64 0, .int .i64 0, .slice none 0 0, .int .i64 0, .slice none 0 0, .slice none 0 0]), (C1, [.int .i64 (j : Int), .int .i64 (k : Int), .int .i64 tm, .int .i64 vt, .int .i64 2, .int .i64 (j : Int), .int .i64 1, .int .i64 vs, .slice ga gl gc, .int .i64 cm, .slice av4 ((nextL gl q : List Int).length + 1) cv4, .slice sa sl sc])] rfl (fun W hX hO => ?_)
    replace hn := hn.only hO (by omega)
    clear hO
    replace hf := hf.sub (env' := [(24, .pointer (some ⟨C1, 10, none⟩)), (23, .slice av4 ((nextL gl q : List Int).length + 1) cv4), (22, .slice (some ⟨G3, 0, none⟩) 1 1), (21, .int .i64 ((gl : Nat) : Int)), (20, .slice ga gl gc), (19, .pointer (some ⟨C1, 8, none⟩)), (18, .slice pa pl pc), (17, .pointer (some ⟨C1, 10, none⟩)), (13, .int .i64 (k : Int)), (12, .pointer (some ⟨C1, 1, none⟩)), (11, .int .i64 (q : Int)), (1, .pointer (some ⟨C1, 0, none⟩)), (2, .pointer (some ⟨C2, 0, none⟩)), (3, .int .i64 (q : Int))]) (sub_cons rfl (sub_cons rfl (sub_cons rfl (sub_cons rfl (sub_cons rfl (sub_cons rfl (sub_cons rfl (sub_cons rfl (sub_cons rfl (sub_cons rfl (sub_cons rfl (sub_cons rfl (sub_cons rfl (sub_cons rfl (sub_nil)))))))))))))))
    refine sv_nil hf ?_
    refine wp_seq ?_
    refine wp_region_lit ?_
    refine sv_mv hf rfl (by decide) (fun a hf => ?_)
    refine sv_fld hf rfl Try.underlying25 rfl sz_int (0) rfl (by decide) (fun a hf => ?_)
    refine sv_lc hf hX rfl 1 rfl rfl Try.underlying3 rfl (by decide) (fun a hf => ?_)
    rcases Decidable.em ((q : Int) = (j : Int)) with h5 | h5
    ·
      refine sv_cmp hf rfl rfl true (congrArg some (decide_eq_true h5)) (by decide) (fun a hf => ?_)
      refine sv_nil hf ?_
      refine wp_cond_true (hf.rel _ _ rfl) ?_
      refine wp_region_lit ?_
      refine sv_fld hf rfl Try.underlying25 rfl sz_ints (11) rfl (by decide) (fun a hf => ?_)
      refine sv_lc hf hX rfl 1 rfl rfl Try.underlying23 rfl (by decide) (fun a hf => ?_)
      refine sv_fld hf rfl Try.underlying25 rfl sz_ents (8) rfl (by decide) (fun a hf => ?_)
      refine sv_lc hf hX rfl 1 rfl rfl Try.underlying22 rfl (by decide) (fun a hf => ?_)
      refine sv_len hf rfl Try.underlying22 (by decide) (fun a hf => ?_)
      refine sv_bsi (m := ((gl : Nat) : Int)) hf hX rfl Try.underlying23 infoI3 (by decide) (fun a G6 W hC hf hX hA => ?_)
      replace hn := hn.below hA
      clear hC hA
      refine sv_app (v := .slice sa sl sc) (xs := ((matchL gl k j).take q : List Int).map (.int .i64 ·)) (n := ((matchL gl k j).take q : List Int).length) hf hX rfl rfl Try.underlying23 infoI3 hn.b (by rw [matchT_len _ _ (by omega)]; omega) hn.ge (Nat.le_of_lt (Nat.lt_of_le_of_lt (hX.ge _ (List.mem_of_getElem? (i := 2) rfl)) hc1)) (fun q hq e => ?_) rfl rfl (by decide) (fun a v7 W hf hX ho hg hu hs => ?_)
      · have := (hn.b.lt _ e).1; simp only [List.mem_cons, List.not_mem_nil, or_false] at hq; rcases hq with rfl | rfl <;> omega
      replace hn := hn.right hg ho hu
      rw [matchL_eq gl hlt h5] at hn
      clear ho hg hu
      obtain ⟨av7, cv7, rfl⟩ := hs
      refine sv_fld hf rfl Try.underlying25 rfl sz_ints (11) rfl (by decide) (fun a hf => ?_)
      refine sv_scB (cs' := [.int .i64 (j : Int), .int .i64 (k : Int), .int .i64 tm, .int .i64 vt, .int .i64 2, .int .i64 (j : Int), .int .i64 1, .int .i64 vs, .slice ga gl gc, .int .i64 cm, .slice av4 ((nextL gl q : List Int).length + 1) cv4, .slice av7 (((matchL gl k j).take q : List Int).length + 1) cv7]) hf hX rfl rfl 1 rfl (of_decide_eq_true rfl) rfl info_ints rfl [(C2, [.int .i64 0, .int .i64 0, .int .i64 0, .int .i64 0, .int .i64 0, .int .i64 0, .int .i64 0, .int .i64 0, .slice none 0 0, .int .i64 0, .slice none 0 0, .slice none 0 0]), (C1, [.int .i64 (j : Int), .int .i64 (k : Int), .int .i64 tm, .int .i64 vt, .int .i64 2, .int .i64 (j : Int), .int .i64 1, .int .i64 vs, .slice ga gl gc, .int .i64 cm, .slice av4 ((nextL gl q : List Int).length + 1) cv4, .slice av7 (((matchL gl k j).take q : List Int).length + 1) cv7])] rfl (fun W hX hO => ?_)
      replace hn := hn.only hO (by omega)
      clear hO
      refine sv_nil hf ?_
      refine wp_region_lit ?_
      refine sv_mv hf rfl (by decide) (fun a hf => ?_)
      refine sv_add ((q + 1 : Nat) : Int) hf rfl rfl (by rw [wrap_in (by omega)]; rfl) (by decide) (fun a hf => ?_)
      refine sv_as hf rfl (by decide) (fun a hf => ?_)
      refine sv_nil hf ?_
      refine ⟨⟨q + 1, _, _, _, _, _, _, hlt, hf.sub (sub_cons rfl (sub_cons rfl (sub_cons rfl sub_nil))), hX, hn⟩, ?_⟩
      have h5 : a.eval (.tmp 3) = .int .i64 ((q + 1 : Nat) : Int) := hf.rel 3 _ rfl
      rw [h5, hq20]; simp only [intOf, Int.toNat_natCast]; omega
    ·
      refine sv_cmp hf rfl rfl false (congrArg some (decide_eq_false h5)) (by decide) (fun a hf => ?_)
      refine sv_nil hf ?_
      refine wp_cond_false (hf.rel _ _ rfl) ?_
      refine wp_region_lit ?_
      refine sv_fld hf rfl Try.underlying25 rfl sz_ints (11) rfl (by decide) (fun a hf => ?_)
      refine sv_lc hf hX rfl 1 rfl rfl Try.underlying23 rfl (by decide) (fun a hf => ?_)
      refine sv_bsi (m := 0) hf hX rfl Try.underlying23 infoI3 (by decide) (fun a G8 W hC hf hX hA => ?_)
      replace hn := hn.below hA
      clear hC hA
      refine sv_app (v := .slice sa sl sc) (xs := ((matchL gl k j).take q : List Int).map (.int .i64 ·)) (n := ((matchL gl k j).take q : List Int).length) hf hX rfl rfl Try.underlying23 infoI3 hn.b (by rw [matchT_len _ _ (by omega)]; omega) hn.ge (Nat.le_of_lt (Nat.lt_of_le_of_lt (hX.ge _ (List.mem_of_getElem? (i := 2) rfl)) hc1)) (fun q hq e => ?_) rfl rfl (by decide) (fun a v9 W hf hX ho hg hu hs => ?_)
      · have := (hn.b.lt _ e).1; simp only [List.mem_cons, List.not_mem_nil, or_false] at hq; rcases hq with rfl | rfl <;> omega
      replace hn := hn.right hg ho hu
      rw [matchL_ne gl hlt h5] at hn
      clear ho hg hu
      obtain ⟨av9, cv9, rfl⟩ := hs
      refine sv_fld hf rfl Try.underlying25 rfl sz_ints (11) rfl (by decide) (fun a hf => ?_)
      refine sv_scB (cs' := [.int .i64 (j : Int), .int .i64 (k : Int), .int .i64 tm, .int .i64 vt, .int .i64 2, .int .i64 (j : Int), .int .i64 1, .int .i64 vs, .slice ga gl gc, .int .i64 cm, .slice av4 ((nextL gl q : List Int).length + 1) cv4, .slice av9 (((matchL gl k j).take q : List Int).length + 1) cv9]) hf hX rfl rfl 1 rfl (of_decide_eq_true rfl) rfl info_ints rfl [(C2, [.int .i64 0, .int .i64 0, .int .i64 0, .int .i64 0, .int .i64 0, .int .i64 0, .int .i64 0, .int .i64 0, .slice none 0 0, .int .i64 0, .slice none 0 0, .slice none 0 0]), (C1, [.int .i64 (j : Int), .int .i64 (k : Int), .int .i64 tm, .int .i64 vt, .int .i64 2, .int .i64 (j : Int), .int .i64 1, .int .i64 vs, .slice ga gl gc, .int .i64 cm, .slice av4 ((nextL gl q : List Int).length + 1) cv4, .slice av9 (((matchL gl k j).take q : List Int).length + 1) cv9])] rfl (fun W hX hO => ?_)
      replace hn := hn.only hO (by omega)
      clear hO
      refine sv_nil hf ?_
      refine wp_region_lit ?_
      refine sv_mv hf rfl (by decide) (fun a hf => ?_)
      refine sv_add ((q + 1 : Nat) : Int) hf rfl rfl (by rw [wrap_in (by omega)]; rfl) (by decide) (fun a hf => ?_)
      refine sv_as hf rfl (by decide) (fun a hf => ?_)
      refine sv_nil hf ?_
      refine ⟨⟨q + 1, _, _, _, _, _, _, hlt, hf.sub (sub_cons rfl (sub_cons rfl (sub_cons rfl sub_nil))), hX, hn⟩, ?_⟩
      have h5 : a.eval (.tmp 3) = .int .i64 ((q + 1 : Nat) : Int) := hf.rel 3 _ rfl
      rw [h5, hq20]; simp only [intOf, Int.toNat_natCast]; omega
  ·
    refine wp_seq (wp_seq ?_)
    refine wp_region_lit ?_
    refine sv_mv hf rfl (by decide) (fun a hf => ?_)
    refine sv_fld hf rfl Try.underlying25 rfl sz_int (1) rfl (by decide) (fun a hf => ?_)
    refine sv_lc hf hX rfl 1 rfl rfl Try.underlying3 rfl (by decide) (fun a hf => ?_)
    refine sv_cmp hf rfl rfl false (congrArg some (decide_eq_false (by omega))) (by decide) (fun a hf => ?_)
    refine sv_nil hf ?_
    refine wp_cond_false (hf.rel _ _ rfl) (wp_exit ?_)
    simp only [Exit.inBlock, Exit.then, ↓reduceIte]
    obtain rfl : k = q := by omega
    refine wp_seq ?_
    refine wp_region_lit ?_
    refine sv_lr hf hX rfl 1 rfl Try.underlying25 info_mem (by decide) (fun a hf => ?_)
    refine sv_srB hf hX rfl rfl 0 rfl rfl info_mem (fun v hv => List.all_eq_true.1 (show List.all [.int .i64 (j : Int), .int .i64 (k : Int), .int .i64 tm, .int .i64 vt, .int .i64 2, .int .i64 (j : Int), .int .i64 1, .int .i64 vs, .slice ga gl gc, .int .i64 cm, .slice pa pl pc, .slice sa sl sc] (·.oneCell') = true from rfl) v hv) [(C2, [.int .i64 (j : Int), .int .i64 (k : Int), .int .i64 tm, .int .i64 vt, .int .i64 2, .int .i64 (j : Int), .int .i64 1, .int .i64 vs, .slice ga gl gc, .int .i64 cm, .slice pa pl pc, .slice sa sl sc]), (C1, [.int .i64 (j : Int), .int .i64 (k : Int), .int .i64 tm, .int .i64 vt, .int .i64 2, .int .i64 (j : Int), .int .i64 1, .int .i64 vs, .slice ga gl gc, .int .i64 cm, .slice pa pl pc, .slice sa sl sc])] rfl (fun W hX hO => ?_)
    replace hn := hn.only hO (by omega)
    clear hO
    replace hf := hf.sub (env' := [(2, .pointer (some ⟨C2, 0, none⟩))]) (sub_cons rfl (sub_nil))
    refine sv_nil hf ?_
    refine wp_ret ?_
    try simp only [Exit.inBlock, Exit.then]
    rw [matchL_all] at hn
    obtain ⟨r1, g1, hg1, hh1⟩ := hn.a.int (by rw [nextL_len]; omega)
    obtain ⟨r2, g2, hg2, hh2⟩ := hn.b.int (by rw [matchL_len]; omega)
    have hwB : w.heap.size ≤ B := Nat.le_of_lt (Nat.lt_of_le_of_lt (hX.ge _ (List.mem_of_getElem? (i := 1) rfl)) hc1)
    exact bodyPost_ret (res_cell (c := 2) (C := C2) (cs := [.int .i64 (j : Int), .int .i64 (k : Int), .int .i64 tm, .int .i64 vt, .int .i64 2, .int .i64 (j : Int), .int .i64 1, .int .i64 vs, .slice ga gl gc, .int .i64 cm, .slice pa pl pc, .slice sa sl sc]) (T := 25) rfl (hf.rel 2 _ rfl) (hX.get (i := 0) rfl) Try.underlying25 info_mem) hf.defers ⟨_, _, rfl, r1, r2, ⟨g1, hg1, by omega⟩, ⟨g2, hg2, by omega⟩, hX.low⟩
end Go.Proofs.Ytfpgklhbghahoaa
/- Bits of small numbers: 1 << n, or, int as uint64 (plain). -/
namespace Go.Proofs.Ytfpgklhbghahoaa
open Go.ChangeShapes Go.WideShapes Go.ChangeAt Go.RowKit Go.ChangeMaps Go.Joins Go.Deep
set_option linter.unusedVariables false
set_option linter.unusedSimpArgs false
set_option maxRecDepth 100000
/-- the bits of two numbers together -/
def orB (x y : Int) : Int := IntKind.i64.wrap (BitVec.ofInt 64 x ||| BitVec.ofInt 64 y).toNat
theorem orB_small : ∀ sz < 8, ∀ vs < 128, ∀ xf < 7, (decide (vs < 2 ^ sz) && decide (xf < sz)) = true → (decide (0 ≤ orB (vs : Nat) ((2 ^ xf : Nat) : Int)) && decide (orB (vs : Nat) ((2 ^ xf : Nat) : Int) < ((2 ^ sz : Nat) : Int))) = true := by decide +kernel
theorem orB_in {vs xf sz : Int} (h0 : 0 ≤ vs) (h1 : 1 ≤ sz) (h7 : sz ≤ 7) (h : vs < 2 ^ sz.toNat) (hx0 : 0 ≤ xf) (hx : xf < sz) : 0 ≤ orB vs (2 ^ xf.toNat) ∧ orB vs (2 ^ xf.toNat) < 2 ^ sz.toNat := by
  obtain ⟨n, rfl⟩ : ∃ n : Nat, vs = n := ⟨vs.toNat, by omega⟩
  have h2 : n < 2 ^ sz.toNat := by exact_mod_cast h
  have h3 : 2 ^ sz.toNat ≤ 2 ^ 7 := Nat.pow_le_pow_right (by decide) (by omega)
  have := orB_small sz.toNat (by omega) n (by omega) xf.toNat (by omega) (by simp only [Bool.and_eq_true, decide_eq_true_eq]; exact ⟨h2, by omega⟩)
  simp only [Bool.and_eq_true, decide_eq_true_eq] at this
  simpa using this
theorem pow7 {sz : Int} (h7 : sz ≤ 7) {v : Int} (h : v < 2 ^ sz.toNat) : v < 128 := by
  have h3 : 2 ^ sz.toNat ≤ 2 ^ 7 := Nat.pow_le_pow_right (by decide) (by omega)
  have h4 : ((2 ^ sz.toNat : Nat) : Int) ≤ 128 := by exact_mod_cast h3
  have h5 : ((2 ^ sz.toNat : Nat) : Int) = 2 ^ sz.toNat := by simp
  omega
section
variable {P : Program} {w : World} {o : Oper} {a : Act} {N : Nat} {env : VEnv}
theorem ex_or {xT zT : TypeId} {x z : Operand} {m n r : Int} (hf : FrV N env a) (ho : o.op = .binOp .or xT x z zT) (hx : ev env x = some (.int .i64 m)) (hz : ev env z = some (.int .i64 n)) (hr : orB m n = r) : (execOp a.eval o).run P w = .ok (.value (.int .i64 r)) w := by
  subst hr
  unfold execOp
  simp only [ho, hf.ev hx, hf.ev hz]
  rfl
theorem ex_shl {xT zT : TypeId} {x z : Operand} {n r : Int} (hf : FrV N env a) (ho : o.op = .binOp .shl xT x z zT) (hx : ev env x = some (.int .i64 1)) (hz : ev env z = some (.int .i64 n)) (h0 : 0 ≤ n) (h7 : n < 7) (hr : 2 ^ n.toNat = r) : (execOp a.eval o).run P w = .ok (.value (.int .i64 r)) w := by
  obtain ⟨k, rfl⟩ : ∃ k : Nat, n = k := ⟨n.toNat, by omega⟩
  subst hr
  have hk : k < 7 := by omega
  clear h0 h7
  have hsh : (Op.shift .shl .i64 1 .i64 (k : Int)) = pure (.int .i64 (2 ^ (k : Int).toNat)) := by
    revert hk
    match k with
    | 0 => intro _; rfl
    | 1 => intro _; rfl
    | 2 => intro _; rfl
    | 3 => intro _; rfl
    | 4 => intro _; rfl
    | 5 => intro _; rfl
    | 6 => intro _; rfl
    | k + 7 => intro h; omega
  unfold execOp
  simp only [ho, hf.ev hx, hf.ev hz]
  have hb : binOp .shl xT (.int .i64 1) (.int .i64 (k : Int)) = Op.shift .shl .i64 1 .i64 (k : Int) := rfl
  rw [hb, hsh]
  rfl
theorem ex_conv {S D : TypeId} {x : Operand} {n : Int} (hf : FrV N env a) (ho : o.op = .convert S D x) (hx : ev env x = some (.int .i64 n)) (hS : P.underlying S = some (.int .i64)) (hD : P.underlying D = some (.int .u64)) (h0 : 0 ≤ n) (h7 : n < 128) : (execOp a.eval o).run P w = .ok (.value (.int .u64 n)) w := by
  unfold execOp
  simp only [ho, hf.ev hx]
  have e1 : (underlying S).run P w = .ok (.int .i64) w := by simp [go_sem, underlying, hS]
  have e2 : (underlying D).run P w = .ok (.int .u64) w := by simp [go_sem, underlying, hD]
  simp only [convert, Sem.run_bind, e1, e2, Result.andThen_ok, Conv.intToInt, Sem.run_pure]
  rw [show IntKind.u64.wrap n = n from by simp [IntKind.wrap, IntKind.bits]; omega]
end
end Go.Proofs.Ytfpgklhbghahoaa
/- Election: Voted, of the program and of the document. -/
namespace Go.Proofs.Ytfpgklhbghahoaa
open Go.ChangeShapes Go.WideShapes Go.ChangeAt Go.RowKit Go.ChangeMaps Go.Joins Go.Deep
set_option linter.unusedVariables false
set_option linter.unusedSimpArgs false
set_option maxRecDepth 100000
theorem Bx.lts {b : Base} {W : World} {l : List (Nat × List Value)} (h : Bx b l W) : ∀ x ∈ l, x.1 < W.heap.size := fun x hx => (h.box x hx).lt
theorem ones_n {v2 sz n2 : Int} (h0 : 0 ≤ v2) (h1 : 1 ≤ sz) (h7 : sz ≤ 7) (h : v2 < 2 ^ sz.toNat) (hn : n2 = cntB v2 sz.toNat) (w : World) : Calls Try.prog 42 #[.int .u64 v2] w fun e w' => e = .returned (.int .i64 n2) ∧ w = w' := by
  have := ones_at v2 w h0 (pow7 h7 h)
  rwa [cntB_all v2 sz h0 h1 h7 h, ← hn] at this
theorem votes_n {v2 sz n2 : Int} (h0 : 0 ≤ v2) (h1 : 1 ≤ sz) (h7 : sz ≤ 7) (hn : n2 = cntB v2 sz.toNat) (w : World) : Calls Try.prog 34 #[.int .i64 v2, .int .i64 sz] w fun e w' => e = .returned (.int .i64 n2) ∧ w = w' := by
  have := votes_at v2 sz w h0 h1 h7
  rwa [← hn] at this
theorem win_int (id sz tm vt rl ld ti vs : Int) (ga : Option Addr) (gl gc : Nat) (cm : Int) (na : Option Addr) (nl nc : Nat) (ma : Option Addr) (ml mc : Nat) (w : World) (h0 : 0 ≤ id) (hid : id < sz) (h7 : sz ≤ 7) : Calls Try.prog 43 #[mem id sz tm vt rl ld ti vs (.slice ga gl gc) cm (.slice na nl nc) (.slice ma ml mc)] w fun e w' => ∃ pa pl pc sa sl sc, e = .returned (mem id sz tm vt 2 id 1 vs (.slice ga gl gc) cm (.slice pa pl pc) (.slice sa sl sc)) ∧ IntRow w' (.slice pa pl pc) (nextL gl sz.toNat) ∧ IntRow w' (.slice sa sl sc) (matchL gl sz.toNat id.toNat) ∧ (∃ g, (Value.slice pa pl pc).ownBlock = some g ∧ w.heap.size ≤ g) ∧ (∃ g, (Value.slice sa sl sc).ownBlock = some g ∧ w.heap.size ≤ g) ∧ Below w.heap.size w w' := by
  obtain ⟨j, rfl⟩ := Int.eq_ofNat_of_zero_le h0
  obtain ⟨k, rfl⟩ := Int.eq_ofNat_of_zero_le (show 0 ≤ sz by omega)
  refine (win_any j k tm vt rl ld ti vs ga gl gc cm na nl nc ma ml mc w (by omega) (by omega)).mono ?_
  rintro e w' ⟨nv, mv, rfl, ⟨g1, c1, rfl, r1⟩, ⟨g2, c2, rfl, r2⟩, h1, h2, hb⟩
  exact ⟨_, _, _, _, _, _, rfl, ⟨g1, c1, rfl, r1⟩, ⟨g2, c2, rfl, r2⟩, h1, h2, hb⟩
theorem primary_int (id sz tm vt rl ld ti vs : Int) (ga : Option Addr) (gl gc : Nat) (cm : Int) (na : Option Addr) (nl nc : Nat) (ma : Option Addr) (ml mc : Nat) (w : World) (h0 : 0 ≤ id) (hid : id < sz) (h7 : sz ≤ 7) : Calls Try.prog 44 #[mem id sz tm vt rl ld ti vs (.slice ga gl gc) cm (.slice na nl nc) (.slice ma ml mc)] w fun e w' => ∃ pa pl pc sa sl sc, e = .returned (mem id sz tm vt 2 id 1 vs (.slice ga gl gc) cm (.slice pa pl pc) (.slice sa sl sc)) ∧ IntRow w' (.slice pa pl pc) (nextL gl sz.toNat) ∧ IntRow w' (.slice sa sl sc) (matchL gl sz.toNat id.toNat) ∧ (∃ g, (Value.slice pa pl pc).ownBlock = some g ∧ w.heap.size ≤ g) ∧ (∃ g, (Value.slice sa sl sc).ownBlock = some g ∧ w.heap.size ≤ g) ∧ Below w.heap.size w w' := by
  obtain ⟨j, rfl⟩ := Int.eq_ofNat_of_zero_le h0
  obtain ⟨k, rfl⟩ := Int.eq_ofNat_of_zero_le (show 0 ≤ sz by omega)
  refine (primary_any j k tm vt rl ld ti vs ga gl gc cm na nl nc ma ml mc w (by omega) (by omega)).mono ?_
  rintro e w' ⟨nv, mv, rfl, ⟨g1, c1, rfl, r1⟩, ⟨g2, c2, rfl, r2⟩, h1, h2, hb⟩
  exact ⟨_, _, _, _, _, _, rfl, ⟨g1, c1, rfl, r1⟩, ⟨g2, c2, rfl, r2⟩, h1, h2, hb⟩
/-- which way a vote that came in goes: 0 nothing, 1 a later term, 2 one more vote, 3 a win -/
def VCase (xk xt tm rl : Int) (xok : Bool) (n2 mj : Int) : Nat := if xk = 2 then (if tm < xt then 1 else if rl = 1 ∧ xt = tm ∧ xok = true then (if mj ≤ n2 then 3 else 2) else 0) else 0
/-- what the member is then -/
def VR (W : World) (c : Nat) (id sz tm vt rl ld ti vs v2 cm xt : Int) (ga : Option Addr) (gl gc : Nat) (na : Option Addr) (nl nc : Nat) (ma : Option Addr) (ml mc : Nat) (cs : List Value) : Prop :=
  (c = 0 ∧ cs = memL id sz tm vt rl ld ti vs (.slice ga gl gc) cm (.slice na nl nc) (.slice ma ml mc)) ∨
  (c = 1 ∧ cs = memL id sz (fTm tm xt) (fVt tm xt vt) (fRl tm xt rl) (fLd tm xt ld) (fTi tm xt rl ti id) (fVs tm xt vs) (.slice ga gl gc) cm (.slice (fA tm xt na) (fN tm xt nl) (fN tm xt nc)) (.slice (fA tm xt ma) (fN tm xt ml) (fN tm xt mc))) ∨
  (c = 2 ∧ cs = memL id sz tm vt rl ld ti v2 (.slice ga gl gc) cm (.slice na nl nc) (.slice ma ml mc)) ∨
  (c = 3 ∧ ∃ pa pl pc sa sl sc, cs = memL id sz tm vt 2 id 1 v2 (.slice ga gl gc) cm (.slice pa pl pc) (.slice sa sl sc) ∧ IntRow W (.slice pa pl pc) (nextL gl sz.toNat) ∧ IntRow W (.slice sa sl sc) (matchL gl sz.toNat id.toNat))
theorem VR.below {W W' : World} {c : Nat} {id sz tm vt rl ld ti vs v2 cm xt : Int} {ga : Option Addr} {gl gc : Nat} {na : Option Addr} {nl nc : Nat} {ma : Option Addr} {ml mc : Nat} {cs : List Value} (h : VR W c id sz tm vt rl ld ti vs v2 cm xt ga gl gc na nl nc ma ml mc cs) (hb : Below W.heap.size W W') : VR W' c id sz tm vt rl ld ti vs v2 cm xt ga gl gc na nl nc ma ml mc cs := by
  rcases h with h | h | h | ⟨h, pa, pl, pc, sa, sl, sc, h1, h2, h3⟩
  · exact .inl h
  · exact .inr (.inl h)
  · exact .inr (.inr (.inl h))
  · exact .inr (.inr (.inr ⟨h, pa, pl, pc, sa, sl, sc, h1, h2.below hb, h3.below hb⟩))
theorem wf_nat {n : Nat} (h : n ≤ 1000000) : (Lit.int .i64 (n : Int)).wf = true := wf_of (by omega)
theorem nextL_wf {n k : Nat} (h : n ≤ 1000000) : ∀ x ∈ nextL (n : Int) k, (Lit.int .i64 x).wf = true := by
  intro x hx
  rw [List.eq_of_mem_replicate hx]
  exact wf_nat h
theorem matchL_wf {n k j : Nat} (h : n ≤ 1000000) : ∀ x ∈ matchL (n : Int) k j, (Lit.int .i64 x).wf = true := by
  intro x hx
  rcases List.mem_or_eq_of_mem_set hx with hx | rfl
  · rw [List.eq_of_mem_replicate hx]; decide
  · exact wf_nat h
/-- both ways to the same case hold the same -/
theorem vr_eq {W : World} {c m : Nat} {id sz tm vt rl ld ti vs v2 cm xt : Int} {ga ga2 : Option Addr} {gl gc gc2 : Nat} {na na2 : Option Addr} {nl nc nc2 : Nat} {ma ma2 : Option Addr} {ml mc mc2 : Nat} {cs ds : List Value}
    (hw : ∀ x ∈ [id, sz, tm, vt, rl, ld, ti, vs, cm], (Lit.int .i64 x).wf = true) (hv : (Lit.int .i64 v2).wf = true) (hx : (Lit.int .i64 xt).wf = true) (h0 : 0 ≤ id) (h7 : id ≤ 7) (hs7 : sz ≤ 7) (hgl : gl ≤ 60)
    (h8 : EqC Try.prog W W TT TT (m + 1) 22 [.slice ga gl gc] [.slice ga2 gl gc2]) (h10 : EqC Try.prog W W TT TT (m + 1) 23 [.slice na nl nc] [.slice na2 nl nc2]) (h11 : EqC Try.prog W W TT TT (m + 1) 23 [.slice ma ml mc] [.slice ma2 ml mc2])
    (h : VR W c id sz tm vt rl ld ti vs v2 cm xt ga gl gc na nl nc ma ml mc cs) (h' : VR W c id sz tm vt rl ld ti vs v2 cm xt ga2 gl gc2 na2 nl nc2 ma2 ml mc2 ds) : ∃ n, EqC Try.prog W W TT TT n 25 ds cs := by
  have w0 : (Lit.int .i64 0).wf = true := by decide
  have w1 : (Lit.int .i64 1).wf = true := by decide
  have w2 : (Lit.int .i64 2).wf = true := by decide
  rcases h with ⟨hc, rfl⟩ | ⟨hc, rfl⟩ | ⟨hc, rfl⟩ | ⟨hc, pa, pl, pc, sa, sl, sc, rfl, r1, r2⟩ <;> rcases h' with ⟨hc', rfl⟩ | ⟨hc', rfl⟩ | ⟨hc', rfl⟩ | ⟨hc', pa', pl', pc', sa', sl', sc', rfl, r1', r2'⟩ <;> try (exfalso; omega)
  · exact ⟨_, EqC.symm _ _ _ _ (memEq hw h8 h10 h11)⟩
  · have hf := fol_wfs (xf := 0) (xt := xt) false hw h0 h7 hx w0
    simp only [Bool.false_eq_true, if_false] at hf
    exact ⟨_, EqC.symm _ _ _ _ (memEq hf h8 (fol_ints tm xt h10) (fol_ints tm xt h11))⟩
  · refine ⟨_, EqC.symm _ _ _ _ (memEq (fun x hx' => ?_) h8 h10 h11)⟩
    simp only [List.mem_cons, List.not_mem_nil, or_false] at hx' hw
    rcases hx' with rfl | rfl | rfl | rfl | rfl | rfl | rfl | rfl | rfl
    all_goals first | exact hv | exact hw _ (by simp)
  · refine ⟨_, EqC.symm _ _ _ _ (memEq (fun x hx' => ?_) (EqC.up _ _ _ _ h8) (intRow_eqC r1 r1' (nextL_wf (by omega)) (by rw [nextL_len]; omega)) (intRow_eqC r2 r2' (matchL_wf (by omega)) (by rw [matchL_len]; omega)))⟩
    simp only [List.mem_cons, List.not_mem_nil, or_false] at hx' hw
    rcases hx' with rfl | rfl | rfl | rfl | rfl | rfl | rfl | rfl | rfl
    all_goals first | exact hv | exact w2 | exact w1 | exact hw _ (by simp)
theorem voted_any (n : Nat) (id sz tm vt rl ld ti vs : Int) (ga : Option Addr) (gl gc : Nat) (cm : Int) (na : Option Addr) (nl nc : Nat) (ma : Option Addr) (ml mc : Nat) (xf xto xk xt xi xl xc : Int) (ea : Option Addr) (el ec : Nat) (xok : Bool) (W0 w : World) (hb0 : Below W0.heap.size W0 w) (hg : GoodC Try.prog W0 n 25 (memL id sz tm vt rl ld ti vs (.slice ga gl gc) cm (.slice na nl nc) (.slice ma ml mc))) (h0 : 0 ≤ id) (hid : id < sz) (h1 : 1 ≤ sz) (h7 : sz ≤ 7) (hv0 : 0 ≤ vs) (hvs : vs < 2 ^ sz.toNat) (hx0 : 0 ≤ xf) (hxs : xf < sz) (v2 n2 : Int) (hv2 : v2 = orB vs (2 ^ xf.toNat)) (hn2 : n2 = cntB v2 sz.toNat) (c : Nat) (hc : c = VCase xk xt tm rl xok n2 (maj sz)) :
    Calls Try.prog 22 #[mem id sz tm vt rl ld ti vs (.slice ga gl gc) cm (.slice na nl nc) (.slice ma ml mc), .agg #[.int .i64 xf, .int .i64 xto, .int .i64 xk, .int .i64 xt, .int .i64 xi, .int .i64 xl, .int .i64 xc, .slice ea el ec, .bool xok]] w fun e w' => ∃ ga2 gc2 na2 nc2 ma2 mc2 cs, e = .returned (.agg cs.toArray) ∧ VR w' c id sz tm vt rl ld ti vs v2 cm xt ga2 gl gc2 na2 nl nc2 ma2 ml mc2 cs ∧ (∃ m, EqC Try.prog w' w' (fun k => k < W0.heap.size) (fun k => w.heap.size ≤ k) (m + 1) 22 [.slice ga gl gc] [.slice ga2 gl gc2] ∧ EqC Try.prog w' w' (fun k => k < W0.heap.size) (fun k => w.heap.size ≤ k) (m + 1) 23 [.slice na nl nc] [.slice na2 nl nc2] ∧ EqC Try.prog w' w' (fun k => k < W0.heap.size) (fun k => w.heap.size ≤ k) (m + 1) 23 [.slice ma ml mc] [.slice ma2 ml mc2]) ∧ Below w.heap.size w w' := by
  have hb2 : 0 ≤ v2 ∧ v2 < 2 ^ sz.toNat := by rw [hv2]; exact orB_in hv0 h1 h7 hvs hx0 hxs
  have hv128 : v2 < 128 := pow7 h7 hb2.2
  refine calls_frv (N := 71) (vs := [.agg #[.int .i64 id, .int .i64 sz, .int .i64 tm, .int .i64 vt, .int .i64 rl, .int .i64 ld, .int .i64 ti, .int .i64 vs, .slice ga gl gc, .int .i64 cm, .slice na nl nc, .slice ma ml mc], .agg #[.int .i64 xf, .int .i64 xto, .int .i64 xk, .int .i64 xt, .int .i64 xi, .int .i64 xl, .int .i64 xc, .slice ea el ec, .bool xok]]) [(0, .agg #[.int .i64 id, .int .i64 sz, .int .i64 tm, .int .i64 vt, .int .i64 rl, .int .i64 ld, .int .i64 ti, .int .i64 vs, .slice ga gl gc, .int .i64 cm, .slice na nl nc, .slice ma ml mc]), (1, .agg #[.int .i64 xf, .int .i64 xto, .int .i64 xk, .int .i64 xt, .int .i64 xi, .int .i64 xl, .int .i64 xc, .slice ea el ec, .bool xok])] Try.func22 rfl rfl (of_decide_eq_true rfl) (fun p hp => by simp only [List.mem_cons, List.not_mem_nil, or_false] at hp; rcases hp with rfl | rfl <;> rfl) (fun a hf => ?_)
  have hX := Bx.start w
  refine wp_seq ?_
  refine wp_region_lit ?_
  refine sv_boxB hf hX rfl (by decide) (fun a C1 W hC hf hX hA => ?_)
  clear hC hA
  refine sv_boxB hf hX rfl (by decide) (fun a C2 W hC hf hX hA => ?_)
  clear hC hA
  refine sv_allocB (zs := [.int .i64 0, .int .i64 0, .int .i64 0, .int .i64 0, .int .i64 0, .int .i64 0, .int .i64 0, .int .i64 0, .slice none 0 0, .int .i64 0, .slice none 0 0, .slice none 0 0]) hf hX zero_mem (by decide) (fun a C3 W hC hf hX hA => ?_)
  clear hC hA
  replace hf := hf.sub (env' := [(4, .pointer (some ⟨C3, 0, none⟩)), (3, .pointer (some ⟨C2, 0, none⟩)), (2, .pointer (some ⟨C1, 0, none⟩))]) (sub_cons rfl (sub_cons rfl (sub_cons rfl (sub_nil))))
  refine sv_nil hf ?_
  refine wp_seq ?_
  refine wp_region_lit ?_
  refine sv_lr hf hX rfl 2 rfl Try.underlying25 info_mem (by decide) (fun a hf => ?_)
  have hsA : w.heap.size ≤ W.heap.size := hX.low.size
  obtain ⟨WA, hWA⟩ : ∃ X, X = W := ⟨_, rfl⟩
  rw [← hWA] at hsA
  refine sv_call hf fnOK_36 rfl (copyMember_let n _ _ _ _ _ _ _ _ _ _ _ _ _ _ _ _ _ _ W0 W (hb0.trans (hX.low.mono hb0.size)) hg) (by decide) ?_
  rintro e W2 ⟨ga2, gc2, na2, nc2, ma2, mc2, rfl, hE, hb⟩
  replace hX := hX.made hb
  clear hb
  rw [← hWA] at hE hX
  have HE := Lib.hid hE
  clear hE
  refine ⟨_, rfl, fun a hf => ?_⟩
  obtain ⟨WC, hWC⟩ : ∃ X, X = W2 := ⟨_, rfl⟩
  rw [← hWC] at HE hX
  obtain ⟨β, hβ⟩ : ∃ b : Base, b = ⟨w, [(WC, fun k => k < w.heap.size ∨ WA.heap.size ≤ k)]⟩ := ⟨_, rfl⟩
  replace hX : Bx β [(C3, [.int .i64 0, .int .i64 0, .int .i64 0, .int .i64 0, .int .i64 0, .int .i64 0, .int .i64 0, .int .i64 0, .slice none 0 0, .int .i64 0, .slice none 0 0, .slice none 0 0]), (C2, [.int .i64 xf, .int .i64 xto, .int .i64 xk, .int .i64 xt, .int .i64 xi, .int .i64 xl, .int .i64 xc, .slice ea el ec, .bool xok]), (C1, [.int .i64 id, .int .i64 sz, .int .i64 tm, .int .i64 vt, .int .i64 rl, .int .i64 ld, .int .i64 ti, .int .i64 vs, .slice ga gl gc, .int .i64 cm, .slice na nl nc, .slice ma ml mc])] W2 := by rw [hWC] at hX; rw [hβ, hWC]; exact hX
  have hmem : (WC, fun k => k < w.heap.size ∨ WA.heap.size ≤ k) ∈ β.bs := by rw [hβ]; exact List.mem_cons_self
  refine sv_srB hf hX rfl rfl 2 rfl rfl info_mem (fun v hv => List.all_eq_true.1 (show List.all [.int .i64 id, .int .i64 sz, .int .i64 tm, .int .i64 vt, .int .i64 rl, .int .i64 ld, .int .i64 ti, .int .i64 vs, .slice ga2 gl gc2, .int .i64 cm, .slice na2 nl nc2, .slice ma2 ml mc2] (·.oneCell') = true from rfl) v hv) [(C3, [.int .i64 0, .int .i64 0, .int .i64 0, .int .i64 0, .int .i64 0, .int .i64 0, .int .i64 0, .int .i64 0, .slice none 0 0, .int .i64 0, .slice none 0 0, .slice none 0 0]), (C2, [.int .i64 xf, .int .i64 xto, .int .i64 xk, .int .i64 xt, .int .i64 xi, .int .i64 xl, .int .i64 xc, .slice ea el ec, .bool xok]), (C1, [.int .i64 id, .int .i64 sz, .int .i64 tm, .int .i64 vt, .int .i64 rl, .int .i64 ld, .int .i64 ti, .int .i64 vs, .slice ga2 gl gc2, .int .i64 cm, .slice na2 nl nc2, .slice ma2 ml mc2])] rfl (fun W hX hO => ?_)
  clear hO
  replace hf := hf.sub (env' := [(4, .pointer (some ⟨C3, 0, none⟩)), (3, .pointer (some ⟨C2, 0, none⟩)), (2, .pointer (some ⟨C1, 0, none⟩))]) (sub_cons rfl (sub_cons rfl (sub_cons rfl (sub_nil))))
  refine sv_nil hf ?_
  refine wp_seq ?_
  refine wp_seq ?_
  refine wp_region_lit ?_
  refine sv_fld hf rfl Try.underlying35 rfl sz_int (2) rfl (by decide) (fun a hf => ?_)
  refine sv_lc hf hX rfl 1 rfl rfl Try.underlying3 rfl (by decide) (fun a hf => ?_)
  rcases Decidable.em (xk = 2) with hq4 | hq4
  ·
    refine sv_cmp hf rfl rfl false (congrArg some (by rw [decide_eq_true hq4]; rfl)) (by decide) (fun a hf => ?_)
    replace hf := hf.sub (env' := [(9, .bool false), (4, .pointer (some ⟨C3, 0, none⟩)), (3, .pointer (some ⟨C2, 0, none⟩)), (2, .pointer (some ⟨C1, 0, none⟩))]) (sub_cons rfl (sub_cons rfl (sub_cons rfl (sub_cons rfl (sub_nil)))))
    refine sv_nil hf ?_
    refine wp_cond_false (hf.rel _ _ rfl) ?_
    refine wp_skip ?_
    refine wp_seq ?_
    refine wp_seq ?_
    refine wp_region_lit ?_
    refine sv_fld hf rfl Try.underlying35 rfl sz_int (3) rfl (by decide) (fun a hf => ?_)
    refine sv_lc hf hX rfl 1 rfl rfl Try.underlying3 rfl (by decide) (fun a hf => ?_)
    refine sv_fld hf rfl Try.underlying25 rfl sz_int (2) rfl (by decide) (fun a hf => ?_)
    refine sv_lc hf hX rfl 2 rfl rfl Try.underlying3 rfl (by decide) (fun a hf => ?_)
    rcases Decidable.em (tm < xt) with hq5 | hq5
    ·
      refine sv_cmp hf rfl rfl true (congrArg some (decide_eq_true hq5)) (by decide) (fun a hf => ?_)
      replace hf := hf.sub (env' := [(15, .bool true), (4, .pointer (some ⟨C3, 0, none⟩)), (3, .pointer (some ⟨C2, 0, none⟩)), (2, .pointer (some ⟨C1, 0, none⟩))]) (sub_cons rfl (sub_cons rfl (sub_cons rfl (sub_cons rfl (sub_nil)))))
      refine sv_nil hf ?_
      refine wp_cond_true (hf.rel _ _ rfl) ?_
      refine wp_seq ?_
      refine wp_region_lit ?_
      refine sv_lr hf hX rfl 2 rfl Try.underlying25 info_mem (by decide) (fun a hf => ?_)
      refine sv_fld hf rfl Try.underlying35 rfl sz_int (3) rfl (by decide) (fun a hf => ?_)
      refine sv_lc hf hX rfl 1 rfl rfl Try.underlying3 rfl (by decide) (fun a hf => ?_)
      refine sv_call hf fnOK_37 rfl (follow_let _ _ _ _ _ _ _ _ _ _ _ _ _ _ _ _ _ _ _ _ h0 (by omega)) (by decide) ?_
      rintro e W ⟨rfl, hb⟩
      replace hX := hX.keep hb
      clear hb
      refine ⟨_, rfl, fun a hf => ?_⟩
      refine sv_srB hf hX rfl rfl 0 rfl rfl info_mem (fun v hv => List.all_eq_true.1 (show List.all [.int .i64 id, .int .i64 sz, .int .i64 (fTm tm xt), .int .i64 (fVt tm xt vt), .int .i64 (fRl tm xt rl), .int .i64 (fLd tm xt ld), .int .i64 (fTi tm xt rl ti id), .int .i64 (fVs tm xt vs), .slice ga2 gl gc2, .int .i64 cm, .slice (fA tm xt na2) (fN tm xt nl) (fN tm xt nc2), .slice (fA tm xt ma2) (fN tm xt ml) (fN tm xt mc2)] (·.oneCell') = true from rfl) v hv) [(C3, [.int .i64 id, .int .i64 sz, .int .i64 (fTm tm xt), .int .i64 (fVt tm xt vt), .int .i64 (fRl tm xt rl), .int .i64 (fLd tm xt ld), .int .i64 (fTi tm xt rl ti id), .int .i64 (fVs tm xt vs), .slice ga2 gl gc2, .int .i64 cm, .slice (fA tm xt na2) (fN tm xt nl) (fN tm xt nc2), .slice (fA tm xt ma2) (fN tm xt ml) (fN tm xt mc2)]), (C2, [.int .i64 xf, .int .i64 xto, .int .i64 xk, .int .i64 xt, .int .i64 xi, .int .i64 xl, .int .i64 xc, .slice ea el ec, .bool xok]), (C1, [.int .i64 id, .int .i64 sz, .int .i64 tm, .int .i64 vt, .int .i64 rl, .int .i64 ld, .int .i64 ti, .int .i64 vs, .slice ga2 gl gc2, .int .i64 cm, .slice na2 nl nc2, .slice ma2 ml mc2])] rfl (fun W hX hO => ?_)
      clear hO
      replace hf := hf.sub (env' := [(4, .pointer (some ⟨C3, 0, none⟩)), (3, .pointer (some ⟨C2, 0, none⟩)), (2, .pointer (some ⟨C1, 0, none⟩))]) (sub_cons rfl (sub_cons rfl (sub_cons rfl (sub_nil))))
      refine sv_nil hf ?_
      refine wp_ret ?_
      try simp only [Exit.inBlock, Exit.then]
      have hcc : c = 1 := by rw [hc]; unfold VCase; simp [hq4, hq5]
      refine bodyPost_ret (res_cell (c := 4) (C := C3) (cs := [.int .i64 id, .int .i64 sz, .int .i64 (fTm tm xt), .int .i64 (fVt tm xt vt), .int .i64 (fRl tm xt rl), .int .i64 (fLd tm xt ld), .int .i64 (fTi tm xt rl ti id), .int .i64 (fVs tm xt vs), .slice ga2 gl gc2, .int .i64 cm, .slice (fA tm xt na2) (fN tm xt nl) (fN tm xt nc2), .slice (fA tm xt ma2) (fN tm xt ml) (fN tm xt mc2)]) (T := 25) rfl (hf.rel 4 _ rfl) (hX.get (i := 0) rfl) Try.underlying25 info_mem) hf.defers ⟨ga2, gc2, na2, nc2, ma2, mc2, [.int .i64 id, .int .i64 sz, .int .i64 (fTm tm xt), .int .i64 (fVt tm xt vt), .int .i64 (fRl tm xt rl), .int .i64 (fLd tm xt ld), .int .i64 (fTi tm xt rl ti id), .int .i64 (fVs tm xt vs), .slice ga2 gl gc2, .int .i64 cm, .slice (fA tm xt na2) (fN tm xt nl) (fN tm xt nc2), .slice (fA tm xt ma2) (fN tm xt ml) (fN tm xt mc2)], rfl, .inr (.inl ⟨hcc, rfl⟩), ?_, by have := hX.low; rw [hβ] at this; exact this⟩
      obtain ⟨m, _, h8, h10, h11⟩ := HE.out
      exact ⟨m, hX.later2 hmem (fun k h => Or.inl (Nat.lt_of_lt_of_le h hb0.size)) (fun k h => Or.inr h) (fun k h => h) (fun k h => Nat.le_trans hsA h) h8, hX.later2 hmem (fun k h => Or.inl (Nat.lt_of_lt_of_le h hb0.size)) (fun k h => Or.inr h) (fun k h => h) (fun k h => Nat.le_trans hsA h) h10, hX.later2 hmem (fun k h => Or.inl (Nat.lt_of_lt_of_le h hb0.size)) (fun k h => Or.inr h) (fun k h => h) (fun k h => Nat.le_trans hsA h) h11⟩
    ·
      refine sv_cmp hf rfl rfl false (congrArg some (decide_eq_false hq5)) (by decide) (fun a hf => ?_)
      replace hf := hf.sub (env' := [(15, .bool false), (4, .pointer (some ⟨C3, 0, none⟩)), (3, .pointer (some ⟨C2, 0, none⟩)), (2, .pointer (some ⟨C1, 0, none⟩))]) (sub_cons rfl (sub_cons rfl (sub_cons rfl (sub_cons rfl (sub_nil)))))
      refine sv_nil hf ?_
      refine wp_cond_false (hf.rel _ _ rfl) ?_
      refine wp_skip ?_
      refine wp_seq ?_
      refine wp_seq ?_
      refine wp_region_lit ?_
      refine sv_fld hf rfl Try.underlying25 rfl sz_int (4) rfl (by decide) (fun a hf => ?_)
      refine sv_lc hf hX rfl 2 rfl rfl Try.underlying3 rfl (by decide) (fun a hf => ?_)
      rcases Decidable.em (rl = 1) with hq6 | hq6
      ·
        refine sv_cmp hf rfl rfl false (congrArg some (by rw [decide_eq_true hq6]; rfl)) (by decide) (fun a hf => ?_)
        refine sv_mv hf rfl (by decide) (fun a hf => ?_)
        refine sv_want hf rfl rfl ?_
        refine sv_fld hf rfl Try.underlying35 rfl sz_int (3) rfl (by decide) (fun a hf => ?_)
        refine sv_want hf rfl rfl ?_
        refine sv_lc hf hX rfl 1 rfl rfl Try.underlying3 rfl (by decide) (fun a hf => ?_)
        refine sv_want hf rfl rfl ?_
        refine sv_fld hf rfl Try.underlying25 rfl sz_int (2) rfl (by decide) (fun a hf => ?_)
        refine sv_want hf rfl rfl ?_
        refine sv_lc hf hX rfl 2 rfl rfl Try.underlying3 rfl (by decide) (fun a hf => ?_)
        refine sv_want hf rfl rfl ?_
        rcases Decidable.em (xt = tm) with hq7 | hq7
        ·
          refine sv_cmp hf rfl rfl false (congrArg some (by rw [decide_eq_true hq7]; rfl)) (by decide) (fun a hf => ?_)
          refine sv_pk hf rfl rfl (by decide) (fun a hf => ?_)
          refine sv_mv hf rfl (by decide) (fun a hf => ?_)
          refine sv_want hf rfl rfl ?_
          refine sv_fld hf rfl Try.underlying35 rfl sz_bool (8) rfl (by decide) (fun a hf => ?_)
          refine sv_want hf rfl rfl ?_
          refine sv_lc hf hX rfl 1 rfl rfl Try.underlying4 rfl (by decide) (fun a hf => ?_)
          refine sv_want hf rfl rfl ?_
          cases xok
          ·
            refine sv_not hf rfl (by decide) (fun a hf => ?_)
            refine sv_pk hf rfl rfl (by decide) (fun a hf => ?_)
            refine sv_mv hf rfl (by decide) (fun a hf => ?_)
            refine sv_skip1 hf rfl rfl (by decide) (by decide) (fun a hf => ?_)
            refine sv_skip1 hf rfl rfl (by decide) (by decide) (fun a hf => ?_)
            refine sv_skip1 hf rfl rfl (by decide) (by decide) (fun a hf => ?_)
            refine sv_pk hf rfl rfl (by decide) (fun a hf => ?_)
            refine sv_mv hf rfl (by decide) (fun a hf => ?_)
            refine sv_skip1 hf rfl rfl (by decide) (by decide) (fun a hf => ?_)
            refine sv_skip1 hf rfl rfl (by decide) (by decide) (fun a hf => ?_)
            refine sv_skip1 hf rfl rfl (by decide) (by decide) (fun a hf => ?_)
            refine sv_pk hf rfl rfl (by decide) (fun a hf => ?_)
            refine sv_mv hf rfl (by decide) (fun a hf => ?_)
            refine sv_skip1 hf rfl rfl (by decide) (by decide) (fun a hf => ?_)
            refine sv_skip1 hf rfl rfl (by decide) (by decide) (fun a hf => ?_)
            refine sv_skip1 hf rfl rfl (by decide) (by decide) (fun a hf => ?_)
            refine sv_skip1 hf rfl rfl (by decide) (by decide) (fun a hf => ?_)
            refine sv_skip1 hf rfl rfl (by decide) (by decide) (fun a hf => ?_)
            refine sv_pk hf rfl rfl (by decide) (fun a hf => ?_)
            replace hf := hf.sub (env' := [(51, .bool true), (4, .pointer (some ⟨C3, 0, none⟩)), (3, .pointer (some ⟨C2, 0, none⟩)), (2, .pointer (some ⟨C1, 0, none⟩))]) (sub_cons rfl (sub_cons rfl (sub_cons rfl (sub_cons rfl (sub_nil)))))
            refine sv_nil hf ?_
            refine wp_cond_true (hf.rel _ _ rfl) ?_
            refine wp_seq ?_
            refine wp_region_lit ?_
            refine sv_lr hf hX rfl 2 rfl Try.underlying25 info_mem (by decide) (fun a hf => ?_)
            refine sv_srB hf hX rfl rfl 0 rfl rfl info_mem (fun v hv => List.all_eq_true.1 (show List.all [.int .i64 id, .int .i64 sz, .int .i64 tm, .int .i64 vt, .int .i64 rl, .int .i64 ld, .int .i64 ti, .int .i64 vs, .slice ga2 gl gc2, .int .i64 cm, .slice na2 nl nc2, .slice ma2 ml mc2] (·.oneCell') = true from rfl) v hv) [(C3, [.int .i64 id, .int .i64 sz, .int .i64 tm, .int .i64 vt, .int .i64 rl, .int .i64 ld, .int .i64 ti, .int .i64 vs, .slice ga2 gl gc2, .int .i64 cm, .slice na2 nl nc2, .slice ma2 ml mc2]), (C2, [.int .i64 xf, .int .i64 xto, .int .i64 xk, .int .i64 xt, .int .i64 xi, .int .i64 xl, .int .i64 xc, .slice ea el ec, .bool false]), (C1, [.int .i64 id, .int .i64 sz, .int .i64 tm, .int .i64 vt, .int .i64 rl, .int .i64 ld, .int .i64 ti, .int .i64 vs, .slice ga2 gl gc2, .int .i64 cm, .slice na2 nl nc2, .slice ma2 ml mc2])] rfl (fun W hX hO => ?_)
            clear hO
            replace hf := hf.sub (env' := [(4, .pointer (some ⟨C3, 0, none⟩)), (3, .pointer (some ⟨C2, 0, none⟩)), (2, .pointer (some ⟨C1, 0, none⟩))]) (sub_cons rfl (sub_cons rfl (sub_cons rfl (sub_nil))))
            refine sv_nil hf ?_
            refine wp_ret ?_
            try simp only [Exit.inBlock, Exit.then]
            have hcc : c = 0 := by rw [hc]; unfold VCase; simp [hq4, hq5, hq6, hq7]
            refine bodyPost_ret (res_cell (c := 4) (C := C3) (cs := [.int .i64 id, .int .i64 sz, .int .i64 tm, .int .i64 vt, .int .i64 rl, .int .i64 ld, .int .i64 ti, .int .i64 vs, .slice ga2 gl gc2, .int .i64 cm, .slice na2 nl nc2, .slice ma2 ml mc2]) (T := 25) rfl (hf.rel 4 _ rfl) (hX.get (i := 0) rfl) Try.underlying25 info_mem) hf.defers ⟨ga2, gc2, na2, nc2, ma2, mc2, [.int .i64 id, .int .i64 sz, .int .i64 tm, .int .i64 vt, .int .i64 rl, .int .i64 ld, .int .i64 ti, .int .i64 vs, .slice ga2 gl gc2, .int .i64 cm, .slice na2 nl nc2, .slice ma2 ml mc2], rfl, .inl ⟨hcc, rfl⟩, ?_, by have := hX.low; rw [hβ] at this; exact this⟩
            obtain ⟨m, _, h8, h10, h11⟩ := HE.out
            exact ⟨m, hX.later2 hmem (fun k h => Or.inl (Nat.lt_of_lt_of_le h hb0.size)) (fun k h => Or.inr h) (fun k h => h) (fun k h => Nat.le_trans hsA h) h8, hX.later2 hmem (fun k h => Or.inl (Nat.lt_of_lt_of_le h hb0.size)) (fun k h => Or.inr h) (fun k h => h) (fun k h => Nat.le_trans hsA h) h10, hX.later2 hmem (fun k h => Or.inl (Nat.lt_of_lt_of_le h hb0.size)) (fun k h => Or.inr h) (fun k h => h) (fun k h => Nat.le_trans hsA h) h11⟩
          ·
            refine sv_not hf rfl (by decide) (fun a hf => ?_)
            refine sv_pk hf rfl rfl (by decide) (fun a hf => ?_)
            refine sv_mv hf rfl (by decide) (fun a hf => ?_)
            refine sv_want hf rfl rfl ?_
            refine sv_lr hf hX rfl 2 rfl Try.underlying25 info_mem (by decide) (fun a hf => ?_)
            refine sv_want hf rfl rfl ?_
            refine sv_call hf fnOK_41 rfl (known_yes _ _ _ _ _ _ _ _ _ _ _ _ _ h1 h7 h0 hid) (by decide) ?_
            rintro e W ⟨rfl, hb⟩
            replace hX := hX.keep hb
            clear hb
            refine ⟨_, rfl, fun a hf => ?_⟩
            refine sv_want hf rfl rfl ?_
            refine sv_not hf rfl (by decide) (fun a hf => ?_)
            refine sv_pk hf rfl rfl (by decide) (fun a hf => ?_)
            refine sv_mv hf rfl (by decide) (fun a hf => ?_)
            refine sv_want hf rfl rfl ?_
            refine sv_fld hf rfl Try.underlying35 rfl sz_int (0) rfl (by decide) (fun a hf => ?_)
            refine sv_want hf rfl rfl ?_
            refine sv_lc hf hX rfl 1 rfl rfl Try.underlying3 rfl (by decide) (fun a hf => ?_)
            refine sv_want hf rfl rfl ?_
            refine sv_cmp hf rfl rfl false (congrArg some (decide_eq_false (by omega))) (by decide) (fun a hf => ?_)
            refine sv_pk hf rfl rfl (by decide) (fun a hf => ?_)
            refine sv_mv hf rfl (by decide) (fun a hf => ?_)
            refine sv_want hf rfl rfl ?_
            refine sv_fld hf rfl Try.underlying35 rfl sz_int (0) rfl (by decide) (fun a hf => ?_)
            refine sv_want hf rfl rfl ?_
            refine sv_lc hf hX rfl 1 rfl rfl Try.underlying3 rfl (by decide) (fun a hf => ?_)
            refine sv_want hf rfl rfl ?_
            refine sv_fld hf rfl Try.underlying25 rfl sz_int (1) rfl (by decide) (fun a hf => ?_)
            refine sv_want hf rfl rfl ?_
            refine sv_lc hf hX rfl 2 rfl rfl Try.underlying3 rfl (by decide) (fun a hf => ?_)
            refine sv_want hf rfl rfl ?_
            refine sv_cmp hf rfl rfl false (congrArg some (decide_eq_false (by omega))) (by decide) (fun a hf => ?_)
            refine sv_pk hf rfl rfl (by decide) (fun a hf => ?_)
            replace hf := hf.sub (env' := [(51, .bool false), (4, .pointer (some ⟨C3, 0, none⟩)), (3, .pointer (some ⟨C2, 0, none⟩)), (2, .pointer (some ⟨C1, 0, none⟩))]) (sub_cons rfl (sub_cons rfl (sub_cons rfl (sub_cons rfl (sub_nil)))))
            refine sv_nil hf ?_
            refine wp_cond_false (hf.rel _ _ rfl) ?_
            refine wp_skip ?_
            refine wp_seq ?_
            refine wp_region_ordW 8 7 [(0, 0), (1, 1), (2, 0), (3, 1), (4, 0), (5, 0), (6, 0), (7, 3)] (fun X => Bx β [(C3, [.int .i64 0, .int .i64 0, .int .i64 0, .int .i64 0, .int .i64 0, .int .i64 0, .int .i64 0, .int .i64 0, .slice none 0 0, .int .i64 0, .slice none 0 0, .slice none 0 0]), (C2, [.int .i64 xf, .int .i64 xto, .int .i64 xk, .int .i64 xt, .int .i64 xi, .int .i64 xl, .int .i64 xc, .slice ea el ec, .bool true]), (C1, [.int .i64 id, .int .i64 sz, .int .i64 tm, .int .i64 vt, .int .i64 rl, .int .i64 ld, .int .i64 ti, .int .i64 vs, .slice ga2 gl gc2, .int .i64 cm, .slice na2 nl nc2, .slice ma2 ml mc2])] X) mixed (by kernel_rfl) hX.drew (fun c a d v w h => by cases d <;> exact h) ?_
            replace hX := hX.drew
            refine ov0 hf rfl rfl (by decide) rfl (fun X => ex_vfld (7) hf rfl rfl Try.underlying25 rfl sz_int rfl) (fun a hf => ?_)
            refine ov1 hf rfl rfl (by decide) rfl (fun X hS => ex_vlc (cs := [.int .i64 id, .int .i64 sz, .int .i64 tm, .int .i64 vt, .int .i64 rl, .int .i64 ld, .int .i64 ti, .int .i64 vs, .slice ga2 gl gc2, .int .i64 cm, .slice na2 nl nc2, .slice ma2 ml mc2]) hf rfl rfl (hS.get (i := 2) rfl) rfl Try.underlying3 rfl) (fun a hf => ?_)
            refine ov0 hf rfl rfl (by decide) rfl (fun X => ex_vfld (0) hf rfl rfl Try.underlying35 rfl sz_int rfl) (fun a hf => ?_)
            refine ov1 hf rfl rfl (by decide) rfl (fun X hS => ex_vlc (cs := [.int .i64 xf, .int .i64 xto, .int .i64 xk, .int .i64 xt, .int .i64 xi, .int .i64 xl, .int .i64 xc, .slice ea el ec, .bool true]) hf rfl rfl (hS.get (i := 1) rfl) rfl Try.underlying3 rfl) (fun a hf => ?_)
            refine ov0 hf rfl rfl (by decide) rfl (fun X => ex_shl hf rfl rfl rfl hx0 (by omega) rfl) (fun a hf => ?_)
            refine ov0 hf rfl rfl (by decide) rfl (fun X => ex_or hf rfl rfl rfl hv2.symm) (fun a hf => ?_)
            refine ov0 hf rfl rfl (by decide) rfl (fun X => ex_vfld (7) hf rfl rfl Try.underlying25 rfl sz_int rfl) (fun a hf => ?_)
            have hbS := hX.get (i := 2) (C := C1) (cs := [.int .i64 id, .int .i64 sz, .int .i64 tm, .int .i64 vt, .int .i64 rl, .int .i64 ld, .int .i64 ti, .int .i64 vs, .slice ga2 gl gc2, .int .i64 cm, .slice na2 nl nc2, .slice ma2 ml mc2]) rfl
            refine ov3 rfl rfl rfl (ex_store_cell _ _ _ C1 7 (.int .i64 v2) rfl (hf.ev rfl) (hf.ev rfl) (hbS.there 7 1 (of_decide_eq_true rfl)) info_int rfl) ?_
            replace hX : Bx β [(C3, [.int .i64 0, .int .i64 0, .int .i64 0, .int .i64 0, .int .i64 0, .int .i64 0, .int .i64 0, .int .i64 0, .slice none 0 0, .int .i64 0, .slice none 0 0, .slice none 0 0]), (C2, [.int .i64 xf, .int .i64 xto, .int .i64 xk, .int .i64 xt, .int .i64 xi, .int .i64 xl, .int .i64 xc, .slice ea el ec, .bool true]), (C1, [.int .i64 id, .int .i64 sz, .int .i64 tm, .int .i64 vt, .int .i64 rl, .int .i64 ld, .int .i64 ti, .int .i64 v2, .slice ga2 gl gc2, .int .i64 cm, .slice na2 nl nc2, .slice ma2 ml mc2])] (World.setCells _ C1 7 [.int .i64 v2]) := hX.set (i := 2) rfl (hbS.setCell 7 _ (of_decide_eq_true rfl)) (Only.setCell _ C1 7 _)
            clear hbS
            replace hf := hf.sub (env' := [(4, .pointer (some ⟨C3, 0, none⟩)), (2, .pointer (some ⟨C1, 0, none⟩))]) (sub_cons rfl (sub_cons rfl (sub_nil)))
            refine wpOrd_nil ?_
            refine wp_seq ?_
            refine wp_seq ?_
            refine wp_region_ordW 8 7 [(0, 0), (1, 1), (2, 0), (4, 0), (5, 1), (3, 2), (6, 2), (7, 3)] (fun X => Bx β [(C3, [.int .i64 0, .int .i64 0, .int .i64 0, .int .i64 0, .int .i64 0, .int .i64 0, .int .i64 0, .int .i64 0, .slice none 0 0, .int .i64 0, .slice none 0 0, .slice none 0 0]), (C2, [.int .i64 xf, .int .i64 xto, .int .i64 xk, .int .i64 xt, .int .i64 xi, .int .i64 xl, .int .i64 xc, .slice ea el ec, .bool true]), (C1, [.int .i64 id, .int .i64 sz, .int .i64 tm, .int .i64 vt, .int .i64 rl, .int .i64 ld, .int .i64 ti, .int .i64 v2, .slice ga2 gl gc2, .int .i64 cm, .slice na2 nl nc2, .slice ma2 ml mc2])] X) mixed (by kernel_rfl) hX.drew (fun c a d v w h => by cases d <;> exact h) ?_
            replace hX := hX.drew
            refine ov0 hf rfl rfl (by decide) rfl (fun X => ex_vfld (7) hf rfl rfl Try.underlying25 rfl sz_int rfl) (fun a hf => ?_)
            refine ov1 hf rfl rfl (by decide) rfl (fun X hS => ex_vlc (cs := [.int .i64 id, .int .i64 sz, .int .i64 tm, .int .i64 vt, .int .i64 rl, .int .i64 ld, .int .i64 ti, .int .i64 v2, .slice ga2 gl gc2, .int .i64 cm, .slice na2 nl nc2, .slice ma2 ml mc2]) hf rfl rfl (hS.get (i := 2) rfl) rfl Try.underlying3 rfl) (fun a hf => ?_)
            refine ov0 hf rfl rfl (by decide) rfl (fun X => ex_conv hf rfl rfl Try.underlying3 (by kernel_rfl) hb2.1 hv128) (fun a hf => ?_)
            refine ov0 hf rfl rfl (by decide) rfl (fun X => ex_vfld (1) hf rfl rfl Try.underlying25 rfl sz_int rfl) (fun a hf => ?_)
            refine ov1 hf rfl rfl (by decide) rfl (fun X hS => ex_vlc (cs := [.int .i64 id, .int .i64 sz, .int .i64 tm, .int .i64 vt, .int .i64 rl, .int .i64 ld, .int .i64 ti, .int .i64 v2, .slice ga2 gl gc2, .int .i64 cm, .slice na2 nl nc2, .slice ma2 ml mc2]) hf rfl rfl (hS.get (i := 2) rfl) rfl Try.underlying3 rfl) (fun a hf => ?_)
            refine ov2c hf rfl rfl (by decide) rfl rfl fnOK_42 rfl (ones_n hb2.1 h1 h7 hb2.2 hn2 _) ?_
            rintro e W' ⟨rfl, hw⟩
            subst hw
            refine ⟨_, rfl, hX, fun a hf => ?_⟩
            refine ov2c hf rfl rfl (by decide) rfl rfl fnOK_12 rfl (maj_any sz _) ?_
            rintro e W' ⟨rfl, hw⟩
            subst hw
            refine ⟨_, rfl, hX, fun a hf => ?_⟩
            rcases Decidable.em (maj sz ≤ n2) with hq9 | hq9
            ·
              refine ov3v hf rfl rfl (by decide) rfl (ex_cmp (b := true) hf rfl rfl rfl (congrArg some (decide_eq_true hq9))) (fun a hf => ?_)
              replace hf := hf.sub (env' := [(67, .bool true), (4, .pointer (some ⟨C3, 0, none⟩)), (2, .pointer (some ⟨C1, 0, none⟩))]) (sub_cons rfl (sub_cons rfl (sub_cons rfl (sub_nil))))
              refine wpOrd_nil ?_
              refine wp_cond_true (hf.rel _ _ rfl) ?_
              refine wp_seq ?_
              refine wp_region_lit ?_
              refine sv_lr hf hX rfl 2 rfl Try.underlying25 info_mem (by decide) (fun a hf => ?_)
              have hlwB := hX.lts
              refine sv_call hf fnOK_43 rfl (win_int _ _ _ _ _ _ _ _ _ _ _ _ _ _ _ _ _ _ _ h0 hid h7) (by decide) ?_
              rintro e W ⟨pa, pl, pc, sa, sl, sc, rfl, r1, r2, ⟨g1, hg1, hgl1⟩, ⟨g2, hg2, hgl2⟩, hb⟩
              replace hX := hX.keep hb
              clear hb
              refine ⟨_, rfl, fun a hf => ?_⟩
              refine sv_srB hf hX rfl rfl 0 rfl rfl info_mem (fun v hv => List.all_eq_true.1 (show List.all [.int .i64 id, .int .i64 sz, .int .i64 tm, .int .i64 vt, .int .i64 2, .int .i64 id, .int .i64 1, .int .i64 v2, .slice ga2 gl gc2, .int .i64 cm, .slice pa pl pc, .slice sa sl sc] (·.oneCell') = true from rfl) v hv) [(C3, [.int .i64 id, .int .i64 sz, .int .i64 tm, .int .i64 vt, .int .i64 2, .int .i64 id, .int .i64 1, .int .i64 v2, .slice ga2 gl gc2, .int .i64 cm, .slice pa pl pc, .slice sa sl sc]), (C2, [.int .i64 xf, .int .i64 xto, .int .i64 xk, .int .i64 xt, .int .i64 xi, .int .i64 xl, .int .i64 xc, .slice ea el ec, .bool true]), (C1, [.int .i64 id, .int .i64 sz, .int .i64 tm, .int .i64 vt, .int .i64 rl, .int .i64 ld, .int .i64 ti, .int .i64 v2, .slice ga2 gl gc2, .int .i64 cm, .slice na2 nl nc2, .slice ma2 ml mc2])] rfl (fun W hX hO => ?_)
              have hcC := hlwB _ (List.mem_of_getElem? (i := 0) rfl)
              replace r1 := r1.keep hg1 (hO.heap _ (by simp only at hcC; omega)) (Nat.le_of_eq hO.size.symm)
              replace r2 := r2.keep hg2 (hO.heap _ (by simp only at hcC; omega)) (Nat.le_of_eq hO.size.symm)
              clear hO
              replace hf := hf.sub (env' := [(4, .pointer (some ⟨C3, 0, none⟩)), (2, .pointer (some ⟨C1, 0, none⟩))]) (sub_cons rfl (sub_cons rfl (sub_nil)))
              refine sv_nil hf ?_
              refine wp_ret ?_
              try simp only [Exit.inBlock, Exit.then]
              have hcc : c = 3 := by rw [hc]; unfold VCase; simp [hq4, hq5, hq6, hq7, hq9]
              refine bodyPost_ret (res_cell (c := 4) (C := C3) (cs := [.int .i64 id, .int .i64 sz, .int .i64 tm, .int .i64 vt, .int .i64 2, .int .i64 id, .int .i64 1, .int .i64 v2, .slice ga2 gl gc2, .int .i64 cm, .slice pa pl pc, .slice sa sl sc]) (T := 25) rfl (hf.rel 4 _ rfl) (hX.get (i := 0) rfl) Try.underlying25 info_mem) hf.defers ⟨ga2, gc2, na2, nc2, ma2, mc2, [.int .i64 id, .int .i64 sz, .int .i64 tm, .int .i64 vt, .int .i64 2, .int .i64 id, .int .i64 1, .int .i64 v2, .slice ga2 gl gc2, .int .i64 cm, .slice pa pl pc, .slice sa sl sc], rfl, .inr (.inr (.inr ⟨hcc, pa, pl, pc, sa, sl, sc, rfl, r1, r2⟩)), ?_, by have := hX.low; rw [hβ] at this; exact this⟩
              obtain ⟨m, _, h8, h10, h11⟩ := HE.out
              exact ⟨m, hX.later2 hmem (fun k h => Or.inl (Nat.lt_of_lt_of_le h hb0.size)) (fun k h => Or.inr h) (fun k h => h) (fun k h => Nat.le_trans hsA h) h8, hX.later2 hmem (fun k h => Or.inl (Nat.lt_of_lt_of_le h hb0.size)) (fun k h => Or.inr h) (fun k h => h) (fun k h => Nat.le_trans hsA h) h10, hX.later2 hmem (fun k h => Or.inl (Nat.lt_of_lt_of_le h hb0.size)) (fun k h => Or.inr h) (fun k h => h) (fun k h => Nat.le_trans hsA h) h11⟩
            ·
              refine ov3v hf rfl rfl (by decide) rfl (ex_cmp (b := false) hf rfl rfl rfl (congrArg some (decide_eq_false hq9))) (fun a hf => ?_)
              replace hf := hf.sub (env' := [(67, .bool false), (4, .pointer (some ⟨C3, 0, none⟩)), (2, .pointer (some ⟨C1, 0, none⟩))]) (sub_cons rfl (sub_cons rfl (sub_cons rfl (sub_nil))))
              refine wpOrd_nil ?_
              refine wp_cond_false (hf.rel _ _ rfl) ?_
              refine wp_skip ?_
              refine wp_seq ?_
              refine wp_region_lit ?_
              refine sv_lr hf hX rfl 2 rfl Try.underlying25 info_mem (by decide) (fun a hf => ?_)
              refine sv_srB hf hX rfl rfl 0 rfl rfl info_mem (fun v hv => List.all_eq_true.1 (show List.all [.int .i64 id, .int .i64 sz, .int .i64 tm, .int .i64 vt, .int .i64 rl, .int .i64 ld, .int .i64 ti, .int .i64 v2, .slice ga2 gl gc2, .int .i64 cm, .slice na2 nl nc2, .slice ma2 ml mc2] (·.oneCell') = true from rfl) v hv) [(C3, [.int .i64 id, .int .i64 sz, .int .i64 tm, .int .i64 vt, .int .i64 rl, .int .i64 ld, .int .i64 ti, .int .i64 v2, .slice ga2 gl gc2, .int .i64 cm, .slice na2 nl nc2, .slice ma2 ml mc2]), (C2, [.int .i64 xf, .int .i64 xto, .int .i64 xk, .int .i64 xt, .int .i64 xi, .int .i64 xl, .int .i64 xc, .slice ea el ec, .bool true]), (C1, [.int .i64 id, .int .i64 sz, .int .i64 tm, .int .i64 vt, .int .i64 rl, .int .i64 ld, .int .i64 ti, .int .i64 v2, .slice ga2 gl gc2, .int .i64 cm, .slice na2 nl nc2, .slice ma2 ml mc2])] rfl (fun W hX hO => ?_)
              clear hO
              replace hf := hf.sub (env' := [(4, .pointer (some ⟨C3, 0, none⟩))]) (sub_cons rfl (sub_nil))
              refine sv_nil hf ?_
              refine wp_ret ?_
              try simp only [Exit.inBlock, Exit.then]
              have hcc : c = 2 := by rw [hc]; unfold VCase; simp [hq4, hq5, hq6, hq7, hq9]
              refine bodyPost_ret (res_cell (c := 4) (C := C3) (cs := [.int .i64 id, .int .i64 sz, .int .i64 tm, .int .i64 vt, .int .i64 rl, .int .i64 ld, .int .i64 ti, .int .i64 v2, .slice ga2 gl gc2, .int .i64 cm, .slice na2 nl nc2, .slice ma2 ml mc2]) (T := 25) rfl (hf.rel 4 _ rfl) (hX.get (i := 0) rfl) Try.underlying25 info_mem) hf.defers ⟨ga2, gc2, na2, nc2, ma2, mc2, [.int .i64 id, .int .i64 sz, .int .i64 tm, .int .i64 vt, .int .i64 rl, .int .i64 ld, .int .i64 ti, .int .i64 v2, .slice ga2 gl gc2, .int .i64 cm, .slice na2 nl nc2, .slice ma2 ml mc2], rfl, .inr (.inr (.inl ⟨hcc, rfl⟩)), ?_, by have := hX.low; rw [hβ] at this; exact this⟩
              obtain ⟨m, _, h8, h10, h11⟩ := HE.out
              exact ⟨m, hX.later2 hmem (fun k h => Or.inl (Nat.lt_of_lt_of_le h hb0.size)) (fun k h => Or.inr h) (fun k h => h) (fun k h => Nat.le_trans hsA h) h8, hX.later2 hmem (fun k h => Or.inl (Nat.lt_of_lt_of_le h hb0.size)) (fun k h => Or.inr h) (fun k h => h) (fun k h => Nat.le_trans hsA h) h10, hX.later2 hmem (fun k h => Or.inl (Nat.lt_of_lt_of_le h hb0.size)) (fun k h => Or.inr h) (fun k h => h) (fun k h => Nat.le_trans hsA h) h11⟩
        ·
          refine sv_cmp hf rfl rfl true (congrArg some (by rw [decide_eq_false hq7]; rfl)) (by decide) (fun a hf => ?_)
          refine sv_pk hf rfl rfl (by decide) (fun a hf => ?_)
          refine sv_mv hf rfl (by decide) (fun a hf => ?_)
          refine sv_skip1 hf rfl rfl (by decide) (by decide) (fun a hf => ?_)
          refine sv_skip1 hf rfl rfl (by decide) (by decide) (fun a hf => ?_)
          refine sv_skip1 hf rfl rfl (by decide) (by decide) (fun a hf => ?_)
          refine sv_pk hf rfl rfl (by decide) (fun a hf => ?_)
          refine sv_mv hf rfl (by decide) (fun a hf => ?_)
          refine sv_skip1 hf rfl rfl (by decide) (by decide) (fun a hf => ?_)
          refine sv_skip1 hf rfl rfl (by decide) (by decide) (fun a hf => ?_)
          refine sv_skip1 hf rfl rfl (by decide) (by decide) (fun a hf => ?_)
          refine sv_pk hf rfl rfl (by decide) (fun a hf => ?_)
          refine sv_mv hf rfl (by decide) (fun a hf => ?_)
          refine sv_skip1 hf rfl rfl (by decide) (by decide) (fun a hf => ?_)
          refine sv_skip1 hf rfl rfl (by decide) (by decide) (fun a hf => ?_)
          refine sv_skip1 hf rfl rfl (by decide) (by decide) (fun a hf => ?_)
          refine sv_pk hf rfl rfl (by decide) (fun a hf => ?_)
          refine sv_mv hf rfl (by decide) (fun a hf => ?_)
          refine sv_skip1 hf rfl rfl (by decide) (by decide) (fun a hf => ?_)
          refine sv_skip1 hf rfl rfl (by decide) (by decide) (fun a hf => ?_)
          refine sv_skip1 hf rfl rfl (by decide) (by decide) (fun a hf => ?_)
          refine sv_skip1 hf rfl rfl (by decide) (by decide) (fun a hf => ?_)
          refine sv_skip1 hf rfl rfl (by decide) (by decide) (fun a hf => ?_)
          refine sv_pk hf rfl rfl (by decide) (fun a hf => ?_)
          replace hf := hf.sub (env' := [(51, .bool true), (4, .pointer (some ⟨C3, 0, none⟩)), (3, .pointer (some ⟨C2, 0, none⟩)), (2, .pointer (some ⟨C1, 0, none⟩))]) (sub_cons rfl (sub_cons rfl (sub_cons rfl (sub_cons rfl (sub_nil)))))
          refine sv_nil hf ?_
          refine wp_cond_true (hf.rel _ _ rfl) ?_
          refine wp_seq ?_
          refine wp_region_lit ?_
          refine sv_lr hf hX rfl 2 rfl Try.underlying25 info_mem (by decide) (fun a hf => ?_)
          refine sv_srB hf hX rfl rfl 0 rfl rfl info_mem (fun v hv => List.all_eq_true.1 (show List.all [.int .i64 id, .int .i64 sz, .int .i64 tm, .int .i64 vt, .int .i64 rl, .int .i64 ld, .int .i64 ti, .int .i64 vs, .slice ga2 gl gc2, .int .i64 cm, .slice na2 nl nc2, .slice ma2 ml mc2] (·.oneCell') = true from rfl) v hv) [(C3, [.int .i64 id, .int .i64 sz, .int .i64 tm, .int .i64 vt, .int .i64 rl, .int .i64 ld, .int .i64 ti, .int .i64 vs, .slice ga2 gl gc2, .int .i64 cm, .slice na2 nl nc2, .slice ma2 ml mc2]), (C2, [.int .i64 xf, .int .i64 xto, .int .i64 xk, .int .i64 xt, .int .i64 xi, .int .i64 xl, .int .i64 xc, .slice ea el ec, .bool xok]), (C1, [.int .i64 id, .int .i64 sz, .int .i64 tm, .int .i64 vt, .int .i64 rl, .int .i64 ld, .int .i64 ti, .int .i64 vs, .slice ga2 gl gc2, .int .i64 cm, .slice na2 nl nc2, .slice ma2 ml mc2])] rfl (fun W hX hO => ?_)
          clear hO
          replace hf := hf.sub (env' := [(4, .pointer (some ⟨C3, 0, none⟩)), (3, .pointer (some ⟨C2, 0, none⟩)), (2, .pointer (some ⟨C1, 0, none⟩))]) (sub_cons rfl (sub_cons rfl (sub_cons rfl (sub_nil))))
          refine sv_nil hf ?_
          refine wp_ret ?_
          try simp only [Exit.inBlock, Exit.then]
          have hcc : c = 0 := by rw [hc]; unfold VCase; simp [hq4, hq5, hq6, hq7]
          refine bodyPost_ret (res_cell (c := 4) (C := C3) (cs := [.int .i64 id, .int .i64 sz, .int .i64 tm, .int .i64 vt, .int .i64 rl, .int .i64 ld, .int .i64 ti, .int .i64 vs, .slice ga2 gl gc2, .int .i64 cm, .slice na2 nl nc2, .slice ma2 ml mc2]) (T := 25) rfl (hf.rel 4 _ rfl) (hX.get (i := 0) rfl) Try.underlying25 info_mem) hf.defers ⟨ga2, gc2, na2, nc2, ma2, mc2, [.int .i64 id, .int .i64 sz, .int .i64 tm, .int .i64 vt, .int .i64 rl, .int .i64 ld, .int .i64 ti, .int .i64 vs, .slice ga2 gl gc2, .int .i64 cm, .slice na2 nl nc2, .slice ma2 ml mc2], rfl, .inl ⟨hcc, rfl⟩, ?_, by have := hX.low; rw [hβ] at this; exact this⟩
          obtain ⟨m, _, h8, h10, h11⟩ := HE.out
          exact ⟨m, hX.later2 hmem (fun k h => Or.inl (Nat.lt_of_lt_of_le h hb0.size)) (fun k h => Or.inr h) (fun k h => h) (fun k h => Nat.le_trans hsA h) h8, hX.later2 hmem (fun k h => Or.inl (Nat.lt_of_lt_of_le h hb0.size)) (fun k h => Or.inr h) (fun k h => h) (fun k h => Nat.le_trans hsA h) h10, hX.later2 hmem (fun k h => Or.inl (Nat.lt_of_lt_of_le h hb0.size)) (fun k h => Or.inr h) (fun k h => h) (fun k h => Nat.le_trans hsA h) h11⟩
      ·
        refine sv_cmp hf rfl rfl true (congrArg some (by rw [decide_eq_false hq6]; rfl)) (by decide) (fun a hf => ?_)
        refine sv_mv hf rfl (by decide) (fun a hf => ?_)
        refine sv_skip1 hf rfl rfl (by decide) (by decide) (fun a hf => ?_)
        refine sv_skip1 hf rfl rfl (by decide) (by decide) (fun a hf => ?_)
        refine sv_skip1 hf rfl rfl (by decide) (by decide) (fun a hf => ?_)
        refine sv_skip1 hf rfl rfl (by decide) (by decide) (fun a hf => ?_)
        refine sv_skip1 hf rfl rfl (by decide) (by decide) (fun a hf => ?_)
        refine sv_pk hf rfl rfl (by decide) (fun a hf => ?_)
        refine sv_mv hf rfl (by decide) (fun a hf => ?_)
        refine sv_skip1 hf rfl rfl (by decide) (by decide) (fun a hf => ?_)
        refine sv_skip1 hf rfl rfl (by decide) (by decide) (fun a hf => ?_)
        refine sv_skip1 hf rfl rfl (by decide) (by decide) (fun a hf => ?_)
        refine sv_pk hf rfl rfl (by decide) (fun a hf => ?_)
        refine sv_mv hf rfl (by decide) (fun a hf => ?_)
        refine sv_skip1 hf rfl rfl (by decide) (by decide) (fun a hf => ?_)
        refine sv_skip1 hf rfl rfl (by decide) (by decide) (fun a hf => ?_)
        refine sv_skip1 hf rfl rfl (by decide) (by decide) (fun a hf => ?_)
        refine sv_pk hf rfl rfl (by decide) (fun a hf => ?_)
        refine sv_mv hf rfl (by decide) (fun a hf => ?_)
        refine sv_skip1 hf rfl rfl (by decide) (by decide) (fun a hf => ?_)
        refine sv_skip1 hf rfl rfl (by decide) (by decide) (fun a hf => ?_)
        refine sv_skip1 hf rfl rfl (by decide) (by decide) (fun a hf => ?_)
        refine sv_pk hf rfl rfl (by decide) (fun a hf => ?_)
        refine sv_mv hf rfl (by decide) (fun a hf => ?_)
        refine sv_skip1 hf rfl rfl (by decide) (by decide) (fun a hf => ?_)
        refine sv_skip1 hf rfl rfl (by decide) (by decide) (fun a hf => ?_)
        refine sv_skip1 hf rfl rfl (by decide) (by decide) (fun a hf => ?_)
        refine sv_skip1 hf rfl rfl (by decide) (by decide) (fun a hf => ?_)
        refine sv_skip1 hf rfl rfl (by decide) (by decide) (fun a hf => ?_)
        refine sv_pk hf rfl rfl (by decide) (fun a hf => ?_)
        replace hf := hf.sub (env' := [(51, .bool true), (4, .pointer (some ⟨C3, 0, none⟩)), (3, .pointer (some ⟨C2, 0, none⟩)), (2, .pointer (some ⟨C1, 0, none⟩))]) (sub_cons rfl (sub_cons rfl (sub_cons rfl (sub_cons rfl (sub_nil)))))
        refine sv_nil hf ?_
        refine wp_cond_true (hf.rel _ _ rfl) ?_
        refine wp_seq ?_
        refine wp_region_lit ?_
        refine sv_lr hf hX rfl 2 rfl Try.underlying25 info_mem (by decide) (fun a hf => ?_)
        refine sv_srB hf hX rfl rfl 0 rfl rfl info_mem (fun v hv => List.all_eq_true.1 (show List.all [.int .i64 id, .int .i64 sz, .int .i64 tm, .int .i64 vt, .int .i64 rl, .int .i64 ld, .int .i64 ti, .int .i64 vs, .slice ga2 gl gc2, .int .i64 cm, .slice na2 nl nc2, .slice ma2 ml mc2] (·.oneCell') = true from rfl) v hv) [(C3, [.int .i64 id, .int .i64 sz, .int .i64 tm, .int .i64 vt, .int .i64 rl, .int .i64 ld, .int .i64 ti, .int .i64 vs, .slice ga2 gl gc2, .int .i64 cm, .slice na2 nl nc2, .slice ma2 ml mc2]), (C2, [.int .i64 xf, .int .i64 xto, .int .i64 xk, .int .i64 xt, .int .i64 xi, .int .i64 xl, .int .i64 xc, .slice ea el ec, .bool xok]), (C1, [.int .i64 id, .int .i64 sz, .int .i64 tm, .int .i64 vt, .int .i64 rl, .int .i64 ld, .int .i64 ti, .int .i64 vs, .slice ga2 gl gc2, .int .i64 cm, .slice na2 nl nc2, .slice ma2 ml mc2])] rfl (fun W hX hO => ?_)
        clear hO
        replace hf := hf.sub (env' := [(4, .pointer (some ⟨C3, 0, none⟩)), (3, .pointer (some ⟨C2, 0, none⟩)), (2, .pointer (some ⟨C1, 0, none⟩))]) (sub_cons rfl (sub_cons rfl (sub_cons rfl (sub_nil))))
        refine sv_nil hf ?_
        refine wp_ret ?_
        try simp only [Exit.inBlock, Exit.then]
        have hcc : c = 0 := by rw [hc]; unfold VCase; simp [hq4, hq5, hq6]
        refine bodyPost_ret (res_cell (c := 4) (C := C3) (cs := [.int .i64 id, .int .i64 sz, .int .i64 tm, .int .i64 vt, .int .i64 rl, .int .i64 ld, .int .i64 ti, .int .i64 vs, .slice ga2 gl gc2, .int .i64 cm, .slice na2 nl nc2, .slice ma2 ml mc2]) (T := 25) rfl (hf.rel 4 _ rfl) (hX.get (i := 0) rfl) Try.underlying25 info_mem) hf.defers ⟨ga2, gc2, na2, nc2, ma2, mc2, [.int .i64 id, .int .i64 sz, .int .i64 tm, .int .i64 vt, .int .i64 rl, .int .i64 ld, .int .i64 ti, .int .i64 vs, .slice ga2 gl gc2, .int .i64 cm, .slice na2 nl nc2, .slice ma2 ml mc2], rfl, .inl ⟨hcc, rfl⟩, ?_, by have := hX.low; rw [hβ] at this; exact this⟩
        obtain ⟨m, _, h8, h10, h11⟩ := HE.out
        exact ⟨m, hX.later2 hmem (fun k h => Or.inl (Nat.lt_of_lt_of_le h hb0.size)) (fun k h => Or.inr h) (fun k h => h) (fun k h => Nat.le_trans hsA h) h8, hX.later2 hmem (fun k h => Or.inl (Nat.lt_of_lt_of_le h hb0.size)) (fun k h => Or.inr h) (fun k h => h) (fun k h => Nat.le_trans hsA h) h10, hX.later2 hmem (fun k h => Or.inl (Nat.lt_of_lt_of_le h hb0.size)) (fun k h => Or.inr h) (fun k h => h) (fun k h => Nat.le_trans hsA h) h11⟩
  ·
    refine sv_cmp hf rfl rfl true (congrArg some (by rw [decide_eq_false hq4]; rfl)) (by decide) (fun a hf => ?_)
    replace hf := hf.sub (env' := [(9, .bool true), (4, .pointer (some ⟨C3, 0, none⟩)), (3, .pointer (some ⟨C2, 0, none⟩)), (2, .pointer (some ⟨C1, 0, none⟩))]) (sub_cons rfl (sub_cons rfl (sub_cons rfl (sub_cons rfl (sub_nil)))))
    refine sv_nil hf ?_
    refine wp_cond_true (hf.rel _ _ rfl) ?_
    refine wp_seq ?_
    refine wp_region_lit ?_
    refine sv_lr hf hX rfl 2 rfl Try.underlying25 info_mem (by decide) (fun a hf => ?_)
    refine sv_srB hf hX rfl rfl 0 rfl rfl info_mem (fun v hv => List.all_eq_true.1 (show List.all [.int .i64 id, .int .i64 sz, .int .i64 tm, .int .i64 vt, .int .i64 rl, .int .i64 ld, .int .i64 ti, .int .i64 vs, .slice ga2 gl gc2, .int .i64 cm, .slice na2 nl nc2, .slice ma2 ml mc2] (·.oneCell') = true from rfl) v hv) [(C3, [.int .i64 id, .int .i64 sz, .int .i64 tm, .int .i64 vt, .int .i64 rl, .int .i64 ld, .int .i64 ti, .int .i64 vs, .slice ga2 gl gc2, .int .i64 cm, .slice na2 nl nc2, .slice ma2 ml mc2]), (C2, [.int .i64 xf, .int .i64 xto, .int .i64 xk, .int .i64 xt, .int .i64 xi, .int .i64 xl, .int .i64 xc, .slice ea el ec, .bool xok]), (C1, [.int .i64 id, .int .i64 sz, .int .i64 tm, .int .i64 vt, .int .i64 rl, .int .i64 ld, .int .i64 ti, .int .i64 vs, .slice ga2 gl gc2, .int .i64 cm, .slice na2 nl nc2, .slice ma2 ml mc2])] rfl (fun W hX hO => ?_)
    clear hO
    replace hf := hf.sub (env' := [(4, .pointer (some ⟨C3, 0, none⟩)), (3, .pointer (some ⟨C2, 0, none⟩)), (2, .pointer (some ⟨C1, 0, none⟩))]) (sub_cons rfl (sub_cons rfl (sub_cons rfl (sub_nil))))
    refine sv_nil hf ?_
    refine wp_ret ?_
    try simp only [Exit.inBlock, Exit.then]
    have hcc : c = 0 := by rw [hc]; unfold VCase; simp [hq4]
    refine bodyPost_ret (res_cell (c := 4) (C := C3) (cs := [.int .i64 id, .int .i64 sz, .int .i64 tm, .int .i64 vt, .int .i64 rl, .int .i64 ld, .int .i64 ti, .int .i64 vs, .slice ga2 gl gc2, .int .i64 cm, .slice na2 nl nc2, .slice ma2 ml mc2]) (T := 25) rfl (hf.rel 4 _ rfl) (hX.get (i := 0) rfl) Try.underlying25 info_mem) hf.defers ⟨ga2, gc2, na2, nc2, ma2, mc2, [.int .i64 id, .int .i64 sz, .int .i64 tm, .int .i64 vt, .int .i64 rl, .int .i64 ld, .int .i64 ti, .int .i64 vs, .slice ga2 gl gc2, .int .i64 cm, .slice na2 nl nc2, .slice ma2 ml mc2], rfl, .inl ⟨hcc, rfl⟩, ?_, by have := hX.low; rw [hβ] at this; exact this⟩
    obtain ⟨m, _, h8, h10, h11⟩ := HE.out
    exact ⟨m, hX.later2 hmem (fun k h => Or.inl (Nat.lt_of_lt_of_le h hb0.size)) (fun k h => Or.inr h) (fun k h => h) (fun k h => Nat.le_trans hsA h) h8, hX.later2 hmem (fun k h => Or.inl (Nat.lt_of_lt_of_le h hb0.size)) (fun k h => Or.inr h) (fun k h => h) (fun k h => Nat.le_trans hsA h) h10, hX.later2 hmem (fun k h => Or.inl (Nat.lt_of_lt_of_le h hb0.size)) (fun k h => Or.inr h) (fun k h => h) (fun k h => Nat.le_trans hsA h) h11⟩
theorem rvoted_any (id sz tm vt rl ld ti vs : Int) (ga : Option Addr) (gl gc : Nat) (cm : Int) (na : Option Addr) (nl nc : Nat) (ma : Option Addr) (ml mc : Nat) (xf xto xk xt xi xl xc : Int) (ea : Option Addr) (el ec : Nat) (xok : Bool) (w : World) (h0 : 0 ≤ id) (hid : id < sz) (h1 : 1 ≤ sz) (h7 : sz ≤ 7) (hv0 : 0 ≤ vs) (hvs : vs < 2 ^ sz.toNat) (hx0 : 0 ≤ xf) (hxs : xf < sz) (v2 n2 : Int) (hv2 : v2 = orB vs (2 ^ xf.toNat)) (hn2 : n2 = cntB v2 sz.toNat) (c : Nat) (hc : c = VCase xk xt tm rl xok n2 (maj sz)) :
    Calls Try.prog 23 #[mem id sz tm vt rl ld ti vs (.slice ga gl gc) cm (.slice na nl nc) (.slice ma ml mc), .agg #[.int .i64 xf, .int .i64 xto, .int .i64 xk, .int .i64 xt, .int .i64 xi, .int .i64 xl, .int .i64 xc, .slice ea el ec, .bool xok]] w fun e w' => ∃ cs, e = .returned (.agg cs.toArray) ∧ VR w' c id sz tm vt rl ld ti vs v2 cm xt ga gl gc na nl nc ma ml mc cs ∧ Below w.heap.size w w' := by
  have hb2 : 0 ≤ v2 ∧ v2 < 2 ^ sz.toNat := by rw [hv2]; exact orB_in hv0 h1 h7 hvs hx0 hxs
  have hv128 : v2 < 128 := pow7 h7 hb2.2
  refine calls_frv (N := 53) (vs := [.agg #[.int .i64 id, .int .i64 sz, .int .i64 tm, .int .i64 vt, .int .i64 rl, .int .i64 ld, .int .i64 ti, .int .i64 vs, .slice ga gl gc, .int .i64 cm, .slice na nl nc, .slice ma ml mc], .agg #[.int .i64 xf, .int .i64 xto, .int .i64 xk, .int .i64 xt, .int .i64 xi, .int .i64 xl, .int .i64 xc, .slice ea el ec, .bool xok]]) [(0, .agg #[.int .i64 id, .int .i64 sz, .int .i64 tm, .int .i64 vt, .int .i64 rl, .int .i64 ld, .int .i64 ti, .int .i64 vs, .slice ga gl gc, .int .i64 cm, .slice na nl nc, .slice ma ml mc]), (1, .agg #[.int .i64 xf, .int .i64 xto, .int .i64 xk, .int .i64 xt, .int .i64 xi, .int .i64 xl, .int .i64 xc, .slice ea el ec, .bool xok])] Try.func23 rfl rfl (of_decide_eq_true rfl) (fun p hp => by simp only [List.mem_cons, List.not_mem_nil, or_false] at hp; rcases hp with rfl | rfl <;> rfl) (fun a hf => ?_)
  have hX := Bx.start w
  refine wp_seq ?_
  refine wp_region_lit ?_
  refine sv_boxB hf hX rfl (by decide) (fun a C1 W hC hf hX hA => ?_)
  clear hC hA
  refine sv_boxB hf hX rfl (by decide) (fun a C2 W hC hf hX hA => ?_)
  clear hC hA
  refine sv_allocB (zs := [.int .i64 0, .int .i64 0, .int .i64 0, .int .i64 0, .int .i64 0, .int .i64 0, .int .i64 0, .int .i64 0, .slice none 0 0, .int .i64 0, .slice none 0 0, .slice none 0 0]) hf hX zero_mem (by decide) (fun a C3 W hC hf hX hA => ?_)
  clear hC hA
  replace hf := hf.sub (env' := [(4, .pointer (some ⟨C3, 0, none⟩)), (3, .pointer (some ⟨C2, 0, none⟩)), (2, .pointer (some ⟨C1, 0, none⟩))]) (sub_cons rfl (sub_cons rfl (sub_cons rfl (sub_nil))))
  refine sv_nil hf ?_
  refine wp_seq ?_
  refine wp_seq ?_
  refine wp_region_lit ?_
  refine sv_fld hf rfl Try.underlying35 rfl sz_int (2) rfl (by decide) (fun a hf => ?_)
  refine sv_lc hf hX rfl 1 rfl rfl Try.underlying3 rfl (by decide) (fun a hf => ?_)
  rcases Decidable.em (xk = 2) with hq4 | hq4
  ·
    refine sv_cmp hf rfl rfl false (congrArg some (by rw [decide_eq_true hq4]; rfl)) (by decide) (fun a hf => ?_)
    replace hf := hf.sub (env' := [(7, .bool false), (4, .pointer (some ⟨C3, 0, none⟩)), (3, .pointer (some ⟨C2, 0, none⟩)), (2, .pointer (some ⟨C1, 0, none⟩))]) (sub_cons rfl (sub_cons rfl (sub_cons rfl (sub_cons rfl (sub_nil)))))
    refine sv_nil hf ?_
    refine wp_cond_false (hf.rel _ _ rfl) ?_
    refine wp_skip ?_
    refine wp_seq ?_
    refine wp_seq ?_
    refine wp_region_lit ?_
    refine sv_fld hf rfl Try.underlying35 rfl sz_int (3) rfl (by decide) (fun a hf => ?_)
    refine sv_lc hf hX rfl 1 rfl rfl Try.underlying3 rfl (by decide) (fun a hf => ?_)
    refine sv_fld hf rfl Try.underlying25 rfl sz_int (2) rfl (by decide) (fun a hf => ?_)
    refine sv_lc hf hX rfl 2 rfl rfl Try.underlying3 rfl (by decide) (fun a hf => ?_)
    rcases Decidable.em (tm < xt) with hq5 | hq5
    ·
      refine sv_cmp hf rfl rfl true (congrArg some (decide_eq_true hq5)) (by decide) (fun a hf => ?_)
      replace hf := hf.sub (env' := [(13, .bool true), (4, .pointer (some ⟨C3, 0, none⟩)), (3, .pointer (some ⟨C2, 0, none⟩)), (2, .pointer (some ⟨C1, 0, none⟩))]) (sub_cons rfl (sub_cons rfl (sub_cons rfl (sub_cons rfl (sub_nil)))))
      refine sv_nil hf ?_
      refine wp_cond_true (hf.rel _ _ rfl) ?_
      refine wp_seq ?_
      refine wp_region_lit ?_
      refine sv_lr hf hX rfl 2 rfl Try.underlying25 info_mem (by decide) (fun a hf => ?_)
      refine sv_fld hf rfl Try.underlying35 rfl sz_int (3) rfl (by decide) (fun a hf => ?_)
      refine sv_lc hf hX rfl 1 rfl rfl Try.underlying3 rfl (by decide) (fun a hf => ?_)
      refine sv_call hf fnOK_39 rfl (rstep_let _ _ _ _ _ _ _ _ _ _ _ _ _ _ _ _ _ _ _ _ h0 (by omega)) (by decide) ?_
      rintro e W ⟨rfl, hb⟩
      replace hX := hX.keep hb
      clear hb
      refine ⟨_, rfl, fun a hf => ?_⟩
      refine sv_srB hf hX rfl rfl 0 rfl rfl info_mem (fun v hv => List.all_eq_true.1 (show List.all [.int .i64 id, .int .i64 sz, .int .i64 (fTm tm xt), .int .i64 (fVt tm xt vt), .int .i64 (fRl tm xt rl), .int .i64 (fLd tm xt ld), .int .i64 (fTi tm xt rl ti id), .int .i64 (fVs tm xt vs), .slice ga gl gc, .int .i64 cm, .slice (fA tm xt na) (fN tm xt nl) (fN tm xt nc), .slice (fA tm xt ma) (fN tm xt ml) (fN tm xt mc)] (·.oneCell') = true from rfl) v hv) [(C3, [.int .i64 id, .int .i64 sz, .int .i64 (fTm tm xt), .int .i64 (fVt tm xt vt), .int .i64 (fRl tm xt rl), .int .i64 (fLd tm xt ld), .int .i64 (fTi tm xt rl ti id), .int .i64 (fVs tm xt vs), .slice ga gl gc, .int .i64 cm, .slice (fA tm xt na) (fN tm xt nl) (fN tm xt nc), .slice (fA tm xt ma) (fN tm xt ml) (fN tm xt mc)]), (C2, [.int .i64 xf, .int .i64 xto, .int .i64 xk, .int .i64 xt, .int .i64 xi, .int .i64 xl, .int .i64 xc, .slice ea el ec, .bool xok]), (C1, [.int .i64 id, .int .i64 sz, .int .i64 tm, .int .i64 vt, .int .i64 rl, .int .i64 ld, .int .i64 ti, .int .i64 vs, .slice ga gl gc, .int .i64 cm, .slice na nl nc, .slice ma ml mc])] rfl (fun W hX hO => ?_)
      clear hO
      replace hf := hf.sub (env' := [(4, .pointer (some ⟨C3, 0, none⟩)), (3, .pointer (some ⟨C2, 0, none⟩)), (2, .pointer (some ⟨C1, 0, none⟩))]) (sub_cons rfl (sub_cons rfl (sub_cons rfl (sub_nil))))
      refine sv_nil hf ?_
      refine wp_ret ?_
      try simp only [Exit.inBlock, Exit.then]
      have hcc : c = 1 := by rw [hc]; unfold VCase; simp [hq4, hq5]
      refine bodyPost_ret (res_cell (c := 4) (C := C3) (cs := [.int .i64 id, .int .i64 sz, .int .i64 (fTm tm xt), .int .i64 (fVt tm xt vt), .int .i64 (fRl tm xt rl), .int .i64 (fLd tm xt ld), .int .i64 (fTi tm xt rl ti id), .int .i64 (fVs tm xt vs), .slice ga gl gc, .int .i64 cm, .slice (fA tm xt na) (fN tm xt nl) (fN tm xt nc), .slice (fA tm xt ma) (fN tm xt ml) (fN tm xt mc)]) (T := 25) rfl (hf.rel 4 _ rfl) (hX.get (i := 0) rfl) Try.underlying25 info_mem) hf.defers ⟨[.int .i64 id, .int .i64 sz, .int .i64 (fTm tm xt), .int .i64 (fVt tm xt vt), .int .i64 (fRl tm xt rl), .int .i64 (fLd tm xt ld), .int .i64 (fTi tm xt rl ti id), .int .i64 (fVs tm xt vs), .slice ga gl gc, .int .i64 cm, .slice (fA tm xt na) (fN tm xt nl) (fN tm xt nc), .slice (fA tm xt ma) (fN tm xt ml) (fN tm xt mc)], rfl, .inr (.inl ⟨hcc, rfl⟩), hX.low⟩
    ·
      refine sv_cmp hf rfl rfl false (congrArg some (decide_eq_false hq5)) (by decide) (fun a hf => ?_)
      replace hf := hf.sub (env' := [(13, .bool false), (4, .pointer (some ⟨C3, 0, none⟩)), (3, .pointer (some ⟨C2, 0, none⟩)), (2, .pointer (some ⟨C1, 0, none⟩))]) (sub_cons rfl (sub_cons rfl (sub_cons rfl (sub_cons rfl (sub_nil)))))
      refine sv_nil hf ?_
      refine wp_cond_false (hf.rel _ _ rfl) ?_
      refine wp_skip ?_
      refine wp_seq ?_
      refine wp_seq ?_
      refine wp_region_lit ?_
      refine sv_fld hf rfl Try.underlying25 rfl sz_int (4) rfl (by decide) (fun a hf => ?_)
      refine sv_lc hf hX rfl 2 rfl rfl Try.underlying3 rfl (by decide) (fun a hf => ?_)
      rcases Decidable.em (rl = 1) with hq6 | hq6
      ·
        refine sv_cmp hf rfl rfl false (congrArg some (by rw [decide_eq_true hq6]; rfl)) (by decide) (fun a hf => ?_)
        refine sv_mv hf rfl (by decide) (fun a hf => ?_)
        refine sv_want hf rfl rfl ?_
        refine sv_fld hf rfl Try.underlying35 rfl sz_int (3) rfl (by decide) (fun a hf => ?_)
        refine sv_want hf rfl rfl ?_
        refine sv_lc hf hX rfl 1 rfl rfl Try.underlying3 rfl (by decide) (fun a hf => ?_)
        refine sv_want hf rfl rfl ?_
        refine sv_fld hf rfl Try.underlying25 rfl sz_int (2) rfl (by decide) (fun a hf => ?_)
        refine sv_want hf rfl rfl ?_
        refine sv_lc hf hX rfl 2 rfl rfl Try.underlying3 rfl (by decide) (fun a hf => ?_)
        refine sv_want hf rfl rfl ?_
        rcases Decidable.em (xt = tm) with hq7 | hq7
        ·
          refine sv_cmp hf rfl rfl false (congrArg some (by rw [decide_eq_true hq7]; rfl)) (by decide) (fun a hf => ?_)
          refine sv_pk hf rfl rfl (by decide) (fun a hf => ?_)
          refine sv_mv hf rfl (by decide) (fun a hf => ?_)
          refine sv_want hf rfl rfl ?_
          refine sv_fld hf rfl Try.underlying35 rfl sz_bool (8) rfl (by decide) (fun a hf => ?_)
          refine sv_want hf rfl rfl ?_
          refine sv_lc hf hX rfl 1 rfl rfl Try.underlying4 rfl (by decide) (fun a hf => ?_)
          refine sv_want hf rfl rfl ?_
          cases xok
          ·
            refine sv_not hf rfl (by decide) (fun a hf => ?_)
            refine sv_pk hf rfl rfl (by decide) (fun a hf => ?_)
            replace hf := hf.sub (env' := [(32, .bool true), (4, .pointer (some ⟨C3, 0, none⟩)), (3, .pointer (some ⟨C2, 0, none⟩)), (2, .pointer (some ⟨C1, 0, none⟩))]) (sub_cons rfl (sub_cons rfl (sub_cons rfl (sub_cons rfl (sub_nil)))))
            refine sv_nil hf ?_
            refine wp_cond_true (hf.rel _ _ rfl) ?_
            refine wp_seq ?_
            refine wp_region_lit ?_
            refine sv_lr hf hX rfl 2 rfl Try.underlying25 info_mem (by decide) (fun a hf => ?_)
            refine sv_srB hf hX rfl rfl 0 rfl rfl info_mem (fun v hv => List.all_eq_true.1 (show List.all [.int .i64 id, .int .i64 sz, .int .i64 tm, .int .i64 vt, .int .i64 rl, .int .i64 ld, .int .i64 ti, .int .i64 vs, .slice ga gl gc, .int .i64 cm, .slice na nl nc, .slice ma ml mc] (·.oneCell') = true from rfl) v hv) [(C3, [.int .i64 id, .int .i64 sz, .int .i64 tm, .int .i64 vt, .int .i64 rl, .int .i64 ld, .int .i64 ti, .int .i64 vs, .slice ga gl gc, .int .i64 cm, .slice na nl nc, .slice ma ml mc]), (C2, [.int .i64 xf, .int .i64 xto, .int .i64 xk, .int .i64 xt, .int .i64 xi, .int .i64 xl, .int .i64 xc, .slice ea el ec, .bool false]), (C1, [.int .i64 id, .int .i64 sz, .int .i64 tm, .int .i64 vt, .int .i64 rl, .int .i64 ld, .int .i64 ti, .int .i64 vs, .slice ga gl gc, .int .i64 cm, .slice na nl nc, .slice ma ml mc])] rfl (fun W hX hO => ?_)
            clear hO
            replace hf := hf.sub (env' := [(4, .pointer (some ⟨C3, 0, none⟩)), (3, .pointer (some ⟨C2, 0, none⟩)), (2, .pointer (some ⟨C1, 0, none⟩))]) (sub_cons rfl (sub_cons rfl (sub_cons rfl (sub_nil))))
            refine sv_nil hf ?_
            refine wp_ret ?_
            try simp only [Exit.inBlock, Exit.then]
            have hcc : c = 0 := by rw [hc]; unfold VCase; simp [hq4, hq5, hq6, hq7]
            refine bodyPost_ret (res_cell (c := 4) (C := C3) (cs := [.int .i64 id, .int .i64 sz, .int .i64 tm, .int .i64 vt, .int .i64 rl, .int .i64 ld, .int .i64 ti, .int .i64 vs, .slice ga gl gc, .int .i64 cm, .slice na nl nc, .slice ma ml mc]) (T := 25) rfl (hf.rel 4 _ rfl) (hX.get (i := 0) rfl) Try.underlying25 info_mem) hf.defers ⟨[.int .i64 id, .int .i64 sz, .int .i64 tm, .int .i64 vt, .int .i64 rl, .int .i64 ld, .int .i64 ti, .int .i64 vs, .slice ga gl gc, .int .i64 cm, .slice na nl nc, .slice ma ml mc], rfl, .inl ⟨hcc, rfl⟩, hX.low⟩
          ·
            refine sv_not hf rfl (by decide) (fun a hf => ?_)
            refine sv_pk hf rfl rfl (by decide) (fun a hf => ?_)
            replace hf := hf.sub (env' := [(32, .bool false), (4, .pointer (some ⟨C3, 0, none⟩)), (3, .pointer (some ⟨C2, 0, none⟩)), (2, .pointer (some ⟨C1, 0, none⟩))]) (sub_cons rfl (sub_cons rfl (sub_cons rfl (sub_cons rfl (sub_nil)))))
            refine sv_nil hf ?_
            refine wp_cond_false (hf.rel _ _ rfl) ?_
            refine wp_skip ?_
            refine wp_seq ?_
            refine wp_region_ordW 8 7 [(0, 0), (1, 1), (2, 0), (3, 1), (4, 0), (5, 0), (6, 0), (7, 3)] (fun X => Bx ⟨w, []⟩ [(C3, [.int .i64 0, .int .i64 0, .int .i64 0, .int .i64 0, .int .i64 0, .int .i64 0, .int .i64 0, .int .i64 0, .slice none 0 0, .int .i64 0, .slice none 0 0, .slice none 0 0]), (C2, [.int .i64 xf, .int .i64 xto, .int .i64 xk, .int .i64 xt, .int .i64 xi, .int .i64 xl, .int .i64 xc, .slice ea el ec, .bool true]), (C1, [.int .i64 id, .int .i64 sz, .int .i64 tm, .int .i64 vt, .int .i64 rl, .int .i64 ld, .int .i64 ti, .int .i64 vs, .slice ga gl gc, .int .i64 cm, .slice na nl nc, .slice ma ml mc])] X) mixed (by kernel_rfl) hX.drew (fun c a d v w h => by cases d <;> exact h) ?_
            replace hX := hX.drew
            refine ov0 hf rfl rfl (by decide) rfl (fun X => ex_vfld (7) hf rfl rfl Try.underlying25 rfl sz_int rfl) (fun a hf => ?_)
            refine ov1 hf rfl rfl (by decide) rfl (fun X hS => ex_vlc (cs := [.int .i64 id, .int .i64 sz, .int .i64 tm, .int .i64 vt, .int .i64 rl, .int .i64 ld, .int .i64 ti, .int .i64 vs, .slice ga gl gc, .int .i64 cm, .slice na nl nc, .slice ma ml mc]) hf rfl rfl (hS.get (i := 2) rfl) rfl Try.underlying3 rfl) (fun a hf => ?_)
            refine ov0 hf rfl rfl (by decide) rfl (fun X => ex_vfld (0) hf rfl rfl Try.underlying35 rfl sz_int rfl) (fun a hf => ?_)
            refine ov1 hf rfl rfl (by decide) rfl (fun X hS => ex_vlc (cs := [.int .i64 xf, .int .i64 xto, .int .i64 xk, .int .i64 xt, .int .i64 xi, .int .i64 xl, .int .i64 xc, .slice ea el ec, .bool true]) hf rfl rfl (hS.get (i := 1) rfl) rfl Try.underlying3 rfl) (fun a hf => ?_)
            refine ov0 hf rfl rfl (by decide) rfl (fun X => ex_shl hf rfl rfl rfl hx0 (by omega) rfl) (fun a hf => ?_)
            refine ov0 hf rfl rfl (by decide) rfl (fun X => ex_or hf rfl rfl rfl hv2.symm) (fun a hf => ?_)
            refine ov0 hf rfl rfl (by decide) rfl (fun X => ex_vfld (7) hf rfl rfl Try.underlying25 rfl sz_int rfl) (fun a hf => ?_)
            have hbS := hX.get (i := 2) (C := C1) (cs := [.int .i64 id, .int .i64 sz, .int .i64 tm, .int .i64 vt, .int .i64 rl, .int .i64 ld, .int .i64 ti, .int .i64 vs, .slice ga gl gc, .int .i64 cm, .slice na nl nc, .slice ma ml mc]) rfl
            refine ov3 rfl rfl rfl (ex_store_cell _ _ _ C1 7 (.int .i64 v2) rfl (hf.ev rfl) (hf.ev rfl) (hbS.there 7 1 (of_decide_eq_true rfl)) info_int rfl) ?_
            replace hX : Bx ⟨w, []⟩ [(C3, [.int .i64 0, .int .i64 0, .int .i64 0, .int .i64 0, .int .i64 0, .int .i64 0, .int .i64 0, .int .i64 0, .slice none 0 0, .int .i64 0, .slice none 0 0, .slice none 0 0]), (C2, [.int .i64 xf, .int .i64 xto, .int .i64 xk, .int .i64 xt, .int .i64 xi, .int .i64 xl, .int .i64 xc, .slice ea el ec, .bool true]), (C1, [.int .i64 id, .int .i64 sz, .int .i64 tm, .int .i64 vt, .int .i64 rl, .int .i64 ld, .int .i64 ti, .int .i64 v2, .slice ga gl gc, .int .i64 cm, .slice na nl nc, .slice ma ml mc])] (World.setCells _ C1 7 [.int .i64 v2]) := hX.set (i := 2) rfl (hbS.setCell 7 _ (of_decide_eq_true rfl)) (Only.setCell _ C1 7 _)
            clear hbS
            replace hf := hf.sub (env' := [(4, .pointer (some ⟨C3, 0, none⟩)), (2, .pointer (some ⟨C1, 0, none⟩))]) (sub_cons rfl (sub_cons rfl (sub_nil)))
            refine wpOrd_nil ?_
            refine wp_seq ?_
            refine wp_seq ?_
            refine wp_region_ordW 9 8 [(0, 0), (1, 1), (2, 0), (3, 1), (5, 0), (6, 1), (4, 2), (7, 2), (8, 3)] (fun X => Bx ⟨w, []⟩ [(C3, [.int .i64 0, .int .i64 0, .int .i64 0, .int .i64 0, .int .i64 0, .int .i64 0, .int .i64 0, .int .i64 0, .slice none 0 0, .int .i64 0, .slice none 0 0, .slice none 0 0]), (C2, [.int .i64 xf, .int .i64 xto, .int .i64 xk, .int .i64 xt, .int .i64 xi, .int .i64 xl, .int .i64 xc, .slice ea el ec, .bool true]), (C1, [.int .i64 id, .int .i64 sz, .int .i64 tm, .int .i64 vt, .int .i64 rl, .int .i64 ld, .int .i64 ti, .int .i64 v2, .slice ga gl gc, .int .i64 cm, .slice na nl nc, .slice ma ml mc])] X) mixed (by kernel_rfl) hX.drew (fun c a d v w h => by cases d <;> exact h) ?_
            replace hX := hX.drew
            refine ov0 hf rfl rfl (by decide) rfl (fun X => ex_vfld (7) hf rfl rfl Try.underlying25 rfl sz_int rfl) (fun a hf => ?_)
            refine ov1 hf rfl rfl (by decide) rfl (fun X hS => ex_vlc (cs := [.int .i64 id, .int .i64 sz, .int .i64 tm, .int .i64 vt, .int .i64 rl, .int .i64 ld, .int .i64 ti, .int .i64 v2, .slice ga gl gc, .int .i64 cm, .slice na nl nc, .slice ma ml mc]) hf rfl rfl (hS.get (i := 2) rfl) rfl Try.underlying3 rfl) (fun a hf => ?_)
            refine ov0 hf rfl rfl (by decide) rfl (fun X => ex_vfld (1) hf rfl rfl Try.underlying25 rfl sz_int rfl) (fun a hf => ?_)
            refine ov1 hf rfl rfl (by decide) rfl (fun X hS => ex_vlc (cs := [.int .i64 id, .int .i64 sz, .int .i64 tm, .int .i64 vt, .int .i64 rl, .int .i64 ld, .int .i64 ti, .int .i64 v2, .slice ga gl gc, .int .i64 cm, .slice na nl nc, .slice ma ml mc]) hf rfl rfl (hS.get (i := 2) rfl) rfl Try.underlying3 rfl) (fun a hf => ?_)
            refine ov0 hf rfl rfl (by decide) rfl (fun X => ex_vfld (1) hf rfl rfl Try.underlying25 rfl sz_int rfl) (fun a hf => ?_)
            refine ov1 hf rfl rfl (by decide) rfl (fun X hS => ex_vlc (cs := [.int .i64 id, .int .i64 sz, .int .i64 tm, .int .i64 vt, .int .i64 rl, .int .i64 ld, .int .i64 ti, .int .i64 v2, .slice ga gl gc, .int .i64 cm, .slice na nl nc, .slice ma ml mc]) hf rfl rfl (hS.get (i := 2) rfl) rfl Try.underlying3 rfl) (fun a hf => ?_)
            refine ov2c hf rfl rfl (by decide) rfl rfl fnOK_34 rfl (votes_n hb2.1 h1 h7 hn2 _) ?_
            rintro e W' ⟨rfl, hw⟩
            subst hw
            refine ⟨_, rfl, hX, fun a hf => ?_⟩
            refine ov2c hf rfl rfl (by decide) rfl rfl fnOK_13 rfl (rmaj_any sz _) ?_
            rintro e W' ⟨rfl, hw⟩
            subst hw
            refine ⟨_, rfl, hX, fun a hf => ?_⟩
            rcases Decidable.em (maj sz ≤ n2) with hq9 | hq9
            ·
              refine ov3v hf rfl rfl (by decide) rfl (ex_cmp (b := true) hf rfl rfl rfl (congrArg some (decide_eq_true hq9))) (fun a hf => ?_)
              replace hf := hf.sub (env' := [(49, .bool true), (4, .pointer (some ⟨C3, 0, none⟩)), (2, .pointer (some ⟨C1, 0, none⟩))]) (sub_cons rfl (sub_cons rfl (sub_cons rfl (sub_nil))))
              refine wpOrd_nil ?_
              refine wp_cond_true (hf.rel _ _ rfl) ?_
              refine wp_seq ?_
              refine wp_region_lit ?_
              refine sv_lr hf hX rfl 2 rfl Try.underlying25 info_mem (by decide) (fun a hf => ?_)
              have hlwB := hX.lts
              refine sv_call hf fnOK_44 rfl (primary_int _ _ _ _ _ _ _ _ _ _ _ _ _ _ _ _ _ _ _ h0 hid h7) (by decide) ?_
              rintro e W ⟨pa, pl, pc, sa, sl, sc, rfl, r1, r2, ⟨g1, hg1, hgl1⟩, ⟨g2, hg2, hgl2⟩, hb⟩
              replace hX := hX.keep hb
              clear hb
              refine ⟨_, rfl, fun a hf => ?_⟩
              refine sv_srB hf hX rfl rfl 0 rfl rfl info_mem (fun v hv => List.all_eq_true.1 (show List.all [.int .i64 id, .int .i64 sz, .int .i64 tm, .int .i64 vt, .int .i64 2, .int .i64 id, .int .i64 1, .int .i64 v2, .slice ga gl gc, .int .i64 cm, .slice pa pl pc, .slice sa sl sc] (·.oneCell') = true from rfl) v hv) [(C3, [.int .i64 id, .int .i64 sz, .int .i64 tm, .int .i64 vt, .int .i64 2, .int .i64 id, .int .i64 1, .int .i64 v2, .slice ga gl gc, .int .i64 cm, .slice pa pl pc, .slice sa sl sc]), (C2, [.int .i64 xf, .int .i64 xto, .int .i64 xk, .int .i64 xt, .int .i64 xi, .int .i64 xl, .int .i64 xc, .slice ea el ec, .bool true]), (C1, [.int .i64 id, .int .i64 sz, .int .i64 tm, .int .i64 vt, .int .i64 rl, .int .i64 ld, .int .i64 ti, .int .i64 v2, .slice ga gl gc, .int .i64 cm, .slice na nl nc, .slice ma ml mc])] rfl (fun W hX hO => ?_)
              have hcC := hlwB _ (List.mem_of_getElem? (i := 0) rfl)
              replace r1 := r1.keep hg1 (hO.heap _ (by simp only at hcC; omega)) (Nat.le_of_eq hO.size.symm)
              replace r2 := r2.keep hg2 (hO.heap _ (by simp only at hcC; omega)) (Nat.le_of_eq hO.size.symm)
              clear hO
              replace hf := hf.sub (env' := [(4, .pointer (some ⟨C3, 0, none⟩)), (2, .pointer (some ⟨C1, 0, none⟩))]) (sub_cons rfl (sub_cons rfl (sub_nil)))
              refine sv_nil hf ?_
              refine wp_ret ?_
              try simp only [Exit.inBlock, Exit.then]
              have hcc : c = 3 := by rw [hc]; unfold VCase; simp [hq4, hq5, hq6, hq7, hq9]
              refine bodyPost_ret (res_cell (c := 4) (C := C3) (cs := [.int .i64 id, .int .i64 sz, .int .i64 tm, .int .i64 vt, .int .i64 2, .int .i64 id, .int .i64 1, .int .i64 v2, .slice ga gl gc, .int .i64 cm, .slice pa pl pc, .slice sa sl sc]) (T := 25) rfl (hf.rel 4 _ rfl) (hX.get (i := 0) rfl) Try.underlying25 info_mem) hf.defers ⟨[.int .i64 id, .int .i64 sz, .int .i64 tm, .int .i64 vt, .int .i64 2, .int .i64 id, .int .i64 1, .int .i64 v2, .slice ga gl gc, .int .i64 cm, .slice pa pl pc, .slice sa sl sc], rfl, .inr (.inr (.inr ⟨hcc, pa, pl, pc, sa, sl, sc, rfl, r1, r2⟩)), hX.low⟩
            ·
              refine ov3v hf rfl rfl (by decide) rfl (ex_cmp (b := false) hf rfl rfl rfl (congrArg some (decide_eq_false hq9))) (fun a hf => ?_)
              replace hf := hf.sub (env' := [(49, .bool false), (4, .pointer (some ⟨C3, 0, none⟩)), (2, .pointer (some ⟨C1, 0, none⟩))]) (sub_cons rfl (sub_cons rfl (sub_cons rfl (sub_nil))))
              refine wpOrd_nil ?_
              refine wp_cond_false (hf.rel _ _ rfl) ?_
              refine wp_skip ?_
              refine wp_seq ?_
              refine wp_region_lit ?_
              refine sv_lr hf hX rfl 2 rfl Try.underlying25 info_mem (by decide) (fun a hf => ?_)
              refine sv_srB hf hX rfl rfl 0 rfl rfl info_mem (fun v hv => List.all_eq_true.1 (show List.all [.int .i64 id, .int .i64 sz, .int .i64 tm, .int .i64 vt, .int .i64 rl, .int .i64 ld, .int .i64 ti, .int .i64 v2, .slice ga gl gc, .int .i64 cm, .slice na nl nc, .slice ma ml mc] (·.oneCell') = true from rfl) v hv) [(C3, [.int .i64 id, .int .i64 sz, .int .i64 tm, .int .i64 vt, .int .i64 rl, .int .i64 ld, .int .i64 ti, .int .i64 v2, .slice ga gl gc, .int .i64 cm, .slice na nl nc, .slice ma ml mc]), (C2, [.int .i64 xf, .int .i64 xto, .int .i64 xk, .int .i64 xt, .int .i64 xi, .int .i64 xl, .int .i64 xc, .slice ea el ec, .bool true]), (C1, [.int .i64 id, .int .i64 sz, .int .i64 tm, .int .i64 vt, .int .i64 rl, .int .i64 ld, .int .i64 ti, .int .i64 v2, .slice ga gl gc, .int .i64 cm, .slice na nl nc, .slice ma ml mc])] rfl (fun W hX hO => ?_)
              clear hO
              replace hf := hf.sub (env' := [(4, .pointer (some ⟨C3, 0, none⟩))]) (sub_cons rfl (sub_nil))
              refine sv_nil hf ?_
              refine wp_ret ?_
              try simp only [Exit.inBlock, Exit.then]
              have hcc : c = 2 := by rw [hc]; unfold VCase; simp [hq4, hq5, hq6, hq7, hq9]
              refine bodyPost_ret (res_cell (c := 4) (C := C3) (cs := [.int .i64 id, .int .i64 sz, .int .i64 tm, .int .i64 vt, .int .i64 rl, .int .i64 ld, .int .i64 ti, .int .i64 v2, .slice ga gl gc, .int .i64 cm, .slice na nl nc, .slice ma ml mc]) (T := 25) rfl (hf.rel 4 _ rfl) (hX.get (i := 0) rfl) Try.underlying25 info_mem) hf.defers ⟨[.int .i64 id, .int .i64 sz, .int .i64 tm, .int .i64 vt, .int .i64 rl, .int .i64 ld, .int .i64 ti, .int .i64 v2, .slice ga gl gc, .int .i64 cm, .slice na nl nc, .slice ma ml mc], rfl, .inr (.inr (.inl ⟨hcc, rfl⟩)), hX.low⟩
        ·
          refine sv_cmp hf rfl rfl true (congrArg some (by rw [decide_eq_false hq7]; rfl)) (by decide) (fun a hf => ?_)
          refine sv_pk hf rfl rfl (by decide) (fun a hf => ?_)
          refine sv_mv hf rfl (by decide) (fun a hf => ?_)
          refine sv_skip1 hf rfl rfl (by decide) (by decide) (fun a hf => ?_)
          refine sv_skip1 hf rfl rfl (by decide) (by decide) (fun a hf => ?_)
          refine sv_skip1 hf rfl rfl (by decide) (by decide) (fun a hf => ?_)
          refine sv_pk hf rfl rfl (by decide) (fun a hf => ?_)
          replace hf := hf.sub (env' := [(32, .bool true), (4, .pointer (some ⟨C3, 0, none⟩)), (3, .pointer (some ⟨C2, 0, none⟩)), (2, .pointer (some ⟨C1, 0, none⟩))]) (sub_cons rfl (sub_cons rfl (sub_cons rfl (sub_cons rfl (sub_nil)))))
          refine sv_nil hf ?_
          refine wp_cond_true (hf.rel _ _ rfl) ?_
          refine wp_seq ?_
          refine wp_region_lit ?_
          refine sv_lr hf hX rfl 2 rfl Try.underlying25 info_mem (by decide) (fun a hf => ?_)
          refine sv_srB hf hX rfl rfl 0 rfl rfl info_mem (fun v hv => List.all_eq_true.1 (show List.all [.int .i64 id, .int .i64 sz, .int .i64 tm, .int .i64 vt, .int .i64 rl, .int .i64 ld, .int .i64 ti, .int .i64 vs, .slice ga gl gc, .int .i64 cm, .slice na nl nc, .slice ma ml mc] (·.oneCell') = true from rfl) v hv) [(C3, [.int .i64 id, .int .i64 sz, .int .i64 tm, .int .i64 vt, .int .i64 rl, .int .i64 ld, .int .i64 ti, .int .i64 vs, .slice ga gl gc, .int .i64 cm, .slice na nl nc, .slice ma ml mc]), (C2, [.int .i64 xf, .int .i64 xto, .int .i64 xk, .int .i64 xt, .int .i64 xi, .int .i64 xl, .int .i64 xc, .slice ea el ec, .bool xok]), (C1, [.int .i64 id, .int .i64 sz, .int .i64 tm, .int .i64 vt, .int .i64 rl, .int .i64 ld, .int .i64 ti, .int .i64 vs, .slice ga gl gc, .int .i64 cm, .slice na nl nc, .slice ma ml mc])] rfl (fun W hX hO => ?_)
          clear hO
          replace hf := hf.sub (env' := [(4, .pointer (some ⟨C3, 0, none⟩)), (3, .pointer (some ⟨C2, 0, none⟩)), (2, .pointer (some ⟨C1, 0, none⟩))]) (sub_cons rfl (sub_cons rfl (sub_cons rfl (sub_nil))))
          refine sv_nil hf ?_
          refine wp_ret ?_
          try simp only [Exit.inBlock, Exit.then]
          have hcc : c = 0 := by rw [hc]; unfold VCase; simp [hq4, hq5, hq6, hq7]
          refine bodyPost_ret (res_cell (c := 4) (C := C3) (cs := [.int .i64 id, .int .i64 sz, .int .i64 tm, .int .i64 vt, .int .i64 rl, .int .i64 ld, .int .i64 ti, .int .i64 vs, .slice ga gl gc, .int .i64 cm, .slice na nl nc, .slice ma ml mc]) (T := 25) rfl (hf.rel 4 _ rfl) (hX.get (i := 0) rfl) Try.underlying25 info_mem) hf.defers ⟨[.int .i64 id, .int .i64 sz, .int .i64 tm, .int .i64 vt, .int .i64 rl, .int .i64 ld, .int .i64 ti, .int .i64 vs, .slice ga gl gc, .int .i64 cm, .slice na nl nc, .slice ma ml mc], rfl, .inl ⟨hcc, rfl⟩, hX.low⟩
      ·
        refine sv_cmp hf rfl rfl true (congrArg some (by rw [decide_eq_false hq6]; rfl)) (by decide) (fun a hf => ?_)
        refine sv_mv hf rfl (by decide) (fun a hf => ?_)
        refine sv_skip1 hf rfl rfl (by decide) (by decide) (fun a hf => ?_)
        refine sv_skip1 hf rfl rfl (by decide) (by decide) (fun a hf => ?_)
        refine sv_skip1 hf rfl rfl (by decide) (by decide) (fun a hf => ?_)
        refine sv_skip1 hf rfl rfl (by decide) (by decide) (fun a hf => ?_)
        refine sv_skip1 hf rfl rfl (by decide) (by decide) (fun a hf => ?_)
        refine sv_pk hf rfl rfl (by decide) (fun a hf => ?_)
        refine sv_mv hf rfl (by decide) (fun a hf => ?_)
        refine sv_skip1 hf rfl rfl (by decide) (by decide) (fun a hf => ?_)
        refine sv_skip1 hf rfl rfl (by decide) (by decide) (fun a hf => ?_)
        refine sv_skip1 hf rfl rfl (by decide) (by decide) (fun a hf => ?_)
        refine sv_pk hf rfl rfl (by decide) (fun a hf => ?_)
        replace hf := hf.sub (env' := [(32, .bool true), (4, .pointer (some ⟨C3, 0, none⟩)), (3, .pointer (some ⟨C2, 0, none⟩)), (2, .pointer (some ⟨C1, 0, none⟩))]) (sub_cons rfl (sub_cons rfl (sub_cons rfl (sub_cons rfl (sub_nil)))))
        refine sv_nil hf ?_
        refine wp_cond_true (hf.rel _ _ rfl) ?_
        refine wp_seq ?_
        refine wp_region_lit ?_
        refine sv_lr hf hX rfl 2 rfl Try.underlying25 info_mem (by decide) (fun a hf => ?_)
        refine sv_srB hf hX rfl rfl 0 rfl rfl info_mem (fun v hv => List.all_eq_true.1 (show List.all [.int .i64 id, .int .i64 sz, .int .i64 tm, .int .i64 vt, .int .i64 rl, .int .i64 ld, .int .i64 ti, .int .i64 vs, .slice ga gl gc, .int .i64 cm, .slice na nl nc, .slice ma ml mc] (·.oneCell') = true from rfl) v hv) [(C3, [.int .i64 id, .int .i64 sz, .int .i64 tm, .int .i64 vt, .int .i64 rl, .int .i64 ld, .int .i64 ti, .int .i64 vs, .slice ga gl gc, .int .i64 cm, .slice na nl nc, .slice ma ml mc]), (C2, [.int .i64 xf, .int .i64 xto, .int .i64 xk, .int .i64 xt, .int .i64 xi, .int .i64 xl, .int .i64 xc, .slice ea el ec, .bool xok]), (C1, [.int .i64 id, .int .i64 sz, .int .i64 tm, .int .i64 vt, .int .i64 rl, .int .i64 ld, .int .i64 ti, .int .i64 vs, .slice ga gl gc, .int .i64 cm, .slice na nl nc, .slice ma ml mc])] rfl (fun W hX hO => ?_)
        clear hO
        replace hf := hf.sub (env' := [(4, .pointer (some ⟨C3, 0, none⟩)), (3, .pointer (some ⟨C2, 0, none⟩)), (2, .pointer (some ⟨C1, 0, none⟩))]) (sub_cons rfl (sub_cons rfl (sub_cons rfl (sub_nil))))
        refine sv_nil hf ?_
        refine wp_ret ?_
        try simp only [Exit.inBlock, Exit.then]
        have hcc : c = 0 := by rw [hc]; unfold VCase; simp [hq4, hq5, hq6]
        refine bodyPost_ret (res_cell (c := 4) (C := C3) (cs := [.int .i64 id, .int .i64 sz, .int .i64 tm, .int .i64 vt, .int .i64 rl, .int .i64 ld, .int .i64 ti, .int .i64 vs, .slice ga gl gc, .int .i64 cm, .slice na nl nc, .slice ma ml mc]) (T := 25) rfl (hf.rel 4 _ rfl) (hX.get (i := 0) rfl) Try.underlying25 info_mem) hf.defers ⟨[.int .i64 id, .int .i64 sz, .int .i64 tm, .int .i64 vt, .int .i64 rl, .int .i64 ld, .int .i64 ti, .int .i64 vs, .slice ga gl gc, .int .i64 cm, .slice na nl nc, .slice ma ml mc], rfl, .inl ⟨hcc, rfl⟩, hX.low⟩
  ·
    refine sv_cmp hf rfl rfl true (congrArg some (by rw [decide_eq_false hq4]; rfl)) (by decide) (fun a hf => ?_)
    replace hf := hf.sub (env' := [(7, .bool true), (4, .pointer (some ⟨C3, 0, none⟩)), (3, .pointer (some ⟨C2, 0, none⟩)), (2, .pointer (some ⟨C1, 0, none⟩))]) (sub_cons rfl (sub_cons rfl (sub_cons rfl (sub_cons rfl (sub_nil)))))
    refine sv_nil hf ?_
    refine wp_cond_true (hf.rel _ _ rfl) ?_
    refine wp_seq ?_
    refine wp_region_lit ?_
    refine sv_lr hf hX rfl 2 rfl Try.underlying25 info_mem (by decide) (fun a hf => ?_)
    refine sv_srB hf hX rfl rfl 0 rfl rfl info_mem (fun v hv => List.all_eq_true.1 (show List.all [.int .i64 id, .int .i64 sz, .int .i64 tm, .int .i64 vt, .int .i64 rl, .int .i64 ld, .int .i64 ti, .int .i64 vs, .slice ga gl gc, .int .i64 cm, .slice na nl nc, .slice ma ml mc] (·.oneCell') = true from rfl) v hv) [(C3, [.int .i64 id, .int .i64 sz, .int .i64 tm, .int .i64 vt, .int .i64 rl, .int .i64 ld, .int .i64 ti, .int .i64 vs, .slice ga gl gc, .int .i64 cm, .slice na nl nc, .slice ma ml mc]), (C2, [.int .i64 xf, .int .i64 xto, .int .i64 xk, .int .i64 xt, .int .i64 xi, .int .i64 xl, .int .i64 xc, .slice ea el ec, .bool xok]), (C1, [.int .i64 id, .int .i64 sz, .int .i64 tm, .int .i64 vt, .int .i64 rl, .int .i64 ld, .int .i64 ti, .int .i64 vs, .slice ga gl gc, .int .i64 cm, .slice na nl nc, .slice ma ml mc])] rfl (fun W hX hO => ?_)
    clear hO
    replace hf := hf.sub (env' := [(4, .pointer (some ⟨C3, 0, none⟩)), (3, .pointer (some ⟨C2, 0, none⟩)), (2, .pointer (some ⟨C1, 0, none⟩))]) (sub_cons rfl (sub_cons rfl (sub_cons rfl (sub_nil))))
    refine sv_nil hf ?_
    refine wp_ret ?_
    try simp only [Exit.inBlock, Exit.then]
    have hcc : c = 0 := by rw [hc]; unfold VCase; simp [hq4]
    refine bodyPost_ret (res_cell (c := 4) (C := C3) (cs := [.int .i64 id, .int .i64 sz, .int .i64 tm, .int .i64 vt, .int .i64 rl, .int .i64 ld, .int .i64 ti, .int .i64 vs, .slice ga gl gc, .int .i64 cm, .slice na nl nc, .slice ma ml mc]) (T := 25) rfl (hf.rel 4 _ rfl) (hX.get (i := 0) rfl) Try.underlying25 info_mem) hf.defers ⟨[.int .i64 id, .int .i64 sz, .int .i64 tm, .int .i64 vt, .int .i64 rl, .int .i64 ld, .int .i64 ti, .int .i64 vs, .slice ga gl gc, .int .i64 cm, .slice na nl nc, .slice ma ml mc], rfl, .inl ⟨hcc, rfl⟩, hX.low⟩
end Go.Proofs.Ytfpgklhbghahoaa
/- Election: the law Counts. -/
namespace Go.Proofs.Ytfpgklhbghahoaa
open Go.ChangeShapes Go.WideShapes Go.ChangeAt Go.RowKit Go.ChangeMaps Go.Joins Go.Deep
set_option linter.unusedVariables false
set_option linter.unusedSimpArgs false
set_option maxRecDepth 100000
theorem EqC.tt {W : World} {F F' : Nat → Prop} {n : Nat} {t : TypeId} {cs ds : List Value} (h : EqC Try.prog W W F F' n t cs ds) : EqC Try.prog W W TT TT n t cs ds :=
  EqC.kept (Nat.le_refl _) (Nat.le_refl _) (fun _ _ _ => rfl) (fun _ _ _ => rfl) (fun _ _ _ => trivial) (fun _ _ _ => trivial) n t cs ds h
theorem law_counts (n : Nat) (id sz tm vt rl ld ti vs : Int) (ga : Option Addr) (gc : Nat) (es : List (List Value)) (cm : Int) (na : Option Addr) (nl nc : Nat) (ma : Option Addr) (ml mc : Nat) (xs ys : List Int) (xf xto xk xt xi xl xc : Int) (ea : Option Addr) (el ec : Nat) (xok : Bool) (w : World) (hee : EntArg w (.slice ga es.length gc) es) (hXs : IntsIn w (.slice na nl nc) xs) (hYs : IntsIn w (.slice ma ml mc) ys) (hg : GoodC Try.prog w n 25 (memL id sz tm vt rl ld ti vs (.slice ga es.length gc) cm (.slice na nl nc) (.slice ma ml mc))) (hxt : (Lit.int .i64 xt).wf = true) :
    Calls Try.prog 6 #[mem id sz tm vt rl ld ti vs (.slice ga es.length gc) cm (.slice na nl nc) (.slice ma ml mc), .agg #[.int .i64 xf, .int .i64 xto, .int .i64 xk, .int .i64 xt, .int .i64 xi, .int .i64 xl, .int .i64 xc, .slice ea el ec, .bool xok]] w fun e w' => e = .returned (.bool true) ∧ Below w.heap.size w w' := by
  have hws := mem_wfs hg
  refine calls_frv (N := 20) (vs := [.agg #[.int .i64 id, .int .i64 sz, .int .i64 tm, .int .i64 vt, .int .i64 rl, .int .i64 ld, .int .i64 ti, .int .i64 vs, .slice ga es.length gc, .int .i64 cm, .slice na nl nc, .slice ma ml mc], .agg #[.int .i64 xf, .int .i64 xto, .int .i64 xk, .int .i64 xt, .int .i64 xi, .int .i64 xl, .int .i64 xc, .slice ea el ec, .bool xok]]) [(0, .agg #[.int .i64 id, .int .i64 sz, .int .i64 tm, .int .i64 vt, .int .i64 rl, .int .i64 ld, .int .i64 ti, .int .i64 vs, .slice ga es.length gc, .int .i64 cm, .slice na nl nc, .slice ma ml mc]), (1, .agg #[.int .i64 xf, .int .i64 xto, .int .i64 xk, .int .i64 xt, .int .i64 xi, .int .i64 xl, .int .i64 xc, .slice ea el ec, .bool xok])] Try.func6 rfl rfl (of_decide_eq_true rfl) (fun p hp => by simp only [List.mem_cons, List.not_mem_nil, or_false] at hp; rcases hp with rfl | rfl <;> rfl) (fun a hf => ?_)
  have hX := Bx.start w
  refine wp_seq ?_
  refine wp_region_lit ?_
  refine sv_boxB hf hX rfl (by decide) (fun a C1 W hC hf hX hA => ?_)
  clear hC hA
  refine sv_boxB hf hX rfl (by decide) (fun a C2 W hC hf hX hA => ?_)
  clear hC hA
  refine sv_ac hf (by decide) (fun a hf => ?_)
  replace hf := hf.sub (env' := [(4, .bool false), (3, .pointer (some ⟨C2, 0, none⟩)), (2, .pointer (some ⟨C1, 0, none⟩))]) (sub_cons rfl (sub_cons rfl (sub_cons rfl (sub_nil))))
  refine sv_nil hf ?_
  refine wp_seq ?_
  refine wp_seq ?_
  refine wp_region_lit ?_
  refine sv_lr hf hX rfl 1 rfl Try.underlying25 info_mem (by decide) (fun a hf => ?_)
  refine sv_lr hf hX rfl 0 rfl Try.underlying35 info_msg (by decide) (fun a hf => ?_)
  refine sv_call hf fnOK_18 rfl (fits_any id sz tm vt rl ld ti vs ga gc es cm na nl nc ma ml mc xs ys xf xto xk xt xi xl xc ea el ec xok _ (hee.below hX.low) (hXs.below hX.low) (hYs.below hX.low)) (by decide) ?_
  rintro e W ⟨b, rfl, hfit, hb⟩
  replace hX := hX.keep hb
  clear hb
  refine ⟨_, rfl, fun a hf => ?_⟩
  cases b
  ·
    refine sv_not hf rfl (by decide) (fun a hf => ?_)
    replace hf := hf.sub (env' := [(8, .bool true), (4, .bool false), (3, .pointer (some ⟨C2, 0, none⟩)), (2, .pointer (some ⟨C1, 0, none⟩))]) (sub_cons rfl (sub_cons rfl (sub_cons rfl (sub_cons rfl (sub_nil)))))
    refine sv_nil hf ?_
    refine wp_cond_true (hf.rel _ _ rfl) ?_
    refine wp_seq ?_
    refine wp_region_lit ?_
    refine sv_call hf fnOK_14 rfl (awake_any _) (by decide) ?_
    rintro e W ⟨rfl, hb⟩
    replace hX := hX.keep hb
    clear hb
    refine ⟨_, rfl, fun a hf => ?_⟩
    refine sv_as hf rfl (by decide) (fun a hf => ?_)
    replace hf := hf.sub (env' := [(4, .bool true), (3, .pointer (some ⟨C2, 0, none⟩)), (2, .pointer (some ⟨C1, 0, none⟩))]) (sub_cons rfl (sub_cons rfl (sub_cons rfl (sub_nil))))
    refine sv_nil hf ?_
    refine wp_ret ?_
    try simp only [Exit.inBlock, Exit.then]
    exact bodyPost_ret (res_tmp (d := 4) (v := .bool true) rfl (hf.rel 4 _ rfl)) hf.defers ⟨rfl, hX.low⟩
  ·
    obtain ⟨f1, f2, f3, f4, f5, f6, f7, f8, f9⟩ := hfit rfl
    obtain ⟨⟨g1, g2, g3, g4, g5, g6, g7, g8, g9⟩, gg1, gg2, gg3, gg4, gg5⟩ := valid_g f2
    obtain ⟨v2, hv2⟩ : ∃ x, x = orB vs (2 ^ xf.toNat) := ⟨_, rfl⟩
    obtain ⟨n2, hn2⟩ : ∃ x, x = cntB v2 sz.toNat := ⟨_, rfl⟩
    obtain ⟨c, hc⟩ : ∃ c, c = VCase xk xt tm rl xok n2 (maj sz) := ⟨_, rfl⟩
    have hb2 : 0 ≤ v2 ∧ v2 < 2 ^ sz.toNat := by rw [hv2]; exact orB_in gg4 g1 g2 gg5 f4 f5
    have hv128 : v2 < 128 := pow7 g2 hb2.2
    clear hfit f2
    refine sv_not hf rfl (by decide) (fun a hf => ?_)
    replace hf := hf.sub (env' := [(8, .bool false), (4, .bool false), (3, .pointer (some ⟨C2, 0, none⟩)), (2, .pointer (some ⟨C1, 0, none⟩))]) (sub_cons rfl (sub_cons rfl (sub_cons rfl (sub_cons rfl (sub_nil)))))
    refine sv_nil hf ?_
    refine wp_cond_false (hf.rel _ _ rfl) ?_
    refine wp_skip ?_
    refine wp_seq ?_
    refine wp_region_ordW 11 10 [(0, 1), (1, 1), (3, 1), (4, 1), (2, 2), (5, 2), (6, 2), (7, 0), (8, 2), (9, 0), (10, 3)] (fun X => Bx ⟨w, []⟩ [(C2, [.int .i64 xf, .int .i64 xto, .int .i64 xk, .int .i64 xt, .int .i64 xi, .int .i64 xl, .int .i64 xc, .slice ea el ec, .bool xok]), (C1, [.int .i64 id, .int .i64 sz, .int .i64 tm, .int .i64 vt, .int .i64 rl, .int .i64 ld, .int .i64 ti, .int .i64 vs, .slice ga es.length gc, .int .i64 cm, .slice na nl nc, .slice ma ml mc])] X) mixed (by kernel_rfl) hX.drew (fun c a d v w h => by cases d <;> exact h) ?_
    replace hX := hX.drew
    refine ov1 hf rfl rfl (by decide) rfl (fun X hS => ex_vlr (cs := [.int .i64 id, .int .i64 sz, .int .i64 tm, .int .i64 vt, .int .i64 rl, .int .i64 ld, .int .i64 ti, .int .i64 vs, .slice ga es.length gc, .int .i64 cm, .slice na nl nc, .slice ma ml mc]) hf rfl rfl (hS.get (i := 1) rfl) Try.underlying25 info_mem) (fun a hf => ?_)
    refine ov1 hf rfl rfl (by decide) rfl (fun X hS => ex_vlr (cs := [.int .i64 xf, .int .i64 xto, .int .i64 xk, .int .i64 xt, .int .i64 xi, .int .i64 xl, .int .i64 xc, .slice ea el ec, .bool xok]) hf rfl rfl (hS.get (i := 0) rfl) Try.underlying35 info_msg) (fun a hf => ?_)
    refine ov1 hf rfl rfl (by decide) rfl (fun X hS => ex_vlr (cs := [.int .i64 id, .int .i64 sz, .int .i64 tm, .int .i64 vt, .int .i64 rl, .int .i64 ld, .int .i64 ti, .int .i64 vs, .slice ga es.length gc, .int .i64 cm, .slice na nl nc, .slice ma ml mc]) hf rfl rfl (hS.get (i := 1) rfl) Try.underlying25 info_mem) (fun a hf => ?_)
    refine ov1 hf rfl rfl (by decide) rfl (fun X hS => ex_vlr (cs := [.int .i64 xf, .int .i64 xto, .int .i64 xk, .int .i64 xt, .int .i64 xi, .int .i64 xl, .int .i64 xc, .slice ea el ec, .bool xok]) hf rfl rfl (hS.get (i := 0) rfl) Try.underlying35 info_msg) (fun a hf => ?_)
    refine ov2c hf rfl rfl (by decide) rfl rfl fnOK_22 rfl (voted_any n id sz tm vt rl ld ti vs ga es.length gc cm na nl nc ma ml mc xf xto xk xt xi xl xc ea el ec xok w _ hX.low hg g3 g4 g1 g2 gg4 gg5 f4 f5 v2 n2 hv2 hn2 c hc) ?_
    rintro e W2 ⟨ga2, gc2, na2, nc2, ma2, mc2, cs1, rfl, hv1, hE, hb⟩
    replace hX := hX.keep hb
    clear hb
    obtain ⟨m, h8, h10, h11⟩ := hE
    replace h8 := h8.tt
    replace h10 := h10.tt
    replace h11 := h11.tt
    refine ⟨_, rfl, hX, fun a hf => ?_⟩
    refine ov2c hf rfl rfl (by decide) rfl rfl fnOK_23 rfl (rvoted_any id sz tm vt rl ld ti vs ga es.length gc cm na nl nc ma ml mc xf xto xk xt xi xl xc ea el ec xok _ g3 g4 g1 g2 gg4 gg5 f4 f5 v2 n2 hv2 hn2 c hc) ?_
    rintro e W3 ⟨cs2, rfl, hv3, hb⟩
    replace hX := hX.keep hb
    replace h8 := EqC.below hb hb _ _ _ _ h8
    replace h10 := EqC.below hb hb _ _ _ _ h10
    replace h11 := EqC.below hb hb _ _ _ _ h11
    replace hv1 := hv1.below hb
    clear hb
    refine ⟨_, rfl, hX, fun a hf => ?_⟩
    obtain ⟨nE, hEq⟩ := vr_eq hws (wf_of (by omega)) hxt g3 (by omega) g2 f1 h8 h10 h11 hv3 hv1
    refine ov2c hf rfl rfl (by decide) rfl rfl fnOK_11 rfl (same_mem hEq) ?_
    rintro e W ⟨rfl, hb⟩
    replace hX := hX.keep hb
    clear hb
    refine ⟨_, rfl, hX, fun a hf => ?_⟩
    refine ov0 hf rfl rfl (by decide) rfl (fun X => ex_vmv hf rfl rfl) (fun a hf => ?_)
    refine ov2c hf rfl rfl (by decide) (wanted_known hf rfl rfl rfl) rfl fnOK_14 rfl (awake_any _) ?_
    rintro e W ⟨rfl, hb⟩
    replace hX := hX.keep hb
    clear hb
    refine ⟨_, rfl, hX, fun a hf => ?_⟩
    refine ov0 hf rfl rfl (by decide) rfl (fun X => ex_pk (b := true) hf rfl rfl rfl) (fun a hf => ?_)
    refine ov3v hf rfl rfl (by decide) rfl (ex_vas hf rfl rfl) (fun a hf => ?_)
    replace hf := hf.sub (env' := [(4, .bool true)]) (sub_cons rfl (sub_nil))
    refine wpOrd_nil ?_
    refine wp_ret ?_
    try simp only [Exit.inBlock, Exit.then]
    exact bodyPost_ret (res_tmp (d := 4) (v := .bool true) rfl (hf.rel 4 _ rfl)) hf.defers ⟨rfl, hX.low⟩
end Go.Proofs.Ytfpgklhbghahoaa
