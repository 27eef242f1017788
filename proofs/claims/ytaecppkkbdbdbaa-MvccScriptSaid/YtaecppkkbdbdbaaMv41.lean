/- Mvcc: rows of elements of several cells, of whatever kind; the reference's rows. -/
import Derived.Test.YtaecppkkbdbdbaaMv34
namespace Go.Proofs.Ytaecppkkbdbdbaa
open Go.ChangeShapes Go.WideShapes Go.ChangeAt Go.RowKit Go.Deep Go.ChangeMaps Go.Shelf Go.Sort
set_option linter.unusedVariables false
set_option linter.unusedSimpArgs false
/-- a kind of row -/
structure RK (α : Type) where
  enc : α → List Value
  k : Nat
  T : TypeId
  E : TypeId
  z : Value
  bytes : Nat
variable {α : Type}
def RK.flat (R : RK α) (l : List α) : List Value := l.flatMap R.enc
structure RK.Ok (R : RK α) : Prop where
  hT : Try.prog.underlying R.T = some (.slice R.E)
  hi : (Try.prog.info? R.E).map (fun i => (i.zero, i.size, i.bytes)) = some (some R.z, R.k, R.bytes)
  hlen : ∀ x, (R.enc x).length = R.k
  h1 : ∀ x, ∀ u ∈ R.enc x, u.oneCell' = true
  hz : R.z.cells.size = R.k
  hk : 0 < R.k
  hb : R.bytes ≤ 1000
theorem RK.flat_app (R : RK α) (a b : List α) : R.flat (a ++ b) = R.flat a ++ R.flat b := by simp [RK.flat]
theorem RK.flat_len {R : RK α} (h : R.Ok) : ∀ l : List α, (R.flat l).length = l.length * R.k
  | [] => by simp [RK.flat]
  | x :: l => by
    have := RK.flat_len h l
    show (R.enc x ++ R.flat l).length = _
    rw [List.length_append, h.hlen, this, List.length_cons, Nat.add_mul, Nat.one_mul, Nat.add_comm]
theorem RK.flat_one {R : RK α} (h : R.Ok) (l : List α) : ∀ u ∈ R.flat l, u.oneCell' = true := fun u hu => by
  obtain ⟨x, _, hx⟩ := List.mem_flatMap.1 hu
  exact h.h1 x u hx
theorem RK.flat_at {R : RK α} (h : R.Ok) : ∀ (l : List α) (j : Nat) (hj : j < l.length) (i : Nat), i < R.k → (R.flat l)[j * R.k + i]? = (R.enc l[j])[i]?
  | x :: l, 0, _, i, hi => by
    show (R.enc x ++ R.flat l)[0 * R.k + i]? = _
    rw [Nat.zero_mul, Nat.zero_add, List.getElem?_append_left (by rw [h.hlen]; exact hi)]
    rfl
  | x :: l, j + 1, hj, i, hi => by
    show (R.enc x ++ R.flat l)[(j + 1) * R.k + i]? = _
    rw [Nat.add_mul, Nat.one_mul, List.getElem?_append_right (by rw [h.hlen]; omega), h.hlen, show j * R.k + R.k + i - R.k = j * R.k + i by omega]
    exact RK.flat_at h l j (by simpa using hj) i hi
/-- a row of one's own -/
def OR (R : RK α) (B : Nat) (W : World) (v : Value) (l : List α) : Prop := W.ownsRow B R.E R.k v l.length (R.flat l)
/-- a block of elements of a type -/
def Tag (W : World) (g : Nat) (e : TypeId) : Prop := ∃ cur fr, W.heap[g]? = some (.cells cur e fr)
theorem Tag.lt {W : World} {g : Nat} {e : TypeId} (h : Tag W g e) : g < W.heap.size := by
  obtain ⟨_, _, h⟩ := h
  exact (Array.getElem?_eq_some_iff.1 h).1
theorem Tag.one {W : World} {g : Nat} {e e' : TypeId} (h : Tag W g e) (h' : Tag W g e') : e = e' := by
  obtain ⟨_, _, h⟩ := h
  obtain ⟨_, _, h'⟩ := h'
  rw [h] at h'
  cases h'
  rfl
theorem Tag.same {W W' : World} {g : Nat} {e : TypeId} (h : Tag W g e) (hk : W'.heap[g]? = W.heap[g]?) : Tag W' g e := by
  obtain ⟨c, f, h⟩ := h
  exact ⟨c, f, hk.trans h⟩
/-- a row that is read -/
def RR (R : RK α) (W : World) (v : Value) (l : List α) : Prop :=
  ∃ a c, v = .slice a l.length c ∧ l.length ≤ c ∧ c ≤ 9223372036854775807 ∧ (0 < l.length → ∃ g o, a = some ⟨g, o, none⟩ ∧ Tag W g R.E ∧ ∀ j u, (R.flat l)[j]? = some u → W.cell? ⟨g, o + j, none⟩ = some u)
theorem OR.nil (R : RK α) (B : Nat) (W : World) : OR R B W (.slice none 0 0) [] := World.ownsRow_nil _ _ _ _
theorem RR.nil (R : RK α) (W : World) : RR R W (.slice none 0 0) [] := ⟨none, 0, rfl, Nat.le_refl _, by decide, fun h => absurd h (by simp)⟩
theorem OR.rr {R : RK α} (hR : R.Ok) {B : Nat} {W : World} {v : Value} {l : List α} (h : OR R B W v l) : RR R W v l := by
  have h' : W.ownsRow B R.E R.k v l.length (R.flat l) := h
  rcases h.2 with ⟨hv, h0⟩ | ⟨g, c, cur, rfl, h1, h2, h3, h4, _⟩
  · exact ⟨none, 0, by rw [hv, h0], by omega, by decide, fun hp => by omega⟩
  · refine ⟨_, c, rfl, h3, by unfold maxLen at h4; omega, fun _ => ⟨g, 0, rfl, ⟨_, _, h2⟩, fun j u hj => ?_⟩⟩
    have hl := (List.getElem?_eq_some_iff.1 hj).1
    rw [RK.flat_len hR] at hl
    rw [Nat.zero_add, h'.cellAt j hl]
    exact hj
theorem RR.below {R : RK α} {W W' : World} {v : Value} {l : List α} (h : RR R W v l) (hb : Below W.heap.size W W') : RR R W' v l := by
  obtain ⟨a, c, h1, h2, h3, h4⟩ := h
  refine ⟨a, c, h1, h2, h3, fun h0 => ?_⟩
  obtain ⟨g, o, e, g1, g2⟩ := h4 h0
  exact ⟨g, o, e, g1.same (hb.block g g1.lt), fun j u hj => (hb.cell (p := ⟨g, o + j, none⟩) g1.lt).trans (g2 j u hj)⟩
theorem RR.grown {R : RK α} {W W' : World} {v : Value} {l : List α} {row : Option Nat} (h : RR R W v l) (hg : W.grownBy W' row) (hne : ∀ g, row = some g → ¬ Tag W g R.E) : RR R W' v l := by
  obtain ⟨a, c, h1, h2, h3, h4⟩ := h
  refine ⟨a, c, h1, h2, h3, fun h0 => ?_⟩
  obtain ⟨g, o, e, g1, g2⟩ := h4 h0
  have hb : W'.heap[g]? = W.heap[g]? := hg.block g g1.lt (fun e => hne g e.symm g1)
  exact ⟨g, o, e, g1.same hb, fun j u hj => (World.cell?_of_block (a := ⟨g, o + j, none⟩) hb).trans (g2 j u hj)⟩
theorem OR.tag {R : RK α} {B : Nat} {W : World} {v : Value} {l : List α} (h : OR R B W v l) (g : Nat) (hg : v.ownBlock = some g) : Tag W g R.E := by
  have h' : W.ownsRow B R.E R.k v l.length (R.flat l) := h
  rcases h'.2 with ⟨e, h0⟩ | ⟨g', cap, cur, e, _, h2, _⟩
  · rw [e] at hg; simp [Value.ownBlock] at hg
  · rw [e] at hg
    have : g' = g := by simpa [Value.ownBlock] using hg
    subst this
    exact ⟨_, _, h2⟩
theorem RR.apart {β : Type} {R : RK α} {R' : RK β} {B : Nat} {W W' : World} {v v' : Value} {l : List α} {l' : List β} (h : RR R W v l) (h' : OR R' B W v' l') (hE : R.E ≠ R'.E) (hg : W.grownBy W' v'.ownBlock) : RR R W' v l :=
  h.grown hg (fun g e ht => hE (ht.one (h'.tag g e)))
theorem OR.same {R : RK α} {B : Nat} {W W' : World} {v : Value} {l : List α} (h : OR R B W v l) (hk : ∀ k, v.ownBlock = some k → W'.heap[k]? = W.heap[k]?) : OR R B W' v l := own_same h hk
theorem OR.below {R : RK α} {B : Nat} {W W' : World} {v : Value} {l : List α} (h : OR R B W v l) (hb : Below W.heap.size W W') : OR R B W' v l :=
  own_same h (fun k hk => hb.block k (World.ownsRow.lt h k hk).2)
theorem OR.alloc {R : RK α} {B : Nat} {W : World} {v : Value} {l : List α} (h : OR R B W v l) (o : Obj) : OR R B (W.alloc o) v l := h.below ((Below.refl _ W).alloc (Nat.le_refl _) o)
/-- what is read at a place -/
theorem RR.cellE {R : RK α} (hR : R.Ok) {W : World} {a : Option Addr} {c : Nat} {l : List α} (h : RR R W (.slice a l.length c) l) (h0 : 0 < l.length) :
    ∃ g o, a = some ⟨g, o, none⟩ ∧ g < W.heap.size ∧ ∀ j (hj : j < l.length) i u, (R.enc l[j])[i]? = some u → W.cell? ⟨g, o + j * R.k + i, none⟩ = some u := by
  obtain ⟨a', c', e, _, _, h4⟩ := h
  cases e
  obtain ⟨g, o, rfl, hg, hc⟩ := h4 h0
  refine ⟨g, o, rfl, hg.lt, fun j hj i u hu => ?_⟩
  have hi : i < R.k := by have := (List.getElem?_eq_some_iff.1 hu).1; rw [hR.hlen] at this; exact this
  rw [Nat.add_assoc]
  exact hc _ _ (by rw [RK.flat_at hR l j hj i hi]; exact hu)
/-- a part of a row -/
theorem RR.sub {R : RK α} (hR : R.Ok) {W : World} {g o c n : Nat} {l : List α} (i m : Nat) (hn : n = l.length) (h : RR R W (.slice (some ⟨g, o, none⟩) n c) l) (hi : i ≤ m) (hm : m ≤ l.length) (c' : Nat) (hc1 : m - i ≤ c') (hc2 : c' ≤ 9223372036854775807) :
    RR R W (.slice (some ⟨g, o + i * R.k, none⟩) (m - i) c') ((l.take m).drop i) := by
  subst hn
  have hl : ((l.take m).drop i).length = m - i := by rw [List.length_drop, List.length_take]; omega
  refine ⟨_, c', by rw [hl], by rw [hl]; exact hc1, hc2, fun h0 => ?_⟩
  rw [hl] at h0
  obtain ⟨a', c2, e, _, _, h4⟩ := h
  cases e
  obtain ⟨g', o', e, hg, hc⟩ := h4 (by omega)
  cases e
  refine ⟨g, _, rfl, hg, fun j u hj => ?_⟩
  have hj2 : j < (m - i) * R.k := by have := (List.getElem?_eq_some_iff.1 hj).1; rw [RK.flat_len hR, hl] at this; exact this
  rw [Nat.add_assoc]
  refine hc _ _ ?_
  obtain ⟨q, r, hr, rfl⟩ : ∃ q r, r < R.k ∧ j = q * R.k + r := ⟨j / R.k, j % R.k, Nat.mod_lt _ hR.hk, by rw [Nat.mul_comm]; exact (Nat.div_add_mod j R.k).symm⟩
  have hq : q < m - i := by
    refine Decidable.byContradiction fun hge => ?_
    have := Nat.mul_le_mul_right R.k (Nat.not_lt.1 hge)
    omega
  rw [RK.flat_at hR _ q (by rw [hl]; exact hq) r hr] at hj
  rw [← Nat.add_assoc, ← Nat.add_mul, RK.flat_at hR l (i + q) (by omega) r hr, ← hj]
  congr 2
  rw [List.getElem_drop, List.getElem_take]
theorem run_appR_none {R : RK α} (hR : R.Ok) (W : World) (B : Nat) (a : Option Addr) (c : Nat) (v : Value) (l : List α) (h : OR R B W v l) :
    (Builtin.append_ #[R.T, R.T] R.T #[v, .slice none 0 c]).run Try.prog W = .ok v W := by
  have ht := hR.hT
  obtain ⟨i, hi, _, _, _⟩ := info_parts hR.hi
  rcases h.2 with ⟨rfl, _⟩ | ⟨g, cap, cur, rfl, _, _, hnc, _⟩
  · simp [Builtin.append_, run_underlying ht, sizeOf, typeInfo, hi, Builtin.lenOf, Builtin.firstCells]
  · simp [Builtin.append_, run_underlying ht, sizeOf, typeInfo, hi, Builtin.lenOf, Builtin.firstCells, hnc, storeCells]
theorem run_appR {R : RK α} (hR : R.Ok) (W : World) (B : Nat) (v : Value) (l one : List α) (a : Option Addr) (c : Nat) (h : OR R B W v l) (hu : RR R W (.slice a one.length c) one) (hB : B ≤ W.heap.size) (hl : l.length ≤ 100000) (hl2 : one.length ≤ 100000) :
    ∃ v' W', (Builtin.append_ #[R.T, R.T] R.T #[v, .slice a one.length c]).run Try.prog W = .ok v' W' ∧ OR R B W' v' (l ++ one) ∧ Below B W W' ∧ W.grownBy W' v.ownBlock ∧ (v'.ownBlock = v.ownBlock ∨ v'.ownBlock = some W.heap.size) := by
  obtain ⟨i, hi, hz0, hz1, hz2⟩ := info_parts hR.hi
  cases ha : a with
  | none =>
    have hn : one = [] := by
      refine List.eq_nil_of_length_eq_zero (Decidable.byContradiction fun h0 => ?_)
      obtain ⟨a', c', e, _, _, h4⟩ := hu
      cases e
      obtain ⟨g, o, e, _⟩ := h4 (by omega)
      rw [ha] at e
      cases e
    subst hn
    exact ⟨v, W, run_appR_none hR W B none c v l h, by rw [List.append_nil]; exact h, Below.refl _ _, ⟨rfl, rfl, rfl, Nat.le_refl _, fun _ _ _ => rfl⟩, .inl rfl⟩
  | some ad =>
    have hc : ∀ j u, (R.flat one)[j]? = some u → W.cell? (ad.add j) = some u := fun j u hj => by
      have hl := (List.getElem?_eq_some_iff.1 hj).1
      rw [RK.flat_len hR] at hl
      have h0 : 0 < one.length := by
        refine Nat.pos_of_ne_zero fun e => ?_
        rw [e, Nat.zero_mul] at hl
        omega
      obtain ⟨a', c', e, _, _, h4⟩ := hu
      cases e
      obtain ⟨g, o, e, hg, hcc⟩ := h4 h0
      rw [ha] at e
      cases e
      rw [addr_add']
      exact hcc j u hj
    have hbb : (l.length + one.length) * R.bytes ≤ 140737488355328 := by
      have h1 := Nat.mul_le_mul (show l.length + one.length ≤ 200000 by omega) hR.hb
      omega
    obtain ⟨v', W', hr, h3, h4, _, h5⟩ := run_append_own_at (P := Try.prog) W B R.T R.T R.E i R.z R.k R.bytes hR.hT hi hz0 hz1 hz2 hR.hz hR.hk v l.length (R.flat l) h ad one.length c (R.flat one) (RK.flat_len hR one) hc (RK.flat_one hR one) (by unfold maxLen; omega) hbb hB
    refine ⟨v', W', hr, ?_, ⟨h4.os, h4.tape, h4.output, h4.size, fun k hk => h4.block k (Nat.lt_of_lt_of_le hk hB) (fun e => by have := (World.ownsRow.lt h k e.symm).1; omega)⟩, h4, h5⟩
    unfold OR
    rw [List.length_append, RK.flat_app]
    exact h3
theorem wpList_appR {R : RK α} (hR : R.Ok) {ops : Array Oper} {rest : List Oper} {o : Oper} {a : Act} {W : World} {Q : Exit → Act → World → Prop} (hgd : o.guard = none) (s x : Operand)
    (ho : o.op = .call { callee := .builtin .append, args := #[s, x], argTypes := #[R.T, R.T] }) (hty : o.type = R.T)
    (B : Nat) (v : Value) (l one : List α) (ao : Option Addr) (n c : Nat) (hs : a.eval s = v) (hx : a.eval x = .slice ao n c) (hn : n = one.length) (h : OR R B W v l) (hu : RR R W (.slice ao n c) one) (hB : B ≤ W.heap.size) (hl : l.length ≤ 100000) (hl2 : one.length ≤ 100000)
    (hk : ∀ v' w', OR R B w' v' (l ++ one) → Below B W w' → wpList Try.prog ops Q rest (a.put o.dst v') w') :
    wpList Try.prog ops Q (o :: rest) a W := by
  subst hn
  refine wpList_plain hgd fun K hK => ?_
  obtain ⟨v', w', hr, h2, h3, _⟩ := run_appR hR W B v l one ao c h hu hB hl hl2
  unfold Oper.wp execOp
  simp only [ho, hty, resolve, invoke, builtin, Sem.run_bind, Sem.run_pure, Result.andThen_ok, List.map_toArray, List.map_cons, List.map_nil, hs, hx, hr]
  exact hK _ _ (hk v' w' h2 h3)
/-- what an append asks -/
structure AppS {α : Type} (R : RK α) (B : Nat) (W : World) (v : Value) (l one : List α) (ao : Option Addr) (n c m : Nat) : Prop where
  hn : n = one.length
  own : OR R B W v l
  src : RR R W (.slice ao n c) one
  hB : B ≤ W.heap.size
  hl : l.length ≤ 100000
  hl2 : one.length ≤ 100000
  hm : m = (l ++ one).length
theorem wpList_appG {R : RK α} (hR : R.Ok) {ops : Array Oper} {rest : List Oper} {o : Oper} {a : Act} {W : World} {Q : Exit → Act → World → Prop} (hgd : o.guard = none) (s x : Operand)
    (ho : o.op = .call { callee := .builtin .append, args := #[s, x], argTypes := #[R.T, R.T] }) (hty : o.type = R.T)
    (B : Nat) (v : Value) (l one : List α) (ao : Option Addr) (n c m : Nat) (hs : a.eval s = v) (hx : a.eval x = .slice ao n c) (hS : AppS R B W v l one ao n c m)
    (hk : ∀ a2 c2 w', OR R B w' (.slice a2 m c2) (l ++ one) → Below B W w' → W.grownBy w' v.ownBlock → ((Value.slice a2 m c2).ownBlock = v.ownBlock ∨ (Value.slice a2 m c2).ownBlock = some W.heap.size) → wpList Try.prog ops Q rest (a.put o.dst (.slice a2 m c2)) w') :
    wpList Try.prog ops Q (o :: rest) a W := by
  obtain ⟨hn, h, hu, hB, hl, hl2, hm⟩ := hS
  subst hn
  subst hm
  refine wpList_plain hgd fun K hK => ?_
  obtain ⟨v', w', hr, h2, h3, h4, h5⟩ := run_appR hR W B v l one ao c h hu hB hl hl2
  unfold Oper.wp execOp
  simp only [ho, hty, resolve, invoke, builtin, Sem.run_bind, Sem.run_pure, Result.andThen_ok, List.map_toArray, List.map_cons, List.map_nil, hs, hx, hr]
  obtain ⟨a2, c2, e⟩ : ∃ a2 c2, v' = .slice a2 (l ++ one).length c2 := by
    have h2' : w'.ownsRow B R.E R.k v' (l ++ one).length (R.flat (l ++ one)) := h2
    rcases h2'.2 with ⟨e, h0⟩ | ⟨g, cap, cur, e, _⟩
    · exact ⟨none, 0, by rw [e, h0]⟩
    · exact ⟨_, _, e⟩
  subst e
  exact hK _ _ (hk a2 c2 w' h2 h3 h4 h5)
theorem step_appR {R : RK α} (hR : R.Ok) {ops : Array Oper} {o : Oper} {a : Act} {W : World} {K : Act → World → Prop} {Q : Exit → Act → World → Prop} {E : Prop} (hgd : o.guard = none) (s x : Operand)
    (ho : o.op = .call { callee := .builtin .append, args := #[s, x], argTypes := #[R.T, R.T] }) (hty : o.type = R.T)
    (B : Nat) (v : Value) (l one : List α) (ao : Option Addr) (n c m : Nat) (hs : a.eval s = v) (hx : a.eval x = .slice ao n c) (hS : AppS R B W v l one ao n c m)
    (hk : ∀ a2 c2 w', OR R B w' (.slice a2 m c2) (l ++ one) → Below B W w' → W.grownBy w' v.ownBlock → ((Value.slice a2 m c2).ownBlock = v.ownBlock ∨ (Value.slice a2 m c2).ownBlock = some W.heap.size) → K (a.put o.dst (.slice a2 m c2)) w') :
    if Region.wanted o (yielded ops a.tmps) = true then Oper.wp Try.prog o a W K Q else E := by
  obtain ⟨hn, h, hu, hB, hl, hl2, hm⟩ := hS
  subst hn
  subst hm
  have hw : Region.wanted o (yielded ops a.tmps) = true := by simp [Region.wanted, hgd]
  rw [if_pos hw]
  obtain ⟨v', w', hr, h2, h3, h4, h5⟩ := run_appR hR W B v l one ao c h hu hB hl hl2
  unfold Oper.wp execOp
  simp only [ho, hty, resolve, invoke, builtin, Sem.run_bind, Sem.run_pure, Result.andThen_ok, List.map_toArray, List.map_cons, List.map_nil, hs, hx, hr]
  obtain ⟨a2, c2, e⟩ : ∃ a2 c2, v' = .slice a2 (l ++ one).length c2 := by
    have h2' : w'.ownsRow B R.E R.k v' (l ++ one).length (R.flat (l ++ one)) := h2
    rcases h2'.2 with ⟨e, h0⟩ | ⟨g, cap, cur, e, _⟩
    · exact ⟨none, 0, by rw [e, h0]⟩
    · exact ⟨_, _, e⟩
  subst e
  exact hk a2 c2 w' h2 h3 h4 h5
theorem OR.form {R : RK α} {B : Nat} {W : World} {v : Value} {l : List α} (h : OR R B W v l) : ∃ a c, v = .slice a l.length c := by
  have h' : W.ownsRow B R.E R.k v l.length (R.flat l) := h
  rcases h'.2 with ⟨e, h0⟩ | ⟨g, cap, cur, e, _⟩
  · exact ⟨none, 0, by rw [e, h0]⟩
  · exact ⟨_, _, e⟩
theorem OR.grown {R : RK α} {B : Nat} {W W' : World} {v : Value} {l : List α} {row : Option Nat} (h : OR R B W v l) (hg : W.grownBy W' row) (hne : ∀ k, v.ownBlock = some k → row ≠ some k) : OR R B W' v l :=
  own_same h (fun k hk => hg.block k (World.ownsRow.lt h k hk).2 (fun e => hne k hk e.symm))
theorem OR.lt {R : RK α} {B : Nat} {W : World} {v : Value} {l : List α} (h : OR R B W v l) : ∀ k, v.ownBlock = some k → B ≤ k ∧ k < W.heap.size := World.ownsRow.lt h
/-- one element in a box of its own -/
theorem RR.new {R : RK α} (hR : R.Ok) (W : World) (x : α) : RR R (W.alloc (.cells (R.enc x).toArray R.E)) (.slice (some ⟨W.heap.size, 0, none⟩) 1 1) [x] := by
  refine ⟨_, 1, rfl, Nat.le_refl _, by decide, fun _ => ⟨W.heap.size, 0, rfl, ⟨_, _, World.alloc_heap_new W _⟩, fun j u hj => ?_⟩⟩
  have e : R.flat [x] = R.enc x := by simp [RK.flat]
  rw [e] at hj
  rw [Nat.zero_add]
  exact (Box.new W (R.enc x) R.E).cell j u hj
abbrev KV : RK Ver := ⟨verc, 3, 92, 54, .agg #[.int .i64 0, .string ⟨#[]⟩, .bool false], 32⟩
theorem okV : KV.Ok := ⟨by kernel_rfl, by kernel_rfl, fun _ => rfl, fun x u hu => by simp only [verc, List.mem_cons, List.not_mem_nil, or_false] at hu; rcases hu with rfl | rfl | rfl <;> rfl, rfl, by decide, by decide⟩
/-- an item of the reference: its key, where its list lies, the versions -/
structure Itm where
  key : Bs
  at_ : Option Addr
  cap : Nat
  vs : List Ver
def Itm.sl (x : Itm) : Value := .slice x.at_ x.vs.length x.cap
abbrev KI : RK Itm := ⟨fun x => [.string x.key, .slice x.at_ x.vs.length x.cap], 2, 26, 95, .agg #[.string ⟨#[]⟩, .slice none 0 0], 40⟩
theorem okI : KI.Ok := ⟨by kernel_rfl, by kernel_rfl, fun _ => rfl, fun x u hu => by simp only [List.mem_cons, List.not_mem_nil, or_false] at hu; rcases hu with rfl | rfl <;> rfl, rfl, by decide, by decide⟩
abbrev KP2 : RK (Bs × Bs) := ⟨fun x => [.string x.1, .string x.2], 2, 44, 45, .agg #[.string ⟨#[]⟩, .string ⟨#[]⟩], 32⟩
theorem okP2 : KP2.Ok := ⟨by kernel_rfl, by kernel_rfl, fun _ => rfl, fun x u hu => by simp only [List.mem_cons, List.not_mem_nil, or_false] at hu; rcases hu with rfl | rfl <;> rfl, rfl, by decide, by decide⟩
abbrev KP4 : RK (Bs × Ver) := ⟨fun x => [.string x.1, .int .i64 x.2.1, .string x.2.2.1, .bool x.2.2.2], 4, 52, 56, .agg #[.string ⟨#[]⟩, .int .i64 0, .string ⟨#[]⟩, .bool false], 48⟩
theorem okP4 : KP4.Ok := ⟨by kernel_rfl, by kernel_rfl, fun _ => rfl, fun x u hu => by simp only [List.mem_cons, List.not_mem_nil, or_false] at hu; rcases hu with rfl | rfl | rfl | rfl <;> rfl, rfl, by decide, by decide⟩
/-- the items of the reference -/
def RIt (W : World) (v : Value) (Z : List Itm) : Prop := RR KI W v Z ∧ ∀ z ∈ Z, RR KV W z.sl z.vs
theorem RIt.below {W W' : World} {v : Value} {Z : List Itm} (h : RIt W v Z) (hb : Below W.heap.size W W') : RIt W' v Z := ⟨h.1.below hb, fun z hz => (h.2 z hz).below hb⟩
end Go.Proofs.Ytaecppkkbdbdbaa
