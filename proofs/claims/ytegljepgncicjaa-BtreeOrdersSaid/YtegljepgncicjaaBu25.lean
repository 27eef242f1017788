/- Btree: appends of pairs; the reference's Put and Delete. -/
import Derived.Test.YtegljepgncicjaaBu24
import Derived.Maps.AppendAt
namespace Go.Proofs.Ytegljepgncicjaa
open Go.ChangeShapes Go.WideShapes Go.ChangeAt Go.RowKit Go.Deep Go.Shelf
set_option linter.unusedVariables false
set_option linter.unusedSimpArgs false
theorem prv_append (A B : List Pr) : prv (A ++ B) = prv A ++ prv B := List.flatMap_append ..
theorem prv_one (L : List Pr) : ∀ u ∈ prv L, u.oneCell' = true := fun u hu => by
  obtain ⟨x, _, hx⟩ := List.mem_flatMap.1 hu
  simp at hx
  rcases hx with rfl | rfl <;> rfl
/-- the source of an append -/
def PSrc (w : World) (sv : Value) (M : List Pr) : Prop :=
  (∃ c, sv = .slice none 0 c ∧ M = []) ∨ ∃ ad c, sv = .slice (some ad) M.length c ∧ ∀ j u, (prv M)[j]? = some u → w.cell? (ad.add j) = some u
def PSide (a : Act) (x y : Nat) (v sv : Value) (w : World) (n m B : Nat) : Prop := a.eval (.tmp x) = v ∧ a.eval (.tmp y) = sv ∧ n ≤ 100000 ∧ m ≤ 100000 ∧ B ≤ w.heap.size
theorem addr_add' (B o j : Nat) : (⟨B, o, none⟩ : Addr).add j = ⟨B, o + j, none⟩ := by
  by_cases hj : j = 0 <;> simp [Addr.add, hj]
theorem wpList_appP {ops : Array Oper} {rest : List Oper} {Q : Exit → Act → World → Prop} (x y : Nat) (B : Nat) (v sv : Value) (L M : List Pr) (d : Option Nat) (pos : String) (af) (a : Act) (w : World)
    (hown : w.ownsRow B 59 2 v L.length (prv L)) (hsrc : PSrc w sv M) (hside : PSide a x y v sv w L.length M.length B)
    (h : ∀ v' w', w'.ownsRow B 59 2 v' (L ++ M).length (prv (L ++ M)) → Below B w w' → wpList Try.prog ops Q rest (a.put d v') w') :
    wpList Try.prog ops Q ({ dst := d, op := Op.call { callee := .builtin .append, args := #[.tmp x, .tmp y], argTypes := #[28, 28] }, type := 28, pos := pos, after := af, guard := none } :: rest) a w := by
  obtain ⟨hx, hy, hn, hm, hB⟩ := hside
  obtain ⟨i0, hi0, hz0, hz1, hz2⟩ := info_parts info59
  have key : ∃ v' w', (Builtin.append_ #[28, 28] 28 #[v, sv]).run Try.prog w = .ok v' w' ∧ w'.ownsRow B 59 2 v' (L.length + M.length) (prv L ++ prv M) ∧ w.grownBy w' v.ownBlock := by
    rcases hsrc with ⟨c, rfl, rfl⟩ | ⟨ad, c, rfl, hc⟩
    · refine ⟨v, w, ?_, by simpa [prv] using hown, World.grownBy.refl w _⟩
      rcases hown.2 with ⟨rfl, h0⟩ | ⟨g, cap, cur, rfl, _, _, hnc, _⟩
      · simp [Builtin.append_, run_underlying Try.underlying28, sizeOf, typeInfo, hi0, Builtin.lenOf, Builtin.firstCells]
      · simp [Builtin.append_, run_underlying Try.underlying28, sizeOf, typeInfo, hi0, Builtin.lenOf, Builtin.firstCells, hnc, storeCells]
    · obtain ⟨v', w', hrun, h2, h3, _, h5⟩ := run_append_own_at (P := Try.prog) w B 28 28 59 i0 (.agg #[.string ⟨#[]⟩, .string ⟨#[]⟩]) 2 32 Try.underlying28 hi0 hz0 hz1 hz2 rfl (by decide) v L.length (prv L) hown ad M.length c (prv M) (prv_len M) hc (prv_one M) (by unfold maxLen; omega) (by omega) hB
      exact ⟨v', w', hrun, h2, h3⟩
  obtain ⟨v', w', hr, h2, h3⟩ := key
  refine wpList_plain rfl fun K hK => ?_
  unfold Oper.wp execOp
  simp only [resolve, invoke, builtin, Sem.run_bind, Sem.run_pure, Result.andThen_ok, List.map_toArray, List.map_cons, List.map_nil, hx, hy, hr]
  refine hK _ _ (h v' w' (by rw [List.length_append, prv_append]; exact h2) ((Below.refl B w).grown h3 hB (fun k e => (hown.lt k e).1)))
theorem PrAt.own_lt {W : World} {v : Value} {L : List Pr} (h : PrAt W v L) : ∀ k, v.ownBlock = some k → k < W.heap.size := by
  rcases h with ⟨rfl, _⟩ | ⟨g, c, rfl, _, _, h, _⟩
  · intro k hk; simp [Value.ownBlock] at hk
  · intro k hk; simp [Value.ownBlock] at hk; subst hk; exact h
theorem src_take {W : World} {g n c : Nat} {L : List Pr} (h : PrAt W (.slice (some ⟨g, 0, none⟩) L.length c) L) (hn : n ≤ L.length) : PSrc W (.slice (some ⟨g, 0, none⟩) n c) (L.take n) := by
  have hl : (L.take n).length = n := by rw [List.length_take]; omega
  rcases h with ⟨h, _⟩ | ⟨g', c', hg, _, _, _, hc⟩
  · cases h
  · cases hg
    refine .inr ⟨⟨g, 0, none⟩, c, by rw [hl], fun j u hj => ?_⟩
    have hj2 := (List.getElem?_eq_some_iff.1 hj).1
    rw [prv_len, hl] at hj2
    rw [addr_add', Nat.zero_add]
    have e : (prv L)[j]? = some u := by
      rw [← List.take_append_drop n L, prv_append, List.getElem?_append_left (by rw [prv_len, hl]; exact hj2)]
      exact hj
    rcases Nat.mod_two_eq_zero_or_one j with h0 | h0
    · obtain ⟨i, rfl⟩ : ∃ i, j = i * 2 := ⟨j / 2, by omega⟩
      rw [(prv_at L i (by omega)).1] at e
      rw [(hc i (by omega)).1, e]
    · obtain ⟨i, rfl⟩ : ∃ i, j = i * 2 + 1 := ⟨j / 2, by omega⟩
      rw [(prv_at L i (by omega)).2] at e
      rw [(hc i (by omega)).2, e]
theorem src_drop {W : World} {g n c : Nat} {L : List Pr} {o m k : Nat} (h : PrAt W (.slice (some ⟨g, 0, none⟩) L.length c) L) (hn : n ≤ L.length) (hm : m = L.length - n) (ho : m = 0 ∨ o = n * 2) : PSrc W (.slice (some ⟨g, o, none⟩) m k) (L.drop n) := by
  have hl : (L.drop n).length = m := by rw [List.length_drop, hm]
  rcases h with ⟨h, _⟩ | ⟨g', c', hg, _, _, _, hc⟩
  · cases h
  · cases hg
    refine .inr ⟨⟨g, o, none⟩, k, by rw [hl], fun j u hj => ?_⟩
    have hj2 := (List.getElem?_eq_some_iff.1 hj).1
    rw [prv_len, hl] at hj2
    have ho : o = n * 2 := ho.resolve_left (by omega)
    subst ho
    rw [addr_add']
    have e : (prv L)[n * 2 + j]? = some u := by
      rw [← List.take_append_drop n L, prv_append, List.getElem?_append_right (by rw [prv_len, List.length_take]; omega), prv_len, List.length_take, Nat.min_eq_left hn, show n * 2 + j - n * 2 = j by omega]
      exact hj
    rcases Nat.mod_two_eq_zero_or_one j with h0 | h0
    · obtain ⟨i, rfl⟩ : ∃ i, j = i * 2 := ⟨j / 2, by omega⟩
      rw [show n * 2 + i * 2 = (n + i) * 2 by omega] at e ⊢
      rw [(prv_at L (n + i) (by omega)).1] at e
      rw [(hc (n + i) (by omega)).1, e]
    · obtain ⟨i, rfl⟩ : ∃ i, j = i * 2 + 1 := ⟨j / 2, by omega⟩
      rw [show n * 2 + (i * 2 + 1) = (n + i) * 2 + 1 by omega] at e ⊢
      rw [(prv_at L (n + i) (by omega)).2] at e
      rw [(hc (n + i) (by omega)).2, e]
theorem src_new (W : World) (k v : Bs) (t : TypeId) : PSrc (W.alloc (.cells #[.string k, .string v] t)) (.slice (some ⟨W.heap.size, 0, none⟩) 1 1) [(k, v)] :=
  .inr ⟨_, _, rfl, fun j u hj => cell_two_new W _ _ t j u hj⟩
theorem own_below {B : Nat} {W W' : World} {T : TypeId} {z n : Nat} {v : Value} {xs : List Value} (h : W.ownsRow B T z v n xs) (hk : ∀ k, v.ownBlock = some k → W'.heap[k]? = W.heap[k]?) : W'.ownsRow B T z v n xs := by
  refine ⟨h.1, ?_⟩
  rcases h.2 with h1 | ⟨g, c, cur, rfl, h1, h2, h3⟩
  · exact .inl h1
  · exact .inr ⟨g, c, cur, rfl, h1, by rw [hk g rfl]; exact h2, h3⟩
def DSide (a : Act) (x y : Nat) (v : Value) (k n : Nat) : Prop := a.eval (.tmp x) = v ∧ a.eval (.tmp y) = .int .i64 k ∧ k ≤ n
set_option maxRecDepth 100000 in
theorem wpList_dropP {ops : Array Oper} {rest : List Oper} {Q : Exit → Act → World → Prop} (x y k : Nat) (v : Value) (L : List Pr) (d : Option Nat) (pos : String) (af) (a : Act) (w : World)
    (hv : PrAt w v L) (hside : DSide a x y v k L.length)
    (h : ∀ sv, PSrc w sv (L.drop k) → wpList Try.prog ops Q rest (a.put d sv) w) :
    wpList Try.prog ops Q ({ dst := d, op := Op.slice 28 (.tmp x) (some (.tmp y)) none none, type := 28, pos := pos, after := af, guard := none } :: rest) a w := by
  obtain ⟨hx, hy, hk⟩ := hside
  refine wpList_plain rfl fun K hK => ?_
  unfold Oper.wp
  have key : ∃ sv, PSrc w sv (L.drop k) ∧ (execOp a.eval { dst := d, op := Op.slice 28 (.tmp x) (some (.tmp y)) none none, type := 28, pos := pos, after := af, guard := none }).run Try.prog w = .ok (.value sv) w := by
    clear hK h K
    generalize a.eval = F at hx hy ⊢
    rcases hv with ⟨rfl, rfl⟩ | ⟨g, c, rfl, hc, hc2, hlt, hcell⟩
    · have hk0 : k = 0 := by simpa using hk
      subst hk0
      refine ⟨.slice none 0 0, .inl ⟨0, rfl, rfl⟩, ?_⟩
      simp [execOp, go_sem, hx, hy]
    · have hv : PrAt w (.slice (some ⟨g, 0, none⟩) L.length c) L := .inr ⟨g, c, rfl, hc, hc2, hlt, hcell⟩
      have h1 : (0 : Int) ≤ (k : Int) := by omega
      have h2 : (k : Int) ≤ (L.length : Int) := by omega
      have h3 : (L.length : Int) ≤ (c : Int) := by omega
      by_cases hkc : c = k
      · subst hkc
        have hL : L.length = c := by omega
        refine ⟨.slice (some ⟨g, 0, none⟩) 0 0, src_drop hv hk (by omega) (.inl rfl), ?_⟩
        rw [hL] at hx
        simp [execOp, go_sem, hx, hy]
      · refine ⟨.slice (some ⟨g, k * 2, none⟩) (L.length - k) (c - k), src_drop hv hk rfl (.inr rfl), ?_⟩
        simp [execOp, go_sem, hx, hy, h1, h2, h3, hkc]
  refine Exists.elim key (fun sv h12 => ?_)
  have h1 := h12.1
  have h2 := h12.2
  clear h12 key
  rw [h2]
  exact hK _ _ (h sv h1)
/-- what Put of the reference returns -/
def RPutOut (o : Int) (v0 : Value) (L : List Pr) (b : Bool) (w : World) (e : Ending) (W' : World) : Prop :=
  ∃ v, e = .returned (.tuple #[.agg #[.int .i64 o, v], .bool b]) ∧ PrAt W' v L ∧ Below w.heap.size w W' ∧ ∀ k, v.ownBlock = some k → v0.ownBlock = some k ∨ w.heap.size ≤ k
/-- the boxes of a call of the reference: the tree that was passed, the result -/
structure PW (w : World) (N : Nat) (o : Int) (v : Value) (L : List Pr) (B : Nat) (W : World) : Prop where
  b0 : Box W N [.int .i64 o, v]
  b1 : Box W (N + 1) [.int .i64 0, .slice none 0 0]
  pr : PrAt W v L
  ge : w.heap.size ≤ N
  lt : N + 1 < B
  vb : ∀ k, v.ownBlock = some k → k < B
  nb : ∀ k, v.ownBlock = some k → k ≠ N + 1
  sz : B ≤ W.heap.size
  b : Below w.heap.size w W
theorem PW.next {w W W' : World} {N B : Nat} {o : Int} {v : Value} {L : List Pr} (h : PW w N o v L B W) (hb : Below B W W') : PW w N o v L B W' :=
  ⟨h.b0.far hb (by have := h.lt; omega), h.b1.far hb h.lt, h.pr.below' hb h.vb, h.ge, h.lt, h.vb, h.nb, Nat.le_trans h.sz hb.size, h.b.trans (hb.mono (by have := h.ge; have := h.lt; omega))⟩
theorem PW.up {w W : World} {N B B' : Nat} {o : Int} {v : Value} {L : List Pr} (h : PW w N o v L B W) (h1 : B ≤ B') (h2 : B' ≤ W.heap.size) : PW w N o v L B' W :=
  ⟨h.b0, h.b1, h.pr, h.ge, by have := h.lt; omega, fun k hk => by have := h.vb k hk; omega, h.nb, h2, h.b⟩
theorem PW.start {w : World} {o : Int} {v : Value} {L : List Pr} (h : PrAt w v L) : PW w w.heap.size o v L (w.heap.size + 2) ((w.alloc (.cells #[.int .i64 o, v] 30)).alloc (.cells #[.int .i64 0, .slice none 0 0] 30)) := by
  have hb1 : Below w.heap.size w (w.alloc (.cells #[.int .i64 o, v] 30)) := (Below.refl _ w).alloc (Nat.le_refl _) _
  have hb2 : Below w.heap.size w ((w.alloc (.cells #[.int .i64 o, v] 30)).alloc (.cells #[.int .i64 0, .slice none 0 0] 30)) := hb1.alloc (by simp) _
  have h1 := Box.new (w.alloc (.cells #[.int .i64 o, v] 30)) [.int .i64 0, .slice none 0 0] 30
  rw [World.size_alloc] at h1
  exact ⟨(Box.new w [.int .i64 o, v] 30).alloc _, h1, h.below hb2, Nat.le_refl _, by omega, fun k hk => by have := h.own_lt k hk; omega, fun k hk => by have := h.own_lt k hk; omega, by simp, hb2⟩
/-- the end of Put and Delete: the result goes into its box -/
theorem rput_end {w W : World} {N B n c : Nat} {o : Int} {v : Value} {a : Option Addr} {L L' : List Pr} (h : PW w N o v L B W) (hr : W.ownsRow B 59 2 (.slice a n c) n (prv L')) (hn : n = L'.length) :
    PrAt (((W.setCell ⟨N, 1, none⟩ (.slice a n c)).setCell ⟨N + 1, 0, none⟩ (.int .i64 o)).setCell ⟨N + 1, 1, none⟩ (.slice a n c)) (.slice a n c) L' ∧ Below w.heap.size w (((W.setCell ⟨N, 1, none⟩ (.slice a n c)).setCell ⟨N + 1, 0, none⟩ (.int .i64 o)).setCell ⟨N + 1, 1, none⟩ (.slice a n c)) ∧
    Box (((W.setCell ⟨N, 1, none⟩ (.slice a n c)).setCell ⟨N + 1, 0, none⟩ (.int .i64 o)).setCell ⟨N + 1, 1, none⟩ (.slice a n c)) (N + 1) [.int .i64 o, .slice a n c] := by
  have hlt := h.lt
  have hge := h.ge
  have k1 : Kept (fun k => k = N) W (W.setCell ⟨N, 1, none⟩ (.slice a n c)) := (Kept.refl _ W).setCells N 1 [.slice a n c] (.inl rfl)
  have k2 : Kept (fun k => k = N + 1) (W.setCell ⟨N, 1, none⟩ (.slice a n c)) (((W.setCell ⟨N, 1, none⟩ (.slice a n c)).setCell ⟨N + 1, 0, none⟩ (.int .i64 o)).setCell ⟨N + 1, 1, none⟩ (.slice a n c)) :=
    ((Kept.refl (fun k => k = N + 1) _).setCells (N + 1) 0 [.int .i64 o, .slice a n c] (.inl rfl))
  have k3 : Kept (fun k => k = N ∨ k = N + 1) W (((W.setCell ⟨N, 1, none⟩ (.slice a n c)).setCell ⟨N + 1, 0, none⟩ (.int .i64 o)).setCell ⟨N + 1, 1, none⟩ (.slice a n c)) :=
    Kept.trans (S := fun k => k = N ∨ k = N + 1) ⟨k1.os, k1.tape, k1.output, k1.size, fun k hk hs => k1.block k hk (fun e => hs (.inl e))⟩ k2 (fun k e => .inl (.inr e))
  refine ⟨(PrAt.of_own hn hr).kept k3 (fun k hk e => ?_), h.b.trans (k3.below (Nat.le_trans (by omega) h.sz) (fun k e => ?_)), ?_⟩
  · have := (hr.lt k hk).1
    omega
  · omega
  · have b1 := h.b1.kept k1 (by omega)
    exact (b1.setCell 0 (.int .i64 o) (by simp)).setCell 1 (.slice a n c) (by simp)
theorem own_form {B : Nat} {W : World} {T : TypeId} {z n : Nat} {v : Value} {xs : List Value} (h : W.ownsRow B T z v n xs) : ∃ a c, v = .slice a n c ∧ n ≤ c := by
  rcases h.2 with ⟨rfl, rfl⟩ | ⟨g, c, cur, rfl, _, _, h, _⟩
  · exact ⟨none, 0, rfl, Nat.le_refl _⟩
  · exact ⟨_, _, rfl, h⟩
end Go.Proofs.Ytegljepgncicjaa
