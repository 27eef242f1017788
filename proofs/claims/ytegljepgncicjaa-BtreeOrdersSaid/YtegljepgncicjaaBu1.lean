/- Btree, general trees: rows of cells of any type; the heap of nodes (Hp). -/
import Derived.Test.YtegljepgncicjaaBt15
namespace Go.Proofs.Ytegljepgncicjaa
open Go.ChangeShapes Go.WideShapes Go.ChangeAt Go.RowKit Go.Deep
set_option linter.unusedVariables false
set_option linter.unusedSimpArgs false
structure RowT (T : Nat) (W : World) (g c : Nat) : Prop where
  sh : W.shape? g = some (T, c)
  fr : ∀ j, W.frozen? ⟨g, j, none⟩ = false
  th : ∀ j, j < c → (W.cell? ⟨g, j, none⟩).isSome = true
theorem RowT.lt {T : Nat} {W : World} {g c : Nat} (h : RowT T W g c) : g < W.heap.size := by
  rcases Nat.lt_or_ge g W.heap.size with h2 | h2
  · exact h2
  · have := h.sh
    simp [World.shape?, Array.getElem?_eq_none h2] at this
theorem RowT.same {T : Nat} {W W' : World} {g c : Nat} (h : RowT T W g c) (e : W'.heap[g]? = W.heap[g]?) : RowT T W' g c :=
  ⟨by have := h.sh; unfold World.shape? at *; rw [e]; exact this, fun j => (World.frozen?_of_block (a := ⟨g, j, none⟩) e).trans (h.fr j), fun j hj => by rw [World.cell?_of_block (a := ⟨g, j, none⟩) e]; exact h.th j hj⟩
theorem RowT.set {T : Nat} {W : World} {g c : Nat} (h : RowT T W g c) (o : Nat) (vs : List Value) : RowT T (W.setCells g o vs) g c :=
  ⟨(shape_setCells g vs o W g).trans h.sh, fun j => (World.frozen?_setCells g vs o W _).trans (h.fr j), fun j hj => World.isSome_setCells g vs o W _ (h.th j hj)⟩
theorem RowT.at {T : Nat} {W : World} {g c : Nat} (h : RowT T W g c) (o : Nat) (vs : List Value) (ho : o + vs.length ≤ c) (j : Nat) : (W.setCells g o vs).cell? ⟨g, j, none⟩ = if o ≤ j ∧ j < o + vs.length then vs[j - o]? else W.cell? ⟨g, j, none⟩ := by
  split
  · rename_i hj
    have := World.cell?_setCells_in g vs o W (fun i hi => h.th _ (by omega)) (j - o) (by omega)
    rw [show o + (j - o) = j by omega] at this
    rw [this, List.getElem?_eq_getElem]
  · rename_i hj
    exact World.cell?_setCells_out g vs o W _ (fun _ _ => by show j < o ∨ o + vs.length ≤ j; omega)
/-- a slice of cells of one's own: nil, or the first cells of a block -/
def RowV (T B : Nat) (W : World) (v : Value) (us : List Value) : Prop :=
  (v = .slice none 0 0 ∧ us = []) ∨ ∃ g c, v = .slice (some ⟨g, 0, none⟩) us.length c ∧ B ≤ g ∧ us.length ≤ c ∧ c ≤ 9223372036854775807 ∧ RowT T W g c ∧ ∀ j, j < us.length → W.cell? ⟨g, j, none⟩ = us[j]?
theorem RowV.lt {T B : Nat} {W : World} {v : Value} {us : List Value} (h : RowV T B W v us) : ∀ k, v.ownBlock = some k → B ≤ k ∧ k < W.heap.size := by
  rcases h with ⟨rfl, _⟩ | ⟨g, c, rfl, h1, _, _, hR, _⟩
  · intro k hk; simp [Value.ownBlock] at hk
  · intro k hk
    simp [Value.ownBlock] at hk
    subst hk
    exact ⟨h1, hR.lt⟩
theorem RowV.kept {T B : Nat} {S : Nat → Prop} {W W' : World} {v : Value} {us : List Value} (h : RowV T B W v us) (hk : Kept S W W') (hS : ∀ k, v.ownBlock = some k → ¬ S k) : RowV T B W' v us := by
  rcases h with ⟨rfl, h⟩ | ⟨g, c, rfl, h1, h2, h4, hR, hc⟩
  · exact .inl ⟨rfl, h⟩
  · have e := hk.block g hR.lt (hS g rfl)
    exact .inr ⟨g, c, rfl, h1, h2, h4, hR.same e, fun j hj => (World.cell?_of_block (a := ⟨g, j, none⟩) e).trans (hc j hj)⟩
theorem RowV.len {T B : Nat} {W : World} {v : Value} {us : List Value} (h : RowV T B W v us) : ∃ a c, v = .slice a us.length c := by
  rcases h with ⟨rfl, rfl⟩ | ⟨g, c, rfl, _⟩
  · exact ⟨none, 0, rfl⟩
  · exact ⟨_, _, rfl⟩
theorem rowV_new (T : Nat) (W : World) (arr : Array Value) (c : Nat) (hc : arr.size = c) : RowT T (W.alloc (.cells arr T)) W.heap.size c := by
  have e : (W.alloc (.cells arr T)).heap[W.heap.size]? = some (.cells arr T (0, 0)) := heap_new W _
  refine ⟨by unfold World.shape?; rw [e]; rw [← hc], fun j => by unfold World.frozen?; rw [e]; simp, fun j hj => ?_⟩
  unfold World.cell?
  rw [e]
  simp
  omega
theorem rowV_of_own {T B : Nat} {W : World} {v : Value} {us : List Value} {n : Nat} (hn : n = us.length) (h : W.ownsRow B T 1 v n us) : RowV T B W v us := by
  subst hn
  rcases h.2 with ⟨rfl, h1⟩ | ⟨g, c, cur, rfl, h1, h2, h3, h4, h5, h6⟩
  · exact .inl ⟨rfl, List.eq_nil_of_length_eq_zero h1⟩
  · refine .inr ⟨g, c, rfl, h1, h3, by unfold maxLen at h4; omega, ⟨by unfold World.shape?; rw [h2]; show some (T, cur.size) = _; rw [h5, Nat.mul_one], fun j => by unfold World.frozen?; rw [h2]; simp, fun j hj => by unfold World.cell?; rw [h2]; simp [h5]; omega⟩, fun j hj => ?_⟩
    rw [h.cellAt j (by omega)]
theorem rowV_S {B : Nat} {W : World} {v : Value} {xs : List Bs} (h : RowS B W v xs) : RowV 9 B W v (strv xs) := by
  rcases h with ⟨rfl, rfl⟩ | ⟨g, c, rfl, h1, h2, h3, h4, hR, hc⟩
  · exact .inl ⟨rfl, rfl⟩
  · exact .inr ⟨g, c, by rw [strv_len], h1, by rw [strv_len]; exact h2, h4, ⟨hR.sh, hR.fr, hR.th⟩, fun j hj => by rw [strv_at]; exact hc j (by rw [strv_len] at hj; exact hj)⟩
/-- a node: its keys, its values, its kids -/
structure Nd where
  ks : List Bs
  vs : List Bs
  ns : List Nat
def ptrv (ns : List Nat) : List Value := ns.map fun n => .pointer (some ⟨n, 0, none⟩)
theorem ptrv_len (ns : List Nat) : (ptrv ns).length = ns.length := List.length_map ..
theorem ptrv_at (ns : List Nat) (j : Nat) : (ptrv ns)[j]? = (ns[j]?).map fun n => .pointer (some ⟨n, 0, none⟩) := List.getElem?_map ..
/-- the cells of a node's row -/
def Nd.row (nd : Nd) : Nat → List Value
  | 0 => strv nd.ks
  | 1 => strv nd.vs
  | _ => ptrv nd.ns
def fT : Nat → Nat
  | 0 => 9
  | 1 => 9
  | _ => 64
/-- the ghost store: the nodes, and other blocks that are left alone -/
structure Sig where
  f : Nat → Option Nd
  F : Nat → Option Obj
instance : CoeFun Sig (fun _ => Nat → Option Nd) := ⟨Sig.f⟩
def upd (σ : Sig) (N : Nat) (nd : Nd) : Sig := ⟨fun k => if k = N then some nd else σ.f k, σ.F⟩
theorem upd_k (σ : Sig) (N : Nat) (nd : Nd) (k : Nat) : upd σ N nd k = if k = N then some nd else σ k := rfl
theorem sig_ext {σ τ : Sig} (h : ∀ k, σ k = τ k) (hF : σ.F = τ.F) : σ = τ := by
  obtain ⟨f, F⟩ := σ
  obtain ⟨g, G⟩ := τ
  have : f = g := funext h
  subst this
  cases hF
  rfl
theorem upd_same (σ : Sig) (N : Nat) (nd : Nd) : upd σ N nd N = some nd := if_pos rfl
theorem upd_other (σ : Sig) {N k : Nat} (nd : Nd) (h : k ≠ N) : upd σ N nd k = σ k := if_neg h
/-- what lies in W: the nodes of σ, each with three rows of its own; every block has one owner -/
def HpW (B : Nat) (W : World) (σ : Sig) (fv : Nat → Nat → Value) (own : Nat → Nat × Nat) : Prop :=
  ∀ N nd, σ N = some nd → Box W N [fv N 0, fv N 1, fv N 2] ∧ B ≤ N ∧ own N = (N, 0) ∧ ∀ j, j < 3 → RowV (fT j) B W (fv N j) (nd.row j) ∧ ∀ g, (fv N j).ownBlock = some g → own g = (N, j + 1)
def FrW (W : World) (σ : Sig) (own : Nat → Nat × Nat) : Prop := ∀ k b, σ.F k = some b → own k = (k, 9) ∧ W.heap[k]? = some b
theorem FrW.lt {W : World} {σ : Sig} {own : Nat → Nat × Nat} (h : FrW W σ own) {k : Nat} {b : Obj} (hb : σ.F k = some b) : k < W.heap.size := (Array.getElem?_eq_some_iff.1 (h k b hb).2).1
theorem FrW.kept {S : Nat → Prop} {W W' : World} {σ σ' : Sig} {own own' : Nat → Nat × Nat} (h : FrW W σ own) (hk : Kept S W W') (hS : ∀ k, S k → own k ≠ (k, 9)) (hF : σ'.F = σ.F) (ho : ∀ k b, σ.F k = some b → own k = (k, 9) → k < W.heap.size → own' k = (k, 9)) : FrW W' σ' own' := by
  intro k b hb
  rw [hF] at hb
  obtain ⟨h1, h2⟩ := h k b hb
  exact ⟨ho k b hb h1 (h.lt hb), (hk.block k (h.lt hb) (fun hs => hS k hs h1)).trans h2⟩
def Hp (B : Nat) (W : World) (σ : Sig) : Prop := ∃ fv own, HpW B W σ fv own ∧ FrW W σ own
/-- the blocks that the nodes of σ take -/
def Takes (σ : Sig) (fv : Nat → Nat → Value) (k : Nat) : Prop := ∃ N nd, σ N = some nd ∧ (k = N ∨ ∃ j, j < 3 ∧ (fv N j).ownBlock = some k)
theorem HpW.kept {B : Nat} {S : Nat → Prop} {W W' : World} {σ : Sig} {fv : Nat → Nat → Value} {own : Nat → Nat × Nat} (h : HpW B W σ fv own) (hk : Kept S W W') (hS : ∀ k, Takes σ fv k → ¬ S k) : HpW B W' σ fv own := by
  intro N nd hN
  obtain ⟨hb, hB, ho, hr⟩ := h N nd hN
  exact ⟨hb.kept hk (hS _ ⟨N, nd, hN, .inl rfl⟩), hB, ho, fun j hj => ⟨(hr j hj).1.kept hk (fun k e => hS k ⟨N, nd, hN, .inr ⟨j, hj, e⟩⟩), (hr j hj).2⟩⟩
theorem Hp.kept {B : Nat} {W W' : World} {σ : Sig} (h : Hp B W σ) (hk : Kept (fun _ => False) W W') : Hp B W' σ := by
  obtain ⟨fv, own, h, hF⟩ := h
  exact ⟨fv, own, h.kept hk (fun _ _ h => h), hF.kept hk (fun _ h => h.elim) rfl (fun _ _ _ h _ => h)⟩
theorem Hp.drewN {B : Nat} {W : World} {σ : Sig} (h : Hp B W σ) (q : Nat) : Hp B (W.drewN q) σ := h.kept ((Kept.refl _ W).drewN q)
theorem Hp.lt {B : Nat} {W : World} {σ : Sig} (h : Hp B W σ) {N : Nat} {nd : Nd} (hN : σ N = some nd) : B ≤ N ∧ N < W.heap.size := by
  obtain ⟨fv, own, h, hF⟩ := h
  obtain ⟨hb, hB, _⟩ := h N nd hN
  exact ⟨hB, hb.lt⟩
/-- what is read of a node -/
structure NodeAt (B : Nat) (W : World) (N : Nat) (nd : Nd) (kv vv dv : Value) : Prop where
  c0 : W.cell? ⟨N, 0, none⟩ = some kv
  c1 : W.cell? ⟨N, 1, none⟩ = some vv
  c2 : W.cell? ⟨N, 2, none⟩ = some dv
  f0 : W.frozen? ⟨N, 0, none⟩ = false
  f1 : W.frozen? ⟨N, 1, none⟩ = false
  f2 : W.frozen? ⟨N, 2, none⟩ = false
  r0 : RowV 9 B W kv (strv nd.ks)
  r1 : RowV 9 B W vv (strv nd.vs)
  r2 : RowV 64 B W dv (ptrv nd.ns)
theorem Hp.node {B : Nat} {W : World} {σ : Sig} (h : Hp B W σ) {N : Nat} {nd : Nd} (hN : σ N = some nd) : ∃ kv vv dv, NodeAt B W N nd kv vv dv := by
  obtain ⟨fv, own, h, hF⟩ := h
  obtain ⟨hb, hB, _, hr⟩ := h N nd hN
  exact ⟨_, _, _, hb.cell 0 _ rfl, hb.cell 1 _ rfl, hb.cell 2 _ rfl, hb.free 0, hb.free 1, hb.free 2, (hr 0 (by decide)).1, (hr 1 (by decide)).1, (hr 2 (by decide)).1⟩
theorem takes_lt {B : Nat} {W : World} {σ : Sig} {fv : Nat → Nat → Value} {own : Nat → Nat × Nat} (h : HpW B W σ fv own) {k : Nat} (hk : Takes σ fv k) : B ≤ k ∧ k < W.heap.size := by
  obtain ⟨N, nd, hN, hk⟩ := hk
  obtain ⟨hb, hB, _, hr⟩ := h N nd hN
  rcases hk with rfl | ⟨j, hj, e⟩
  · exact ⟨hB, hb.lt⟩
  · exact (hr j hj).1.lt k e
/-- a new row is stored into a field of a node -/
theorem Hp.field {B : Nat} {W W2 : World} {σ : Sig} (h : Hp B W σ) {N : Nat} {nd nd' : Nd} (hN : σ N = some nd) (j : Nat) (hj : j < 3) (v v' : Value) (hv : W.cell? ⟨N, j, none⟩ = some v)
    (hrow : RowV (fT j) B W2 v' (nd'.row j)) (hoth : ∀ i, i < 3 → i ≠ j → nd'.row i = nd.row i)
    (hk : Kept (fun k => v.ownBlock = some k) W W2) (ho : ∀ g, v'.ownBlock = some g → v.ownBlock = some g ∨ W.heap.size ≤ g) :
    Hp B (W2.setCell ⟨N, j, none⟩ v') (upd σ N nd') ∧ Kept (fun k => v.ownBlock = some k ∨ k = N) W (W2.setCell ⟨N, j, none⟩ v') ∧ B ≤ N ∧ (∀ g, v.ownBlock = some g → B ≤ g) ∧ W2.frozen? ⟨N, j, none⟩ = false ∧ (W2.cell? ⟨N, j, none⟩).isSome = true := by
  obtain ⟨fv, own, h, hF⟩ := h
  obtain ⟨hb, hB, hown, hr⟩ := h N nd hN
  have hvj : fv N j = v := by
    have : [fv N 0, fv N 1, fv N 2][j]? = some (fv N j) := by
      match j, hj with
      | 0, _ => rfl
      | 1, _ => rfl
      | 2, _ => rfl
    have := hb.cell j _ this
    rw [hv] at this
    exact (Option.some.inj this).symm
  have hvN : v.ownBlock ≠ some N := fun e => by
    have := (hr j hj).2 N (by rw [hvj]; exact e)
    rw [hown] at this
    cases this
  have hbN2 := hb.kept hk hvN
  have hgeN : ∀ g, v'.ownBlock = some g → g ≠ N := fun g e e2 => by
    subst e2
    rcases ho g e with h1 | h1
    · exact hvN h1
    · have := hb.lt; omega
  have hset : Kept (fun k => k = N) W2 (W2.setCell ⟨N, j, none⟩ v') := (Kept.refl _ W2).setCells N j [v'] (.inl rfl)
  have hall : Kept (fun k => v.ownBlock = some k ∨ k = N) W (W2.setCell ⟨N, j, none⟩ v') := by
    refine Kept.trans (S := fun k => v.ownBlock = some k ∨ k = N) ⟨hk.os, hk.tape, hk.output, hk.size, fun k hk2 hs => hk.block k hk2 (fun e => hs (.inl e))⟩ hset (fun k e => .inl (.inr e))
  refine ⟨⟨fun M i => if M = N ∧ i = j then v' else fv M i, fun k => if v'.ownBlock = some k then (N, j + 1) else own k, ?_, hF.kept hall (fun k hk2 e => by
      rcases hk2 with h1 | h1
      · have e4 := (hr j hj).2 k (by rw [hvj]; exact h1)
        rw [e] at e4
        simp at e4
        omega
      · rw [h1, hown] at e; simp at e) rfl (fun k b _ e hlt => by
      show (if v'.ownBlock = some k then (N, j + 1) else own k) = (k, 9)
      rw [if_neg (fun e2 => ?_)]
      · exact e
      · rcases ho k e2 with h1 | h1
        · have e4 := (hr j hj).2 k (by rw [hvj]; exact h1)
          rw [e] at e4
          simp at e4
          omega
        · omega)⟩, hall, hB, fun g e => ?_, hbN2.free j, by
    have : [fv N 0, fv N 1, fv N 2][j]? = some (fv N j) := by
      match j, hj with
      | 0, _ => rfl
      | 1, _ => rfl
      | 2, _ => rfl
    rw [hbN2.cell j _ this]; rfl⟩
  · intro M md hM
    by_cases hMN : M = N
    · subst hMN
      rw [upd_same] at hM
      cases hM
      refine ⟨?_, hB, ?_, fun i hi => ?_⟩
      · have hb3 := hbN2.setCell j v' (by simp; omega)
        match j, hj with
        | 0, _ => simpa using hb3
        | 1, _ => simpa using hb3
        | 2, _ => simpa using hb3
      · try dsimp only
        rw [if_neg (fun e => hgeN M e rfl)]
        exact hown
      · by_cases hij : i = j
        · subst hij
          simp only [and_self, if_true]
          exact ⟨hrow.kept hset (fun k e e2 => hgeN k e e2), fun g e => by (try dsimp only); rw [if_pos e]⟩
        · simp only [hij, and_false, if_false]
          obtain ⟨h1, h2⟩ := hr i hi
          refine ⟨?_, fun g e => ?_⟩
          · rw [hoth i hi hij]
            refine (h1.kept hk (fun k e e2 => ?_)).kept hset (fun k e e2 => ?_)
            · have e3 := h2 k e
              have e4 := (hr j hj).2 k (by rw [hvj]; exact e2)
              rw [e3] at e4
              simp at e4
              exact hij e4
            · have e3 := h2 k e
              rw [e2, hown] at e3
              cases e3
          · try dsimp only
            rw [if_neg (fun e2 => ?_)]
            · exact h2 g e
            · rcases ho g e2 with h3 | h3
              · have e3 := h2 g e
                have e4 := (hr j hj).2 g (by rw [hvj]; exact h3)
                rw [e3] at e4
                simp at e4
                exact hij e4
              · have := (h1.lt g e).2; omega
    · rw [upd_other σ nd' hMN] at hM
      obtain ⟨hb1, hB1, ho1, hr1⟩ := h M md hM
      have hMg : v.ownBlock ≠ some M := fun e => by
        have e4 := (hr j hj).2 M (by rw [hvj]; exact e)
        rw [ho1] at e4
        cases e4
      simp only [hMN, false_and, if_false]
      refine ⟨(hb1.kept hk hMg).kept hset (fun e => hMN e), hB1, ?_, fun i hi => ?_⟩
      · try dsimp only
        rw [if_neg (fun e => ?_)]
        · exact ho1
        · rcases ho M e with h3 | h3
          · exact hMg h3
          · have := hb1.lt; omega
      · obtain ⟨h1, h2⟩ := hr1 i hi
        refine ⟨(h1.kept hk (fun k e e2 => ?_)).kept hset (fun k e e2 => ?_), fun g e => ?_⟩
        · have e3 := h2 k e
          have e4 := (hr j hj).2 k (by rw [hvj]; exact e2)
          rw [e3] at e4
          simp at e4
          exact hMN e4.1
        · have e3 := h2 k e
          rw [e2, hown] at e3
          cases e3
        · try dsimp only
          rw [if_neg (fun e2 => ?_)]
          · exact h2 g e
          · rcases ho g e2 with h3 | h3
            · have e3 := h2 g e
              have e4 := (hr j hj).2 g (by rw [hvj]; exact h3)
              rw [e3] at e4
              simp at e4
              exact hMN e4.1
            · have := (h1.lt g e).2; omega
  · exact ((hr j hj).1.lt g (by rw [hvj]; exact e)).1
end Go.Proofs.Ytegljepgncicjaa
