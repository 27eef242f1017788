/- Engine: a range over a function whose iterator ranges over a function itself: the outer loop's invariant abides what the inner loop's bookkeeping does. -/
import Derived.Test.YtpcjmceakelilaaEn15
import Derived.RangeFuncNested
namespace Go.Proofs.Ytpcjmceakelilaa
open Go.ChangeShapes Go.WideShapes Go.ChangeAt Go.RowKit Go.Deep Go.ChangeMaps Go.Shelf Go.Sort
set_option linter.unusedVariables false
set_option linter.unusedSimpArgs false
/-- an iterator's contract towards a loop whose state does not care for blocks without cells that come later -/
def SeqO {α : Type} (n : Nat) (P : Program) (g : Nat) (lb : Array Value) (encs : α → Array Value) (Kp : World → World → Prop) (S : List α → Prop) (N : Nat) (w : World) : Prop :=
  ∀ (l : Nat) (J : List α → World → Prop) (W : World), Below w.heap.size w W → w.heap.size + 2 ≤ W.heap.size → OwnFrom W.heap.size J →
    (∀ pre x W1, J pre W1 → pre.length < N → YieldAt Fence.wide (n - 1) P l (encs x) W1 fun e W' => e = .returned (.bool true) ∧ J (pre ++ [x]) W' ∧ Kp W1 W') →
    J [] W →
    CallsIn Fence.wide n P g (#[.func (.yield l) #[] #[]] ++ lb) W fun e W' => (∃ v, e = .returned v) ∧ ∃ xs, S xs ∧ J xs W'
theorem ownFrom_mono {β : Type} {A B : Nat} {I : β → World → Prop} (h : OwnFrom A I) (hab : A ≤ B) : OwnFrom B I := fun s W W' row hs hg hr => h s W W' row hs hg (fun r e => ⟨Nat.le_trans hab (hr r e).1, (hr r e).2⟩)
/-- a block that lies below B is kept by what turns no block below B -/
theorem grown_low {B k : Nat} {W W' : World} {row : Option Nat} {o : Obj} (hg : W.grownBy W' row) (hr : ∀ r, row = some r → B ≤ r) (hk : k < B) (h : W.heap[k]? = some o) : W'.heap[k]? = some o :=
  (hg.block k (Array.getElem?_eq_some_iff.1 h).1 (fun e => by have := hr k e.symm; omega)).trans h
theorem putObj_set {W : World} {l : Nat} {o o' : Obj} (h : W.heap[l]? = some o) : (W.putObj l o').heap[l]? = some o' := World.putObj_heap_same (Array.getElem?_eq_some_iff.1 h).1
theorem rangeO {α : Type} {n : Nat} {P : Program} {g : Operand} {ps : Array Tmp} {assign body : Code} {Q : Exit → Act → World → Prop} {a : Act} {w : World}
    (h1 : 1 ≤ n) {gf : Nat} {lb : Array Value} (hg : a.eval g = .func (.func gf) #[] lb) (eg : ∀ args w, (callFunc gf args).run P w = .ok (.enter gf args) w)
    {encs : α → Array Value} {Kp : World → World → Prop} {S : List α → Prop} {N : Nat} {w0 : World} (hseq : SeqO (n - 1) P gf lb encs Kp S N w0) (hb0 : Below w0.heap.size w0 w)
    (hKt : ∀ {A B C : World}, Kp A B → Kp B C → Kp A C) (hKb : ∀ (W : World) (o o' : Obj), W.heap[w.heap.size + 1]? = some o → o.isCells = false → o.isWalk = false → Kp W (W.putObj (w.heap.size + 1) o')) (hps : ∀ x, (encs x).size = ps.size)
    (I : List α → World → Prop) (hI : OwnFrom w.heap.size I) (h0 : I [] w) (a1 : α → Act)
    (hassign : ∀ (l : Nat) (pre : List α) (x : α) (W : World) (K : Act → World → Prop), pre.length < N → K (a1 x) W →
      assign.wpIn (Fence.wide.inRound l) (n - 1 - 1) P (Exit.then K (fun _ _ _ => False)) { tmps := (ps.zip (encs x)).foldl (fun t (p, v) => t.setIfInBounds p v) a.tmps, defers := [] } W)
    (hbody : ∀ (l : Nat) (pre : List α) (x : α) (W : World), I pre W → pre.length < N → body.wpIn (Fence.wide.inRound l) (n - 1 - 1) P (ownPostG w.heap.size Kp I (fun _ _ _ => False) (pre ++ [x]) W) (a1 x) W)
    (hdone : ∀ (D : Nat) (xs : List α) (W : World), w.heap.size ≤ D → S xs → I xs W → W.heap[D]? = some (.deferred (some [])) → Q .normal { a with defers := { target := .collected D, args := #[] } :: a.defers } W) :
    (Code.rangeFunc g ps assign body).wpIn Fence.wide n P Q a w := by
  refine wpIn_rangeFunc fun fn hfn => ?_
  have key : ∃ l D : Nat, l = w.heap.size + 1 ∧ D = w.heap.size := ⟨_, _, rfl, rfl⟩
  obtain ⟨l, D, hl, hD⟩ := key
  have hDl : D < l := by omega
  -- the record in its states
  obtain ⟨R, hR⟩ : ∃ R : LoopState → Obj, R = fun s => .loop { state := s, pending := none, fn, tmps := a.tmps, params := ps, assign, body, defers := w.heap.size } := ⟨_, rfl⟩
  have hnc : ∀ s, (R s).isCells = false ∧ (R s).isWalk = false := fun s => by rw [hR]; exact ⟨rfl, rfl⟩
  obtain ⟨A, hA⟩ : ∃ A : World, A = (w.alloc (.deferred (some []))).alloc (R .ready) := ⟨_, rfl⟩
  have sA : A.heap.size = l + 1 := by rw [hA]; simp; omega
  have bA : Below w.heap.size w A := by rw [hA]; exact ((Below.refl _ w).alloc (Nat.le_refl _) _).alloc (by simp) _
  have lA : A.heap[l]? = some (R .ready) := by rw [hA, hl]; have := World.alloc_heap_new (w.alloc (.deferred (some []))) (R .ready); rwa [World.size_alloc] at this
  have dA : A.heap[D]? = some (.deferred (some [])) := by rw [hA, hD, heap_alloc_old _ _ (by simp)]; exact World.alloc_heap_new w _
  have iA : I [] A := by rw [hA]; exact hI.alloc _ (hI.alloc _ h0)
  -- what the loop knows between rounds
  obtain ⟨J, hJ⟩ : ∃ J : List α → World → Prop, J = fun pre W => I pre W ∧ W.heap[l]? = some (R .ready) ∧ W.heap[D]? = some (.deferred (some [])) := ⟨_, rfl⟩
  have oJ : OwnFrom A.heap.size J := by
    rw [hJ]
    intro pre X Y row hs hg' hr
    exact ⟨hI pre X Y row hs.1 hg' (fun r e => ⟨by have := (hr r e).1; omega, (hr r e).2⟩), grown_low hg' (fun r e => (hr r e).1) (by omega) hs.2.1, grown_low hg' (fun r e => (hr r e).1) (by omega) hs.2.2⟩
  have hcall := hseq l J A (hb0.trans (bA.mono hb0.size)) (by have := hb0.size; omega) oJ (fun pre x W hj hlen => ?round) (by rw [hJ]; exact ⟨iA, lA, dA⟩)
  case round =>
    rw [hJ] at hj
    obtain ⟨hi, hrl, hrd⟩ := hj
    have hy := run_yield (P := P) (args := encs x) (show W.heap[l]? = some (.loop _) from by rw [hrl, hR]) (hps x)
    refine ⟨_, _, _, _, hy, roundIn_of_wpIn hfn (hassign l pre x W _ hlen ?_)⟩
    have hbr := run_beginRound (P := P) (show W.heap[l]? = some (.loop _) from by rw [hrl, hR]) rfl
    refine ⟨_, hbr, ?_⟩
    have hbz : (Obj.loop { state := .busy, pending := none, fn := fn, tmps := a.tmps, params := ps, assign := assign, body := body, defers := w.heap.size }) = R .busy := by rw [hR]
    rw [hbz]
    have i2 : I pre (W.putObj l (R .busy)) := hI.putObj _ hi (by omega) hrl (hnc _).1
    have l2 : (W.putObj l (R .busy)).heap[l]? = some (R .busy) := putObj_set hrl
    have d2 : (W.putObj l (R .busy)).heap[D]? = some (.deferred (some [])) := (World.putObj_heap_other (by omega)).trans hrd
    have k2 : Kp W (W.putObj l (R .busy)) := by subst hl; exact hKb W _ _ hrl (hnc _).1 (hnc _).2
    refine wpIn_mono (hbody l pre x _ i2 hlen) ?_
    rintro e a3 W3 hp
    cases e with
    | normal =>
      obtain ⟨hkf, hkp, hi3⟩ := hp
      have l3 := hkf.same l _ (by omega) l2 (hnc _).1
      have d3 := hkf.same D _ (by omega) d2 rfl
      have her := run_endRound (P := P) none (show W3.heap[l]? = some (.loop _) from by rw [l3, hR])
      have hrz : (Obj.loop { state := if (none : Option Code).isNone then .ready else .done, pending := none, fn := fn, tmps := a.tmps, params := ps, assign := assign, body := body, defers := w.heap.size }) = R .ready := by rw [hR]; rfl
      rw [hrz] at her
      refine ⟨_, _, her, rfl, ?_, hKt (hKt k2 hkp) (by subst hl; exact hKb W3 _ _ l3 (hnc _).1 (hnc _).2)⟩
      rw [hJ]
      exact ⟨hI.putObj _ hi3 (by omega) l3 (hnc _).1, putObj_set l3, (World.putObj_heap_other (by omega)).trans d3⟩
    | ret => exact hp.2.elim
    | exit id => exact hp.2.elim
    | goto t => exact hp.2.elim
    | panic ch => exact hp.elim
    | outgrown => exact hp.elim
  have henter := run_enterLoop_outer (P := P) (w := w) fn a.tmps ps assign body
  refine ⟨w.heap.size + 1, [{ target := .collected w.heap.size, args := #[] }], A, { target := .fn (.func gf) lb, args := #[.func (.yield (w.heap.size + 1)) #[] #[]] }, A, gf, #[.func (.yield (w.heap.size + 1)) #[] #[]] ++ lb, A, ?_, ?_, fun _ _ => trivial, ?_, fun _ => h1, ?_⟩
  · rw [hA, hR]; exact henter
  · simp only [resolve, hg]; simp [go_sem]
  · simp [invoke, go_sem, eg]
  · rw [← hl]
    refine hcall.mono ?_
    rintro e W2 ⟨⟨v, rfl⟩, xs, hS, hj⟩
    rw [hJ] at hj
    obtain ⟨hi, hrl, hrd⟩ := hj
    have hel := run_endLoop (P := P) (show W2.heap[l]? = some (.loop _) from by rw [hrl, hR]) (by simp)
    refine ⟨none, _, hel, ?_⟩
    have := hdone D xs (W2.putObj l (.loop { state := .exhausted, pending := none, fn := fn, tmps := a.tmps, params := ps, assign := assign, body := body, defers := w.heap.size })) (by omega) hS (hI.putObj _ hi (by omega) hrl (hnc _).1) ((World.putObj_heap_other (by omega)).trans hrd)
    rw [hD] at this
    exact this
/-- what a round keeps: what lies below n₀; cells of other types than Ex; from c on, blocks without cells -/
structure KpO (n₀ c : Nat) (Ex : TypeId → Prop) (W W' : World) : Prop where
  low : Below n₀ W W'
  cells : ∀ (k : Nat) (cs : Array Value) (T : TypeId) (fr : Nat × Nat), W.heap[k]? = some (Obj.cells cs T fr) → ¬ Ex T → W'.heap[k]? = some (Obj.cells cs T fr)
  keeps : KeepsFrom c W W'
theorem KpO.t {n₀ c : Nat} {Ex : TypeId → Prop} {A B C : World} (h : KpO n₀ c Ex A B) (g : KpO n₀ c Ex B C) : KpO n₀ c Ex A C :=
  ⟨h.low.trans g.low, fun k cs T fr hk hT => g.cells k cs T fr (h.cells k cs T fr hk hT) hT, h.keeps.trans g.keeps⟩
theorem KpO.below {n₀ c : Nat} {Ex : TypeId → Prop} {W W' : World} (h : Below W.heap.size W W') (hn : n₀ ≤ W.heap.size) : KpO n₀ c Ex W W' :=
  ⟨h.mono hn, fun k cs T fr hk _ => (h.block k (Array.getElem?_eq_some_iff.1 hk).1).trans hk, ⟨h.size, fun k o _ hk _ => (h.block k (Array.getElem?_eq_some_iff.1 hk).1).trans hk⟩⟩
theorem KpO.put {n₀ c l : Nat} {Ex : TypeId → Prop} {W : World} {o o' : Obj} (hl : n₀ ≤ l) (hc : l < c) (h : W.heap[l]? = some o) (ho : o.isCells = false) : KpO n₀ c Ex W (W.putObj l o') := by
  have key : ∀ k, k ≠ l → (W.putObj l o').heap[k]? = W.heap[k]? := fun k hk => World.putObj_heap_other hk
  refine ⟨⟨rfl, rfl, rfl, by simp, fun k hk => key k (by omega)⟩, fun k cs T fr hk hT => ?_, ⟨by simp, fun k o2 hk1 hk _ => (key k (by omega)).trans hk⟩⟩
  rw [key k (fun e => by rw [e, h] at hk; cases hk; cases ho)]
  exact hk
end Go.Proofs.Ytpcjmceakelilaa
