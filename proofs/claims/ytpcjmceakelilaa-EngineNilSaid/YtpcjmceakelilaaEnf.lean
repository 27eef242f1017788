/- Mvcc: calls on a store. -/
import Derived.Test.YtpcjmceakelilaaEne
namespace Go.Proofs.Ytpcjmceakelilaa
open Go.ChangeShapes Go.WideShapes Go.ChangeAt Go.RowKit Go.Deep Go.ChangeMaps Go.Shelf Go.Sort
set_option linter.unusedVariables false
set_option linter.unusedSimpArgs false
theorem Turned.pre {B S m clock' : Nat} {E E' : List En} {W W1 W' : World} (hb : Below W.heap.size W W1) (h : Turned B S m E W1 W' E' clock') : Turned B S m E W W' E' clock' :=
  ⟨h.1, fun j hj => (h.2.1 j hj).imp id (fun h2 => Nat.le_trans hb.size h2), (show Kept (Foot S m E) W W1 from ⟨hb.os, hb.tape, hb.output, hb.size, fun j hj _ => hb.block j hj⟩).trans h.2.2 (fun j hj => .inl hj)⟩
theorem Turned.same {B S m clock : Nat} {E : List En} {W W' : World} (h : Sto B W S m E clock) (hb : Below W.heap.size W W') : Turned B S m E W W' E clock :=
  ⟨h.below hb, fun j hj => .inl hj, ⟨hb.os, hb.tape, hb.output, hb.size, fun j hj _ => hb.block j hj⟩⟩
/-- a store that has been changed, and what its keys hold -/
def Done (B S m : Nat) (E : List En) (A : Bs → List Ver) (W W' : World) : Prop := ∃ E' clock', Turned B S m E W W' E' clock' ∧ lkL E' = A
theorem Done.pre {B S m : Nat} {E : List En} {A : Bs → List Ver} {W W1 W' : World} (hb : Below W.heap.size W W1) (h : Done B S m E A W1 W') : Done B S m E A W W' := by
  obtain ⟨E', c', h1, h2⟩ := h
  exact ⟨E', c', h1.pre hb, h2⟩
def PutOut (B S m : Nat) (E : List En) (k : Bs) (x : Ver) (W : World) (e : Ending) (W' : World) : Prop :=
  e = .returned (.int .i64 (if okT (lkL E k) x.1 then 0 else 1)) ∧ Done B S m E (addA (lkL E) k x) W W'
theorem add_any (B S m clock : Nat) (E : List En) (k : Bs) (s : Int) (vl : Bs) (dl : Bool) (W : World) (h : Sto B W S m E clock) (hB : B ≤ W.heap.size) (hT : total E < 5000) :
    Calls Try.prog 58 #[.pointer (some ⟨S, 0, none⟩), .string k, .agg #[.int .i64 s, .string vl, .bool dl]] W (PutOut B S m E k (s, vl, dl) W) := by
  by_cases ho : okT (lkL E k) s
  · have hl := lk_total E k
    refine (add_ok B S m clock E k s vl dl W h hB ho.1 ho.2.1 ho.2.2 (by omega)).mono ?_
    rintro e W' ⟨rfl, val, ht⟩
    refine ⟨by rw [if_pos ho], _, _, ht, ?_⟩
    rw [put_lk h.ok]
    unfold addA
    rw [if_pos ho]
  · refine (add_bad B S m clock E k s vl dl W h (by unfold okT at ho; omega)).mono ?_
    rintro e W' ⟨rfl, hb⟩
    refine ⟨by rw [if_neg ho], E, clock, .same h hb, ?_⟩
    unfold addA
    rw [if_neg ho]
theorem put_any (B S m clock : Nat) (E : List En) (k vl : Bs) (s : Int) (W : World) (h : Sto B W S m E clock) (hB : B ≤ W.heap.size) (hT : total E < 5000) :
    Calls Try.prog 41 #[.pointer (some ⟨S, 0, none⟩), .string k, .string vl, .int .i64 s] W (PutOut B S m E k (s, vl, false) W) :=
  put_of S k vl s W _ _ (add_any B S m clock E k s vl false W h hB hT)
theorem del_any (B S m clock : Nat) (E : List En) (k : Bs) (s : Int) (W : World) (h : Sto B W S m E clock) (hB : B ≤ W.heap.size) (hT : total E < 5000) :
    Calls Try.prog 40 #[.pointer (some ⟨S, 0, none⟩), .string k, .int .i64 s] W (PutOut B S m E k (s, ⟨#[]⟩, true) W) :=
  del_of S k s W _ _ (add_any B S m clock E k s ⟨#[]⟩ true W h hB hT)
theorem swept_done {B S m clock : Nat} {E : List En} {f : List Ver → List Ver} {W W' : World} (h : Sto B W S m E clock) (f0 : f [] = []) (hs : Swept B S m clock E f W W') : Done B S m E (fun k => f (lkL E k)) W W' := by
  obtain ⟨E', seen, hall, hsw, ht⟩ := hs
  exact ⟨E', clock, ht, swept_lk hsw hall h.gd ht.1.gd f0⟩
/-- a store at work -/
structure Wk (B S m : Nat) (E : List En) (clock : Nat) (A : Bs → List Ver) (N : Nat) (W0 W : World) : Prop where
  sto : Sto B W S m E clock
  lk : lkL E = A
  tot : total E ≤ N
  low : Below B W0 W
  bw : B ≤ W.heap.size
theorem Wk.step {B S m N clock clock' : Nat} {E E' : List En} {x : Opv} {A : Bs → List Ver} {W0 W W' : World} (h : Wk B S m E clock A N W0 W) (ht : Turned B S m E W W' E' clock') (hl : lkL E' = stepA (lkL E) x) : Wk B S m E' clock' (stepA A x) (N + 1) W0 W' :=
  ⟨ht.1, by rw [hl, h.lk], by
    have := total_le h.sto.gd ht.1.gd x.key (fun k => by rw [hl]; exact stepA_len _ x k)
    have := h.tot
    omega, h.low.trans (ht.2.2.below h.bw (fun k hk => (h.sto.foot hk).1)), Nat.le_trans h.bw ht.2.2.size⟩
def noA : Bs → List Ver := fun _ => []
theorem runA_snoc (A : Bs → List Ver) (l : List Opv) (x : Opv) : runA A (l ++ [x]) = stepA (runA A l) x := by simp [runA]
end Go.Proofs.Ytpcjmceakelilaa
