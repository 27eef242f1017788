/- Mvcc: a store at work. -/
import Derived.Test.YtpcjmceakelilaaEnf
namespace Go.Proofs.Ytpcjmceakelilaa
open Go.ChangeShapes Go.WideShapes Go.ChangeAt Go.RowKit Go.Deep Go.ChangeMaps Go.Shelf Go.Sort
set_option linter.unusedVariables false
set_option linter.unusedSimpArgs false
section
variable {B S m N clock : Nat} {E : List En} {A : Bs → List Ver} {W0 W : World}
/-- a store at work after a step -/
def WkS (B S m : Nat) (x : Opv) (A : Bs → List Ver) (N : Nat) (E : List En) (W0 W W' : World) : Prop := ∃ E' clock', Wk B S m E' clock' (stepA A x) (N + 1) W0 W' ∧ Turned B S m E W W' E' clock'
theorem Wk.put (h : Wk B S m E clock A N W0 W) (hN : N < 5000) (k vl : Bs) (s : Int) (n : Int) (hn : (if okT (A k) s then (0 : Int) else 1) = n) :
    Calls Try.prog 41 #[.pointer (some ⟨S, 0, none⟩), .string k, .string vl, .int .i64 s] W fun e W' => e = .returned (.int .i64 n) ∧ WkS B S m ⟨1, k, vl, s, false⟩ A N E W0 W W' := by
  refine (put_any B S m clock E k vl s W h.sto h.bw (by have := h.tot; omega)).mono ?_
  rintro e W' ⟨rfl, E', c', ht, hl⟩
  refine ⟨?_, E', c', h.step (x := ⟨1, k, vl, s, false⟩) ht hl, ht⟩
  rw [h.lk]
  show Ending.returned (.int .i64 (if okT (A k) s then (0 : Int) else 1)) = _
  rw [hn]
theorem Wk.del (h : Wk B S m E clock A N W0 W) (hN : N < 5000) (k : Bs) (s : Int) (n : Int) (hn : (if okT (A k) s then (0 : Int) else 1) = n) :
    Calls Try.prog 40 #[.pointer (some ⟨S, 0, none⟩), .string k, .int .i64 s] W fun e W' => e = .returned (.int .i64 n) ∧ WkS B S m ⟨2, k, ⟨#[]⟩, s, false⟩ A N E W0 W W' := by
  refine (del_any B S m clock E k s W h.sto h.bw (by have := h.tot; omega)).mono ?_
  rintro e W' ⟨rfl, E', c', ht, hl⟩
  refine ⟨?_, E', c', h.step (x := ⟨2, k, ⟨#[]⟩, s, false⟩) ht hl, ht⟩
  rw [h.lk]
  show Ending.returned (.int .i64 (if okT (A k) s then (0 : Int) else 1)) = _
  rw [hn]
theorem sum_ord (g : Gd E) (f : List Ver → Nat) : (E.map fun e => f e.vs).sum = ((ordE E).map fun k => f (lkL E k)).sum := by
  have h1 : (E.map fun e => f e.vs) = (E.map (·.key)).map fun k => f (lkL E k) := by
    rw [List.map_map]
    refine List.map_congr_left fun e he => ?_
    show f e.vs = f (lkL E e.key)
    rw [lkL_of g.keys he]
  rw [h1]
  exact ((sortB_perm (E.map (·.key))).symm.map _).sum_nat
theorem ord_of (g : Gd E) (ks : List Bs) (hs : ks.Pairwise fun a b => lB a b = true) (hm : ∀ k, k ∈ ks ↔ lkL E k ≠ []) : ordE E = ks := by
  have hn : ks.Nodup := hs.imp fun {a b} h e => by subst e; rw [lB_irrefl] at h; cases h
  have hp : (ordE E).Perm ks := (show (ordE E).Perm (E.map (fun e : En => e.key)) from sortB_perm _).trans ((List.perm_ext_iff_of_nodup g.keys hn).2 fun k => by rw [mem_keys g, hm k])
  exact List.Perm.eq_of_pairwise (le := fun a b => lB a b = true) (fun x y _ _ h1 h2 => by rw [lB_asymm h1] at h2; cases h2) (sortB_srt g.keys) hs hp
theorem Wk.prune (h : Wk B S m E clock A N W0 W) (hN : N < 5000) (t : Int) :
    Calls Try.prog 29 #[.pointer (some ⟨S, 0, none⟩), .int .i64 t] W fun e W' => e = .returned (.int .i64 ((E.map fun e => pn e.vs t).sum : Nat)) ∧ WkS B S m ⟨6, ⟨#[]⟩, ⟨#[]⟩, t, false⟩ A N E W0 W W' := by
  refine (prune_any B S m clock E t W h.sto h.bw (by have := h.tot; omega)).mono ?_
  rintro e W' ⟨rfl, hs⟩
  obtain ⟨E', c', ht, hl⟩ := swept_done h.sto (prune_nil t) hs
  exact ⟨rfl, E', c', h.step (x := ⟨6, ⟨#[]⟩, ⟨#[]⟩, t, false⟩) ht hl, ht⟩
theorem Wk.roll (h : Wk B S m E clock A N W0 W) (hN : N < 5000) (t : Int) :
    Calls Try.prog 51 #[.pointer (some ⟨S, 0, none⟩), .int .i64 t] W fun e W' => e = .returned (.int .i64 ((E.map fun e => e.vs.length - upto e.vs t).sum : Nat)) ∧ WkS B S m ⟨5, ⟨#[]⟩, ⟨#[]⟩, t, false⟩ A N E W0 W W' := by
  refine (rollback_any B S m clock E t W h.sto h.bw (by have := h.tot; omega)).mono ?_
  rintro e W' ⟨rfl, hs⟩
  obtain ⟨E', c', ht, hl⟩ := swept_done h.sto (roll_nil t) hs
  exact ⟨rfl, E', c', h.step (x := ⟨5, ⟨#[]⟩, ⟨#[]⟩, t, false⟩) ht hl, ht⟩
theorem Wk.below (h : Wk B S m E clock A N W0 W) {W' : World} (hb : Below W.heap.size W W') : Wk B S m E clock A N W0 W' :=
  ⟨h.sto.below hb, h.lk, h.tot, h.low.trans (hb.mono h.bw), Nat.le_trans h.bw hb.size⟩
theorem Wk.clone (h : Wk B S m E clock A N W0 W) :
    Calls Try.prog 28 #[.pointer (some ⟨S, 0, none⟩)] W fun e W' => ∃ C mc EC cc, e = .returned (.pointer (some ⟨C, 0, none⟩)) ∧ Wk W.heap.size C mc EC cc A N W W' ∧ Below W.heap.size W W' := by
  refine (clone_any B S m clock E W h.sto).mono ?_
  rintro e W' ⟨C, mc, EC, cc, seen, rfl, hs, hc, hall, hb⟩
  have hl := cpy_lk hc hall h.sto.gd hs.gd
  exact ⟨C, mc, EC, cc, rfl, ⟨hs, by rw [hl, h.lk], by rw [total_same hs.gd h.sto.gd hl]; exact h.tot, hb, hb.size⟩, hb⟩
end
end Go.Proofs.Ytpcjmceakelilaa
