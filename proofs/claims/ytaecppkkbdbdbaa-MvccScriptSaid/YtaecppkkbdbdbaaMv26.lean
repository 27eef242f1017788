/- Mvcc: rows that were read; calls on a store at work. -/
import Derived.Test.YtaecppkkbdbdbaaMv25
import Derived.Test.YtaecppkkbdbdbaaMv18
namespace Go.Proofs.Ytaecppkkbdbdbaa
open Go.ChangeShapes Go.WideShapes Go.ChangeAt Go.RowKit Go.ChangeMaps Go.Deep Go.Shelf Go.Sort
set_option linter.unusedVariables false
set_option linter.unusedSimpArgs false
theorem prS_at : ∀ (L : List (Bs × Bs)) (j : Nat) (h : j < L.length), (prS L)[j * 2]? = some (.string L[j].1) ∧ (prS L)[j * 2 + 1]? = some (.string L[j].2)
  | x :: L, 0, _ => ⟨rfl, rfl⟩
  | x :: L, j + 1, h => by
    have := prS_at L j (by simpa using h)
    have e : prS (x :: L) = .string x.1 :: .string x.2 :: prS L := rfl
    rw [e, show (j + 1) * 2 = j * 2 + 1 + 1 by omega]
    simpa using this
theorem prA_at : ∀ (L : List (Bs × Ver)) (j : Nat) (h : j < L.length), (prA L)[j * 4]? = some (.string L[j].1) ∧ (prA L)[j * 4 + 1]? = some (.int .i64 L[j].2.1) ∧ (prA L)[j * 4 + 2]? = some (.string L[j].2.2.1) ∧ (prA L)[j * 4 + 3]? = some (.bool L[j].2.2.2)
  | x :: L, 0, _ => ⟨rfl, rfl, rfl, rfl⟩
  | x :: L, j + 1, h => by
    have := prA_at L j (by simpa using h)
    have e : prA (x :: L) = .string x.1 :: .int .i64 x.2.1 :: .string x.2.2.1 :: .bool x.2.2.2 :: prA L := rfl
    rw [e, show (j + 1) * 4 = j * 4 + 1 + 1 + 1 + 1 by omega]
    simpa using this
theorem rowS_of {B : Nat} {W : World} {v : Value} {L : List (Bs × Bs)} (h : W.ownsRow B 45 2 v L.length (prS L)) : RowS W v L := by
  rcases h.2 with ⟨hv, h0⟩ | ⟨g, c, cur, rfl, h1, h2, h3, h4, _⟩
  · exact ⟨none, 0, by rw [hv, h0], by omega, fun hp => by omega⟩
  · refine ⟨_, c, rfl, by unfold maxLen at h4; omega, fun _ => ⟨g, rfl, h3, by unfold maxLen at h4; omega, (Array.getElem?_eq_some_iff.1 h2).1, fun j hj => ?_⟩⟩
    rw [h.cellAt (j * 2) (by omega), h.cellAt (j * 2 + 1) (by omega)]
    exact prS_at L j hj
theorem rowP_of {B : Nat} {W : World} {v : Value} {L : List (Bs × Ver)} (h : W.ownsRow B 56 4 v L.length (prA L)) : RowP W v L := by
  rcases h.2 with ⟨hv, h0⟩ | ⟨g, c, cur, rfl, h1, h2, h3, h4, _⟩
  · exact ⟨none, 0, by rw [hv, h0], by omega, fun hp => by omega⟩
  · refine ⟨_, c, rfl, by unfold maxLen at h4; omega, fun _ => ⟨g, rfl, h3, by unfold maxLen at h4; omega, (Array.getElem?_eq_some_iff.1 h2).1, fun j hj => ?_⟩⟩
    rw [h.cellAt (j * 4) (by omega), h.cellAt (j * 4 + 1) (by omega), h.cellAt (j * 4 + 2) (by omega), h.cellAt (j * 4 + 3) (by omega)]
    exact prA_at L j hj
theorem RowS.below {W W' : World} {v : Value} {L : List (Bs × Bs)} (h : RowS W v L) (hb : Below W.heap.size W W') : RowS W' v L := by
  obtain ⟨a, c, h1, h2, h3⟩ := h
  refine ⟨a, c, h1, h2, fun h0 => ?_⟩
  obtain ⟨g, e, g1, g2, g3, g4⟩ := h3 h0
  exact ⟨g, e, g1, g2, Nat.lt_of_lt_of_le g3 hb.size, fun j hj => ⟨(hb.cell (p := ⟨g, j * 2, none⟩) g3).trans (g4 j hj).1, (hb.cell (p := ⟨g, j * 2 + 1, none⟩) g3).trans (g4 j hj).2⟩⟩
theorem RowP.below {W W' : World} {v : Value} {L : List (Bs × Ver)} (h : RowP W v L) (hb : Below W.heap.size W W') : RowP W' v L := by
  obtain ⟨a, c, h1, h2, h3⟩ := h
  refine ⟨a, c, h1, h2, fun h0 => ?_⟩
  obtain ⟨g, e, g1, g2, g3, g4⟩ := h3 h0
  exact ⟨g, e, g1, g2, Nat.lt_of_lt_of_le g3 hb.size, fun j hj => ⟨(hb.cell (p := ⟨g, j * 4, none⟩) g3).trans (g4 j hj).1, (hb.cell (p := ⟨g, j * 4 + 1, none⟩) g3).trans (g4 j hj).2.1, (hb.cell (p := ⟨g, j * 4 + 2, none⟩) g3).trans (g4 j hj).2.2.1, (hb.cell (p := ⟨g, j * 4 + 3, none⟩) g3).trans (g4 j hj).2.2.2⟩⟩
section
variable {B S m N clock : Nat} {E : List En} {A : Bs → List Ver} {W0 W : World}
/-- a store at work after a step -/
def WkS (B S m : Nat) (x : Opv) (A : Bs → List Ver) (N : Nat) (E : List En) (W0 W W' : World) : Prop := ∃ E' clock', Wk B S m E' clock' (stepA A x) (N + 1) W0 W' ∧ Turned B S m E W W' E' clock'
theorem Wk.put (h : Wk B S m E clock A N W0 W) (hN : N < 5000) (k vl : Bs) (s : Int) (n : Int) (hn : (if okT (A k) s then (0 : Int) else 1) = n) :
    Calls Try.prog 12 #[.pointer (some ⟨S, 0, none⟩), .string k, .string vl, .int .i64 s] W fun e W' => e = .returned (.int .i64 n) ∧ WkS B S m ⟨1, k, vl, s, false⟩ A N E W0 W W' := by
  refine (put_any B S m clock E k vl s W h.sto h.bw (by have := h.tot; omega)).mono ?_
  rintro e W' ⟨rfl, E', c', ht, hl⟩
  refine ⟨?_, E', c', h.step (x := ⟨1, k, vl, s, false⟩) ht hl, ht⟩
  rw [h.lk]
  show Ending.returned (.int .i64 (if okT (A k) s then (0 : Int) else 1)) = _
  rw [hn]
theorem Wk.del (h : Wk B S m E clock A N W0 W) (hN : N < 5000) (k : Bs) (s : Int) (n : Int) (hn : (if okT (A k) s then (0 : Int) else 1) = n) :
    Calls Try.prog 14 #[.pointer (some ⟨S, 0, none⟩), .string k, .int .i64 s] W fun e W' => e = .returned (.int .i64 n) ∧ WkS B S m ⟨2, k, ⟨#[]⟩, s, false⟩ A N E W0 W W' := by
  refine (del_any B S m clock E k s W h.sto h.bw (by have := h.tot; omega)).mono ?_
  rintro e W' ⟨rfl, E', c', ht, hl⟩
  refine ⟨?_, E', c', h.step (x := ⟨2, k, ⟨#[]⟩, s, false⟩) ht hl, ht⟩
  rw [h.lk]
  show Ending.returned (.int .i64 (if okT (A k) s then (0 : Int) else 1)) = _
  rw [hn]
theorem sum_ord (g : Gd E) (f : List Ver → Nat) : (E.map fun e => f e.vs).sum = ((ordE E).map fun k => f (lkL E k)).sum := by
  have h1 : (E.map fun e => f e.vs) = (E.map (·.key)).map fun k => f (lkL E k) := by
    rw [List.map_map]
    refine List.map_congr_left fun e he => ?_
    show f e.vs = f (lkL E e.key)
    rw [lkL_of g.keys he]
  rw [h1]
  exact ((sortB_perm (E.map (·.key))).symm.map _).sum_nat
theorem ord_of (g : Gd E) (ks : List Bs) (hs : ks.Pairwise fun a b => lB a b = true) (hm : ∀ k, k ∈ ks ↔ lkL E k ≠ []) : ordE E = ks := by
  have hn : ks.Nodup := hs.imp fun {a b} h e => by subst e; rw [lB_irrefl] at h; cases h
  have hp : (ordE E).Perm ks := (show (ordE E).Perm (E.map (fun e : En => e.key)) from sortB_perm _).trans ((List.perm_ext_iff_of_nodup g.keys hn).2 fun k => by rw [mem_keys g, hm k])
  exact List.Perm.eq_of_pairwise (le := fun a b => lB a b = true) (fun x y _ _ h1 h2 => by rw [lB_asymm h1] at h2; cases h2) (sortB_srt g.keys) hs hp
theorem Wk.prune (h : Wk B S m E clock A N W0 W) (hN : N < 5000) (t : Int) :
    Calls Try.prog 25 #[.pointer (some ⟨S, 0, none⟩), .int .i64 t] W fun e W' => e = .returned (.int .i64 ((E.map fun e => pn e.vs t).sum : Nat)) ∧ WkS B S m ⟨6, ⟨#[]⟩, ⟨#[]⟩, t, false⟩ A N E W0 W W' := by
  refine (prune_any B S m clock E t W h.sto h.bw (by have := h.tot; omega)).mono ?_
  rintro e W' ⟨rfl, hs⟩
  obtain ⟨E', c', ht, hl⟩ := swept_done h.sto (prune_nil t) hs
  exact ⟨rfl, E', c', h.step (x := ⟨6, ⟨#[]⟩, ⟨#[]⟩, t, false⟩) ht hl, ht⟩
theorem Wk.roll (h : Wk B S m E clock A N W0 W) (hN : N < 5000) (t : Int) :
    Calls Try.prog 23 #[.pointer (some ⟨S, 0, none⟩), .int .i64 t] W fun e W' => e = .returned (.int .i64 ((E.map fun e => e.vs.length - upto e.vs t).sum : Nat)) ∧ WkS B S m ⟨5, ⟨#[]⟩, ⟨#[]⟩, t, false⟩ A N E W0 W W' := by
  refine (rollback_any B S m clock E t W h.sto h.bw (by have := h.tot; omega)).mono ?_
  rintro e W' ⟨rfl, hs⟩
  obtain ⟨E', c', ht, hl⟩ := swept_done h.sto (roll_nil t) hs
  exact ⟨rfl, E', c', h.step (x := ⟨5, ⟨#[]⟩, ⟨#[]⟩, t, false⟩) ht hl, ht⟩
theorem Wk.below (h : Wk B S m E clock A N W0 W) {W' : World} (hb : Below W.heap.size W W') : Wk B S m E clock A N W0 W' :=
  ⟨h.sto.below hb, h.lk, h.tot, h.low.trans (hb.mono h.bw), Nat.le_trans h.bw hb.size⟩
theorem Wk.clone (h : Wk B S m E clock A N W0 W) :
    Calls Try.prog 32 #[.pointer (some ⟨S, 0, none⟩)] W fun e W' => ∃ C mc EC cc, e = .returned (.pointer (some ⟨C, 0, none⟩)) ∧ Wk W.heap.size C mc EC cc A N W W' ∧ Below W.heap.size W W' := by
  refine (clone_any B S m clock E W h.sto).mono ?_
  rintro e W' ⟨C, mc, EC, cc, seen, rfl, hs, hc, hall, hb⟩
  have hl := cpy_lk hc hall h.sto.gd hs.gd
  exact ⟨C, mc, EC, cc, rfl, ⟨hs, by rw [hl, h.lk], by rw [total_same hs.gd h.sto.gd hl]; exact h.tot, hb, hb.size⟩, hb⟩
end
end Go.Proofs.Ytaecppkkbdbdbaa
