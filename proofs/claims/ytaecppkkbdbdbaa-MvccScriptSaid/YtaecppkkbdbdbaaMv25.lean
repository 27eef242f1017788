/- Mvcc: build. -/
import Derived.Test.YtaecppkkbdbdbaaMv24
namespace Go.Proofs.Ytaecppkkbdbdbaa
open Go.ChangeShapes Go.WideShapes Go.ChangeAt Go.RowKit Go.ChangeMaps Go.Deep Go.Shelf Go.Sort
set_option linter.unusedVariables false
set_option linter.unusedSimpArgs false
/-- a store at work -/
structure Wk (B S m : Nat) (E : List En) (clock : Nat) (A : Bs → List Ver) (N : Nat) (W0 W : World) : Prop where
  sto : Sto B W S m E clock
  lk : lkL E = A
  tot : total E ≤ N
  low : Below B W0 W
  bw : B ≤ W.heap.size
theorem Wk.step {B S m N clock clock' : Nat} {E E' : List En} {x : Opv} {A : Bs → List Ver} {W0 W W' : World} (h : Wk B S m E clock A N W0 W) (ht : Turned B S m E W W' E' clock') (hl : lkL E' = stepA (lkL E) x) : Wk B S m E' clock' (stepA A x) (N + 1) W0 W' :=
  ⟨ht.1, by rw [hl, h.lk], by
    have := total_le h.sto.gd ht.1.gd x.key (fun k => by rw [hl]; exact stepA_len _ x k)
    have := h.tot
    omega, h.low.trans (ht.2.2.below h.bw (fun k hk => (h.sto.foot hk).1)), Nat.le_trans h.bw ht.2.2.size⟩
def noA : Bs → List Ver := fun _ => []
theorem runA_snoc (A : Bs → List Ver) (l : List Opv) (x : Opv) : runA A (l ++ [x]) = stepA (runA A l) x := by simp [runA]
def BuildOut (l : List Opv) (W : World) (e : Ending) (W' : World) : Prop :=
  e = .returned (.tuple #[.pointer (some ⟨W.heap.size + 1, 0, none⟩), .bool true]) ∧ ∃ E clock, Wk W.heap.size (W.heap.size + 1) W.heap.size E clock (runA noA l) l.length W W'
set_option maxRecDepth 100000 in
set_option maxHeartbeats 1600000 in
theorem build_any (v : Value) (l : List Opv) (W : World) (h : OpsArg W v l) (hl : l.length ≤ 4000) :
    Calls Try.prog 33 #[v] W (BuildOut l W) := by
  obtain ⟨a, c, rfl, h⟩ := h
  have HH := Lib.hid h
  clear h
  obtain ⟨n, hn⟩ : ∃ n, n = l.length := ⟨_, rfl⟩
  rw [← hn] at hl
  rw [← hn]
  have HN := Lib.hid hn
  clear hn
  go_enter Try.func33, Try.ntmps33
  go_wp2_with fail
  refine (new_any W).mono ?_
  rintro e W1 ⟨rfl, hs1, hb1⟩
  obtain ⟨B, hB⟩ : ∃ B, B = W.heap.size := ⟨_, rfl⟩
  have HWK : Hid (Wk B (B + 1) B [] 0 (runA noA (l.take 0)) 0 W W1) := Lib.hid (by
    rw [hB]
    exact ⟨hs1, rfl, Nat.zero_le _, hb1, hb1.size⟩)
  clear hs1 hb1
  have HBB := Lib.hid hB
  rw [← hB]
  clear hB
  go_wp2_with fail
  go_loopw [11] (fun i wr => ∃ (j : Nat) (E : List En) (clock : Nat), i = .int .i64 j ∧ j ≤ n ∧ Hid (Wk B (B + 1) B E clock (runA noA (l.take j)) j W wr)) (fun i wr => n - iv i)
  case atStart => exact ⟨0, [], 0, rfl, Nat.zero_le _, HWK⟩
  case round =>
    clear HWK
    obtain ⟨j, E, clock, rfl, hj, HWK⟩ := hrel
    by_cases hlast : j = n
    · subst hlast
      go_wp2_with fail
      go_ret2
      refine ⟨by rw [HBB.out]; rfl, E, clock, ?_⟩
      have := HWK.out
      rw [HN.out, List.take_length, HBB.out] at this
      exact this
    · have hjn : j < n := by omega
      obtain ⟨g, o, rfl, hg, hc⟩ := HH.out (by rw [← HN.out]; omega)
      have hjl : j < l.length := by rw [← HN.out]; exact hjn
      have hlow := HWK.out.low
      have hgB : g < B := by rw [HBB.out]; exact hg
      obtain ⟨c0, c1, c2, c3, c4⟩ := hc j hjl
      have q0 := (hlow.cell (p := ⟨g, o + j * 5, none⟩) hgB).trans c0
      have q1 := (hlow.cell (p := ⟨g, o + j * 5 + 1, none⟩) hgB).trans c1
      have q2 := (hlow.cell (p := ⟨g, o + j * 5 + 2, none⟩) hgB).trans c2
      have q3 := (hlow.cell (p := ⟨g, o + j * 5 + 3, none⟩) hgB).trans c3
      have q4 := (hlow.cell (p := ⟨g, o + j * 5 + 4, none⟩) hgB).trans c4
      have HT := Lib.hid (show l.take (j + 1) = l.take j ++ [l[j]] from List.take_succ_eq_append_getElem hjl)
      clear hc c0 c1 c2 c3 c4 hlow hlast
      generalize l[j] = x at *
      go_wp2_with fail
      refine (play_any B (B + 1) B clock E x wr HWK.out.sto HWK.out.bw (by have := HWK.out.tot; omega)).mono ?_
      rintro e W2 ⟨⟨vv, rfl⟩, E', clock', ht, hlk⟩
      have HW2 : Hid (Wk B (B + 1) B E' clock' (runA noA (l.take (j + 1))) (j + 1) W W2) := Lib.hid (by rw [HT.out, runA_snoc]; exact HWK.out.step ht hlk)
      clear ht hlk HWK q0 q1 q2 q3 q4
      have hw1 : IntKind.i64.wrap ((j : Int) + 1) = ((j + 1 : Nat) : Int) := by rw [IntKind.wrap_i64]; omega
      go_wp2_with fail
      go_roundw
      case rel => exact ⟨j + 1, E', clock', by first | rfl | (push_cast; rfl), hjn, HW2⟩
      case measure => show n - (((j + 1 : Nat) : Int).toNat) < n - ((j : Int)).toNat; omega
end Go.Proofs.Ytaecppkkbdbdbaa
