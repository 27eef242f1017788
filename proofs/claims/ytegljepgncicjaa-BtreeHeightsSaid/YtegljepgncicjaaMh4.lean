/- Merged texts: Bu23, Bu24, Bu25, Bu26, Bu27, Bu28, Bu29, Bu30, Bu32, Bu63, Bu64, Bu65, Bu66, Close2. -/
import Derived.Test.YtegljepgncicjaaMh3
import Derived.Laws.StructEq
import Derived.Maps.AppendAt
import Derived.Laws.IdiomStrings
import Derived.Deep.QuietTactic
import Derived.BigQuiet
import Derived.Test.YtegljepgncicjaaRows
import Derived.ProofKit
import Derived.Below
import Derived.ChangeSame
import Derived.WideKeyArgs
import Derived.OpenShut
/- Btree: lists of pairs that are read; the reference's Same; place (plain). -/
namespace Go.Proofs.Ytegljepgncicjaa
open Go.ChangeShapes Go.WideShapes Go.ChangeAt Go.RowKit Go.Deep Go.Shelf
set_option linter.unusedVariables false
set_option linter.unusedSimpArgs false
/-- a slice of pairs that is read -/
def PrAt (W : World) (v : Value) (L : List Pr) : Prop :=
  (v = .slice none 0 0 ∧ L = []) ∨ ∃ g c, v = .slice (some ⟨g, 0, none⟩) L.length c ∧ L.length ≤ c ∧ c ≤ 9223372036854775807 ∧ g < W.heap.size ∧ ∀ j (h : j < L.length), W.cell? ⟨g, j * 2, none⟩ = some (.string L[j].1) ∧ W.cell? ⟨g, j * 2 + 1, none⟩ = some (.string L[j].2)
theorem prv_len (L : List Pr) : (prv L).length = L.length * 2 := by
  induction L with
  | nil => rfl
  | cons a L ih =>
    show ([Value.string a.1, .string a.2] ++ prv L).length = _
    rw [List.length_append, ih, List.length_cons]
    simp; omega
theorem prv_at (L : List Pr) (j : Nat) (h : j < L.length) : (prv L)[j * 2]? = some (.string L[j].1) ∧ (prv L)[j * 2 + 1]? = some (.string L[j].2) := by
  induction L generalizing j with
  | nil => simp at h
  | cons a L ih =>
    have e : prv (a :: L) = .string a.1 :: .string a.2 :: prv L := rfl
    rw [e]
    match j, h with
    | 0, _ => exact ⟨rfl, rfl⟩
    | j + 1, h =>
      have h2 : j < L.length := by simpa using h
      rw [show (j + 1) * 2 = j * 2 + 1 + 1 by omega]
      simp only [List.getElem?_cons_succ, List.getElem_cons_succ]
      exact ih j h2
theorem PrAt.of_own {B : Nat} {W : World} {v : Value} {L : List Pr} {n : Nat} (hn : n = L.length) (h : W.ownsRow B 59 2 v n (prv L)) : PrAt W v L := by
  subst hn
  rcases h.2 with ⟨rfl, h1⟩ | ⟨g, c, cur, rfl, h1, h2, h3, h4, h5, h6⟩
  · exact .inl ⟨rfl, List.eq_nil_of_length_eq_zero h1⟩
  · refine .inr ⟨g, c, rfl, h3, by unfold maxLen at h4; omega, (h.lt g rfl).2, fun j hj => ?_⟩
    have a0 := h.cellAt (j * 2) (by omega)
    have a1 := h.cellAt (j * 2 + 1) (by omega)
    rw [a0, a1]
    exact prv_at L j hj
theorem PrAt.kept {S : Nat → Prop} {W W' : World} {v : Value} {L : List Pr} (h : PrAt W v L) (hk : Kept S W W') (hS : ∀ k, v.ownBlock = some k → ¬ S k) : PrAt W' v L := by
  rcases h with h | ⟨g, c, rfl, h1, h2, h3, h4⟩
  · exact .inl h
  · refine .inr ⟨g, c, rfl, h1, h2, Nat.lt_of_lt_of_le h3 hk.size, fun j hj => ?_⟩
    have e := hk.block g h3 (hS g rfl)
    rw [World.cell?_of_block (a := ⟨g, j * 2, none⟩) e, World.cell?_of_block (a := ⟨g, j * 2 + 1, none⟩) e]
    exact h4 j hj
theorem PrAt.below {W W' : World} {v : Value} {L : List Pr} (h : PrAt W v L) (hb : Below W.heap.size W W') : PrAt W' v L := by
  rcases h with h | ⟨g, c, rfl, h1, h2, h3, h4⟩
  · exact .inl h
  · refine .inr ⟨g, c, rfl, h1, h2, Nat.lt_of_lt_of_le h3 hb.size, fun j hj => ?_⟩
    rw [hb.cell (p := ⟨g, j * 2, none⟩) h3, hb.cell (p := ⟨g, j * 2 + 1, none⟩) h3]
    exact h4 j hj
theorem PrAt.len {W : World} {v : Value} {L : List Pr} (h : PrAt W v L) : ∃ a c, v = .slice a L.length c := by
  rcases h with ⟨rfl, rfl⟩ | ⟨g, c, rfl, _⟩
  · exact ⟨none, 0, rfl⟩
  · exact ⟨_, _, rfl⟩
theorem PrAt.get {W : World} {v : Value} {L : List Pr} (h : PrAt W v L) (h0 : 0 < L.length) : ∃ g c, v = .slice (some ⟨g, 0, none⟩) L.length c ∧ L.length ≤ c ∧ c ≤ 9223372036854775807 ∧ g < W.heap.size ∧ ∀ j (h : j < L.length), W.cell? ⟨g, j * 2, none⟩ = some (.string L[j].1) ∧ W.cell? ⟨g, j * 2 + 1, none⟩ = some (.string L[j].2) := by
  rcases h with ⟨rfl, rfl⟩ | h
  · simp at h0
  · exact h
theorem PrAt.drewN {W : World} {v : Value} {L : List Pr} (h : PrAt W v L) (q : Nat) : PrAt (W.drewN q) v L := h.below ⟨rfl, rfl, rfl, Nat.le_refl _, fun _ _ => rfl⟩
set_option maxRecDepth 100000 in
set_option maxHeartbeats 1600000 in
theorem same_eq (va vb : Value) (L : List Pr) (W : World) (ha : PrAt W va L) (hb : PrAt W vb L) (hl : L.length ≤ 5000) :
    Calls Try.prog 18 #[va, vb] W fun e W' => e = .returned (.bool true) ∧ ∃ q, W' = W.drewN q := by
  rcases Nat.eq_zero_or_pos L.length with h0 | h0
  · obtain ⟨ga, ca, rfl⟩ := ha.len
    obtain ⟨gb, cb, rfl⟩ := hb.len
    rw [h0]
    clear ha hb
    go_enter Try.func18, Try.ntmps18
    go_wp2_with fail
    refine wp_loop_rounds 1 ?_
    rw [rounds_succ]
    go_wp2_with fail
    go_ret
    exact ⟨rfl, 0, rfl⟩
  · obtain ⟨ga, ca, rfl, hca, hca2, _, hga⟩ := ha.get h0
    obtain ⟨gb, cb, rfl, hcb, hcb2, _, hgb⟩ := hb.get h0
    have HA := Lib.hid hga
    have HB := Lib.hid hgb
    clear ha hb hga hgb
    go_enter Try.func18, Try.ntmps18
    go_wp2_with fail
    go_loopw [5] (fun i wr => ∃ k q : Nat, k ≤ L.length ∧ i = .int .i64 k ∧ wr = W.drewN q) (fun i _ => L.length - (intOf i).toNat)
    case atStart => exact ⟨0, 0, Nat.zero_le _, rfl, rfl⟩
    case round =>
      obtain ⟨k, q, hk, rfl, rfl⟩ := hrel
      by_cases hlt : k < L.length
      · have a0 : W.cell? ⟨ga, k * 2, none⟩ = _ := (HA.out k hlt).1
        have a1 : W.cell? ⟨ga, k * 2 + 1, none⟩ = _ := (HA.out k hlt).2
        have b0 : W.cell? ⟨gb, k * 2, none⟩ = _ := (HB.out k hlt).1
        have b1 : W.cell? ⟨gb, k * 2 + 1, none⟩ = _ := (HB.out k hlt).2
        generalize L[k] = x at a0 a1 b0 b1
        go_wp2_with fail
        go_quiet (fail)
        go_wp2_with fail
        go_roundw
        case rel => exact ⟨k + 1, q + nq, by omega, by go_num, by simp [World.drewN_drewN]⟩
        case measure => simp [intOf]; omega
      · have : k = L.length := by omega
        subst this
        go_wp2_with fail
        go_ret
        exact ⟨rfl, q, rfl⟩
/-- where a key stands, plainly -/
def posL (L : List Pr) (k : Bs) : Nat := (L.takeWhile fun p => lB p.1 k).length
def hasL (L : List Pr) (k : Bs) : Bool := match L[posL L k]? with
  | some p => decide (p.1 = k)
  | none => false
theorem posL_le (L : List Pr) (k : Bs) : posL L k ≤ L.length := (List.takeWhile_sublist _).length_le
theorem posL_cons (a : Pr) (L : List Pr) (k : Bs) : posL (a :: L) k = if lB a.1 k = true then posL L k + 1 else 0 := by
  unfold posL
  rw [List.takeWhile_cons]
  split <;> simp
theorem posL_before (L : List Pr) (k : Bs) (j : Nat) (h : j < posL L k) (hl : j < L.length) : lB L[j].1 k = true := by
  induction L generalizing j with
  | nil => simp at hl
  | cons a L ih =>
    rw [posL_cons] at h
    split at h
    · rename_i ha
      match j, hl with
      | 0, _ => exact ha
      | j + 1, hl => exact ih j (by omega) (by simpa using hl)
    · omega
theorem posL_at (L : List Pr) (k : Bs) (h : posL L k < L.length) : lB L[posL L k].1 k = false := by
  induction L with
  | nil => simp at h
  | cons a L ih =>
    have e := posL_cons a L k
    split at e
    · have h2 : posL L k < L.length := by rw [e] at h; simpa using h
      have := ih h2
      simp only [e, List.getElem_cons_succ]
      exact this
    · rename_i ha
      simp only [e, List.getElem_cons_zero]
      simpa using ha
theorem hasL_cons (a : Pr) (L : List Pr) (k : Bs) : hasL (a :: L) k = if lB a.1 k = true then hasL L k else decide (a.1 = k) := by
  unfold hasL
  rw [posL_cons]
  by_cases h : lB a.1 k = true
  · rw [if_pos h, if_pos h, List.getElem?_cons_succ]
  · rw [if_neg h, if_neg h]; simp
theorem putL_pos (L : List Pr) (k v : Bs) : putL L k v = L.take (posL L k) ++ (k, v) :: L.drop (if hasL L k = true then posL L k + 1 else posL L k) := by
  induction L with
  | nil => rfl
  | cons a L ih =>
    obtain ⟨x, y⟩ := a
    rw [posL_cons, hasL_cons, putL]
    by_cases h : lB x k = true
    · simp only [h, if_true]
      rw [ih]
      by_cases h2 : hasL L k = true <;> simp [h2]
    · simp only [h, if_false]
      by_cases h2 : x = k
      · subst h2; simp
      · simp [h2]
theorem delL_pos (L : List Pr) (k : Bs) : delL L k = if hasL L k = true then L.take (posL L k) ++ L.drop (posL L k + 1) else L := by
  induction L with
  | nil => rfl
  | cons a L ih =>
    obtain ⟨x, y⟩ := a
    rw [posL_cons, hasL_cons, delL]
    by_cases h : lB x k = true
    · simp only [h, if_true]
      rw [ih]
      by_cases h2 : hasL L k = true <;> simp [h2]
    · simp only [h, if_false]
      by_cases h2 : x = k
      · subst h2; simp
      · simp [h2]
theorem getL_pos (L : List Pr) (k : Bs) : getL L k = if hasL L k = true then (L[posL L k]?).map (·.2) else none := by
  induction L with
  | nil => rfl
  | cons a L ih =>
    obtain ⟨x, y⟩ := a
    rw [posL_cons, hasL_cons, getL]
    by_cases h : lB x k = true
    · simp only [h, if_true]
      rw [ih, List.getElem?_cons_succ]
    · simp only [h, if_false]
      by_cases h2 : x = k
      · subst h2; simp
      · simp [h2]
theorem hasL_lt {L : List Pr} {k : Bs} (h : hasL L k = true) : posL L k < L.length := by
  unfold hasL at h
  cases hp : L[posL L k]? with
  | none => rw [hp] at h; cases h
  | some p => exact (List.getElem?_eq_some_iff.1 hp).1
theorem hasL_get (L : List Pr) (k : Bs) : hasL L k = (getL L k).isSome := by
  rw [getL_pos]
  cases h : hasL L k with
  | false => simp
  | true => simp [List.getElem?_eq_getElem (hasL_lt h)]
end Go.Proofs.Ytegljepgncicjaa
/- Btree: the reference's place, Get, Len, New. -/
namespace Go.Proofs.Ytegljepgncicjaa
open Go.ChangeShapes Go.WideShapes Go.ChangeAt Go.RowKit Go.Deep Go.Shelf
set_option linter.unusedVariables false
set_option linter.unusedSimpArgs false
/-- the box of a reference tree that was passed -/
structure RB (w : World) (N : Nat) (o : Int) (a : Option Addr) (n c : Nat) (L : List Pr) (W : World) : Prop where
  c0 : W.cell? ⟨N, 0, none⟩ = some (.int .i64 o)
  c1 : W.cell? ⟨N, 1, none⟩ = some (.slice a n c)
  fr : ∀ j, W.frozen? ⟨N, j, none⟩ = false
  lt : N < W.heap.size
  pr : PrAt W (.slice a n c) L
  ge : w.heap.size ≤ N
  b : Below w.heap.size w W
theorem RB.start {w : World} {o : Int} {a : Option Addr} {n c : Nat} {L : List Pr} (h : PrAt w (.slice a n c) L) (t : TypeId) : RB w w.heap.size o a n c L (w.alloc (.cells #[.int .i64 o, .slice a n c] t)) := by
  have hb := Box.new w [.int .i64 o, .slice a n c] t
  have hb2 : Below w.heap.size w (w.alloc (.cells #[.int .i64 o, .slice a n c] t)) := (Below.refl _ w).alloc (Nat.le_refl _) _
  exact ⟨hb.cell 0 _ rfl, hb.cell 1 _ rfl, hb.free, hb.lt, h.below hb2, Nat.le_refl _, hb2⟩
theorem PrAt.below' {W W' : World} {v : Value} {L : List Pr} {B : Nat} (h : PrAt W v L) (hb : Below B W W') (hB : ∀ k, v.ownBlock = some k → k < B) : PrAt W' v L := by
  rcases h with h | ⟨g, c, rfl, h1, h2, h3, h4⟩
  · exact .inl h
  · refine .inr ⟨g, c, rfl, h1, h2, Nat.lt_of_lt_of_le h3 hb.size, fun j hj => ?_⟩
    have hg := hB g rfl
    rw [hb.cell (p := ⟨g, j * 2, none⟩) hg, hb.cell (p := ⟨g, j * 2 + 1, none⟩) hg]
    exact h4 j hj
theorem RB.next {w W W' : World} {N n c : Nat} {o : Int} {a : Option Addr} {L : List Pr} (h : RB w N o a n c L W) (hb : Below W.heap.size W W') : RB w N o a n c L W' := by
  have hk : Kept (fun k => ¬ k < W.heap.size) W W' := ⟨hb.os, hb.tape, hb.output, hb.size, fun k hk _ => hb.block k hk⟩
  refine ⟨(hb.cell (p := ⟨N, 0, none⟩) h.lt).trans h.c0, (hb.cell (p := ⟨N, 1, none⟩) h.lt).trans h.c1, fun j => ?_, Nat.lt_of_lt_of_le h.lt hb.size, h.pr.below hb, h.ge, h.b.trans (hb.mono h.b.size)⟩
  exact (World.frozen?_of_block (a := ⟨N, j, none⟩) (hb.block N h.lt)).trans (h.fr j)
theorem RB.drewN {w W : World} {N n c : Nat} {o : Int} {a : Option Addr} {L : List Pr} (h : RB w N o a n c L W) (q : Nat) : RB w N o a n c L (W.drewN q) := h.next ⟨rfl, rfl, rfl, Nat.le_refl _, fun _ _ => rfl⟩
theorem beqB (a b : Bs) : (ByteArray.toList a == ByteArray.toList b) = decide (a = b) := by
  by_cases h : a = b
  · subst h; simp
  · rw [decide_eq_false h]
    rw [beq_eq_false_iff_ne]
    intro e
    apply h
    rw [ByteArray.toList_eq, ByteArray.toList_eq] at e
    cases a; cases b
    simp at e
    exact congrArg _ e
def rT (o : Int) (v : Value) : Value := .agg #[.int .i64 o, v]
def PlaceOut (L : List Pr) (key : Bs) (w : World) (e : Ending) (W' : World) : Prop := e = .returned (.tuple #[.int .i64 (posL L key : Nat), .bool (hasL L key)]) ∧ Below w.heap.size w W'
set_option maxRecDepth 100000 in
set_option maxHeartbeats 1600000 in
theorem place_any (o : Int) (v : Value) (L : List Pr) (key : Bs) (w : World) (hv : PrAt w v L) (hl : L.length ≤ 5000) :
    Calls Try.prog 36 #[.agg #[.int .i64 o, v], .string key] w (PlaceOut L key w) := by
  obtain ⟨a, c, rfl⟩ := hv.len
  have HR := Lib.hid (RB.start (o := o) hv 30)
  obtain ⟨N, hN⟩ : ∃ N, N = w.heap.size := ⟨_, rfl⟩
  have hz : ∀ W, Below w.heap.size w W → Hid (Below w.heap.size w W) := fun _ h => Lib.hid h
  clear hv
  go_enter Try.func36, Try.ntmps36
  go_wp2_with fail
  rw [← hN] at HR
  rw [← hN]
  clear hN
  generalize w.alloc _ = W1 at HR ⊢
  have c1 := HR.out.c1
  go_loopw [6] (fun i wr => ∃ k : Nat, k ≤ posL L key ∧ i = .int .i64 k ∧ wr = W1) (fun i _ => L.length - (intOf i).toNat)
  case atStart => exact ⟨0, Nat.zero_le _, rfl, rfl⟩
  case round =>
    obtain ⟨k, hk, rfl, rfl⟩ := hrel
    have hpl := posL_le L key
    by_cases hlt : k < L.length
    · obtain ⟨g, c', hg, _, _, _, hcell⟩ := HR.out.pr.get (by omega)
      cases hg
      have a0 := (hcell k hlt).1
      have HA := Lib.hid (posL_at L key)
      have HB := Lib.hid (posL_before L key k)
      have HH : Hid (posL L key = k → hasL L key = decide (L[k].1 = key)) := Lib.hid (fun e => by unfold hasL; rw [e, List.getElem?_eq_getElem hlt])
      have hlt2 : k < L.length := hlt
      cases hless : lB L[k].1 key with
      | true =>
        have HK : Hid (k + 1 ≤ posL L key) := Lib.hid (by
          rcases Nat.lt_or_ge k (posL L key) with h | h
          · exact h
          · have e : posL L key = k := by omega
            have := HA.out (by rw [e]; exact hlt)
            simp only [e] at this
            rw [hless] at this; cases this)
        have hle : Op.bytesLess L[k].1.toList key.toList = true := hless
        clear hcell HH hpl hk
        generalize L[k] = x at a0 hle
        clear hless HA HB
        go_wp2_with fail
        go_roundw
        case rel => exact ⟨k + 1, HK.out, by go_num, by first | rfl | trivial⟩
        case measure => simp [intOf]; omega
      | false =>
        have hk2 : posL L key = k := by
          rcases Nat.lt_or_ge k (posL L key) with h | h
          · rw [HB.out h hlt] at hless; cases hless
          · omega
        have hle : Op.bytesLess L[k].1.toList key.toList = false := hless
        have hhas := HH.out hk2
        have HE := Lib.hid (And.intro hk2 hhas)
        clear hcell HH hpl hk hk2 hhas HA HB hless
        generalize L[k] = x at a0 hle HE
        go_wp2_with fail
        go_quiet (fail)
        go_wp2_with fail
        refine bodyPost_ret (v := .tuple #[.int .i64 k, .bool (ByteArray.toList x.1 == ByteArray.toList key)]) (by simp [results, Try.results36, go_sem]) rfl ?_
        unfold PlaceOut
        rw [HE.out.1, HE.out.2, beqB]
        exact ⟨rfl, (HR.out.drewN _).b⟩
    · have hk2 : posL L key = k := by omega
      have hk3 : k = L.length := by omega
      have HE := Lib.hid (show hasL L key = false by unfold hasL; rw [hk2, List.getElem?_eq_none (by omega)])
      clear hpl hk
      subst hk3
      have HE2 := Lib.hid hk2
      clear hk2
      go_wp2_with fail
      go_quiet (fail)
      go_wp2_with fail
      go_ret2
      unfold PlaceOut
      rw [HE.out, HE2.out]
      exact ⟨rfl, (HR.out.drewN _).b⟩
set_option maxRecDepth 100000 in
theorem rGet_any (o : Int) (v : Value) (L : List Pr) (key : Bs) (w : World) (hv : PrAt w v L) (hl : L.length ≤ 5000) :
    Calls Try.prog 28 #[.agg #[.int .i64 o, v], .string key] w fun e W' => e = .returned (.tuple #[.string ((getL L key).getD ByteArray.empty), .bool (getL L key).isSome]) ∧ Below w.heap.size w W' := by
  obtain ⟨a, c, rfl⟩ := hv.len
  have HR := Lib.hid (RB.start (o := o) hv 30)
  obtain ⟨N, hN⟩ : ∃ N, N = w.heap.size := ⟨_, rfl⟩
  clear hv
  go_enter Try.func28, Try.ntmps28
  go_wp2_with fail
  rw [← hN] at HR
  refine (place_any o (.slice a L.length c) L key _ HR.out.pr hl).mono ?_
  rw [← hN]
  clear hN
  generalize w.alloc _ = W1 at HR ⊢
  rintro e W2 ⟨rfl, hb⟩
  have HR2 := Lib.hid (HR.out.next hb)
  clear hb HR
  have c1 := HR2.out.c1
  have hp := posL_le L key
  cases hh : hasL L key with
  | false =>
    have HE := Lib.hid (show getL L key = none by rw [getL_pos, hh]; rfl)
    go_wp2_with fail
    go_ret2
    rw [HE.out]
    exact ⟨rfl, HR2.out.b⟩
  | true =>
    have hlt := hasL_lt hh
    have HE := Lib.hid (show getL L key = some L[posL L key].2 by rw [getL_pos, hh, List.getElem?_eq_getElem hlt]; rfl)
    obtain ⟨g, c', hg, _, _, _, hcell⟩ := HR2.out.pr.get (by omega)
    cases hg
    have a1 := (hcell _ hlt).2
    clear hcell hh
    generalize L[posL L key] = x at a1 HE
    generalize posL L key = k at *
    go_wp2_with fail
    go_ret2
    rw [HE.out]
    exact ⟨rfl, HR2.out.b⟩
theorem rLen_any (o : Int) (v : Value) (L : List Pr) (w : World) (hv : PrAt w v L) :
    Calls Try.prog 14 #[.agg #[.int .i64 o, v]] w fun e W' => e = .returned (.int .i64 L.length) ∧ Below w.heap.size w W' := by
  obtain ⟨a, c, rfl⟩ := hv.len
  have HR := Lib.hid (RB.start (o := o) hv 30)
  clear hv
  go_enter Try.func14, Try.ntmps14
  go_wp2_with fail
  go_ret
  exact ⟨rfl, HR.out.b⟩
theorem rNew_ok (o : Int) (w : World) (h4 : 4 ≤ o) (h6 : o ≤ 256) :
    Calls Try.prog 11 #[.int .i64 o] w fun e W' => e = .returned (.tuple #[.agg #[.int .i64 o, .slice none 0 0], .int .i64 0]) ∧ Below w.heap.size w W' := by
  have d1 : decide (o < 4) = false := decide_eq_false (by omega)
  have d2 : decide (256 < o) = false := decide_eq_false (by omega)
  have HB := Lib.hid ((Below.refl w.heap.size w).alloc (Nat.le_refl _) (.cells #[.int .i64 0, .slice none 0 0] 30))
  go_enter Try.func11, Try.ntmps11
  go_wp2_with fail
  exact bodyPost_ret (v := .tuple #[.agg #[.int .i64 o, .slice none 0 0], .int .i64 0]) (by simp [results, Try.results11, go_sem]) rfl ⟨rfl, by first | exact (Below.refl _ w).alloc (Nat.le_refl _) _ | repeat' (first | exact HB.out | refine Below.setCell ?_ (by simp) _)⟩
theorem rNew_no (o : Int) (w : World) (h : o < 4 ∨ 256 < o) :
    Calls Try.prog 11 #[.int .i64 o] w fun e W' => e = .returned (.tuple #[.agg #[.int .i64 0, .slice none 0 0], .int .i64 1]) ∧ Below w.heap.size w W' := by
  have HB := Lib.hid ((Below.refl w.heap.size w).alloc (Nat.le_refl _) (.cells #[.int .i64 0, .slice none 0 0] 30))
  by_cases h1 : o < 4
  · have d1 : decide (o < 4) = true := decide_eq_true h1
    go_enter Try.func11, Try.ntmps11
    go_wp2_with fail
    exact bodyPost_ret (v := .tuple #[.agg #[.int .i64 0, .slice none 0 0], .int .i64 1]) (by simp [results, Try.results11, go_sem]) rfl ⟨rfl, by first | exact (Below.refl _ w).alloc (Nat.le_refl _) _ | repeat' (first | exact HB.out | refine Below.setCell ?_ (by simp) _)⟩
  · have d1 : decide (o < 4) = false := decide_eq_false h1
    have d2 : decide (256 < o) = true := decide_eq_true (by omega)
    go_enter Try.func11, Try.ntmps11
    go_wp2_with fail
    exact bodyPost_ret (v := .tuple #[.agg #[.int .i64 0, .slice none 0 0], .int .i64 1]) (by simp [results, Try.results11, go_sem]) rfl ⟨rfl, by first | exact (Below.refl _ w).alloc (Nat.le_refl _) _ | repeat' (first | exact HB.out | refine Below.setCell ?_ (by simp) _)⟩
end Go.Proofs.Ytegljepgncicjaa
/- Btree: appends of pairs; the reference's Put and Delete. -/
namespace Go.Proofs.Ytegljepgncicjaa
open Go.ChangeShapes Go.WideShapes Go.ChangeAt Go.RowKit Go.Deep Go.Shelf
set_option linter.unusedVariables false
set_option linter.unusedSimpArgs false
theorem prv_append (A B : List Pr) : prv (A ++ B) = prv A ++ prv B := List.flatMap_append ..
theorem prv_one (L : List Pr) : ∀ u ∈ prv L, u.oneCell' = true := fun u hu => by
  obtain ⟨x, _, hx⟩ := List.mem_flatMap.1 hu
  simp at hx
  rcases hx with rfl | rfl <;> rfl
/-- the source of an append -/
def PSrc (w : World) (sv : Value) (M : List Pr) : Prop :=
  (∃ c, sv = .slice none 0 c ∧ M = []) ∨ ∃ ad c, sv = .slice (some ad) M.length c ∧ ∀ j u, (prv M)[j]? = some u → w.cell? (ad.add j) = some u
def PSide (a : Act) (x y : Nat) (v sv : Value) (w : World) (n m B : Nat) : Prop := a.eval (.tmp x) = v ∧ a.eval (.tmp y) = sv ∧ n ≤ 100000 ∧ m ≤ 100000 ∧ B ≤ w.heap.size
theorem addr_add' (B o j : Nat) : (⟨B, o, none⟩ : Addr).add j = ⟨B, o + j, none⟩ := by
  by_cases hj : j = 0 <;> simp [Addr.add, hj]
theorem wpList_appP {ops : Array Oper} {rest : List Oper} {Q : Exit → Act → World → Prop} (x y : Nat) (B : Nat) (v sv : Value) (L M : List Pr) (d : Option Nat) (pos : String) (af) (a : Act) (w : World)
    (hown : w.ownsRow B 59 2 v L.length (prv L)) (hsrc : PSrc w sv M) (hside : PSide a x y v sv w L.length M.length B)
    (h : ∀ v' w', w'.ownsRow B 59 2 v' (L ++ M).length (prv (L ++ M)) → Below B w w' → wpList Try.prog ops Q rest (a.put d v') w') :
    wpList Try.prog ops Q ({ dst := d, op := Op.call { callee := .builtin .append, args := #[.tmp x, .tmp y], argTypes := #[28, 28] }, type := 28, pos := pos, after := af, guard := none } :: rest) a w := by
  obtain ⟨hx, hy, hn, hm, hB⟩ := hside
  obtain ⟨i0, hi0, hz0, hz1, hz2⟩ := info_parts info59
  have key : ∃ v' w', (Builtin.append_ #[28, 28] 28 #[v, sv]).run Try.prog w = .ok v' w' ∧ w'.ownsRow B 59 2 v' (L.length + M.length) (prv L ++ prv M) ∧ w.grownBy w' v.ownBlock := by
    rcases hsrc with ⟨c, rfl, rfl⟩ | ⟨ad, c, rfl, hc⟩
    · refine ⟨v, w, ?_, by simpa [prv] using hown, World.grownBy.refl w _⟩
      rcases hown.2 with ⟨rfl, h0⟩ | ⟨g, cap, cur, rfl, _, _, hnc, _⟩
      · simp [Builtin.append_, run_underlying Try.underlying28, sizeOf, typeInfo, hi0, Builtin.lenOf, Builtin.firstCells]
      · simp [Builtin.append_, run_underlying Try.underlying28, sizeOf, typeInfo, hi0, Builtin.lenOf, Builtin.firstCells, hnc, storeCells]
    · obtain ⟨v', w', hrun, h2, h3, _, h5⟩ := run_append_own_at (P := Try.prog) w B 28 28 59 i0 (.agg #[.string ⟨#[]⟩, .string ⟨#[]⟩]) 2 32 Try.underlying28 hi0 hz0 hz1 hz2 rfl (by decide) v L.length (prv L) hown ad M.length c (prv M) (prv_len M) hc (prv_one M) (by unfold maxLen; omega) (by omega) hB
      exact ⟨v', w', hrun, h2, h3⟩
  obtain ⟨v', w', hr, h2, h3⟩ := key
  refine wpList_plain rfl fun K hK => ?_
  unfold Oper.wp execOp
  simp only [resolve, invoke, builtin, Sem.run_bind, Sem.run_pure, Result.andThen_ok, List.map_toArray, List.map_cons, List.map_nil, hx, hy, hr]
  refine hK _ _ (h v' w' (by rw [List.length_append, prv_append]; exact h2) ((Below.refl B w).grown h3 hB (fun k e => (hown.lt k e).1)))
theorem PrAt.own_lt {W : World} {v : Value} {L : List Pr} (h : PrAt W v L) : ∀ k, v.ownBlock = some k → k < W.heap.size := by
  rcases h with ⟨rfl, _⟩ | ⟨g, c, rfl, _, _, h, _⟩
  · intro k hk; simp [Value.ownBlock] at hk
  · intro k hk; simp [Value.ownBlock] at hk; subst hk; exact h
theorem src_take {W : World} {g n c : Nat} {L : List Pr} (h : PrAt W (.slice (some ⟨g, 0, none⟩) L.length c) L) (hn : n ≤ L.length) : PSrc W (.slice (some ⟨g, 0, none⟩) n c) (L.take n) := by
  have hl : (L.take n).length = n := by rw [List.length_take]; omega
  rcases h with ⟨h, _⟩ | ⟨g', c', hg, _, _, _, hc⟩
  · cases h
  · cases hg
    refine .inr ⟨⟨g, 0, none⟩, c, by rw [hl], fun j u hj => ?_⟩
    have hj2 := (List.getElem?_eq_some_iff.1 hj).1
    rw [prv_len, hl] at hj2
    rw [addr_add', Nat.zero_add]
    have e : (prv L)[j]? = some u := by
      rw [← List.take_append_drop n L, prv_append, List.getElem?_append_left (by rw [prv_len, hl]; exact hj2)]
      exact hj
    rcases Nat.mod_two_eq_zero_or_one j with h0 | h0
    · obtain ⟨i, rfl⟩ : ∃ i, j = i * 2 := ⟨j / 2, by omega⟩
      rw [(prv_at L i (by omega)).1] at e
      rw [(hc i (by omega)).1, e]
    · obtain ⟨i, rfl⟩ : ∃ i, j = i * 2 + 1 := ⟨j / 2, by omega⟩
      rw [(prv_at L i (by omega)).2] at e
      rw [(hc i (by omega)).2, e]
theorem src_drop {W : World} {g n c : Nat} {L : List Pr} {o m k : Nat} (h : PrAt W (.slice (some ⟨g, 0, none⟩) L.length c) L) (hn : n ≤ L.length) (hm : m = L.length - n) (ho : m = 0 ∨ o = n * 2) : PSrc W (.slice (some ⟨g, o, none⟩) m k) (L.drop n) := by
  have hl : (L.drop n).length = m := by rw [List.length_drop, hm]
  rcases h with ⟨h, _⟩ | ⟨g', c', hg, _, _, _, hc⟩
  · cases h
  · cases hg
    refine .inr ⟨⟨g, o, none⟩, k, by rw [hl], fun j u hj => ?_⟩
    have hj2 := (List.getElem?_eq_some_iff.1 hj).1
    rw [prv_len, hl] at hj2
    have ho : o = n * 2 := ho.resolve_left (by omega)
    subst ho
    rw [addr_add']
    have e : (prv L)[n * 2 + j]? = some u := by
      rw [← List.take_append_drop n L, prv_append, List.getElem?_append_right (by rw [prv_len, List.length_take]; omega), prv_len, List.length_take, Nat.min_eq_left hn, show n * 2 + j - n * 2 = j by omega]
      exact hj
    rcases Nat.mod_two_eq_zero_or_one j with h0 | h0
    · obtain ⟨i, rfl⟩ : ∃ i, j = i * 2 := ⟨j / 2, by omega⟩
      rw [show n * 2 + i * 2 = (n + i) * 2 by omega] at e ⊢
      rw [(prv_at L (n + i) (by omega)).1] at e
      rw [(hc (n + i) (by omega)).1, e]
    · obtain ⟨i, rfl⟩ : ∃ i, j = i * 2 + 1 := ⟨j / 2, by omega⟩
      rw [show n * 2 + (i * 2 + 1) = (n + i) * 2 + 1 by omega] at e ⊢
      rw [(prv_at L (n + i) (by omega)).2] at e
      rw [(hc (n + i) (by omega)).2, e]
theorem src_new (W : World) (k v : Bs) (t : TypeId) : PSrc (W.alloc (.cells #[.string k, .string v] t)) (.slice (some ⟨W.heap.size, 0, none⟩) 1 1) [(k, v)] :=
  .inr ⟨_, _, rfl, fun j u hj => cell_two_new W _ _ t j u hj⟩
theorem own_below {B : Nat} {W W' : World} {T : TypeId} {z n : Nat} {v : Value} {xs : List Value} (h : W.ownsRow B T z v n xs) (hk : ∀ k, v.ownBlock = some k → W'.heap[k]? = W.heap[k]?) : W'.ownsRow B T z v n xs := by
  refine ⟨h.1, ?_⟩
  rcases h.2 with h1 | ⟨g, c, cur, rfl, h1, h2, h3⟩
  · exact .inl h1
  · exact .inr ⟨g, c, cur, rfl, h1, by rw [hk g rfl]; exact h2, h3⟩
def DSide (a : Act) (x y : Nat) (v : Value) (k n : Nat) : Prop := a.eval (.tmp x) = v ∧ a.eval (.tmp y) = .int .i64 k ∧ k ≤ n
set_option maxRecDepth 100000 in
theorem wpList_dropP {ops : Array Oper} {rest : List Oper} {Q : Exit → Act → World → Prop} (x y k : Nat) (v : Value) (L : List Pr) (d : Option Nat) (pos : String) (af) (a : Act) (w : World)
    (hv : PrAt w v L) (hside : DSide a x y v k L.length)
    (h : ∀ sv, PSrc w sv (L.drop k) → wpList Try.prog ops Q rest (a.put d sv) w) :
    wpList Try.prog ops Q ({ dst := d, op := Op.slice 28 (.tmp x) (some (.tmp y)) none none, type := 28, pos := pos, after := af, guard := none } :: rest) a w := by
  obtain ⟨hx, hy, hk⟩ := hside
  refine wpList_plain rfl fun K hK => ?_
  unfold Oper.wp
  have key : ∃ sv, PSrc w sv (L.drop k) ∧ (execOp a.eval { dst := d, op := Op.slice 28 (.tmp x) (some (.tmp y)) none none, type := 28, pos := pos, after := af, guard := none }).run Try.prog w = .ok (.value sv) w := by
    clear hK h K
    generalize a.eval = F at hx hy ⊢
    rcases hv with ⟨rfl, rfl⟩ | ⟨g, c, rfl, hc, hc2, hlt, hcell⟩
    · have hk0 : k = 0 := by simpa using hk
      subst hk0
      refine ⟨.slice none 0 0, .inl ⟨0, rfl, rfl⟩, ?_⟩
      simp [execOp, go_sem, hx, hy]
    · have hv : PrAt w (.slice (some ⟨g, 0, none⟩) L.length c) L := .inr ⟨g, c, rfl, hc, hc2, hlt, hcell⟩
      have h1 : (0 : Int) ≤ (k : Int) := by omega
      have h2 : (k : Int) ≤ (L.length : Int) := by omega
      have h3 : (L.length : Int) ≤ (c : Int) := by omega
      by_cases hkc : c = k
      · subst hkc
        have hL : L.length = c := by omega
        refine ⟨.slice (some ⟨g, 0, none⟩) 0 0, src_drop hv hk (by omega) (.inl rfl), ?_⟩
        rw [hL] at hx
        simp [execOp, go_sem, hx, hy]
      · refine ⟨.slice (some ⟨g, k * 2, none⟩) (L.length - k) (c - k), src_drop hv hk rfl (.inr rfl), ?_⟩
        simp [execOp, go_sem, hx, hy, h1, h2, h3, hkc]
  refine Exists.elim key (fun sv h12 => ?_)
  have h1 := h12.1
  have h2 := h12.2
  clear h12 key
  rw [h2]
  exact hK _ _ (h sv h1)
/-- what Put of the reference returns -/
def RPutOut (o : Int) (v0 : Value) (L : List Pr) (b : Bool) (w : World) (e : Ending) (W' : World) : Prop :=
  ∃ v, e = .returned (.tuple #[.agg #[.int .i64 o, v], .bool b]) ∧ PrAt W' v L ∧ Below w.heap.size w W' ∧ ∀ k, v.ownBlock = some k → v0.ownBlock = some k ∨ w.heap.size ≤ k
/-- the boxes of a call of the reference: the tree that was passed, the result -/
structure PW (w : World) (N : Nat) (o : Int) (v : Value) (L : List Pr) (B : Nat) (W : World) : Prop where
  b0 : Box W N [.int .i64 o, v]
  b1 : Box W (N + 1) [.int .i64 0, .slice none 0 0]
  pr : PrAt W v L
  ge : w.heap.size ≤ N
  lt : N + 1 < B
  vb : ∀ k, v.ownBlock = some k → k < B
  nb : ∀ k, v.ownBlock = some k → k ≠ N + 1
  sz : B ≤ W.heap.size
  b : Below w.heap.size w W
theorem PW.next {w W W' : World} {N B : Nat} {o : Int} {v : Value} {L : List Pr} (h : PW w N o v L B W) (hb : Below B W W') : PW w N o v L B W' :=
  ⟨h.b0.far hb (by have := h.lt; omega), h.b1.far hb h.lt, h.pr.below' hb h.vb, h.ge, h.lt, h.vb, h.nb, Nat.le_trans h.sz hb.size, h.b.trans (hb.mono (by have := h.ge; have := h.lt; omega))⟩
theorem PW.up {w W : World} {N B B' : Nat} {o : Int} {v : Value} {L : List Pr} (h : PW w N o v L B W) (h1 : B ≤ B') (h2 : B' ≤ W.heap.size) : PW w N o v L B' W :=
  ⟨h.b0, h.b1, h.pr, h.ge, by have := h.lt; omega, fun k hk => by have := h.vb k hk; omega, h.nb, h2, h.b⟩
theorem PW.start {w : World} {o : Int} {v : Value} {L : List Pr} (h : PrAt w v L) : PW w w.heap.size o v L (w.heap.size + 2) ((w.alloc (.cells #[.int .i64 o, v] 30)).alloc (.cells #[.int .i64 0, .slice none 0 0] 30)) := by
  have hb1 : Below w.heap.size w (w.alloc (.cells #[.int .i64 o, v] 30)) := (Below.refl _ w).alloc (Nat.le_refl _) _
  have hb2 : Below w.heap.size w ((w.alloc (.cells #[.int .i64 o, v] 30)).alloc (.cells #[.int .i64 0, .slice none 0 0] 30)) := hb1.alloc (by simp) _
  have h1 := Box.new (w.alloc (.cells #[.int .i64 o, v] 30)) [.int .i64 0, .slice none 0 0] 30
  rw [World.size_alloc] at h1
  exact ⟨(Box.new w [.int .i64 o, v] 30).alloc _, h1, h.below hb2, Nat.le_refl _, by omega, fun k hk => by have := h.own_lt k hk; omega, fun k hk => by have := h.own_lt k hk; omega, by simp, hb2⟩
/-- the end of Put and Delete: the result goes into its box -/
theorem rput_end {w W : World} {N B n c : Nat} {o : Int} {v : Value} {a : Option Addr} {L L' : List Pr} (h : PW w N o v L B W) (hr : W.ownsRow B 59 2 (.slice a n c) n (prv L')) (hn : n = L'.length) :
    PrAt (((W.setCell ⟨N, 1, none⟩ (.slice a n c)).setCell ⟨N + 1, 0, none⟩ (.int .i64 o)).setCell ⟨N + 1, 1, none⟩ (.slice a n c)) (.slice a n c) L' ∧ Below w.heap.size w (((W.setCell ⟨N, 1, none⟩ (.slice a n c)).setCell ⟨N + 1, 0, none⟩ (.int .i64 o)).setCell ⟨N + 1, 1, none⟩ (.slice a n c)) ∧
    Box (((W.setCell ⟨N, 1, none⟩ (.slice a n c)).setCell ⟨N + 1, 0, none⟩ (.int .i64 o)).setCell ⟨N + 1, 1, none⟩ (.slice a n c)) (N + 1) [.int .i64 o, .slice a n c] := by
  have hlt := h.lt
  have hge := h.ge
  have k1 : Kept (fun k => k = N) W (W.setCell ⟨N, 1, none⟩ (.slice a n c)) := (Kept.refl _ W).setCells N 1 [.slice a n c] (.inl rfl)
  have k2 : Kept (fun k => k = N + 1) (W.setCell ⟨N, 1, none⟩ (.slice a n c)) (((W.setCell ⟨N, 1, none⟩ (.slice a n c)).setCell ⟨N + 1, 0, none⟩ (.int .i64 o)).setCell ⟨N + 1, 1, none⟩ (.slice a n c)) :=
    ((Kept.refl (fun k => k = N + 1) _).setCells (N + 1) 0 [.int .i64 o, .slice a n c] (.inl rfl))
  have k3 : Kept (fun k => k = N ∨ k = N + 1) W (((W.setCell ⟨N, 1, none⟩ (.slice a n c)).setCell ⟨N + 1, 0, none⟩ (.int .i64 o)).setCell ⟨N + 1, 1, none⟩ (.slice a n c)) :=
    Kept.trans (S := fun k => k = N ∨ k = N + 1) ⟨k1.os, k1.tape, k1.output, k1.size, fun k hk hs => k1.block k hk (fun e => hs (.inl e))⟩ k2 (fun k e => .inl (.inr e))
  refine ⟨(PrAt.of_own hn hr).kept k3 (fun k hk e => ?_), h.b.trans (k3.below (Nat.le_trans (by omega) h.sz) (fun k e => ?_)), ?_⟩
  · have := (hr.lt k hk).1
    omega
  · omega
  · have b1 := h.b1.kept k1 (by omega)
    exact (b1.setCell 0 (.int .i64 o) (by simp)).setCell 1 (.slice a n c) (by simp)
theorem own_form {B : Nat} {W : World} {T : TypeId} {z n : Nat} {v : Value} {xs : List Value} (h : W.ownsRow B T z v n xs) : ∃ a c, v = .slice a n c ∧ n ≤ c := by
  rcases h.2 with ⟨rfl, rfl⟩ | ⟨g, c, cur, rfl, _, _, h, _⟩
  · exact ⟨none, 0, rfl, Nat.le_refl _⟩
  · exact ⟨_, _, rfl, h⟩
end Go.Proofs.Ytegljepgncicjaa
/- Btree: the reference's Put and Delete. -/
namespace Go.Proofs.Ytegljepgncicjaa
open Go.ChangeShapes Go.WideShapes Go.ChangeAt Go.RowKit Go.Deep Go.Shelf
set_option linter.unusedVariables false
set_option linter.unusedSimpArgs false
set_option maxRecDepth 100000 in
set_option maxHeartbeats 1600000 in
theorem rPut_some (o : Int) (g c : Nat) (L : List Pr) (key val : Bs) (w : World) (hv : PrAt w (.slice (some ⟨g, 0, none⟩) L.length c) L) (hl : L.length ≤ 5000) (hc : L.length ≤ c) (hc2 : c ≤ 9223372036854775807) :
    Calls Try.prog 26 #[.agg #[.int .i64 o, .slice (some ⟨g, 0, none⟩) L.length c], .string key, .string val] w (RPutOut o (.slice (some ⟨g, 0, none⟩) L.length c) (putL L key val) (!(hasL L key)) w) := by
  have HR := Lib.hid (PW.start (o := o) hv)
  obtain ⟨N, hN⟩ : ∃ N, N = w.heap.size := ⟨_, rfl⟩
  clear hv 
  go_enter Try.func26, Try.ntmps26
  go_wp2_with fail
  rw [← hN] at HR
  refine (place_any o (.slice (some ⟨g, 0, none⟩) L.length c) L key _ HR.out.pr hl).mono ?_
  rw [← hN]
  clear hN
  generalize (w.alloc _).alloc _ = W1 at HR ⊢
  rintro e W2 ⟨rfl, hb⟩
  have HR2 := Lib.hid ((HR.out.up HR.out.sz (Nat.le_refl _)).next hb)
  generalize W1.heap.size = B at HR2
  clear hb HR
  have c0 := HR2.out.b0.cell 0 _ rfl
  have c1 := HR2.out.b0.cell 1 _ rfl
  have hp := posL_le L key
  have HL := Lib.hid (show putL L key val = (([] ++ L.take (posL L key)) ++ [(key, val)]) ++ L.drop (if hasL L key = true then posL L key + 1 else posL L key) by rw [putL_pos]; simp)
  have HLT := Lib.hid (fun h => hasL_lt (L := L) (k := key) h)
  generalize posL L key = n at *
  generalize hasL L key = b at *
  have hnc : n ≤ c := by omega
  go_wp2_with (with_reducible refine wpList_appP 17 21 B (.slice none 0 0) (.slice (some ⟨g, 0, none⟩) n c) [] (L.take n) _ _ _ _ _ ?_ ?_ ?_ ?_)
  · exact World.ownsRow_nil _ _ _ _
  · exact src_take HR2.out.pr hp
  · exact ⟨rfl, rfl, by simp, by rw [List.length_take]; omega, HR2.out.sz⟩
  intro v1 W3 hr1 hb1
  have HR3 := Lib.hid (HR2.out.next hb1)
  have HO3 := Lib.hid hr1
  clear hr1 hb1 HR2 c0 c1
  have hz3 : N < W3.heap.size := HR3.out.b0.lt
  have c0 := HR3.out.b0.cell 0 _ rfl
  have c1 := HR3.out.b0.cell 1 _ rfl
  go_wp2_with (with_reducible refine wpList_appP 23 27 B v1 (.slice (some ⟨W3.heap.size, 0, none⟩) 1 1) ([] ++ L.take n) [(key, val)] _ _ _ _ _ ?_ ?_ ?_ ?_)
  · exact HO3.out.alloc _
  · exact src_new W3 key val _
  · exact ⟨rfl, rfl, by rw [List.nil_append, List.length_take]; omega, by simp, by have := HR3.out.sz; simp; omega⟩
  intro v2 W4 hr2 hb2
  obtain ⟨a2, c2, rfl, hac2⟩ := own_form hr2
  have hm2 : ([] ++ L.take n ++ [(key, val)]).length = n + 1 := by simp; omega
  rw [hm2] at hr2 hac2
  rw [hm2]
  have HR4 := Lib.hid (HR3.out.next (((Below.refl B W3).alloc HR3.out.sz _).trans hb2))
  have HO4 := Lib.hid hr2
  clear hr2 hb2 HR3 HO3 hz3 c0 c1
  have c0 := HR4.out.b0.cell 0 _ rfl
  have c1 := HR4.out.b0.cell 1 _ rfl
  cases b with
  | true =>
    simp only [if_true] at HL
    have hlt := HLT.out rfl
    have hw : IntKind.i64.wrap ((n : Int) + 1) = ((n + 1 : Nat) : Int) := by rw [IntKind.wrap_i64]; omega
    go_wp2_with (with_reducible refine wpList_dropP 32 34 (n + 1) _ L _ _ _ _ _ HR4.out.pr ?_ ?_)
    · exact ⟨rfl, rfl, by omega⟩
    intro sv hsv
    have HS := Lib.hid hsv
    clear hsv
    go_wp2_with (with_reducible refine wpList_appP 30 35 B (.slice a2 (n + 1) c2) sv ([] ++ L.take n ++ [(key, val)]) (L.drop (n + 1)) _ _ _ _ _ (by rw [hm2]; exact HO4.out) ?_ ?_ ?_)
    · exact HS.out
    · exact ⟨rfl, rfl, by rw [hm2]; omega, by rw [List.length_drop]; omega, HR4.out.sz⟩
    intro v3 W5 hr3 hb3
    have HR5 := Lib.hid (HR4.out.next hb3)
    obtain ⟨a3, c3, rfl, _⟩ := own_form hr3
    rw [← HL.out] at hr3
    obtain ⟨m3, hm3⟩ : ∃ m3, m3 = (([] ++ L.take n ++ [(key, val)]) ++ L.drop (n + 1)).length := ⟨_, rfl⟩
    rw [← HL.out] at hm3 ⊢
    rw [← hm3] at hr3
    rw [← hm3]
    have HO5 := Lib.hid (And.intro hr3 hm3)
    clear hr3 hb3 HR4 HO4 c0 c1 hm3
    have c0 := HR5.out.b0.cell 0 _ rfl
    have c1 := HR5.out.b0.cell 1 _ rfl
    have f0 := HR5.out.b0.free
    have f1 := HR5.out.b1.free
    have d0 := HR5.out.b1.cell 0 _ rfl
    have d1 := HR5.out.b1.cell 1 _ rfl
    have hz5 := HR5.out.b1.lt
    have hz6 := HR5.out.b0.lt
    go_wp2_with fail
    have hend := rput_end HR5.out HO5.out.1 HO5.out.2
    have e0 := hend.2.2.cell 0 _ rfl
    have e1 := hend.2.2.cell 1 _ rfl
    exact bodyPost_ret (v := .tuple #[.agg #[.int .i64 o, .slice a3 m3 c3], .bool false]) (by simp [results, Try.results26, go_sem, e0, e1]) rfl ⟨_, rfl, hend.1, hend.2.1, fun k hk => .inr (by have := (HO5.out.1.lt k hk).1; have := HR5.out.lt; have := HR5.out.ge; omega)⟩
  | false =>
    simp only [Bool.false_eq_true, if_false] at HL
    go_wp2_with (with_reducible refine wpList_dropP 39 40 n _ L _ _ _ _ _ HR4.out.pr ?_ ?_)
    · exact ⟨rfl, rfl, by omega⟩
    intro sv hsv
    have HS := Lib.hid hsv
    clear hsv
    go_wp2_with (with_reducible refine wpList_appP 37 41 B (.slice a2 (n + 1) c2) sv ([] ++ L.take n ++ [(key, val)]) (L.drop n) _ _ _ _ _ (by rw [hm2]; exact HO4.out) ?_ ?_ ?_)
    · exact HS.out
    · exact ⟨rfl, rfl, by rw [hm2]; omega, by rw [List.length_drop]; omega, HR4.out.sz⟩
    intro v3 W5 hr3 hb3
    have HR5 := Lib.hid (HR4.out.next hb3)
    obtain ⟨a3, c3, rfl, _⟩ := own_form hr3
    rw [← HL.out] at hr3
    obtain ⟨m3, hm3⟩ : ∃ m3, m3 = (([] ++ L.take n ++ [(key, val)]) ++ L.drop n).length := ⟨_, rfl⟩
    rw [← HL.out] at hm3 ⊢
    rw [← hm3] at hr3
    rw [← hm3]
    have HO5 := Lib.hid (And.intro hr3 hm3)
    clear hr3 hb3 HR4 HO4 c0 c1 hm3
    have c0 := HR5.out.b0.cell 0 _ rfl
    have c1 := HR5.out.b0.cell 1 _ rfl
    have f0 := HR5.out.b0.free
    have f1 := HR5.out.b1.free
    have d0 := HR5.out.b1.cell 0 _ rfl
    have d1 := HR5.out.b1.cell 1 _ rfl
    have hz5 := HR5.out.b1.lt
    have hz6 := HR5.out.b0.lt
    go_wp2_with fail
    have hend := rput_end HR5.out HO5.out.1 HO5.out.2
    have e0 := hend.2.2.cell 0 _ rfl
    have e1 := hend.2.2.cell 1 _ rfl
    exact bodyPost_ret (v := .tuple #[.agg #[.int .i64 o, .slice a3 m3 c3], .bool true]) (by simp [results, Try.results26, go_sem, e0, e1]) rfl ⟨_, rfl, hend.1, hend.2.1, fun k hk => .inr (by have := (HO5.out.1.lt k hk).1; have := HR5.out.lt; have := HR5.out.ge; omega)⟩
set_option maxRecDepth 100000 in
set_option maxHeartbeats 1600000 in
theorem rPut_nil (o : Int) (L : List Pr) (key val : Bs) (w : World) (hL : L = []) (hv : PrAt w (.slice none 0 0) L) :
    Calls Try.prog 26 #[.agg #[.int .i64 o, .slice none 0 0], .string key, .string val] w (RPutOut o (.slice none 0 0) (putL L key val) (!(hasL L key)) w) := by
  have HR := Lib.hid (PW.start (o := o) hv)
  obtain ⟨N, hN⟩ : ∃ N, N = w.heap.size := ⟨_, rfl⟩
  have hl : L.length ≤ 5000 := by rw [hL]; simp
  have HL0 := Lib.hid (show L.length = 0 by rw [hL]; rfl)
  clear hv hL
  go_enter Try.func26, Try.ntmps26
  go_wp2_with fail
  rw [← hN] at HR
  refine (place_any o (.slice none 0 0) L key _ HR.out.pr hl).mono ?_
  rw [← hN]
  clear hN
  generalize (w.alloc _).alloc _ = W1 at HR ⊢
  rintro e W2 ⟨rfl, hb⟩
  have HR2 := Lib.hid ((HR.out.up HR.out.sz (Nat.le_refl _)).next hb)
  generalize W1.heap.size = B at HR2
  clear hb HR
  have c0 := HR2.out.b0.cell 0 _ rfl
  have c1 := HR2.out.b0.cell 1 _ rfl
  have hp := posL_le L key
  have HL := Lib.hid (show putL L key val = (([] ++ L.take (posL L key)) ++ [(key, val)]) ++ L.drop (if hasL L key = true then posL L key + 1 else posL L key) by rw [putL_pos]; simp)
  have HLT := Lib.hid (fun h => hasL_lt (L := L) (k := key) h)
  generalize posL L key = n at *
  generalize hasL L key = b at *
  obtain rfl : n = 0 := by have := HL0.out; omega
  cases b with
  | true => exact absurd (HLT.out rfl) (by have := HL0.out; omega)
  | false =>
    go_wp2_with (with_reducible refine wpList_appP 17 21 B (.slice none 0 0) (.slice none 0 0) [] (L.take 0) _ _ _ _ _ ?_ ?_ ?_ ?_)
    · exact World.ownsRow_nil _ _ _ _
    · exact .inl ⟨0, rfl, rfl⟩
    · exact ⟨rfl, rfl, by simp, by rw [List.length_take]; omega, HR2.out.sz⟩
    intro v1 W3 hr1 hb1
    have HR3 := Lib.hid (HR2.out.next hb1)
    have HO3 := Lib.hid hr1
    clear hr1 hb1 HR2 c0 c1
    have hz3 : N < W3.heap.size := HR3.out.b0.lt
    have c0 := HR3.out.b0.cell 0 _ rfl
    have c1 := HR3.out.b0.cell 1 _ rfl
    go_wp2_with (with_reducible refine wpList_appP 23 27 B v1 (.slice (some ⟨W3.heap.size, 0, none⟩) 1 1) ([] ++ L.take 0) [(key, val)] _ _ _ _ _ ?_ ?_ ?_ ?_)
    · exact HO3.out.alloc _
    · exact src_new W3 key val _
    · exact ⟨rfl, rfl, by rw [List.nil_append, List.length_take]; omega, by simp, by have := HR3.out.sz; simp; omega⟩
    intro v2 W4 hr2 hb2
    obtain ⟨a2, c2, rfl, hac2⟩ := own_form hr2
    have hm2 : ([] ++ L.take 0 ++ [(key, val)]).length = 0 + 1 := by simp
    rw [hm2] at hr2 hac2
    rw [hm2]
    have HR4 := Lib.hid (HR3.out.next (((Below.refl B W3).alloc HR3.out.sz _).trans hb2))
    have HO4 := Lib.hid hr2
    clear hr2 hb2 HR3 HO3 hz3 c0 c1
    have c0 := HR4.out.b0.cell 0 _ rfl
    have c1 := HR4.out.b0.cell 1 _ rfl
    simp only [Bool.false_eq_true, if_false] at HL
    go_wp2_with (with_reducible refine wpList_dropP 39 40 0 _ L _ _ _ _ _ HR4.out.pr ?_ ?_)
    · exact ⟨rfl, rfl, by omega⟩
    intro sv hsv
    have HS := Lib.hid hsv
    clear hsv
    go_wp2_with (with_reducible refine wpList_appP 37 41 B (.slice a2 (0 + 1) c2) sv ([] ++ L.take 0 ++ [(key, val)]) (L.drop 0) _ _ _ _ _ (by rw [hm2]; exact HO4.out) ?_ ?_ ?_)
    · exact HS.out
    · exact ⟨rfl, rfl, by rw [hm2]; omega, by rw [List.length_drop]; omega, HR4.out.sz⟩
    intro v3 W5 hr3 hb3
    have HR5 := Lib.hid (HR4.out.next hb3)
    obtain ⟨a3, c3, rfl, _⟩ := own_form hr3
    rw [← HL.out] at hr3
    obtain ⟨m3, hm3⟩ : ∃ m3, m3 = (([] ++ L.take 0 ++ [(key, val)]) ++ L.drop 0).length := ⟨_, rfl⟩
    rw [← HL.out] at hm3 ⊢
    rw [← hm3] at hr3
    rw [← hm3]
    have HO5 := Lib.hid (And.intro hr3 hm3)
    clear hr3 hb3 HR4 HO4 c0 c1 hm3
    have c0 := HR5.out.b0.cell 0 _ rfl
    have c1 := HR5.out.b0.cell 1 _ rfl
    have f0 := HR5.out.b0.free
    have f1 := HR5.out.b1.free
    have d0 := HR5.out.b1.cell 0 _ rfl
    have d1 := HR5.out.b1.cell 1 _ rfl
    have hz5 := HR5.out.b1.lt
    have hz6 := HR5.out.b0.lt
    go_wp2_with fail
    have hend := rput_end HR5.out HO5.out.1 HO5.out.2
    have e0 := hend.2.2.cell 0 _ rfl
    have e1 := hend.2.2.cell 1 _ rfl
    exact bodyPost_ret (v := .tuple #[.agg #[.int .i64 o, .slice a3 m3 c3], .bool true]) (by simp [results, Try.results26, go_sem, e0, e1]) rfl ⟨_, rfl, hend.1, hend.2.1, fun k hk => .inr (by have := (HO5.out.1.lt k hk).1; have := HR5.out.lt; have := HR5.out.ge; omega)⟩
end Go.Proofs.Ytegljepgncicjaa
/- Btree: the reference's Delete. -/
namespace Go.Proofs.Ytegljepgncicjaa
open Go.ChangeShapes Go.WideShapes Go.ChangeAt Go.RowKit Go.Deep Go.Shelf
set_option linter.unusedVariables false
set_option linter.unusedSimpArgs false
theorem rdel_end {w W : World} {N B n c : Nat} {o : Int} {a : Option Addr} {L : List Pr} (h : PW w N o (.slice a n c) L B W) :
    PrAt ((W.setCell ⟨N + 1, 0, none⟩ (.int .i64 o)).setCell ⟨N + 1, 1, none⟩ (.slice a n c)) (.slice a n c) L ∧ Below w.heap.size w ((W.setCell ⟨N + 1, 0, none⟩ (.int .i64 o)).setCell ⟨N + 1, 1, none⟩ (.slice a n c)) ∧
    Box ((W.setCell ⟨N + 1, 0, none⟩ (.int .i64 o)).setCell ⟨N + 1, 1, none⟩ (.slice a n c)) (N + 1) [.int .i64 o, .slice a n c] := by
  have hge := h.ge
  have k2 : Kept (fun k => k = N + 1) W ((W.setCell ⟨N + 1, 0, none⟩ (.int .i64 o)).setCell ⟨N + 1, 1, none⟩ (.slice a n c)) :=
    ((Kept.refl (fun k => k = N + 1) _).setCells (N + 1) 0 [.int .i64 o, .slice a n c] (.inl rfl))
  have hb := (h.b1.setCell 0 (.int .i64 o) (by simp)).setCell 1 (.slice a n c) (by simp)
  refine ⟨?_, h.b.trans (k2.below (Nat.le_trans (by have := h.lt; omega) h.sz) (fun k e => by omega)), hb⟩
  have hp := h.pr
  have hv := h.vb
  have hlt := h.lt
  have hb1 : ∀ k, (Value.slice a n c).ownBlock = some k → k ≠ N + 1 := fun k hk e => h.nb k hk e
  exact hp.kept k2 (fun k hk e => hb1 k hk e)
set_option maxRecDepth 100000 in
set_option maxHeartbeats 1600000 in
theorem rDel_some (o : Int) (g c : Nat) (L : List Pr) (key : Bs) (w : World) (hv : PrAt w (.slice (some ⟨g, 0, none⟩) L.length c) L) (hl : L.length ≤ 5000) (hc : L.length ≤ c) (hc2 : c ≤ 9223372036854775807) :
    Calls Try.prog 27 #[.agg #[.int .i64 o, .slice (some ⟨g, 0, none⟩) L.length c], .string key] w (RPutOut o (.slice (some ⟨g, 0, none⟩) L.length c) (delL L key) (hasL L key) w) := by
  have HR := Lib.hid (PW.start (o := o) hv)
  obtain ⟨N, hN⟩ : ∃ N, N = w.heap.size := ⟨_, rfl⟩
  clear hv 
  go_enter Try.func27, Try.ntmps27
  go_wp2_with fail
  rw [← hN] at HR
  refine (place_any o (.slice (some ⟨g, 0, none⟩) L.length c) L key _ HR.out.pr hl).mono ?_
  rw [← hN]
  clear hN
  generalize (w.alloc _).alloc _ = W1 at HR ⊢
  rintro e W2 ⟨rfl, hb⟩
  have HR2 := Lib.hid ((HR.out.up HR.out.sz (Nat.le_refl _)).next hb)
  generalize W1.heap.size = B at HR2
  clear hb HR
  have c0 := HR2.out.b0.cell 0 _ rfl
  have c1 := HR2.out.b0.cell 1 _ rfl
  have hp := posL_le L key
  have HL := Lib.hid (show delL L key = if hasL L key = true then (([] ++ L.take (posL L key)) ++ L.drop (posL L key + 1)) else L by rw [delL_pos]; simp)
  have HLT := Lib.hid (fun h => hasL_lt (L := L) (k := key) h)
  generalize posL L key = n at *
  generalize hasL L key = b at *
  cases b with
  | false =>
    simp only [Bool.false_eq_true, if_false] at HL
    have f1 := HR2.out.b1.free
    have d0 := HR2.out.b1.cell 0 _ rfl
    have d1 := HR2.out.b1.cell 1 _ rfl
    have hz5 := HR2.out.b1.lt
    have hz6 := HR2.out.b0.lt
    go_wp2_with fail
    have hend := rdel_end HR2.out
    have e0 := hend.2.2.cell 0 _ rfl
    have e1 := hend.2.2.cell 1 _ rfl
    exact bodyPost_ret (v := .tuple #[.agg #[.int .i64 o, .slice (some ⟨g, 0, none⟩) L.length c], .bool false]) (by simp [results, Try.results27, go_sem, e0, e1]) rfl ⟨_, rfl, by rw [HL.out]; exact hend.1, hend.2.1, fun k hk => .inl hk⟩
  | true =>
    simp only [if_true] at HL
    have hlt := HLT.out rfl
    have hnc : n ≤ c := by omega
    have hw : IntKind.i64.wrap ((n : Int) + 1) = ((n + 1 : Nat) : Int) := by rw [IntKind.wrap_i64]; omega
    go_wp2_with (with_reducible refine wpList_appP 18 22 B (.slice none 0 0) (.slice (some ⟨g, 0, none⟩) n c) [] (L.take n) _ _ _ _ _ ?_ ?_ ?_ ?_)
    · exact World.ownsRow_nil _ _ _ _
    · exact src_take HR2.out.pr hp
    · exact ⟨rfl, rfl, by simp, by rw [List.length_take]; omega, HR2.out.sz⟩
    intro v2 W4 hr2 hb2
    obtain ⟨a2, c2, rfl, hac2⟩ := own_form hr2
    have hm2 : ([] ++ L.take n).length = n := by simp; omega
    rw [hm2] at hr2 hac2
    rw [hm2]
    have HR4 := Lib.hid (HR2.out.next hb2)
    have HO4 := Lib.hid hr2
    clear hr2 hb2 HR2 c0 c1
    have c0 := HR4.out.b0.cell 0 _ rfl
    have c1 := HR4.out.b0.cell 1 _ rfl
    go_wp2_with (with_reducible refine wpList_dropP 26 28 (n + 1) _ L _ _ _ _ _ HR4.out.pr ?_ ?_)
    · exact ⟨rfl, rfl, by omega⟩
    intro sv hsv
    have HS := Lib.hid hsv
    clear hsv
    go_wp2_with (with_reducible refine wpList_appP 24 29 B (.slice a2 n c2) sv ([] ++ L.take n) (L.drop (n + 1)) _ _ _ _ _ (by rw [hm2]; exact HO4.out) ?_ ?_ ?_)
    · exact HS.out
    · exact ⟨rfl, rfl, by rw [hm2]; omega, by rw [List.length_drop]; omega, HR4.out.sz⟩
    intro v3 W5 hr3 hb3
    have HR5 := Lib.hid (HR4.out.next hb3)
    obtain ⟨a3, c3, rfl, _⟩ := own_form hr3
    rw [← HL.out] at hr3
    obtain ⟨m3, hm3⟩ : ∃ m3, m3 = (([] ++ L.take n) ++ L.drop (n + 1)).length := ⟨_, rfl⟩
    rw [← HL.out] at hm3 ⊢
    rw [← hm3] at hr3
    rw [← hm3]
    have HO5 := Lib.hid (And.intro hr3 hm3)
    clear hr3 hb3 HR4 HO4 c0 c1 hm3
    have c0 := HR5.out.b0.cell 0 _ rfl
    have c1 := HR5.out.b0.cell 1 _ rfl
    have f0 := HR5.out.b0.free
    have f1 := HR5.out.b1.free
    have d0 := HR5.out.b1.cell 0 _ rfl
    have d1 := HR5.out.b1.cell 1 _ rfl
    have hz5 := HR5.out.b1.lt
    have hz6 := HR5.out.b0.lt
    go_wp2_with fail
    have hend := rput_end HR5.out HO5.out.1 HO5.out.2
    have e0 := hend.2.2.cell 0 _ rfl
    have e1 := hend.2.2.cell 1 _ rfl
    exact bodyPost_ret (v := .tuple #[.agg #[.int .i64 o, .slice a3 m3 c3], .bool true]) (by simp [results, Try.results27, go_sem, e0, e1]) rfl ⟨_, rfl, hend.1, hend.2.1, fun k hk => .inr (by have := (HO5.out.1.lt k hk).1; have := HR5.out.lt; have := HR5.out.ge; omega)⟩
set_option maxRecDepth 100000 in
set_option maxHeartbeats 1600000 in
theorem rDel_nil (o : Int) (L : List Pr) (key : Bs) (w : World) (hL : L = []) (hv : PrAt w (.slice none 0 0) L) :
    Calls Try.prog 27 #[.agg #[.int .i64 o, .slice none 0 0], .string key] w (RPutOut o (.slice none 0 0) (delL L key) (hasL L key) w) := by
  have HR := Lib.hid (PW.start (o := o) hv)
  obtain ⟨N, hN⟩ : ∃ N, N = w.heap.size := ⟨_, rfl⟩
  have hl : L.length ≤ 5000 := by rw [hL]; simp
  have HL0 := Lib.hid (show L.length = 0 by rw [hL]; rfl)
  clear hv hL
  go_enter Try.func27, Try.ntmps27
  go_wp2_with fail
  rw [← hN] at HR
  refine (place_any o (.slice none 0 0) L key _ HR.out.pr hl).mono ?_
  rw [← hN]
  clear hN
  generalize (w.alloc _).alloc _ = W1 at HR ⊢
  rintro e W2 ⟨rfl, hb⟩
  have HR2 := Lib.hid ((HR.out.up HR.out.sz (Nat.le_refl _)).next hb)
  generalize W1.heap.size = B at HR2
  clear hb HR
  have c0 := HR2.out.b0.cell 0 _ rfl
  have c1 := HR2.out.b0.cell 1 _ rfl
  have hp := posL_le L key
  have HL := Lib.hid (show delL L key = if hasL L key = true then (([] ++ L.take (posL L key)) ++ L.drop (posL L key + 1)) else L by rw [delL_pos]; simp)
  have HLT := Lib.hid (fun h => hasL_lt (L := L) (k := key) h)
  generalize posL L key = n at *
  generalize hasL L key = b at *
  cases b with
  | false =>
    simp only [Bool.false_eq_true, if_false] at HL
    have f1 := HR2.out.b1.free
    have d0 := HR2.out.b1.cell 0 _ rfl
    have d1 := HR2.out.b1.cell 1 _ rfl
    have hz5 := HR2.out.b1.lt
    have hz6 := HR2.out.b0.lt
    go_wp2_with fail
    have hend := rdel_end HR2.out
    have e0 := hend.2.2.cell 0 _ rfl
    have e1 := hend.2.2.cell 1 _ rfl
    exact bodyPost_ret (v := .tuple #[.agg #[.int .i64 o, .slice none 0 0], .bool false]) (by simp [results, Try.results27, go_sem, e0, e1]) rfl ⟨_, rfl, by rw [HL.out]; exact hend.1, hend.2.1, fun k hk => .inl hk⟩
  | true =>
    simp only [if_true] at HL
    have hlt := HLT.out rfl
    exact absurd hlt (by have := HL0.out; omega)
theorem rPut_any (o : Int) (v : Value) (L : List Pr) (key val : Bs) (w : World) (hv : PrAt w v L) (hl : L.length ≤ 5000) :
    Calls Try.prog 26 #[.agg #[.int .i64 o, v], .string key, .string val] w (RPutOut o v (putL L key val) (!(hasL L key)) w) := by
  have hv2 := hv
  rcases hv with ⟨rfl, hL⟩ | ⟨g, c, rfl, h1, h2, h3, h4⟩
  · exact rPut_nil o L key val w hL hv2
  · exact rPut_some o g c L key val w hv2 hl h1 h2
theorem rDel_any (o : Int) (v : Value) (L : List Pr) (key : Bs) (w : World) (hv : PrAt w v L) (hl : L.length ≤ 5000) :
    Calls Try.prog 27 #[.agg #[.int .i64 o, v], .string key] w (RPutOut o v (delL L key) (hasL L key) w) := by
  have hv2 := hv
  rcases hv with ⟨rfl, hL⟩ | ⟨g, c, rfl, h1, h2, h3, h4⟩
  · exact rDel_nil o L key w hL hv2
  · exact rDel_some o g c L key w hv2 hl h1 h2
end Go.Proofs.Ytegljepgncicjaa
/- Btree: the reference's Scan. -/
namespace Go.Proofs.Ytegljepgncicjaa
open Go.ChangeShapes Go.WideShapes Go.ChangeAt Go.RowKit Go.Deep Go.Shelf
set_option linter.unusedVariables false
set_option linter.unusedSimpArgs false
theorem dirL_len (back : Bool) (L : List Pr) : (dirL back L).length = L.length := by unfold dirL; split <;> simp
theorem dirL_at (back : Bool) (L : List Pr) (k : Nat) (h : k < L.length) : (dirL back L)[k]'(by rw [dirL_len]; exact h) = if back = true then L[L.length - 1 - k]'(by omega) else L[k] := by
  cases back with
  | true =>
    show L.reverse[k]'(by simp; exact h) = _
    rw [List.getElem_reverse]
    simp
  | false => rfl
theorem scan_step (lo hi : Bs) (D : List Pr) (k : Nat) (h : k < D.length) (f : Pr → Bool) : (D.take (k + 1)).filter f = (D.take k).filter f ++ (if f D[k] = true then [D[k]] else []) := by
  rw [List.take_succ_eq_append_getElem h, List.filter_append]
  congr 1
  cases hf : f D[k] <;> simp [hf]
structure SW (w : World) (N : Nat) (o : Int) (v : Value) (L : List Pr) (B : Nat) (W : World) : Prop where
  b0 : Box W N [.int .i64 o, v]
  pr : PrAt W v L
  lt : N < B
  vb : ∀ k, v.ownBlock = some k → k < B
  sz : B ≤ W.heap.size
  b : Below w.heap.size w W
theorem SW.next {w W W' : World} {N B : Nat} {o : Int} {v : Value} {L : List Pr} (h : SW w N o v L B W) (hb : Below B W W') (hw : w.heap.size ≤ B) : SW w N o v L B W' :=
  ⟨h.b0.far hb h.lt, h.pr.below' hb h.vb, h.lt, h.vb, Nat.le_trans h.sz hb.size, h.b.trans (hb.mono hw)⟩
theorem SW.start {w : World} {o : Int} {v : Value} {L : List Pr} (h : PrAt w v L) : SW w w.heap.size o v L (w.heap.size + 1) (w.alloc (.cells #[.int .i64 o, v] 30)) := by
  have hb1 : Below w.heap.size w (w.alloc (.cells #[.int .i64 o, v] 30)) := (Below.refl _ w).alloc (Nat.le_refl _) _
  exact ⟨Box.new w [.int .i64 o, v] 30, h.below hb1, by omega, fun k hk => by have := h.own_lt k hk; omega, by simp, hb1⟩
def RScanOut (L : List Pr) (w : World) (e : Ending) (W' : World) : Prop := ∃ v, e = .returned v ∧ PrAt W' v L ∧ Below w.heap.size w W'
set_option maxRecDepth 100000 in
set_option maxHeartbeats 1600000 in
theorem rScan_some (o : Int) (g c : Nat) (L : List Pr) (lo hi : Bs) (back : Bool) (w : World) (hv : PrAt w (.slice (some ⟨g, 0, none⟩) L.length c) L) (hl : L.length ≤ 5000) :
    Calls Try.prog 17 #[.agg #[.int .i64 o, .slice (some ⟨g, 0, none⟩) L.length c], .string lo, .string hi, .bool back] w (RScanOut (scanL lo hi back L) w) := by
  have HR := Lib.hid (SW.start (o := o) hv)
  have HN := Lib.hid (show w.heap.size ≤ w.heap.size + 1 by omega)
  obtain ⟨N, hN⟩ : ∃ N, N = w.heap.size := ⟨_, rfl⟩
  clear hv
  go_enter Try.func17, Try.ntmps17
  go_wp2_with fail
  rw [← hN] at HR
  rw [← hN]
  rw [show w.heap.size + 1 = N + 1 by rw [hN]] at HN
  obtain ⟨B, hB⟩ : ∃ B, B = N + 1 := ⟨_, rfl⟩
  rw [← hB] at HR HN
  clear hN hB
  generalize w.alloc _ = W1 at HR ⊢
  go_loopw [9, 10] (fun out i wr => ∃ k : Nat, k ≤ L.length ∧ i = .int .i64 k ∧ SW w N o (.slice (some ⟨g, 0, none⟩) L.length c) L B wr ∧ wr.ownsRow B 59 2 out (((dirL back L).take k).filter (inU lo hi (bdOf hi))).length (prv (((dirL back L).take k).filter (inU lo hi (bdOf hi))))) (fun _ i _ => L.length - (intOf i).toNat)
  case atStart => exact ⟨0, Nat.zero_le _, rfl, HR.out, World.ownsRow_nil _ _ _ _⟩
  case round =>
    clear HR
    obtain ⟨k, hk, rfl, hsw, hown⟩ := hrel
    have HR := Lib.hid hsw
    have HO := Lib.hid hown
    clear hsw hown
    have c1 := HR.out.b0.cell 1 _ rfl
    by_cases hlt : k < L.length
    · obtain ⟨g', c', hg, _, _, hgl, hcell⟩ := HR.out.pr.get (by omega)
      cases hg
      have hgn : g ≠ wr.heap.size := Nat.ne_of_lt hgl
      have hNl : N < wr.heap.size := HR.out.b0.lt
      have hNn : N ≠ wr.heap.size := Nat.ne_of_lt hNl
      have a0 := (hcell k hlt).1
      have a1 := (hcell k hlt).2
      cases back with
      | false =>
        have HST0 := Lib.hid (scan_step lo hi (dirL false L) k (by rw [dirL_len]; exact hlt) (inU lo hi (bdOf hi)))
        have hx : (dirL false L)[k]'(by rw [dirL_len]; exact hlt) = L[k] := dirL_at false L k hlt
        rw [hx] at HST0
        clear hcell hx
        generalize L[k] = x at a0 a1 HST0
        cases h1 : Op.bytesLess (ByteArray.toList x.1) (ByteArray.toList lo)
        rotate_left
        · have HST := Lib.hid (show ((dirL false L).take (k + 1)).filter (inU lo hi (bdOf hi)) = ((dirL false L).take k).filter (inU lo hi (bdOf hi)) ++ [] by rw [HST0.out]; simp [inU, lB, h1, bdOf])
          go_wp2_with fail
          go_roundw
          case rel =>
            refine ⟨k + 1, by omega, by go_num, HR.out.next (((Below.refl B wr).alloc HR.out.sz _)) HN.out, ?_⟩
            rw [HST.out, List.append_nil]
            exact HO.out.alloc _
          case measure => simp [intOf]; omega
        · cases h2 : (ByteArray.toList hi).isEmpty with
          | true =>
            have HST := Lib.hid (show ((dirL false L).take (k + 1)).filter (inU lo hi (bdOf hi)) = ((dirL false L).take k).filter (inU lo hi (bdOf hi)) ++ [x] by rw [HST0.out]; simp [inU, lB, h1, bdOf, h2])
            have h4 : ((ByteArray.toList hi) == []) = true := by rw [List.isEmpty_iff.1 h2]; rfl
            go_wp2_with (with_reducible refine wpList_appP 49 51 B u9 (.slice (some ⟨wr.heap.size + 1, 0, none⟩) 1 1) (((dirL false L).take k).filter (inU lo hi (bdOf hi))) [x] _ _ _ _ _ ?_ ?_ ?_ ?_)
            · exact (HO.out.alloc _).alloc _
            · have := src_new (wr.alloc (.cells #[.string x.1, .string x.2] 59)) x.1 x.2 59
              rw [World.size_alloc] at this
              exact this
            · refine ⟨rfl, rfl, ?_, by simp, by have := HR.out.sz; simp; omega⟩
              refine Nat.le_trans (List.length_filter_le ..) ?_
              rw [List.length_take]; omega
            intro v' w' hr' hb'
            have HR' := Lib.hid (HR.out.next (((((Below.refl B wr).alloc HR.out.sz _).alloc (by have := HR.out.sz; simp; omega) _)).trans hb') HN.out)
            have HO' := Lib.hid hr'
            clear hr' hb'
            go_wp2_with fail
            go_roundw
            case rel =>
              refine ⟨k + 1, by omega, by go_num, HR'.out, ?_⟩
              rw [HST.out]
              exact HO'.out
            case measure => simp [intOf]; omega
          | false =>
            have h4 : ((ByteArray.toList hi) == []) = false := by
              cases hh : ByteArray.toList hi with
              | nil => rw [hh] at h2; cases h2
              | cons a b => rfl
            cases h3 : Op.bytesLess (ByteArray.toList x.1) (ByteArray.toList hi) with
            | true =>
              have HST := Lib.hid (show ((dirL false L).take (k + 1)).filter (inU lo hi (bdOf hi)) = ((dirL false L).take k).filter (inU lo hi (bdOf hi)) ++ [x] by rw [HST0.out]; simp [inU, lB, h1, bdOf, h2, h3])
              go_wp2_with (with_reducible refine wpList_appP 49 51 B u9 (.slice (some ⟨wr.heap.size + 1, 0, none⟩) 1 1) (((dirL false L).take k).filter (inU lo hi (bdOf hi))) [x] _ _ _ _ _ ?_ ?_ ?_ ?_)
              · exact (HO.out.alloc _).alloc _
              · have := src_new (wr.alloc (.cells #[.string x.1, .string x.2] 59)) x.1 x.2 59
                rw [World.size_alloc] at this
                exact this
              · refine ⟨rfl, rfl, ?_, by simp, by have := HR.out.sz; simp; omega⟩
                refine Nat.le_trans (List.length_filter_le ..) ?_
                rw [List.length_take]; omega
              intro v' w' hr' hb'
              have HR' := Lib.hid (HR.out.next (((((Below.refl B wr).alloc HR.out.sz _).alloc (by have := HR.out.sz; simp; omega) _)).trans hb') HN.out)
              have HO' := Lib.hid hr'
              clear hr' hb'
              go_wp2_with fail
              go_roundw
              case rel =>
                refine ⟨k + 1, by omega, by go_num, HR'.out, ?_⟩
                rw [HST.out]
                exact HO'.out
              case measure => simp [intOf]; omega
            | false =>
              have HST := Lib.hid (show ((dirL false L).take (k + 1)).filter (inU lo hi (bdOf hi)) = ((dirL false L).take k).filter (inU lo hi (bdOf hi)) ++ [] by rw [HST0.out]; simp [inU, lB, h1, bdOf, h2, h3])
              go_wp2_with fail
              go_roundw
              case rel =>
                refine ⟨k + 1, by omega, by go_num, HR.out.next (((Below.refl B wr).alloc HR.out.sz _)) HN.out, ?_⟩
                rw [HST.out, List.append_nil]
                exact HO.out.alloc _
              case measure => simp [intOf]; omega
      | true =>
        have HST0 := Lib.hid (scan_step lo hi (dirL true L) k (by rw [dirL_len]; exact hlt) (inU lo hi (bdOf hi)))
        have hx : (dirL true L)[k]'(by rw [dirL_len]; exact hlt) = L[L.length - 1 - k]'(by omega) := dirL_at true L k hlt
        rw [hx] at HST0
        have d0 := (hcell (L.length - 1 - k) (by omega)).1
        have d1 := (hcell (L.length - 1 - k) (by omega)).2
        have hw1 : IntKind.i64.wrap ((L.length : Int) - 1) = ((L.length - 1 : Nat) : Int) := by rw [IntKind.wrap_i64]; omega
        have hw2 : IntKind.i64.wrap (((L.length - 1 : Nat) : Int) - (k : Int)) = ((L.length - 1 - k : Nat) : Int) := by rw [IntKind.wrap_i64]; omega
        have hjl : L.length - 1 - k < L.length := by omega
        clear hcell hx
        generalize L[L.length - 1 - k] = x at d0 d1 HST0
        generalize L[k] = y at a0 a1
        generalize L.length - 1 - k = j at d0 d1 hw2 hjl
        cases h1 : Op.bytesLess (ByteArray.toList x.1) (ByteArray.toList lo)
        rotate_left
        · have HST := Lib.hid (show ((dirL true L).take (k + 1)).filter (inU lo hi (bdOf hi)) = ((dirL true L).take k).filter (inU lo hi (bdOf hi)) ++ [] by rw [HST0.out]; simp [inU, lB, h1, bdOf])
          go_wp2_with fail
          go_roundw
          case rel =>
            refine ⟨k + 1, by omega, by go_num, HR.out.next (((Below.refl B wr).alloc HR.out.sz _)) HN.out, ?_⟩
            rw [HST.out, List.append_nil]
            exact HO.out.alloc _
          case measure => simp [intOf]; omega
        · cases h2 : (ByteArray.toList hi).isEmpty with
          | true =>
            have HST := Lib.hid (show ((dirL true L).take (k + 1)).filter (inU lo hi (bdOf hi)) = ((dirL true L).take k).filter (inU lo hi (bdOf hi)) ++ [x] by rw [HST0.out]; simp [inU, lB, h1, bdOf, h2])
            have h4 : ((ByteArray.toList hi) == []) = true := by rw [List.isEmpty_iff.1 h2]; rfl
            go_wp2_with (with_reducible refine wpList_appP 49 51 B u9 (.slice (some ⟨wr.heap.size + 1, 0, none⟩) 1 1) (((dirL true L).take k).filter (inU lo hi (bdOf hi))) [x] _ _ _ _ _ ?_ ?_ ?_ ?_)
            · exact (HO.out.alloc _).alloc _
            · have := src_new (wr.alloc (.cells #[.string x.1, .string x.2] 59)) x.1 x.2 59
              rw [World.size_alloc] at this
              exact this
            · refine ⟨rfl, rfl, ?_, by simp, by have := HR.out.sz; simp; omega⟩
              refine Nat.le_trans (List.length_filter_le ..) ?_
              rw [List.length_take]; omega
            intro v' w' hr' hb'
            have HR' := Lib.hid (HR.out.next (((((Below.refl B wr).alloc HR.out.sz _).alloc (by have := HR.out.sz; simp; omega) _)).trans hb') HN.out)
            have HO' := Lib.hid hr'
            clear hr' hb'
            go_wp2_with fail
            go_roundw
            case rel =>
              refine ⟨k + 1, by omega, by go_num, HR'.out, ?_⟩
              rw [HST.out]
              exact HO'.out
            case measure => simp [intOf]; omega
          | false =>
            have h4 : ((ByteArray.toList hi) == []) = false := by
              cases hh : ByteArray.toList hi with
              | nil => rw [hh] at h2; cases h2
              | cons a b => rfl
            cases h3 : Op.bytesLess (ByteArray.toList x.1) (ByteArray.toList hi) with
            | true =>
              have HST := Lib.hid (show ((dirL true L).take (k + 1)).filter (inU lo hi (bdOf hi)) = ((dirL true L).take k).filter (inU lo hi (bdOf hi)) ++ [x] by rw [HST0.out]; simp [inU, lB, h1, bdOf, h2, h3])
              go_wp2_with (with_reducible refine wpList_appP 49 51 B u9 (.slice (some ⟨wr.heap.size + 1, 0, none⟩) 1 1) (((dirL true L).take k).filter (inU lo hi (bdOf hi))) [x] _ _ _ _ _ ?_ ?_ ?_ ?_)
              · exact (HO.out.alloc _).alloc _
              · have := src_new (wr.alloc (.cells #[.string x.1, .string x.2] 59)) x.1 x.2 59
                rw [World.size_alloc] at this
                exact this
              · refine ⟨rfl, rfl, ?_, by simp, by have := HR.out.sz; simp; omega⟩
                refine Nat.le_trans (List.length_filter_le ..) ?_
                rw [List.length_take]; omega
              intro v' w' hr' hb'
              have HR' := Lib.hid (HR.out.next (((((Below.refl B wr).alloc HR.out.sz _).alloc (by have := HR.out.sz; simp; omega) _)).trans hb') HN.out)
              have HO' := Lib.hid hr'
              clear hr' hb'
              go_wp2_with fail
              go_roundw
              case rel =>
                refine ⟨k + 1, by omega, by go_num, HR'.out, ?_⟩
                rw [HST.out]
                exact HO'.out
              case measure => simp [intOf]; omega
            | false =>
              have HST := Lib.hid (show ((dirL true L).take (k + 1)).filter (inU lo hi (bdOf hi)) = ((dirL true L).take k).filter (inU lo hi (bdOf hi)) ++ [] by rw [HST0.out]; simp [inU, lB, h1, bdOf, h2, h3])
              go_wp2_with fail
              go_roundw
              case rel =>
                refine ⟨k + 1, by omega, by go_num, HR.out.next (((Below.refl B wr).alloc HR.out.sz _)) HN.out, ?_⟩
                rw [HST.out, List.append_nil]
                exact HO.out.alloc _
              case measure => simp [intOf]; omega
    · have hkl : k = L.length := by omega
      subst hkl
      have HS := Lib.hid (show ((dirL back L).take L.length).filter (inU lo hi (bdOf hi)) = scanL lo hi back L by rw [List.take_of_length_le (by rw [dirL_len]; exact Nat.le_refl _)]; rfl)
      go_wp2_with fail
      go_ret
      refine ⟨_, rfl, ?_, HR.out.b⟩
      have := HO.out
      rw [HS.out] at this
      exact PrAt.of_own rfl this
theorem rScan_any (o : Int) (v : Value) (L : List Pr) (lo hi : Bs) (back : Bool) (w : World) (hv : PrAt w v L) (hl : L.length ≤ 5000) :
    Calls Try.prog 17 #[.agg #[.int .i64 o, v], .string lo, .string hi, .bool back] w (RScanOut (scanL lo hi back L) w) := by
  have hv2 := hv
  rcases hv with ⟨rfl, hL⟩ | ⟨g, c, rfl, h1, h2, h3, h4⟩
  · have HR := Lib.hid (SW.start (o := o) hv2)
    have hs : scanL lo hi back L = [] := by rw [hL]; unfold scanL dirL; cases back <;> rfl
    rw [hs]
    clear hv2 hL hs
    go_enter Try.func17, Try.ntmps17
    go_wp2_with fail
    refine wp_loop_rounds 1 ?_
    rw [rounds_succ]
    go_wp2_with fail
    go_ret
    exact ⟨_, rfl, .inl ⟨rfl, rfl⟩, HR.out.b⟩
  · exact rScan_some o g c L lo hi back w hv2 hl
end Go.Proofs.Ytegljepgncicjaa
/- Btree: New; filled. -/
namespace Go.Proofs.Ytegljepgncicjaa
open Go.ChangeShapes Go.WideShapes Go.ChangeAt Go.RowKit Go.Deep Go.Shelf
set_option linter.unusedVariables false
set_option linter.unusedSimpArgs false
theorem New_ok (o : Nat) (h4 : 4 ≤ o) (h6 : o ≤ 256) (W : World) :
    Calls Try.prog 10 #[.int .i64 o] W fun e W' => e = .returned (.tuple #[.pointer (some ⟨W.heap.size, 0, none⟩), .int .i64 0]) ∧ W' = W.alloc (.cells #[.int .i64 o, .int .i64 0, .pointer none] 68) := by
  have d1 : decide ((o : Int) < 4) = false := decide_eq_false (by omega)
  have d2 : decide ((256 : Int) < o) = false := decide_eq_false (by omega)
  go_enter Try.func10, Try.ntmps10
  go_wp2_with fail
  go_ret2
  exact ⟨rfl, rfl⟩
theorem New_no (o : Int) (h : o < 4 ∨ 256 < o) (W : World) :
    Calls Try.prog 10 #[.int .i64 o] W fun e W' => e = .returned (.tuple #[.pointer none, .int .i64 1]) ∧ W' = W := by
  by_cases h1 : o < 4
  · have d1 : decide (o < 4) = true := decide_eq_true h1
    go_enter Try.func10, Try.ntmps10
    go_wp2_with fail
    go_ret2
    exact ⟨rfl, rfl⟩
  · have d1 : decide (o < 4) = false := decide_eq_false h1
    have d2 : decide (256 < o) = true := decide_eq_true (by omega)
    go_enter Try.func10, Try.ntmps10
    go_wp2_with fail
    go_ret2
    exact ⟨rfl, rfl⟩
theorem tr_new (o : Nat) (h4 : 4 ≤ o) (h6 : o ≤ 256) (W : World) : Tr (W.alloc (.cells #[.int .i64 o, .int .i64 0, .pointer none] 68)) W.heap.size o [] (fun k => k = W.heap.size) :=
  ⟨none, ⟨fun _ => none, fun _ => none⟩, fun _ _ => .bool false, fun k => (k, 9), ⟨Box.new W [.int .i64 o, .int .i64 0, .pointer none] 68, fun N nd hN => (by cases hN), fun k ⟨N, nd, hN, _⟩ => (by cases hN), rfl, fun k hk => by rw [hk]; simp, List.Pairwise.nil, rfl, h4, h6⟩⟩
/-- a slice of strings that came in -/
def KeysArg (w : World) (v : Value) (xs : List Bs) : Prop :=
  ∃ a c, v = .slice a xs.length c ∧ (0 < xs.length → ∃ B o, a = some ⟨B, o, none⟩ ∧ B < w.heap.size ∧ ∀ j, j < xs.length → w.cell? ⟨B, o + j, none⟩ = some (.string (sx xs j)))
theorem KeysArg.below {w w' : World} {v : Value} {xs : List Bs} (h : KeysArg w v xs) (hb : Below w.heap.size w w') : KeysArg w' v xs := by
  obtain ⟨a, c, rfl, h⟩ := h
  refine ⟨a, c, rfl, fun h0 => ?_⟩
  obtain ⟨B, o, h1, h2, h3⟩ := h h0
  exact ⟨B, o, h1, Nat.lt_of_lt_of_le h2 hb.size, fun j hj => (hb.cell (p := ⟨B, o + j, none⟩) h2).trans (h3 j hj)⟩
/-- a tree that holds L and a boxed tree of the reference that holds M -/
structure FB (w0 : World) (T R o : Nat) (L M : List Pr) (Y : Nat → Prop) (v : Value) (W : World) : Prop where
  tr : Tr W T o L Y
  pr : PrAt W v M
  bx : Box W R [.int .i64 o, v]
  vy : ∀ k, v.ownBlock = some k → ¬ Y k
  ry : ¬ Y R
  y0 : ∀ k, Y k → w0.heap.size ≤ k
  r0 : w0.heap.size ≤ R
  vr : ∀ k, v.ownBlock = some k → k ≠ R
  v0 : ∀ k, v.ownBlock = some k → w0.heap.size ≤ k
  b : Below w0.heap.size w0 W
section
variable {w0 W W1 : World} {T R o : Nat} {L M : List Pr} {Y : Nat → Prop} {v : Value}
theorem FB.kept {S : Nat → Prop} (h : FB w0 T R o L M Y v W) (hk : Kept S W W1) (h1 : ∀ k, Y k → ¬ S k) (h2 : ∀ k, v.ownBlock = some k → ¬ S k) (h3 : ¬ S R) (h4 : ∀ k, S k → w0.heap.size ≤ k) : FB w0 T R o L M Y v W1 :=
  ⟨h.tr.kept hk h1, h.pr.kept hk h2, h.bx.kept hk h3, h.vy, h.ry, h.y0, h.r0, h.vr, h.v0, h.b.trans (hk.below h.b.size h4)⟩
theorem FB.below (h : FB w0 T R o L M Y v W) (hb : Below W.heap.size W W1) : FB w0 T R o L M Y v W1 := by
  have hk : Kept (fun k => ¬ k < W.heap.size) W W1 := ⟨hb.os, hb.tape, hb.output, hb.size, fun k hk _ => hb.block k hk⟩
  exact h.kept hk (fun k hy hs => hs (h.tr.yl k hy)) (fun k hk hs => hs (h.pr.own_lt k hk)) (fun hs => hs h.bx.lt) (fun k hs => Nat.le_trans h.b.size (Nat.le_of_not_lt hs))
theorem FB.cast {L' : List Pr} (h : FB w0 T R o L L Y v W) (e : L' = L) : FB w0 T R o L' L' Y v W := by subst e; exact h
theorem FB.drew (h : FB w0 T R o L M Y v W) : FB w0 T R o L M Y v W.drew := h.below ⟨rfl, rfl, rfl, Nat.le_refl _, fun _ _ => rfl⟩
theorem FB.drewN (h : FB w0 T R o L M Y v W) (q : Nat) : FB w0 T R o L M Y v (W.drewN q) := h.below ⟨rfl, rfl, rfl, Nat.le_refl _, fun _ _ => rfl⟩
/-- the tree has been worked on -/
theorem FB.tree {L' : List Pr} (h : FB w0 T R o L M Y v W) (ht : Tr W1 T o L' (GrowY Y W W1)) (hk : Kept Y W W1) : FB w0 T R o L' M (GrowY Y W W1) v W1 := by
  refine ⟨ht, h.pr.kept hk h.vy, h.bx.kept hk h.ry, fun k hk2 hy => ?_, fun hy => ?_, fun k hy => ?_, h.r0, h.vr, h.v0, h.b.trans (hk.below h.b.size h.y0)⟩
  · rcases hy with hy | hy
    · exact h.vy k hk2 hy
    · have := h.pr.own_lt k hk2; omega
  · rcases hy with hy | hy
    · exact h.ry hy
    · have := h.bx.lt; omega
  · rcases hy with hy | hy
    · exact h.y0 k hy
    · have := h.b.size; omega
/-- the reference's tree has been worked on and is stored again -/
theorem FB.ref {M' : List Pr} {a : Option Addr} {n c : Nat} (h : FB w0 T R o L M Y v W) (hb : Below W.heap.size W W1) (hp : PrAt W1 (.slice a n c) M') (hf : ∀ k, (Value.slice a n c).ownBlock = some k → v.ownBlock = some k ∨ W.heap.size ≤ k) :
    FB w0 T R o L M' Y (.slice a n c) ((W1.setCell ⟨R, 0, none⟩ (.int .i64 o)).setCell ⟨R, 1, none⟩ (.slice a n c)) := by
  have h1 := h.below hb
  have hk : Kept (fun k => k = R) W1 ((W1.setCell ⟨R, 0, none⟩ (.int .i64 o)).setCell ⟨R, 1, none⟩ (.slice a n c)) := (Kept.refl (fun k => k = R) _).setCells R 0 [.int .i64 o, .slice a n c] (.inl rfl)
  have hvr : ∀ k, (Value.slice a n c).ownBlock = some k → k ≠ R := fun k hk => by
    rcases hf k hk with h2 | h2
    · exact h.vr k h2
    · have := h.bx.lt; omega
  refine ⟨h1.tr.kept hk (fun k hy e => h.ry (by rw [← e]; exact hy)), hp.kept hk hvr, (h1.bx.setCell 0 (.int .i64 o) (by simp)).setCell 1 (.slice a n c) (by simp), fun k hk hy => ?_, h.ry, h.y0, h.r0, hvr, fun k hk => (hf k hk).elim (h.v0 k) (fun h2 => Nat.le_trans h.b.size h2), h1.b.trans (hk.below h1.b.size (fun k e => by rw [e]; exact h.r0))⟩
  rcases hf k hk with h2 | h2
  · exact h.vy k h2 hy
  · have := h.tr.yl k hy; omega
end
/-- the pairs after n steps of filled -/
def fillL (ks : List Bs) : Nat → List Pr
  | 0 => []
  | i + 1 => putL (fillL ks i) (sx ks i) (sx ks (ks.length - 1 - i))
theorem putL_len1 (L : List Pr) (k v : Bs) : (putL L k v).length ≤ L.length + 1 := by
  rw [putL_len]; split <;> omega
theorem fillL_len (ks : List Bs) : ∀ n, (fillL ks n).length ≤ n
  | 0 => by simp [fillL]
  | n + 1 => by
    have := fillL_len ks n
    have := putL_len1 (fillL ks n) (sx ks n) (sx ks (ks.length - 1 - n))
    unfold fillL
    omega
def FilledOut (w0 : World) (o : Nat) (L : List Pr) (e : Ending) (W' : World) : Prop :=
  ∃ T v Y, e = .returned (.tuple #[.pointer (some ⟨T, 0, none⟩), .agg #[.int .i64 o, v]]) ∧ Tr W' T o L Y ∧ PrAt W' v L ∧ (∀ k, v.ownBlock = some k → ¬ Y k ∧ w0.heap.size ≤ k) ∧ (∀ k, Y k → w0.heap.size ≤ k) ∧ Below w0.heap.size w0 W'
set_option maxRecDepth 100000 in
set_option maxHeartbeats 1600000 in
theorem filled_any (o : Nat) (h4 : 4 ≤ o) (h6 : o ≤ 256) (kv : Value) (ks : List Bs) (w0 : World) (hk : KeysArg w0 kv ks) (hl : ks.length ≤ 400) :
    Calls Try.prog 16 #[.int .i64 o, kv] w0 (FilledOut w0 o (fillL ks ks.length)) := by
  obtain ⟨ka, kc, rfl, hkc⟩ := hk
  have HK := Lib.hid hkc
  clear hkc
  go_enter Try.func16, Try.ntmps16
  go_wp2_with fail
  refine (New_ok o h4 h6 _).mono ?_
  rintro e w1 ⟨rfl, hw⟩
  obtain rfl := hw.symm
  have HK0 := Lib.hid (show ∀ w' : World, Below w0.heap.size w0 w' → 0 < ks.length → ∃ B o, ka = some ⟨B, o, none⟩ ∧ B < w0.heap.size ∧ ∀ j, j < ks.length → w'.cell? ⟨B, o + j, none⟩ = some (.string (sx ks j)) from fun w' hb h0 => by
    obtain ⟨B, o, h1, h2, h3⟩ := HK.out h0
    exact ⟨B, o, h1, h2, fun j hj => (hb.cell (p := ⟨B, o + j, none⟩) h2).trans (h3 j hj)⟩)
  clear HK
  have hF0 := Box.new w0 [.int .i64 0, .slice none 0 0] 30
  have hB0 : Below w0.heap.size w0 (w0.alloc (.cells #[.int .i64 0, .slice none 0 0] 30)) := (Below.refl _ w0).alloc (Nat.le_refl _) _
  have hFz : (w0.alloc (.cells #[.int .i64 0, .slice none 0 0] 30)).heap.size = w0.heap.size + 1 := by simp
  go_wp2_with fail
  have hT0 := tr_new o h4 h6 (w0.alloc (.cells #[.int .i64 0, .slice none 0 0] 30))
  rw [hFz] at hT0
  generalize w0.alloc (.cells #[.int .i64 0, .slice none 0 0] 30) = wa at *
  refine (rNew_ok o _ (by omega) (by omega)).mono ?_
  rintro e w2 ⟨rfl, hb2⟩
  go_wp2_with fail
  have hkb : Kept (fun k => ¬ k < w0.heap.size + 2) (wa.alloc (.cells #[.int .i64 o, .int .i64 0, .pointer none] 68)) w2 := ⟨hb2.os, hb2.tape, hb2.output, hb2.size, fun k hk hs => hb2.block k hk⟩
  have hw2 : w0.heap.size + 2 ≤ w2.heap.size := by have := hb2.size; rw [World.size_alloc, hFz] at this; omega
  have hT2 := (hT0.kept hkb (fun k hk hs => hs (by omega))).kept ((Kept.refl (fun _ => False) w2).alloc (.cells #[.int .i64 o, .slice none 0 0] 30)) (fun _ _ h => h)
  have hR0 := Box.new w2 [.int .i64 o, .slice none 0 0] 30
  have hbw : Below wa.heap.size wa (w2.alloc (.cells #[.int .i64 o, .slice none 0 0] 30)) := (((Below.refl _ wa).alloc (Nat.le_refl _) _).trans (hb2.mono (by simp))).alloc (by omega) _
  have hfb : FB wa (w0.heap.size + 1) w2.heap.size o [] [] (fun k => k = w0.heap.size + 1) (.slice none 0 0) (w2.alloc (.cells #[.int .i64 o, .slice none 0 0] 30)) :=
    ⟨hT2, .inl ⟨rfl, rfl⟩, hR0, fun k hk => by simp [Value.ownBlock] at hk, fun e => by omega, fun k hk => by omega, by omega, fun k hk => by simp [Value.ownBlock] at hk, fun k hk => by simp [Value.ownBlock] at hk, hbw⟩
  have HFB := Lib.hid hfb
  have HF := Lib.hid (And.intro hF0 hFz)
  clear hT0 hT2 hR0 hkb hbw hfb hb2 hw2 hF0 hFz
  generalize w2.heap.size = R at HFB ⊢
  generalize w2.alloc _ = W1 at HFB ⊢
  have HB0 := Lib.hid hB0
  clear hB0
  go_loopw [10] (fun i wr => ∃ (k : Nat) (Y : Nat → Prop) (v : Value), k ≤ ks.length ∧ i = .int .i64 k ∧ FB wa (w0.heap.size + 1) R o (fillL ks k) (fillL ks k) Y v wr) (fun i _ => ks.length - (intOf i).toNat)
  case atStart => exact ⟨0, _, _, Nat.zero_le _, rfl, HFB.out⟩
  case round =>
    clear HFB
    obtain ⟨k, Y, v, hk, rfl, hfb⟩ := hrel
    have HFB := Lib.hid hfb
    clear hfb
    have HLn := Lib.hid (fillL_len ks k)
    by_cases hlt : k < ks.length
    · obtain ⟨B, bo, rfl, hBl, hcell⟩ := HK0.out wr (HB0.out.trans (HFB.out.b.mono HB0.out.size)) (by omega)
      have HCE := Lib.hid (show ∀ w', Below wa.heap.size wa w' → w'.cell? ⟨B, bo + k, none⟩ = some (.string (sx ks k)) ∧ w'.cell? ⟨B, bo + (ks.length - 1 - k), none⟩ = some (.string (sx ks (ks.length - 1 - k))) from fun w' hb => by
        obtain ⟨B', bo', he, _, h⟩ := HK0.out w' (HB0.out.trans (hb.mono HB0.out.size)) (by omega)
        cases he
        exact ⟨h k hlt, h _ (by omega)⟩)
      have a0 := hcell k hlt
      have a1 := hcell (ks.length - 1 - k) (by omega)
      have hw1 : IntKind.i64.wrap ((ks.length : Int) - 1) = ((ks.length - 1 : Nat) : Int) := by rw [IntKind.wrap_i64]; omega
      have hw2 : IntKind.i64.wrap (((ks.length - 1 : Nat) : Int) - (k : Int)) = ((ks.length - 1 - k : Nat) : Int) := by rw [IntKind.wrap_i64]; omega
      have HST : Hid (fillL ks (k + 1) = putL (fillL ks k) (sx ks k) (sx ks (ks.length - 1 - k))) := Lib.hid rfl
      have hjl : ks.length - 1 - k < ks.length := by omega
      clear hcell hBl
      generalize sx ks k = x at *
      generalize sx ks (ks.length - 1 - k) = y at *
      generalize ks.length - 1 - k = j at *
      have HA := Lib.hid (And.intro a0 a1)
      go_wp2_with fail
      go_still_tail 13, (by kernel_rfl)
      change wpList _ _ _ _ _ wr.drew
      clear a0 a1
      go_wp2_with fail
      refine (Put_T wr.drew (w0.heap.size + 1) o (fillL ks k) Y x y HFB.out.drew.tr (by have := HLn.out; omega)).mono ?_
      rintro e W2 ⟨rfl, ht2, hk2⟩
      have HF2 := Lib.hid (HFB.out.drew.tree ht2 hk2)
      clear ht2 hk2 HFB HA
      obtain ⟨va, vc, rfl⟩ := HF2.out.pr.len
      have r0 := HF2.out.bx.cell 0 _ rfl
      have r1 := HF2.out.bx.cell 1 _ rfl
      obtain ⟨a0, a1⟩ := HCE.out W2 HF2.out.b
      go_wp2_with fail
      refine wp_region_ordW 18 13 [(0, 1), (1, 0), (2, 0), (3, 0), (4, 1), (5, 0), (6, 0), (7, 0), (8, 0), (9, 0), (10, 0), (11, 0), (12, 1), (13, 3), (14, 0), (15, 0), (16, 0), (17, 3)] (fun X => X.cell? ⟨R, 0, none⟩ = some (.int .i64 o) ∧ X.cell? ⟨R, 1, none⟩ = some (.slice va (fillL ks k).length vc) ∧ X.cell? ⟨B, bo + k, none⟩ = some (.string x) ∧ X.cell? ⟨B, bo + j, none⟩ = some (.string y)) (by kernel_rfl) (by kernel_rfl) ⟨r0, r1, a0, a1⟩ (fun c a d v w h => by cases d <;> exact h) ?_
      apply wpOrd_read1
      case hi => rfl
      case hw => rfl
      case hy => (intro w hw; obtain ⟨h1, h2, h3, h4⟩ := hw; go_simp; try rfl)
      intro K hK; go_simp; refine hK _ _ ?_; clear hK K
      apply wpOrd_read0
      case hi => rfl
      case hw => rfl
      case hy => (intro w; go_simp; try rfl)
      intro K hK; go_simp; refine hK _ _ ?_; clear hK K
      apply wpOrd_read0
      case hi => rfl
      case hw => rfl
      case hy => (intro w; go_simp; try rfl)
      intro K hK; go_simp; refine hK _ _ ?_; clear hK K
      apply wpOrd_read0
      case hi => rfl
      case hw => rfl
      case hy => (intro w; go_simp; try rfl)
      intro K hK; go_simp; refine hK _ _ ?_; clear hK K
      apply wpOrd_read1
      case hi => rfl
      case hw => rfl
      case hy => (intro w hw; obtain ⟨h1, h2, h3, h4⟩ := hw; go_simp; try rfl)
      intro K hK; go_simp; refine hK _ _ ?_; clear hK K
      apply wpOrd_read0
      case hi => rfl
      case hw => rfl
      case hy => (intro w; go_simp; try rfl)
      intro K hK; go_simp; refine hK _ _ ?_; clear hK K
      apply wpOrd_read0
      case hi => rfl
      case hw => rfl
      case hy => (intro w; go_simp; try rfl)
      intro K hK; go_simp; refine hK _ _ ?_; clear hK K
      apply wpOrd_read0
      case hi => rfl
      case hw => rfl
      case hy => (intro w; go_simp; try rfl)
      intro K hK; go_simp; refine hK _ _ ?_; clear hK K
      apply wpOrd_read0
      case hi => rfl
      case hw => rfl
      case hy => (intro w; go_simp; try rfl)
      intro K hK; go_simp; refine hK _ _ ?_; clear hK K
      apply wpOrd_read0
      case hi => rfl
      case hw => rfl
      case hy => (intro w; go_simp; try rfl)
      intro K hK; go_simp; refine hK _ _ ?_; clear hK K
      apply wpOrd_read0
      case hi => rfl
      case hw => rfl
      case hy => (intro w; go_simp; try rfl)
      intro K hK; go_simp; refine hK _ _ ?_; clear hK K
      apply wpOrd_read0
      case hi => rfl
      case hw => rfl
      case hy => (intro w; go_simp; try rfl)
      intro K hK; go_simp; refine hK _ _ ?_; clear hK K
      apply wpOrd_read1
      case hi => rfl
      case hw => rfl
      case hy => (intro w hw; obtain ⟨h1, h2, h3, h4⟩ := hw; go_simp; try rfl)
      intro K hK; go_simp; refine hK _ _ ?_; clear hK K
      apply wpOrd_eff3
      case hi => rfl
      case hw => rfl
      intro K hK
      go_simp
      refine (rPut_any o (.slice va (fillL ks k).length vc) (fillL ks k) x y W2.drew HF2.out.drew.pr (by have := HLn.out; omega)).mono ?_
      rintro e W3 ⟨v3, rfl, hp3, hb3, hf3⟩
      obtain ⟨a3, c3, rfl⟩ := hp3.len
      have HF3 := Lib.hid (HF2.out.drew.ref hb3 hp3 hf3)
      have hf3b := HF2.out.drew.below hb3
      have s0 := hf3b.bx.cell 0 _ rfl
      have s1 := hf3b.bx.cell 1 _ rfl
      have sf := hf3b.bx.free
      have sl := hf3b.bx.lt
      refine hK _ _ ?_
      clear hK K hp3 hb3 hf3 hf3b HF2
      apply wpOrd_read0
      case hi => rfl
      case hw => rfl
      case hy => (intro w; go_simp; try rfl)
      intro K hK; go_simp; refine hK _ _ ?_; clear hK K
      apply wpOrd_read0
      case hi => rfl
      case hw => rfl
      case hy => (intro w; go_simp; try rfl)
      intro K hK; go_simp; refine hK _ _ ?_; clear hK K
      apply wpOrd_read0
      case hi => rfl
      case hw => rfl
      case hy => (intro w; go_simp; try rfl)
      intro K hK; go_simp; refine hK _ _ ?_; clear hK K
      apply wpOrd_eff3
      case hi => rfl
      case hw => rfl
      intro K hK
      go_simp
      refine hK _ _ (wpOrd_nil ?_)
      clear hK K
      go_wp2_with fail
      go_roundw
      case rel => exact ⟨k + 1, _, _, hlt, by go_num, HF3.out.cast HST.out⟩
      case measure => simp [intOf]; omega
    · have hkn : k = ks.length := by omega
      subst hkn
      obtain ⟨va, vc, rfl⟩ := HFB.out.pr.len
      have r0 := HFB.out.bx.cell 0 _ rfl
      have r1 := HFB.out.bx.cell 1 _ rfl
      have hbF := HF.out.1.far HFB.out.b (by rw [HF.out.2]; omega)
      have f0 := hbF.cell 0 _ rfl
      have f1 := hbF.cell 1 _ rfl
      have ff := hbF.free
      have fl := hbF.lt
      clear hbF
      go_wp2_with fail
      refine wp_region_ordW 4 3 [(0, 0), (1, 1), (2, 0), (3, 3)] (fun X => X.cell? ⟨R, 0, none⟩ = some (.int .i64 o) ∧ X.cell? ⟨R, 1, none⟩ = some (.slice va (fillL ks ks.length).length vc)) (by kernel_rfl) (by kernel_rfl) ⟨r0, r1⟩ (fun c a d v w h => by cases d <;> exact h) ?_
      apply wpOrd_read0
      case hi => rfl
      case hw => rfl
      case hy => (intro w; go_simp; try rfl)
      intro K hK; go_simp; refine hK _ _ ?_; clear hK K
      apply wpOrd_read1
      case hi => rfl
      case hw => rfl
      case hy => (intro w hw; obtain ⟨h1, h2⟩ := hw; go_simp; try rfl)
      intro K hK; go_simp; refine hK _ _ ?_; clear hK K
      apply wpOrd_read0
      case hi => rfl
      case hw => rfl
      case hy => (intro w; go_simp; try rfl)
      intro K hK; go_simp; refine hK _ _ ?_; clear hK K
      apply wpOrd_eff3
      case hi => rfl
      case hw => rfl
      intro K hK
      go_simp
      refine hK _ _ (wpOrd_nil ?_)
      clear hK K
      go_wp2_with fail
      have hfz := HF.out.2
      have hfr := HFB.out.drew
      have hst : Kept (fun k => k = w0.heap.size) wr ((wr.setCell ⟨w0.heap.size, 0, none⟩ (.int .i64 o)).setCell ⟨w0.heap.size, 1, none⟩ (.slice va (fillL ks ks.length).length vc)) := (Kept.refl (fun k => k = w0.heap.size) _).setCells w0.heap.size 0 [.int .i64 o, .slice va (fillL ks ks.length).length vc] (.inl rfl)
      have hst2 := hst.drew
      have hbx := (((HF.out.1.far HFB.out.b (by omega)).setCell 0 (.int .i64 o) (by simp)).setCell 1 (.slice va (fillL ks ks.length).length vc) (by simp)).drew
      have e0 := hbx.cell 0 _ rfl
      have e1 := hbx.cell 1 _ rfl
      refine bodyPost_ret (v := .tuple #[.pointer (some ⟨w0.heap.size + 1, 0, none⟩), .agg #[.int .i64 o, .slice va (fillL ks ks.length).length vc]]) (by simp [results, Try.results16, go_sem, e0, e1]) rfl ?_
      refine ⟨_, _, Y, rfl, HFB.out.tr.kept hst2 (fun k hy e => ?_), HFB.out.pr.kept hst2 (fun k hk e => ?_), fun k hk => ⟨HFB.out.vy k hk, ?_⟩, fun k hy => ?_, (HB0.out.trans (HFB.out.b.mono HB0.out.size)).trans (hst2.below ?_ (fun k e => ?_))⟩
      · have := HFB.out.y0 k hy; omega
      · have := HFB.out.v0 k hk; omega
      · have := HFB.out.v0 k hk; omega
      · have := HFB.out.y0 k hy; omega
      · have := HFB.out.b.size; omega
      · omega
end Go.Proofs.Ytegljepgncicjaa
/- Btree: the law Scans. -/
namespace Go.Proofs.Ytegljepgncicjaa
open Go.ChangeShapes Go.WideShapes Go.ChangeAt Go.RowKit Go.Deep Go.Shelf
set_option linter.unusedVariables false
set_option linter.unusedSimpArgs false
theorem prAt_take {W : World} {g n c : Nat} {L : List Pr} (h : PrAt W (.slice (some ⟨g, 0, none⟩) L.length c) L) (hn : n ≤ L.length) : PrAt W (.slice (some ⟨g, 0, none⟩) n c) (L.take n) := by
  rcases h with ⟨h, _⟩ | ⟨g', c', e, h1, h2, h3, h4⟩
  · cases h
  · cases e
    have hl : (L.take n).length = n := by rw [List.length_take]; omega
    refine .inr ⟨g, c, by rw [hl], by omega, h2, h3, fun j hj => ?_⟩
    have := h4 j (by omega)
    rw [List.getElem_take]
    exact this
theorem FilledOut.split {w0 W' : World} {o : Nat} {L : List Pr} {e : Ending} (h : FilledOut w0 o L e W') : ∃ T va vc, e = .returned (.tuple #[.pointer (some ⟨T, 0, none⟩), .agg #[.int .i64 o, .slice va L.length vc]]) ∧ (∃ Y, Tr W' T o L Y ∧ (∀ k, (Value.slice va L.length vc).ownBlock = some k → ¬ Y k ∧ w0.heap.size ≤ k) ∧ (∀ k, Y k → w0.heap.size ≤ k)) ∧ PrAt W' (.slice va L.length vc) L ∧ Below w0.heap.size w0 W' := by
  obtain ⟨T, v, Y, rfl, h1, h2, h3, h4, h5⟩ := h
  obtain ⟨a, c, rfl⟩ := h2.len
  exact ⟨T, a, c, rfl, ⟨Y, h1, h3, h4⟩, h2, h5⟩
theorem Tr.below {W W' : World} {T o : Nat} {L : List Pr} {Y : Nat → Prop} (h : Tr W T o L Y) (hb : Below W.heap.size W W') : Tr W' T o L Y :=
  h.kept (S := fun k => ¬ k < W.heap.size) ⟨hb.os, hb.tape, hb.output, hb.size, fun k hk hs => hb.block k (Decidable.not_not.1 hs)⟩ (fun k hy hs => hs (h.yl k hy))
theorem pairs_1000 (T o : Nat) (lo hi : Bs) (back : Bool) (L : List Pr) (Y : Nat → Prop) (w : World) (h : Tr w T o L Y) (hl : L.length ≤ 1000) :
    Calls Try.prog 19 #[.pointer (some ⟨T, 0, none⟩), .string lo, .string hi, .bool back, .int .i64 1000] w (PairsOut (scanL lo hi back L) w) := by
  have := pairs_T T o lo hi back 1000 L Y w h hl
  rw [List.take_of_length_le (Nat.le_trans (scanL_len lo hi back L) hl)] at this
  exact this
set_option maxRecDepth 100000 in
set_option maxHeartbeats 1600000 in
theorem scans_e1 (o : Int) (ka : Option Addr) (kl kc : Nat) (lo hi : Bs) (back : Bool) (st : Int) (w : World) (h : o < 4) :
    Calls Try.prog 4 #[.int .i64 o, .slice ka kl kc, .agg #[.string lo, .string hi, .bool back, .int .u8 st]] w (LawOut w) := by
  have HB := Lib.hid ((Below.refl w.heap.size w).alloc (Nat.le_refl _) (.cells #[.string lo, .string hi, .bool back, .int .u8 st] 42))
  have d1 : decide (o < 4) = true := decide_eq_true h
  go_enter Try.func4, Try.ntmps4
  go_wp2_with fail
  refine (awake_any _).mono ?_
  rintro e w1 ⟨rfl, hb⟩
  have HB2 := Lib.hid (HB.out.trans (hb.mono HB.out.size))
  clear hb
  go_wp2_with fail
  go_ret
  exact ⟨rfl, HB2.out⟩
set_option maxRecDepth 100000 in
set_option maxHeartbeats 1600000 in
theorem scans_e2 (o : Int) (ka : Option Addr) (kl kc : Nat) (lo hi : Bs) (back : Bool) (st : Int) (w : World) (h : 256 < o) :
    Calls Try.prog 4 #[.int .i64 o, .slice ka kl kc, .agg #[.string lo, .string hi, .bool back, .int .u8 st]] w (LawOut w) := by
  have HB := Lib.hid ((Below.refl w.heap.size w).alloc (Nat.le_refl _) (.cells #[.string lo, .string hi, .bool back, .int .u8 st] 42))
  have d1 : decide (o < 4) = false := decide_eq_false (by omega)
  have d2 : decide (256 < o) = true := decide_eq_true h
  go_enter Try.func4, Try.ntmps4
  go_wp2_with fail
  refine (awake_any _).mono ?_
  rintro e w1 ⟨rfl, hb⟩
  have HB2 := Lib.hid (HB.out.trans (hb.mono HB.out.size))
  clear hb
  go_wp2_with fail
  go_ret
  exact ⟨rfl, HB2.out⟩
set_option maxRecDepth 100000 in
set_option maxHeartbeats 1600000 in
theorem scans_e3 (o : Int) (ka : Option Addr) (kl kc : Nat) (lo hi : Bs) (back : Bool) (st : Int) (w : World) (h1 : 4 ≤ o) (h2 : o ≤ 256) (h : 300 < kl) :
    Calls Try.prog 4 #[.int .i64 o, .slice ka kl kc, .agg #[.string lo, .string hi, .bool back, .int .u8 st]] w (LawOut w) := by
  have HB := Lib.hid ((Below.refl w.heap.size w).alloc (Nat.le_refl _) (.cells #[.string lo, .string hi, .bool back, .int .u8 st] 42))
  have d1 : decide (o < 4) = false := decide_eq_false (by omega)
  have d2 : decide (256 < o) = false := decide_eq_false (by omega)
  have d3 : decide ((300 : Int) < (kl : Int)) = true := decide_eq_true (by omega)
  go_enter Try.func4, Try.ntmps4
  go_wp2_with fail
  refine (awake_any _).mono ?_
  rintro e w1 ⟨rfl, hb⟩
  have HB2 := Lib.hid (HB.out.trans (hb.mono HB.out.size))
  clear hb
  go_wp2_with fail
  go_ret
  exact ⟨rfl, HB2.out⟩
set_option maxRecDepth 100000 in
set_option maxHeartbeats 3200000 in
theorem scans_go (o : Nat) (h4 : 4 ≤ o) (h6 : o ≤ 256) (ka : Option Addr) (kc : Nat) (ks : List Bs) (lo hi : Bs) (back : Bool) (st : Nat) (hst : st < 256) (w : World) (hk : KeysArg w (.slice ka ks.length kc) ks) (hl : ks.length ≤ 300) :
    Calls Try.prog 4 #[.int .i64 o, .slice ka ks.length kc, .agg #[.string lo, .string hi, .bool back, .int .u8 st]] w (LawOut w) := by
  have HB := Lib.hid ((Below.refl w.heap.size w).alloc (Nat.le_refl _) (.cells #[.string lo, .string hi, .bool back, .int .u8 st] 42))
  have HXB := Lib.hid (Box.new w [.string lo, .string hi, .bool back, .int .u8 st] 42)
  have HK := Lib.hid (hk.below HB.out)
  have HLL := Lib.hid (fillL_len ks ks.length)
  have d1 : decide ((o : Int) < 4) = false := decide_eq_false (by omega)
  have d2 : decide ((256 : Int) < (o : Int)) = false := decide_eq_false (by omega)
  have d3 : decide ((300 : Int) < (ks.length : Int)) = false := decide_eq_false (by omega)
  clear hk
  go_enter Try.func4, Try.ntmps4
  go_wp2_with fail
  clear d1 d2 d3
  refine (filled_any o h4 h6 (.slice ka ks.length kc) ks _ HK.out (by omega)).mono ?_
  rintro e W1 hF
  obtain ⟨T, va, vc, rfl, hY, hp, hb⟩ := hF.split
  have HFI := Lib.hid (And.intro hY (And.intro hp hb))
  obtain ⟨L, hL⟩ : ∃ L, L = fillL ks ks.length := ⟨_, rfl⟩
  rw [← hL] at HFI HLL ⊢
  have HX1 := Lib.hid (HXB.out.keep hb)
  have HB1 := Lib.hid (HB.out.trans (hb.mono HB.out.size))
  clear hF hY hp hb hL HK HXB HB
  have x0 := HX1.out.cell 0 _ rfl
  have x1 := HX1.out.cell 1 _ rfl
  have x2 := HX1.out.cell 2 _ rfl
  have hxl := HX1.out.lt
  have hxn := Nat.ne_of_lt HX1.out.lt
  go_wp2_with fail
  clear x0 x1 x2 hxl hxn
  have HR0 := Lib.hid (Box.new W1 [.int .i64 o, .slice va L.length vc] 30)
  have hbr : Below W1.heap.size W1 (W1.alloc (.cells #[.int .i64 o, .slice va L.length vc] 30)) := (Below.refl _ W1).alloc (Nat.le_refl _) _
  have HX2 := Lib.hid (HX1.out.keep hbr)
  have HB2 := Lib.hid (HB1.out.trans (hbr.mono HB1.out.size))
  have HT2 : Hid (∃ Y, Tr (W1.alloc (.cells #[.int .i64 o, .slice va L.length vc] 30)) T o L Y) := Lib.hid (by obtain ⟨⟨Y, h, _⟩, _⟩ := HFI.out; exact ⟨Y, h.below hbr⟩)
  have HP2 := Lib.hid (HFI.out.2.1.below hbr)
  clear hbr HX1 HB1 HFI
  generalize W1.heap.size = R at HR0 ⊢
  generalize W1.alloc _ = W2 at *
  refine (rScan_any o (.slice va L.length vc) L lo hi back W2 HP2.out (by have := HLL.out; omega)).mono ?_
  rintro e W3 ⟨v3, rfl, hp3, hb3⟩
  have HT3 : Hid (∃ Y, Tr W3 T o L Y) := Lib.hid (by obtain ⟨Y, h⟩ := HT2.out; exact ⟨Y, h.below hb3⟩)
  have HX3 := Lib.hid (HX2.out.keep hb3)
  have HB3 := Lib.hid (HB2.out.trans (hb3.mono HB2.out.size))
  have HSL := Lib.hid (scanL_len lo hi back L)
  obtain ⟨g3, c3, rfl⟩ := hp3.len
  have HP3 := Lib.hid hp3
  clear hp3 hb3 HX2 HB2 HT2 HP2 HR0
  have x3 := HX3.out.cell 3 _ rfl
  obtain ⟨D, hD⟩ : ∃ D, D = scanL lo hi back L := ⟨_, rfl⟩
  rw [← hD] at HP3 HSL
  rw [← hD]
  have HD := Lib.hid hD
  clear hD
  have hw0 : IntKind.i64.wrap (st : Int) = (st : Int) := by rw [IntKind.wrap_i64]; omega
  obtain ⟨Y, hT3⟩ := HT3.out
  have HT := Lib.hid hT3
  clear HT3 hT3
  rcases HP3.out with ⟨hv3, hD0⟩ | ⟨g, c', hv3, hg1, hg2, hg3, hg4⟩
  · have hDl : D.length = 0 := by rw [hD0]; rfl
    have hg0 : g3 = none ∧ c3 = 0 := by rw [hDl] at hv3; cases hv3; exact ⟨rfl, rfl⟩
    obtain ⟨rfl, rfl⟩ := hg0
    have hL2 := Lib.hid hD0
    clear hv3 hD0
    rw [hDl] at HP3
    rw [hDl]
    have HPn := Lib.hid (show PrAt W3 (.slice none 0 0) (D.take 0) by rw [hL2.out]; exact .inl ⟨rfl, by simp⟩)
    by_cases hst2 : 0 < st
    · have hd : decide ((0 : Int) < (st : Int)) = true := decide_eq_true (by omega)
      go_wp2_with fail
      refine wp_region_ordW 29 23 [(0, 0), (1, 0), (2, 1), (3, 0), (4, 1), (5, 0), (6, 1), (7, 0), (9, 0), (10, 0), (11, 0), (8, 2), (12, 2), (13, 0), (14, 0), (15, 0), (16, 1), (17, 0), (18, 1), (19, 0), (20, 1), (22, 0), (21, 2), (23, 3), (24, 0), (25, 0), (26, 3), (27, 0), (28, 0)] (fun U => U.cell? ⟨w.heap.size, 0, none⟩ = some (.string lo) ∧ U.cell? ⟨w.heap.size, 1, none⟩ = some (.string hi) ∧ U.cell? ⟨w.heap.size, 2, none⟩ = some (.bool back)) (by kernel_rfl) (by kernel_rfl) ⟨HX3.out.cell 0 _ rfl, HX3.out.cell 1 _ rfl, HX3.out.cell 2 _ rfl⟩ (fun c a d v w h => by cases d <;> exact h) ?_
      apply wpOrd_read0
      case hi => rfl
      case hw => rfl
      case hy => (intro w; go_simp; try rfl)
      intro K hK; go_simp; refine hK _ _ ?_; clear hK K
      apply wpOrd_read0
      case hi => rfl
      case hw => rfl
      case hy => (intro w; go_simp; try rfl)
      intro K hK; go_simp; refine hK _ _ ?_; clear hK K
      apply wpOrd_read1
      case hi => rfl
      case hw => rfl
      case hy => (intro w hw; obtain ⟨h1, h2, h3⟩ := hw; go_simp; try rfl)
      intro K hK; go_simp; refine hK _ _ ?_; clear hK K
      apply wpOrd_read0
      case hi => rfl
      case hw => rfl
      case hy => (intro w; go_simp; try rfl)
      intro K hK; go_simp; refine hK _ _ ?_; clear hK K
      apply wpOrd_read1
      case hi => rfl
      case hw => rfl
      case hy => (intro w hw; obtain ⟨h1, h2, h3⟩ := hw; go_simp; try rfl)
      intro K hK; go_simp; refine hK _ _ ?_; clear hK K
      apply wpOrd_read0
      case hi => rfl
      case hw => rfl
      case hy => (intro w; go_simp; try rfl)
      intro K hK; go_simp; refine hK _ _ ?_; clear hK K
      apply wpOrd_read1
      case hi => rfl
      case hw => rfl
      case hy => (intro w hw; obtain ⟨h1, h2, h3⟩ := hw; go_simp; try rfl)
      intro K hK; go_simp; refine hK _ _ ?_; clear hK K
      apply wpOrd_read0
      case hi => rfl
      case hw => rfl
      case hy => (intro w; go_simp; try rfl)
      intro K hK; go_simp; refine hK _ _ ?_; clear hK K
      apply wpOrd_read0
      case hi => rfl
      case hw => rfl
      case hy => (intro w; go_simp; try rfl)
      intro K hK; go_simp; refine hK _ _ ?_; clear hK K
      apply wpOrd_read0
      case hi => rfl
      case hw => rfl
      case hy => (intro w; go_simp; try rfl)
      intro K hK; go_simp; refine hK _ _ ?_; clear hK K
      apply wpOrd_read0
      case hi => rfl
      case hw => rfl
      case hy => (intro w; go_simp; try rfl)
      intro K hK; go_simp; refine hK _ _ ?_; clear hK K
      apply wpOrd_eff2
      case hi => rfl
      case hw => rfl
      intro K hK
      go_simp
      refine (pairs_T T o lo hi back 0 L Y W3.drew (HT.out.below ⟨rfl, rfl, rfl, Nat.le_refl _, fun _ _ => rfl⟩) (by have := HLL.out; omega)).mono ?_
      rintro e W4 ⟨v4, rfl, hr4, hb4⟩
      have hb34 : Below W3.heap.size W3 W4 := (Below.drew (Below.refl _ W3)).trans hb4
      have HP4 := Lib.hid (PrAt.of_own rfl hr4)
      have HV4 := Lib.hid (hr4.1)
      rw [← HD.out] at HP4
      have HT4 := Lib.hid (HT.out.below hb34)
      have HX4 := Lib.hid (HX3.out.keep hb34)
      have HB4 := Lib.hid (HB3.out.trans (hb34.mono HB3.out.size))
      have HQ4 := Lib.hid (HP3.out.below hb34)
      have HN4 := Lib.hid (HPn.out.below hb34)
      refine hK _ _ ⟨HX4.out.cell 0 _ rfl, HX4.out.cell 1 _ rfl, HX4.out.cell 2 _ rfl⟩ ?_
      clear hK K hr4 hb4 hb34 HT HX3 HB3 HP3 HPn
      apply wpOrd_eff2
      case hi => rfl
      case hw => rfl
      intro K hK
      go_simp
      refine (same_eq v4 (.slice none 0 0) (D.take 0) W4 HP4.out HN4.out (by rw [List.length_take]; omega)).mono ?_
      rintro e W5 ⟨rfl, q, rfl⟩
      refine hK _ _ ⟨HX4.out.cell 0 _ rfl, HX4.out.cell 1 _ rfl, HX4.out.cell 2 _ rfl⟩ ?_
      clear hK K
      apply wpOrd_read0
      case hi => rfl
      case hw => rfl
      case hy => (intro w; go_simp; try rfl)
      intro K hK; go_simp; refine hK _ _ ?_; clear hK K
      apply wpOrd_read0
      case hi => rfl
      case hw => rfl
      case hy => (intro w; go_simp; try rfl)
      intro K hK; go_simp; refine hK _ _ ?_; clear hK K
      apply wpOrd_read0
      case hi => rfl
      case hw => rfl
      case hy => (intro w; go_simp; try rfl)
      intro K hK; go_simp; refine hK _ _ ?_; clear hK K
      apply wpOrd_read1
      case hi => rfl
      case hw => rfl
      case hy => (intro w hw; obtain ⟨h1, h2, h3⟩ := hw; go_simp; try rfl)
      intro K hK; go_simp; refine hK _ _ ?_; clear hK K
      apply wpOrd_read0
      case hi => rfl
      case hw => rfl
      case hy => (intro w; go_simp; try rfl)
      intro K hK; go_simp; refine hK _ _ ?_; clear hK K
      apply wpOrd_read1
      case hi => rfl
      case hw => rfl
      case hy => (intro w hw; obtain ⟨h1, h2, h3⟩ := hw; go_simp; try rfl)
      intro K hK; go_simp; refine hK _ _ ?_; clear hK K
      apply wpOrd_read0
      case hi => rfl
      case hw => rfl
      case hy => (intro w; go_simp; try rfl)
      intro K hK; go_simp; refine hK _ _ ?_; clear hK K
      apply wpOrd_read1
      case hi => rfl
      case hw => rfl
      case hy => (intro w hw; obtain ⟨h1, h2, h3⟩ := hw; go_simp; try rfl)
      intro K hK; go_simp; refine hK _ _ ?_; clear hK K
      apply wpOrd_read0
      case hi => rfl
      case hw => rfl
      case hy => (intro w; go_simp; try rfl)
      intro K hK; go_simp; refine hK _ _ ?_; clear hK K
      apply wpOrd_eff2
      case hi => rfl
      case hw => rfl
      intro K hK
      go_simp
      refine (pairs_1000 T o lo hi back L Y (W4.drewN q) (HT4.out.below ⟨rfl, rfl, rfl, Nat.le_refl _, fun _ _ => rfl⟩) (by have := HLL.out; omega)).mono ?_
      rintro e W6 ⟨v6, rfl, hr6, hb6⟩
      have hb46 : Below W4.heap.size W4 W6 := (below_drewN'' (Below.refl _ W4) q).trans hb6
      have HP6 := Lib.hid (PrAt.of_own rfl hr6)
      rw [← HD.out] at HP6
      have HX6 := Lib.hid (HX4.out.keep hb46)
      have HB6 := Lib.hid (HB4.out.trans (hb46.mono HB4.out.size))
      have HQ6 := Lib.hid (HQ4.out.below hb46)
      refine hK _ _ ⟨HX6.out.cell 0 _ rfl, HX6.out.cell 1 _ rfl, HX6.out.cell 2 _ rfl⟩ ?_
      clear hK K hr6 hb6 hb46 HX4 HB4 HQ4 HN4 HP4 HT4
      apply wpOrd_eff3
      case hi => rfl
      case hw => rfl
      intro K hK
      go_simp
      refine (same_eq v6 (.slice none 0 0) D W6 HP6.out HQ6.out (by have := HSL.out; have := HLL.out; omega)).mono ?_
      rintro e W7 ⟨rfl, q7, rfl⟩
      refine hK _ _ ?_
      clear hK K
      apply wpOrd_read0
      case hi => rfl
      case hw => rfl
      case hy => (intro w; go_simp; try rfl)
      intro K hK; go_simp; refine hK _ _ ?_; clear hK K
      apply wpOrd_read0
      case hi => rfl
      case hw => rfl
      case hy => (intro w; go_simp; try rfl)
      intro K hK; go_simp; refine hK _ _ ?_; clear hK K
      apply wpOrd_eff3
      case hi => rfl
      case hw => rfl
      intro K hK
      go_simp
      refine (awake_any _).mono ?_
      rintro e W8 ⟨rfl, hb8⟩
      have HB8 := Lib.hid (HB6.out.trans (((below_drewN'' (Below.refl _ W6) q7).trans hb8).mono HB6.out.size))
      refine hK _ _ ?_
      clear hK K hb8
      apply wpOrd_read0
      case hi => rfl
      case hw => rfl
      case hy => (intro w; go_simp; try rfl)
      intro K hK; go_simp; refine hK _ _ ?_; clear hK K
      apply wpOrd_read0
      case hi => rfl
      case hw => rfl
      case hy => (intro w; go_simp; try rfl)
      intro K hK; go_simp; refine hK _ _ ?_; clear hK K
      refine wpOrd_nil ?_
      go_wp2_with fail
      go_ret
      exact ⟨rfl, HB8.out⟩
    · have hst0 : st = 0 := by omega
      subst hst0
      have hd : decide ((0 : Int) < ((0 : Nat) : Int)) = false := rfl
      go_wp2_with fail
      refine wp_region_ordW 29 23 [(0, 0), (1, 0), (2, 1), (3, 0), (4, 1), (5, 0), (6, 1), (7, 0), (9, 0), (10, 0), (11, 0), (8, 2), (12, 2), (13, 0), (14, 0), (15, 0), (16, 1), (17, 0), (18, 1), (19, 0), (20, 1), (22, 0), (21, 2), (23, 3), (24, 0), (25, 0), (26, 3), (27, 0), (28, 0)] (fun U => U.cell? ⟨w.heap.size, 0, none⟩ = some (.string lo) ∧ U.cell? ⟨w.heap.size, 1, none⟩ = some (.string hi) ∧ U.cell? ⟨w.heap.size, 2, none⟩ = some (.bool back)) (by kernel_rfl) (by kernel_rfl) ⟨HX3.out.cell 0 _ rfl, HX3.out.cell 1 _ rfl, HX3.out.cell 2 _ rfl⟩ (fun c a d v w h => by cases d <;> exact h) ?_
      apply wpOrd_read0
      case hi => rfl
      case hw => rfl
      case hy => (intro w; go_simp; try rfl)
      intro K hK; go_simp; refine hK _ _ ?_; clear hK K
      apply wpOrd_read0
      case hi => rfl
      case hw => rfl
      case hy => (intro w; go_simp; try rfl)
      intro K hK; go_simp; refine hK _ _ ?_; clear hK K
      apply wpOrd_read1
      case hi => rfl
      case hw => rfl
      case hy => (intro w hw; obtain ⟨h1, h2, h3⟩ := hw; go_simp; try rfl)
      intro K hK; go_simp; refine hK _ _ ?_; clear hK K
      apply wpOrd_read0
      case hi => rfl
      case hw => rfl
      case hy => (intro w; go_simp; try rfl)
      intro K hK; go_simp; refine hK _ _ ?_; clear hK K
      apply wpOrd_read1
      case hi => rfl
      case hw => rfl
      case hy => (intro w hw; obtain ⟨h1, h2, h3⟩ := hw; go_simp; try rfl)
      intro K hK; go_simp; refine hK _ _ ?_; clear hK K
      apply wpOrd_read0
      case hi => rfl
      case hw => rfl
      case hy => (intro w; go_simp; try rfl)
      intro K hK; go_simp; refine hK _ _ ?_; clear hK K
      apply wpOrd_read1
      case hi => rfl
      case hw => rfl
      case hy => (intro w hw; obtain ⟨h1, h2, h3⟩ := hw; go_simp; try rfl)
      intro K hK; go_simp; refine hK _ _ ?_; clear hK K
      apply wpOrd_read0
      case hi => rfl
      case hw => rfl
      case hy => (intro w; go_simp; try rfl)
      intro K hK; go_simp; refine hK _ _ ?_; clear hK K
      apply wpOrd_read0
      case hi => rfl
      case hw => rfl
      case hy => (intro w; go_simp; try rfl)
      intro K hK; go_simp; refine hK _ _ ?_; clear hK K
      apply wpOrd_read0
      case hi => rfl
      case hw => rfl
      case hy => (intro w; go_simp; try rfl)
      intro K hK; go_simp; refine hK _ _ ?_; clear hK K
      apply wpOrd_read0
      case hi => rfl
      case hw => rfl
      case hy => (intro w; go_simp; try rfl)
      intro K hK; go_simp; refine hK _ _ ?_; clear hK K
      apply wpOrd_eff2
      case hi => rfl
      case hw => rfl
      intro K hK
      go_simp
      refine (pairs_T T o lo hi back 0 L Y W3.drew (HT.out.below ⟨rfl, rfl, rfl, Nat.le_refl _, fun _ _ => rfl⟩) (by have := HLL.out; omega)).mono ?_
      rintro e W4 ⟨v4, rfl, hr4, hb4⟩
      have hb34 : Below W3.heap.size W3 W4 := (Below.drew (Below.refl _ W3)).trans hb4
      have HP4 := Lib.hid (PrAt.of_own rfl hr4)
      have HV4 := Lib.hid (hr4.1)
      rw [← HD.out] at HP4
      have HT4 := Lib.hid (HT.out.below hb34)
      have HX4 := Lib.hid (HX3.out.keep hb34)
      have HB4 := Lib.hid (HB3.out.trans (hb34.mono HB3.out.size))
      have HQ4 := Lib.hid (HP3.out.below hb34)
      have HN4 := Lib.hid (HPn.out.below hb34)
      refine hK _ _ ⟨HX4.out.cell 0 _ rfl, HX4.out.cell 1 _ rfl, HX4.out.cell 2 _ rfl⟩ ?_
      clear hK K hr4 hb4 hb34 HT HX3 HB3 HP3 HPn
      apply wpOrd_eff2
      case hi => rfl
      case hw => rfl
      intro K hK
      go_simp
      refine (same_eq v4 (.slice none 0 0) (D.take 0) W4 HP4.out HN4.out (by rw [List.length_take]; omega)).mono ?_
      rintro e W5 ⟨rfl, q, rfl⟩
      refine hK _ _ ⟨HX4.out.cell 0 _ rfl, HX4.out.cell 1 _ rfl, HX4.out.cell 2 _ rfl⟩ ?_
      clear hK K
      apply wpOrd_read0
      case hi => rfl
      case hw => rfl
      case hy => (intro w; go_simp; try rfl)
      intro K hK; go_simp; refine hK _ _ ?_; clear hK K
      apply wpOrd_read0
      case hi => rfl
      case hw => rfl
      case hy => (intro w; go_simp; try rfl)
      intro K hK; go_simp; refine hK _ _ ?_; clear hK K
      apply wpOrd_read0
      case hi => rfl
      case hw => rfl
      case hy => (intro w; go_simp; try rfl)
      intro K hK; go_simp; refine hK _ _ ?_; clear hK K
      apply wpOrd_read1
      case hi => rfl
      case hw => rfl
      case hy => (intro w hw; obtain ⟨h1, h2, h3⟩ := hw; go_simp; try rfl)
      intro K hK; go_simp; refine hK _ _ ?_; clear hK K
      apply wpOrd_read0
      case hi => rfl
      case hw => rfl
      case hy => (intro w; go_simp; try rfl)
      intro K hK; go_simp; refine hK _ _ ?_; clear hK K
      apply wpOrd_read1
      case hi => rfl
      case hw => rfl
      case hy => (intro w hw; obtain ⟨h1, h2, h3⟩ := hw; go_simp; try rfl)
      intro K hK; go_simp; refine hK _ _ ?_; clear hK K
      apply wpOrd_read0
      case hi => rfl
      case hw => rfl
      case hy => (intro w; go_simp; try rfl)
      intro K hK; go_simp; refine hK _ _ ?_; clear hK K
      apply wpOrd_read1
      case hi => rfl
      case hw => rfl
      case hy => (intro w hw; obtain ⟨h1, h2, h3⟩ := hw; go_simp; try rfl)
      intro K hK; go_simp; refine hK _ _ ?_; clear hK K
      apply wpOrd_read0
      case hi => rfl
      case hw => rfl
      case hy => (intro w; go_simp; try rfl)
      intro K hK; go_simp; refine hK _ _ ?_; clear hK K
      apply wpOrd_eff2
      case hi => rfl
      case hw => rfl
      intro K hK
      go_simp
      refine (pairs_1000 T o lo hi back L Y (W4.drewN q) (HT4.out.below ⟨rfl, rfl, rfl, Nat.le_refl _, fun _ _ => rfl⟩) (by have := HLL.out; omega)).mono ?_
      rintro e W6 ⟨v6, rfl, hr6, hb6⟩
      have hb46 : Below W4.heap.size W4 W6 := (below_drewN'' (Below.refl _ W4) q).trans hb6
      have HP6 := Lib.hid (PrAt.of_own rfl hr6)
      rw [← HD.out] at HP6
      have HX6 := Lib.hid (HX4.out.keep hb46)
      have HB6 := Lib.hid (HB4.out.trans (hb46.mono HB4.out.size))
      have HQ6 := Lib.hid (HQ4.out.below hb46)
      refine hK _ _ ⟨HX6.out.cell 0 _ rfl, HX6.out.cell 1 _ rfl, HX6.out.cell 2 _ rfl⟩ ?_
      clear hK K hr6 hb6 hb46 HX4 HB4 HQ4 HN4 HP4 HT4
      apply wpOrd_eff3
      case hi => rfl
      case hw => rfl
      intro K hK
      go_simp
      refine (same_eq v6 (.slice none 0 0) D W6 HP6.out HQ6.out (by have := HSL.out; have := HLL.out; omega)).mono ?_
      rintro e W7 ⟨rfl, q7, rfl⟩
      refine hK _ _ ?_
      clear hK K
      apply wpOrd_read0
      case hi => rfl
      case hw => rfl
      case hy => (intro w; go_simp; try rfl)
      intro K hK; go_simp; refine hK _ _ ?_; clear hK K
      apply wpOrd_read0
      case hi => rfl
      case hw => rfl
      case hy => (intro w; go_simp; try rfl)
      intro K hK; go_simp; refine hK _ _ ?_; clear hK K
      apply wpOrd_eff3
      case hi => rfl
      case hw => rfl
      intro K hK
      go_simp
      refine (awake_any _).mono ?_
      rintro e W8 ⟨rfl, hb8⟩
      have HB8 := Lib.hid (HB6.out.trans (((below_drewN'' (Below.refl _ W6) q7).trans hb8).mono HB6.out.size))
      refine hK _ _ ?_
      clear hK K hb8
      apply wpOrd_read0
      case hi => rfl
      case hw => rfl
      case hy => (intro w; go_simp; try rfl)
      intro K hK; go_simp; refine hK _ _ ?_; clear hK K
      apply wpOrd_read0
      case hi => rfl
      case hw => rfl
      case hy => (intro w; go_simp; try rfl)
      intro K hK; go_simp; refine hK _ _ ?_; clear hK K
      refine wpOrd_nil ?_
      go_wp2_with fail
      go_ret
      exact ⟨rfl, HB8.out⟩
  · have hg0 : g3 = some ⟨g, 0, none⟩ ∧ c3 = c' := by cases hv3; exact ⟨rfl, rfl⟩
    obtain ⟨rfl, rfl⟩ := hg0
    clear hv3 hg4 hg3
    have hsl := HSL.out
    have hll := HLL.out
    by_cases hst2 : D.length < st
    · have hd : decide ((D.length : Int) < (st : Int)) = true := decide_eq_true (by omega)
      have HPn := Lib.hid (prAt_take HP3.out (Nat.le_refl D.length))
      have hnc : D.length ≤ c3 := hg1
      go_wp2_with fail
      refine wp_region_ordW 29 23 [(0, 0), (1, 0), (2, 1), (3, 0), (4, 1), (5, 0), (6, 1), (7, 0), (9, 0), (10, 0), (11, 0), (8, 2), (12, 2), (13, 0), (14, 0), (15, 0), (16, 1), (17, 0), (18, 1), (19, 0), (20, 1), (22, 0), (21, 2), (23, 3), (24, 0), (25, 0), (26, 3), (27, 0), (28, 0)] (fun U => U.cell? ⟨w.heap.size, 0, none⟩ = some (.string lo) ∧ U.cell? ⟨w.heap.size, 1, none⟩ = some (.string hi) ∧ U.cell? ⟨w.heap.size, 2, none⟩ = some (.bool back)) (by kernel_rfl) (by kernel_rfl) ⟨HX3.out.cell 0 _ rfl, HX3.out.cell 1 _ rfl, HX3.out.cell 2 _ rfl⟩ (fun c a d v w h => by cases d <;> exact h) ?_
      apply wpOrd_read0
      case hi => rfl
      case hw => rfl
      case hy => (intro w; go_simp; try rfl)
      intro K hK; go_simp; refine hK _ _ ?_; clear hK K
      apply wpOrd_read0
      case hi => rfl
      case hw => rfl
      case hy => (intro w; go_simp; try rfl)
      intro K hK; go_simp; refine hK _ _ ?_; clear hK K
      apply wpOrd_read1
      case hi => rfl
      case hw => rfl
      case hy => (intro w hw; obtain ⟨h1, h2, h3⟩ := hw; go_simp; try rfl)
      intro K hK; go_simp; refine hK _ _ ?_; clear hK K
      apply wpOrd_read0
      case hi => rfl
      case hw => rfl
      case hy => (intro w; go_simp; try rfl)
      intro K hK; go_simp; refine hK _ _ ?_; clear hK K
      apply wpOrd_read1
      case hi => rfl
      case hw => rfl
      case hy => (intro w hw; obtain ⟨h1, h2, h3⟩ := hw; go_simp; try rfl)
      intro K hK; go_simp; refine hK _ _ ?_; clear hK K
      apply wpOrd_read0
      case hi => rfl
      case hw => rfl
      case hy => (intro w; go_simp; try rfl)
      intro K hK; go_simp; refine hK _ _ ?_; clear hK K
      apply wpOrd_read1
      case hi => rfl
      case hw => rfl
      case hy => (intro w hw; obtain ⟨h1, h2, h3⟩ := hw; go_simp; try rfl)
      intro K hK; go_simp; refine hK _ _ ?_; clear hK K
      apply wpOrd_read0
      case hi => rfl
      case hw => rfl
      case hy => (intro w; go_simp; try rfl)
      intro K hK; go_simp; refine hK _ _ ?_; clear hK K
      apply wpOrd_read0
      case hi => rfl
      case hw => rfl
      case hy => (intro w; go_simp; try rfl)
      intro K hK; go_simp; refine hK _ _ ?_; clear hK K
      apply wpOrd_read0
      case hi => rfl
      case hw => rfl
      case hy => (intro w; go_simp; try rfl)
      intro K hK; go_simp; refine hK _ _ ?_; clear hK K
      apply wpOrd_read0
      case hi => rfl
      case hw => rfl
      case hy => (intro w; go_simp; try rfl)
      intro K hK; go_simp; refine hK _ _ ?_; clear hK K
      apply wpOrd_eff2
      case hi => rfl
      case hw => rfl
      intro K hK
      go_simp
      refine (pairs_T T o lo hi back D.length L Y W3.drew (HT.out.below ⟨rfl, rfl, rfl, Nat.le_refl _, fun _ _ => rfl⟩) (by have := HLL.out; omega)).mono ?_
      rintro e W4 ⟨v4, rfl, hr4, hb4⟩
      have hb34 : Below W3.heap.size W3 W4 := (Below.drew (Below.refl _ W3)).trans hb4
      have HP4 := Lib.hid (PrAt.of_own rfl hr4)
      have HV4 := Lib.hid (hr4.1)
      rw [← HD.out] at HP4
      have HT4 := Lib.hid (HT.out.below hb34)
      have HX4 := Lib.hid (HX3.out.keep hb34)
      have HB4 := Lib.hid (HB3.out.trans (hb34.mono HB3.out.size))
      have HQ4 := Lib.hid (HP3.out.below hb34)
      have HN4 := Lib.hid (HPn.out.below hb34)
      refine hK _ _ ⟨HX4.out.cell 0 _ rfl, HX4.out.cell 1 _ rfl, HX4.out.cell 2 _ rfl⟩ ?_
      clear hK K hr4 hb4 hb34 HT HX3 HB3 HP3 HPn
      apply wpOrd_eff2
      case hi => rfl
      case hw => rfl
      intro K hK
      go_simp
      refine (same_eq v4 (.slice (some ⟨g, 0, none⟩) D.length c3) (D.take D.length) W4 HP4.out HN4.out (by rw [List.length_take]; omega)).mono ?_
      rintro e W5 ⟨rfl, q, rfl⟩
      refine hK _ _ ⟨HX4.out.cell 0 _ rfl, HX4.out.cell 1 _ rfl, HX4.out.cell 2 _ rfl⟩ ?_
      clear hK K
      apply wpOrd_read0
      case hi => rfl
      case hw => rfl
      case hy => (intro w; go_simp; try rfl)
      intro K hK; go_simp; refine hK _ _ ?_; clear hK K
      apply wpOrd_read0
      case hi => rfl
      case hw => rfl
      case hy => (intro w; go_simp; try rfl)
      intro K hK; go_simp; refine hK _ _ ?_; clear hK K
      apply wpOrd_read0
      case hi => rfl
      case hw => rfl
      case hy => (intro w; go_simp; try rfl)
      intro K hK; go_simp; refine hK _ _ ?_; clear hK K
      apply wpOrd_read1
      case hi => rfl
      case hw => rfl
      case hy => (intro w hw; obtain ⟨h1, h2, h3⟩ := hw; go_simp; try rfl)
      intro K hK; go_simp; refine hK _ _ ?_; clear hK K
      apply wpOrd_read0
      case hi => rfl
      case hw => rfl
      case hy => (intro w; go_simp; try rfl)
      intro K hK; go_simp; refine hK _ _ ?_; clear hK K
      apply wpOrd_read1
      case hi => rfl
      case hw => rfl
      case hy => (intro w hw; obtain ⟨h1, h2, h3⟩ := hw; go_simp; try rfl)
      intro K hK; go_simp; refine hK _ _ ?_; clear hK K
      apply wpOrd_read0
      case hi => rfl
      case hw => rfl
      case hy => (intro w; go_simp; try rfl)
      intro K hK; go_simp; refine hK _ _ ?_; clear hK K
      apply wpOrd_read1
      case hi => rfl
      case hw => rfl
      case hy => (intro w hw; obtain ⟨h1, h2, h3⟩ := hw; go_simp; try rfl)
      intro K hK; go_simp; refine hK _ _ ?_; clear hK K
      apply wpOrd_read0
      case hi => rfl
      case hw => rfl
      case hy => (intro w; go_simp; try rfl)
      intro K hK; go_simp; refine hK _ _ ?_; clear hK K
      apply wpOrd_eff2
      case hi => rfl
      case hw => rfl
      intro K hK
      go_simp
      refine (pairs_1000 T o lo hi back L Y (W4.drewN q) (HT4.out.below ⟨rfl, rfl, rfl, Nat.le_refl _, fun _ _ => rfl⟩) (by have := HLL.out; omega)).mono ?_
      rintro e W6 ⟨v6, rfl, hr6, hb6⟩
      have hb46 : Below W4.heap.size W4 W6 := (below_drewN'' (Below.refl _ W4) q).trans hb6
      have HP6 := Lib.hid (PrAt.of_own rfl hr6)
      rw [← HD.out] at HP6
      have HX6 := Lib.hid (HX4.out.keep hb46)
      have HB6 := Lib.hid (HB4.out.trans (hb46.mono HB4.out.size))
      have HQ6 := Lib.hid (HQ4.out.below hb46)
      refine hK _ _ ⟨HX6.out.cell 0 _ rfl, HX6.out.cell 1 _ rfl, HX6.out.cell 2 _ rfl⟩ ?_
      clear hK K hr6 hb6 hb46 HX4 HB4 HQ4 HN4 HP4 HT4
      apply wpOrd_eff3
      case hi => rfl
      case hw => rfl
      intro K hK
      go_simp
      refine (same_eq v6 (.slice (some ⟨g, 0, none⟩) D.length c3) D W6 HP6.out HQ6.out (by have := HSL.out; have := HLL.out; omega)).mono ?_
      rintro e W7 ⟨rfl, q7, rfl⟩
      refine hK _ _ ?_
      clear hK K
      apply wpOrd_read0
      case hi => rfl
      case hw => rfl
      case hy => (intro w; go_simp; try rfl)
      intro K hK; go_simp; refine hK _ _ ?_; clear hK K
      apply wpOrd_read0
      case hi => rfl
      case hw => rfl
      case hy => (intro w; go_simp; try rfl)
      intro K hK; go_simp; refine hK _ _ ?_; clear hK K
      apply wpOrd_eff3
      case hi => rfl
      case hw => rfl
      intro K hK
      go_simp
      refine (awake_any _).mono ?_
      rintro e W8 ⟨rfl, hb8⟩
      have HB8 := Lib.hid (HB6.out.trans (((below_drewN'' (Below.refl _ W6) q7).trans hb8).mono HB6.out.size))
      refine hK _ _ ?_
      clear hK K hb8
      apply wpOrd_read0
      case hi => rfl
      case hw => rfl
      case hy => (intro w; go_simp; try rfl)
      intro K hK; go_simp; refine hK _ _ ?_; clear hK K
      apply wpOrd_read0
      case hi => rfl
      case hw => rfl
      case hy => (intro w; go_simp; try rfl)
      intro K hK; go_simp; refine hK _ _ ?_; clear hK K
      refine wpOrd_nil ?_
      go_wp2_with fail
      go_ret
      exact ⟨rfl, HB8.out⟩
    · have hd : decide ((D.length : Int) < (st : Int)) = false := decide_eq_false (by omega)
      have hsd : st ≤ D.length := by omega
      have hnc : st ≤ c3 := by omega
      have HPn := Lib.hid (prAt_take HP3.out hsd)
      go_wp2_with fail
      refine wp_region_ordW 29 23 [(0, 0), (1, 0), (2, 1), (3, 0), (4, 1), (5, 0), (6, 1), (7, 0), (9, 0), (10, 0), (11, 0), (8, 2), (12, 2), (13, 0), (14, 0), (15, 0), (16, 1), (17, 0), (18, 1), (19, 0), (20, 1), (22, 0), (21, 2), (23, 3), (24, 0), (25, 0), (26, 3), (27, 0), (28, 0)] (fun U => U.cell? ⟨w.heap.size, 0, none⟩ = some (.string lo) ∧ U.cell? ⟨w.heap.size, 1, none⟩ = some (.string hi) ∧ U.cell? ⟨w.heap.size, 2, none⟩ = some (.bool back)) (by kernel_rfl) (by kernel_rfl) ⟨HX3.out.cell 0 _ rfl, HX3.out.cell 1 _ rfl, HX3.out.cell 2 _ rfl⟩ (fun c a d v w h => by cases d <;> exact h) ?_
      apply wpOrd_read0
      case hi => rfl
      case hw => rfl
      case hy => (intro w; go_simp; try rfl)
      intro K hK; go_simp; refine hK _ _ ?_; clear hK K
      apply wpOrd_read0
      case hi => rfl
      case hw => rfl
      case hy => (intro w; go_simp; try rfl)
      intro K hK; go_simp; refine hK _ _ ?_; clear hK K
      apply wpOrd_read1
      case hi => rfl
      case hw => rfl
      case hy => (intro w hw; obtain ⟨h1, h2, h3⟩ := hw; go_simp; try rfl)
      intro K hK; go_simp; refine hK _ _ ?_; clear hK K
      apply wpOrd_read0
      case hi => rfl
      case hw => rfl
      case hy => (intro w; go_simp; try rfl)
      intro K hK; go_simp; refine hK _ _ ?_; clear hK K
      apply wpOrd_read1
      case hi => rfl
      case hw => rfl
      case hy => (intro w hw; obtain ⟨h1, h2, h3⟩ := hw; go_simp; try rfl)
      intro K hK; go_simp; refine hK _ _ ?_; clear hK K
      apply wpOrd_read0
      case hi => rfl
      case hw => rfl
      case hy => (intro w; go_simp; try rfl)
      intro K hK; go_simp; refine hK _ _ ?_; clear hK K
      apply wpOrd_read1
      case hi => rfl
      case hw => rfl
      case hy => (intro w hw; obtain ⟨h1, h2, h3⟩ := hw; go_simp; try rfl)
      intro K hK; go_simp; refine hK _ _ ?_; clear hK K
      apply wpOrd_read0
      case hi => rfl
      case hw => rfl
      case hy => (intro w; go_simp; try rfl)
      intro K hK; go_simp; refine hK _ _ ?_; clear hK K
      apply wpOrd_read0
      case hi => rfl
      case hw => rfl
      case hy => (intro w; go_simp; try rfl)
      intro K hK; go_simp; refine hK _ _ ?_; clear hK K
      apply wpOrd_read0
      case hi => rfl
      case hw => rfl
      case hy => (intro w; go_simp; try rfl)
      intro K hK; go_simp; refine hK _ _ ?_; clear hK K
      apply wpOrd_read0
      case hi => rfl
      case hw => rfl
      case hy => (intro w; go_simp; try rfl)
      intro K hK; go_simp; refine hK _ _ ?_; clear hK K
      apply wpOrd_eff2
      case hi => rfl
      case hw => rfl
      intro K hK
      go_simp
      refine (pairs_T T o lo hi back st L Y W3.drew (HT.out.below ⟨rfl, rfl, rfl, Nat.le_refl _, fun _ _ => rfl⟩) (by have := HLL.out; omega)).mono ?_
      rintro e W4 ⟨v4, rfl, hr4, hb4⟩
      have hb34 : Below W3.heap.size W3 W4 := (Below.drew (Below.refl _ W3)).trans hb4
      have HP4 := Lib.hid (PrAt.of_own rfl hr4)
      have HV4 := Lib.hid (hr4.1)
      rw [← HD.out] at HP4
      have HT4 := Lib.hid (HT.out.below hb34)
      have HX4 := Lib.hid (HX3.out.keep hb34)
      have HB4 := Lib.hid (HB3.out.trans (hb34.mono HB3.out.size))
      have HQ4 := Lib.hid (HP3.out.below hb34)
      have HN4 := Lib.hid (HPn.out.below hb34)
      refine hK _ _ ⟨HX4.out.cell 0 _ rfl, HX4.out.cell 1 _ rfl, HX4.out.cell 2 _ rfl⟩ ?_
      clear hK K hr4 hb4 hb34 HT HX3 HB3 HP3 HPn
      apply wpOrd_eff2
      case hi => rfl
      case hw => rfl
      intro K hK
      go_simp
      refine (same_eq v4 (.slice (some ⟨g, 0, none⟩) st c3) (D.take st) W4 HP4.out HN4.out (by rw [List.length_take]; omega)).mono ?_
      rintro e W5 ⟨rfl, q, rfl⟩
      refine hK _ _ ⟨HX4.out.cell 0 _ rfl, HX4.out.cell 1 _ rfl, HX4.out.cell 2 _ rfl⟩ ?_
      clear hK K
      apply wpOrd_read0
      case hi => rfl
      case hw => rfl
      case hy => (intro w; go_simp; try rfl)
      intro K hK; go_simp; refine hK _ _ ?_; clear hK K
      apply wpOrd_read0
      case hi => rfl
      case hw => rfl
      case hy => (intro w; go_simp; try rfl)
      intro K hK; go_simp; refine hK _ _ ?_; clear hK K
      apply wpOrd_read0
      case hi => rfl
      case hw => rfl
      case hy => (intro w; go_simp; try rfl)
      intro K hK; go_simp; refine hK _ _ ?_; clear hK K
      apply wpOrd_read1
      case hi => rfl
      case hw => rfl
      case hy => (intro w hw; obtain ⟨h1, h2, h3⟩ := hw; go_simp; try rfl)
      intro K hK; go_simp; refine hK _ _ ?_; clear hK K
      apply wpOrd_read0
      case hi => rfl
      case hw => rfl
      case hy => (intro w; go_simp; try rfl)
      intro K hK; go_simp; refine hK _ _ ?_; clear hK K
      apply wpOrd_read1
      case hi => rfl
      case hw => rfl
      case hy => (intro w hw; obtain ⟨h1, h2, h3⟩ := hw; go_simp; try rfl)
      intro K hK; go_simp; refine hK _ _ ?_; clear hK K
      apply wpOrd_read0
      case hi => rfl
      case hw => rfl
      case hy => (intro w; go_simp; try rfl)
      intro K hK; go_simp; refine hK _ _ ?_; clear hK K
      apply wpOrd_read1
      case hi => rfl
      case hw => rfl
      case hy => (intro w hw; obtain ⟨h1, h2, h3⟩ := hw; go_simp; try rfl)
      intro K hK; go_simp; refine hK _ _ ?_; clear hK K
      apply wpOrd_read0
      case hi => rfl
      case hw => rfl
      case hy => (intro w; go_simp; try rfl)
      intro K hK; go_simp; refine hK _ _ ?_; clear hK K
      apply wpOrd_eff2
      case hi => rfl
      case hw => rfl
      intro K hK
      go_simp
      refine (pairs_1000 T o lo hi back L Y (W4.drewN q) (HT4.out.below ⟨rfl, rfl, rfl, Nat.le_refl _, fun _ _ => rfl⟩) (by have := HLL.out; omega)).mono ?_
      rintro e W6 ⟨v6, rfl, hr6, hb6⟩
      have hb46 : Below W4.heap.size W4 W6 := (below_drewN'' (Below.refl _ W4) q).trans hb6
      have HP6 := Lib.hid (PrAt.of_own rfl hr6)
      rw [← HD.out] at HP6
      have HX6 := Lib.hid (HX4.out.keep hb46)
      have HB6 := Lib.hid (HB4.out.trans (hb46.mono HB4.out.size))
      have HQ6 := Lib.hid (HQ4.out.below hb46)
      refine hK _ _ ⟨HX6.out.cell 0 _ rfl, HX6.out.cell 1 _ rfl, HX6.out.cell 2 _ rfl⟩ ?_
      clear hK K hr6 hb6 hb46 HX4 HB4 HQ4 HN4 HP4 HT4
      apply wpOrd_eff3
      case hi => rfl
      case hw => rfl
      intro K hK
      go_simp
      refine (same_eq v6 (.slice (some ⟨g, 0, none⟩) D.length c3) D W6 HP6.out HQ6.out (by have := HSL.out; have := HLL.out; omega)).mono ?_
      rintro e W7 ⟨rfl, q7, rfl⟩
      refine hK _ _ ?_
      clear hK K
      apply wpOrd_read0
      case hi => rfl
      case hw => rfl
      case hy => (intro w; go_simp; try rfl)
      intro K hK; go_simp; refine hK _ _ ?_; clear hK K
      apply wpOrd_read0
      case hi => rfl
      case hw => rfl
      case hy => (intro w; go_simp; try rfl)
      intro K hK; go_simp; refine hK _ _ ?_; clear hK K
      apply wpOrd_eff3
      case hi => rfl
      case hw => rfl
      intro K hK
      go_simp
      refine (awake_any _).mono ?_
      rintro e W8 ⟨rfl, hb8⟩
      have HB8 := Lib.hid (HB6.out.trans (((below_drewN'' (Below.refl _ W6) q7).trans hb8).mono HB6.out.size))
      refine hK _ _ ?_
      clear hK K hb8
      apply wpOrd_read0
      case hi => rfl
      case hw => rfl
      case hy => (intro w; go_simp; try rfl)
      intro K hK; go_simp; refine hK _ _ ?_; clear hK K
      apply wpOrd_read0
      case hi => rfl
      case hw => rfl
      case hy => (intro w; go_simp; try rfl)
      intro K hK; go_simp; refine hK _ _ ?_; clear hK K
      refine wpOrd_nil ?_
      go_wp2_with fail
      go_ret
      exact ⟨rfl, HB8.out⟩
theorem law_scans (o : Int) (kv : Value) (ks : List Bs) (lo hi : Bs) (back : Bool) (st : Int) (hst : 0 ≤ st ∧ st < 256) (w : World) (hk : KeysArg w kv ks) :
    Calls Try.prog 4 #[.int .i64 o, kv, .agg #[.string lo, .string hi, .bool back, .int .u8 st]] w (LawOut w) := by
  have hk2 := hk
  obtain ⟨a, c, rfl, _⟩ := hk
  by_cases h1 : o < 4
  · exact scans_e1 o a ks.length c lo hi back st w h1
  · by_cases h2 : 256 < o
    · exact scans_e2 o a ks.length c lo hi back st w h2
    · by_cases h3 : 300 < ks.length
      · exact scans_e3 o a ks.length c lo hi back st w (by omega) (by omega) h3
      · obtain ⟨o, rfl⟩ := Int.eq_ofNat_of_zero_le (show 0 ≤ o by omega)
        obtain ⟨st, rfl⟩ := Int.eq_ofNat_of_zero_le hst.1
        exact scans_go o (by omega) (by omega) a c ks lo hi back st (by omega) w hk2 (by omega)
end Go.Proofs.Ytegljepgncicjaa
/- Btree: the law Orders. -/
namespace Go.Proofs.Ytegljepgncicjaa
open Go.ChangeShapes Go.WideShapes Go.ChangeAt Go.RowKit Go.Deep Go.Shelf
set_option linter.unusedVariables false
set_option linter.unusedSimpArgs false
set_option maxRecDepth 100000 in
set_option maxHeartbeats 1600000 in
theorem orders_e1 (o : Int) (ka : Option Addr) (kl kc : Nat) (w : World) (h : o < 4) :
    Calls Try.prog 6 #[.int .i64 o, .slice ka kl kc] w (LawOut w) := by
  have HB := Lib.hid (Below.refl w.heap.size w)
  have d1 : decide (o < 4) = true := decide_eq_true h
  go_enter Try.func6, Try.ntmps6
  go_wp2_with fail
  refine (awake_any _).mono ?_
  rintro e w1 ⟨rfl, hb⟩
  have HB2 := Lib.hid (HB.out.trans (hb.mono HB.out.size))
  clear hb
  go_wp2_with fail
  go_ret
  exact ⟨rfl, HB2.out⟩
set_option maxRecDepth 100000 in
set_option maxHeartbeats 1600000 in
theorem orders_e2 (o : Int) (ka : Option Addr) (kl kc : Nat) (w : World) (h : 256 < o) :
    Calls Try.prog 6 #[.int .i64 o, .slice ka kl kc] w (LawOut w) := by
  have HB := Lib.hid (Below.refl w.heap.size w)
  have d1 : decide (o < 4) = false := decide_eq_false (by omega)
  have d2 : decide (256 < o) = true := decide_eq_true h
  go_enter Try.func6, Try.ntmps6
  go_wp2_with fail
  refine (awake_any _).mono ?_
  rintro e w1 ⟨rfl, hb⟩
  have HB2 := Lib.hid (HB.out.trans (hb.mono HB.out.size))
  clear hb
  go_wp2_with fail
  go_ret
  exact ⟨rfl, HB2.out⟩
set_option maxRecDepth 100000 in
set_option maxHeartbeats 1600000 in
theorem orders_e3 (o : Int) (ka : Option Addr) (kl kc : Nat) (w : World) (h1 : 4 ≤ o) (h2 : o ≤ 256) (h : 300 < kl) :
    Calls Try.prog 6 #[.int .i64 o, .slice ka kl kc] w (LawOut w) := by
  have HB := Lib.hid (Below.refl w.heap.size w)
  have d1 : decide (o < 4) = false := decide_eq_false (by omega)
  have d2 : decide (256 < o) = false := decide_eq_false (by omega)
  have d3 : decide ((300 : Int) < (kl : Int)) = true := decide_eq_true (by omega)
  go_enter Try.func6, Try.ntmps6
  go_wp2_with fail
  refine (awake_any _).mono ?_
  rintro e w1 ⟨rfl, hb⟩
  have HB2 := Lib.hid (HB.out.trans (hb.mono HB.out.size))
  clear hb
  go_wp2_with fail
  go_ret
  exact ⟨rfl, HB2.out⟩
/-- the pairs after n steps -/
def ordL (ks : List Bs) : Nat → List Pr
  | 0 => []
  | i + 1 => putL (ordL ks i) (sx ks i) (sx ks i ++ ⟨#[118]⟩)
theorem ordL_len (ks : List Bs) : ∀ n, (ordL ks n).length ≤ n
  | 0 => by simp [ordL]
  | n + 1 => by
    have := ordL_len ks n
    have := putL_len1 (ordL ks n) (sx ks n) (sx ks n ++ ⟨#[118]⟩)
    unfold ordL
    omega
theorem ordL_val (ks : List Bs) : ∀ n, ∀ x ∈ ordL ks n, x.2 = x.1 ++ ⟨#[118]⟩
  | 0, x, h => by simp [ordL] at h
  | n + 1, x, h => by
    unfold ordL at h
    rcases putL_mem h with h | h
    · exact ordL_val ks n x h
    · rw [h]
theorem ordL_sz (ks : List Bs) (hsz : ∀ j, j < ks.length → (sx ks j).size ≤ 140737488351232) : ∀ n, n ≤ ks.length → ∀ x ∈ ordL ks n, x.1.size ≤ 140737488351232
  | 0, _, x, h => by simp [ordL] at h
  | n + 1, hn, x, h => by
    unfold ordL at h
    rcases putL_mem h with h | h
    · exact ordL_sz ks hsz n (by omega) x h
    · rw [h]; exact hsz n (by omega)
theorem scan_all (L : List Pr) : scanL ⟨#[]⟩ ⟨#[]⟩ false L = L := by
  have e : ByteArray.toList ⟨#[]⟩ = [] := by rw [ByteArray.toList_eq]
  have e2 : ∀ x : List UInt8, Op.bytesLess x [] = false := fun x => by cases x <;> rfl
  show L.filter _ = L
  refine List.filter_eq_self.2 fun x _ => ?_
  simp [inU, lB, bdOf, e, e2]
theorem scan_back (L : List Pr) : scanL ⟨#[]⟩ ⟨#[]⟩ true L = L.reverse := by
  have e : ByteArray.toList ⟨#[]⟩ = [] := by rw [ByteArray.toList_eq]
  have e2 : ∀ x : List UInt8, Op.bytesLess x [] = false := fun x => by cases x <;> rfl
  show L.reverse.filter _ = L.reverse
  refine List.filter_eq_self.2 fun x _ => ?_
  simp [inU, lB, bdOf, e, e2]
theorem rev_at (L : List Pr) (k : Nat) (h : k < L.length) : L.reverse[L.length - 1 - k]'(by rw [List.length_reverse]; omega) = L[k] := by
  rw [List.getElem_reverse]
  congr 1
  omega
theorem srt_get {L : List Pr} (h : Srt L) (k : Nat) (hk : k < L.length) : getL L L[k].1 = some L[k].2 := by
  have e : L = L.take k ++ (L[k].1, L[k].2) :: L.drop (k + 1) := by
    conv => lhs; rw [← List.take_append_drop k L, List.drop_eq_getElem_cons hk]
  conv => lhs; arg 1; rw [e]
  exact getL_mid (by rw [← e]; exact h)
theorem srt_lt {L : List Pr} (h : Srt L) (k : Nat) (hk : k + 1 < L.length) : lB L[k].1 L[k + 1].1 = true := List.pairwise_iff_getElem.1 h k (k + 1) (by omega) hk (by omega)
theorem Tr.srt {W : World} {T o : Nat} {L : List Pr} {Y : Nat → Prop} (h : Tr W T o L Y) : Srt L := by
  obtain ⟨_, _, _, _, h⟩ := h
  exact h.srt
/-- a tree -/
structure TW1 (w0 : World) (T o : Nat) (L : List Pr) (W : World) : Prop where
  tr : ∃ Y, Tr W T o L Y ∧ ∀ k, Y k → w0.heap.size ≤ k
  b : Below w0.heap.size w0 W
theorem TW1.below {w0 W W1 : World} {T o : Nat} {L : List Pr} (h : TW1 w0 T o L W) (hb : Below W.heap.size W W1) : TW1 w0 T o L W1 := by
  obtain ⟨Y, h1, h2⟩ := h.tr
  exact ⟨⟨Y, h1.below hb, h2⟩, h.b.trans (hb.mono h.b.size)⟩
theorem TW1.drew {w0 W : World} {T o : Nat} {L : List Pr} (h : TW1 w0 T o L W) : TW1 w0 T o L W.drew := h.below ⟨rfl, rfl, rfl, Nat.le_refl _, fun _ _ => rfl⟩
theorem TW1.drewN {w0 W : World} {T o : Nat} {L : List Pr} (h : TW1 w0 T o L W) (q : Nat) : TW1 w0 T o L (W.drewN q) := h.below ⟨rfl, rfl, rfl, Nat.le_refl _, fun _ _ => rfl⟩
theorem TW1.put {w0 W : World} {T o : Nat} {L : List Pr} (h : TW1 w0 T o L W) (hl : L.length ≤ 5000) (key val : Bs) :
    Calls Try.prog 20 #[.pointer (some ⟨T, 0, none⟩), .string key, .string val] W fun e W' => e = .returned (.bool (getL L key).isNone) ∧ TW1 w0 T o (putL L key val) W' := by
  obtain ⟨Y, h1, h2⟩ := h.tr
  refine (Put_T W T o L Y key val h1 hl).mono ?_
  rintro e W1 ⟨rfl, ht, hk⟩
  refine ⟨rfl, ⟨_, ht, fun k hy => ?_⟩, h.b.trans (hk.below h.b.size h2)⟩
  rcases hy with hy | hy
  · exact h2 k hy
  · have := h.b.size; omega
theorem tw1_new (o : Nat) (h4 : 4 ≤ o) (h6 : o ≤ 256) (W : World) : TW1 W W.heap.size o [] (W.alloc (.cells #[.int .i64 o, .int .i64 0, .pointer none] 68)) :=
  ⟨⟨_, tr_new o h4 h6 W, fun k hk => by omega⟩, (Below.refl _ W).alloc (Nat.le_refl _) _⟩
set_option maxRecDepth 100000 in
set_option maxHeartbeats 3200000 in
theorem orders_go (o : Nat) (h4 : 4 ≤ o) (h6 : o ≤ 256) (ka : Option Addr) (kc : Nat) (ks : List Bs) (w : World) (hk : KeysArg w (.slice ka ks.length kc) ks) (hl : ks.length ≤ 300) (hsz : ∀ j, j < ks.length → (sx ks j).size ≤ 140737488351232) :
    Calls Try.prog 6 #[.int .i64 o, .slice ka ks.length kc] w (LawOut w) := by
  have HK := Lib.hid (show ∀ w' : World, Below w.heap.size w w' → 0 < ks.length → ∃ B o, ka = some ⟨B, o, none⟩ ∧ B < w.heap.size ∧ ∀ j, j < ks.length → w'.cell? ⟨B, o + j, none⟩ = some (.string (sx ks j)) from fun w' hb h0 => by
    obtain ⟨a', c', he, h⟩ := hk
    cases he
    obtain ⟨B, o, h1, h2, h3⟩ := h h0
    exact ⟨B, o, h1, h2, fun j hj => (hb.cell (p := ⟨B, o + j, none⟩) h2).trans (h3 j hj)⟩)
  have d1 : decide ((o : Int) < 4) = false := decide_eq_false (by omega)
  have d2 : decide ((256 : Int) < (o : Int)) = false := decide_eq_false (by omega)
  have d3 : decide ((300 : Int) < (ks.length : Int)) = false := decide_eq_false (by omega)
  have HSZ := Lib.hid hsz
  clear hk hsz
  go_enter Try.func6, Try.ntmps6
  go_wp2_with fail
  clear d1 d2 d3
  refine (New_ok o h4 h6 _).mono ?_
  rintro e w1 ⟨rfl, hw⟩
  obtain rfl := hw.symm
  have HT := Lib.hid (tw1_new o h4 h6 w)
  generalize w.alloc _ = W1 at HT ⊢
  obtain ⟨T, hT⟩ : ∃ T, T = w.heap.size := ⟨_, rfl⟩
  rw [← hT] at HT ⊢
  clear hT
  go_wp2_with fail
  go_loopw [7] (fun i wr => ∃ k : Nat, k ≤ ks.length ∧ i = .int .i64 k ∧ TW1 w T o (ordL ks k) wr) (fun i _ => ks.length - (intOf i).toNat)
  case atStart => exact ⟨0, Nat.zero_le _, rfl, HT.out⟩
  case round =>
    clear HT
    obtain ⟨k, hk, rfl, htw⟩ := hrel
    have HT := Lib.hid htw
    clear htw
    have HLn := Lib.hid (ordL_len ks k)
    by_cases hlt : k < ks.length
    · obtain ⟨B, bo, rfl, hBl, hcell⟩ := HK.out wr HT.out.b (by omega)
      have a0 := hcell k hlt
      have HST : Hid (ordL ks (k + 1) = putL (ordL ks k) (sx ks k) (sx ks k ++ ⟨#[118]⟩)) := Lib.hid rfl
      have hx9 : (sx ks k).size + 1 ≤ 9223372036854775807 := by have := HSZ.out k hlt; omega
      have hx8 : ¬ (9223372036854775807 < (sx ks k).size + 1) := by omega
      clear hcell hBl HSZ
      generalize sx ks k = x at *
      go_wp2_with fail
      refine wp_region_ordW 11 10 [(0, 0), (1, 0), (2, 0), (3, 0), (4, 1), (5, 0), (6, 0), (7, 0), (8, 1), (9, 0), (10, 3)] (fun X => X.cell? ⟨B, bo + k, none⟩ = some (.string x)) (by kernel_rfl) (by kernel_rfl) a0 (fun c a d v w h => by cases d <;> exact h) ?_
      apply wpOrd_read0
      case hi => rfl
      case hw => rfl
      case hy => (intro w; go_simp; try rfl)
      intro K hK; go_simp; refine hK _ _ ?_; clear hK K
      apply wpOrd_read0
      case hi => rfl
      case hw => rfl
      case hy => (intro w; go_simp; try rfl)
      intro K hK; go_simp; refine hK _ _ ?_; clear hK K
      apply wpOrd_read0
      case hi => rfl
      case hw => rfl
      case hy => (intro w; go_simp; try rfl)
      intro K hK; go_simp; refine hK _ _ ?_; clear hK K
      apply wpOrd_read0
      case hi => rfl
      case hw => rfl
      case hy => (intro w; go_simp; try rfl)
      intro K hK; go_simp; refine hK _ _ ?_; clear hK K
      apply wpOrd_read1
      case hi => rfl
      case hw => rfl
      case hy => (intro w hw; obtain h1 := hw; go_simp; try rfl)
      intro K hK; go_simp; refine hK _ _ ?_; clear hK K
      apply wpOrd_read0
      case hi => rfl
      case hw => rfl
      case hy => (intro w; go_simp; try rfl)
      intro K hK; go_simp; refine hK _ _ ?_; clear hK K
      apply wpOrd_read0
      case hi => rfl
      case hw => rfl
      case hy => (intro w; go_simp; try rfl)
      intro K hK; go_simp; refine hK _ _ ?_; clear hK K
      apply wpOrd_read0
      case hi => rfl
      case hw => rfl
      case hy => (intro w; go_simp; try rfl)
      intro K hK; go_simp; refine hK _ _ ?_; clear hK K
      apply wpOrd_read1
      case hi => rfl
      case hw => rfl
      case hy => (intro w hw; obtain h1 := hw; go_simp; try rfl)
      intro K hK; go_simp; refine hK _ _ ?_; clear hK K
      apply wpOrd_read0
      case hi => rfl
      case hw => rfl
      case hy => (intro w; go_simp; try rfl)
      intro K hK; go_simp; refine hK _ _ ?_; clear hK K
      apply wpOrd_eff3
      case hi => rfl
      case hw => rfl
      intro K hK
      go_simp
      refine (HT.out.drew.put (by have := HLn.out; omega) x _).mono ?_
      rintro e W2 ⟨rfl, ht2⟩
      have HT2 := Lib.hid ht2
      clear ht2 HT
      refine hK _ _ (wpOrd_nil ?_)
      clear hK K
      go_wp2_with fail
      go_roundw
      case rel => exact ⟨k + 1, hlt, by go_num, by rw [HST.out]; exact HT2.out⟩
      case measure => simp [intOf]; omega
    · have hkn : k = ks.length := by omega
      subst hkn
      have HV := Lib.hid (ordL_val ks ks.length)
      have HSX := Lib.hid (ordL_sz ks HSZ.out ks.length (Nat.le_refl _))
      generalize ordL ks ks.length = L at *
      go_wp2_with fail
      obtain ⟨Y0, hY0, _⟩ := HT.out.tr
      refine (pairs_1000 T o ⟨#[]⟩ ⟨#[]⟩ false L Y0 wr hY0 (by have := HLn.out; omega)).mono ?_
      rintro e W3 ⟨va, rfl, hra, hba⟩
      rw [scan_all] at hra
      have HA3 := Lib.hid (PrAt.of_own rfl hra)
      have HT3 := Lib.hid (HT.out.below hba)
      obtain ⟨ga, ca, rfl⟩ := HA3.out.len
      clear hra hba HT hY0
      go_wp2_with fail
      obtain ⟨Y3, hY3, _⟩ := HT3.out.tr
      refine (pairs_1000 T o ⟨#[]⟩ ⟨#[]⟩ true L Y3 W3 hY3 (by have := HLn.out; omega)).mono ?_
      rintro e W4 ⟨vb, rfl, hrb, hbb⟩
      rw [scan_back] at hrb
      have HB4 := Lib.hid (PrAt.of_own rfl hrb)
      have HA4 := Lib.hid (HA3.out.below hbb)
      have HT4 := Lib.hid (HT3.out.below hbb)
      obtain ⟨gb, cb, rfl⟩ := HB4.out.len
      rw [List.length_reverse] at HB4 ⊢
      clear hrb hbb HT3 HA3 hY3
      go_wp2_with fail
      obtain ⟨Y4, hY4, _⟩ := HT4.out.tr
      refine (Len_T W4 T o L Y4 hY4).mono ?_
      rintro e w5 ⟨rfl, hw5⟩
      obtain rfl := hw5.symm
      go_wp2_with fail
      go_loopw [10] (fun i wr => ∃ k q : Nat, k ≤ L.length ∧ i = .int .i64 k ∧ wr = W4.drewN q) (fun i _ => L.length - (intOf i).toNat)
      case atStart => exact ⟨0, 0, Nat.zero_le _, rfl, rfl⟩
      case round =>
        obtain ⟨k, q, hk, rfl, rfl⟩ := hrel
        by_cases hlt : k < L.length
        · obtain ⟨g, c', hg, _, _, _, hcell⟩ := HA4.out.get (by omega)
          cases hg
          obtain ⟨g', c', hg, _, _, _, hcelb⟩ := HB4.out.get (by rw [List.length_reverse]; omega)
          have hgg : gb = some ⟨g', 0, none⟩ ∧ cb = c' := by rw [List.length_reverse] at hg; cases hg; exact ⟨rfl, rfl⟩
          obtain ⟨rfl, rfl⟩ := hgg
          clear hg
          have a0 := (hcell k hlt).1
          have a1 := (hcell k hlt).2
          have b0 := (hcelb (L.length - 1 - k) (by rw [List.length_reverse]; omega)).1
          have b1 := (hcelb (L.length - 1 - k) (by rw [List.length_reverse]; omega)).2
          rw [rev_at L k hlt] at b0 b1
          have hval : L[k].2 = L[k].1 ++ ⟨#[118]⟩ := HV.out _ (List.getElem_mem hlt)
          have hszk := HSX.out _ (List.getElem_mem hlt)
          obtain ⟨Y5, hY5, _⟩ := (HT4.out.drewN q).tr
          have hg5 : Calls Try.prog 24 #[.pointer (some ⟨T, 0, none⟩), .string L[k].1] (W4.drewN q) fun e W' => e = .returned (.tuple #[.string (L[k].1 ++ ⟨#[118]⟩), .bool true]) ∧ ∃ q2, W' = (W4.drewN q).drewN q2 := by
            refine (Get_T (W4.drewN q) T o L Y5 L[k].1 hY5).mono fun e W' h => ?_
            obtain ⟨h1, h2⟩ := h
            rw [srt_get hY5.srt k hlt, hval] at h1
            exact ⟨h1, h2⟩
          have HG := Lib.hid hg5
          clear hg5
          have hx8 : ¬ (9223372036854775807 < (L[k].1).size + 1) := by omega
          have hw1 : IntKind.i64.wrap ((L.length : Int) - 1) = ((L.length - 1 : Nat) : Int) := by have := HLn.out; rw [IntKind.wrap_i64]; omega
          have hw2 : IntKind.i64.wrap (((L.length - 1 : Nat) : Int) - (k : Int)) = ((L.length - 1 - k : Nat) : Int) := by have := HLn.out; rw [IntKind.wrap_i64]; omega
          have hjl : L.length - 1 - k < L.length := by omega
          have HS := Lib.hid hY5.srt
          rw [hval] at a1 b1
          clear hY4 hY5 hcelb hval hszk
          match k, hk, hlt with
          | 0, hk, hlt =>
            clear hcell
            generalize L[0] = x at *
            generalize L.length - 1 - 0 = j at *
            simp only [Nat.zero_mul, Nat.zero_add] at a0 a1
            go_wp2_with fail
            refine HG.out.mono ?_
            rintro e W6 ⟨rfl, q2, rfl⟩
            clear HG
            go_wp2_with fail
            go_quiet (fail)
            go_wp2_with fail
            go_roundw
            case rel => exact ⟨1, q + q2 + nq, hlt, rfl, by simp [World.drewN_drewN]⟩
            case measure => simp [intOf]; omega
          | k + 1, hk, hlt =>
            have p0 := (hcell k (by omega)).1
            have hyx : Op.bytesLess (ByteArray.toList L[k].1) (ByteArray.toList L[k + 1].1) = true := srt_lt HS.out k hlt
            have hw3 : IntKind.i64.wrap (((k + 1 : Nat) : Int) - 1) = (k : Int) := by have := HLn.out; rw [IntKind.wrap_i64]; omega
            have hk1 : k < L.length := by omega
            have hk2 : (0 : Int) < ((k + 1 : Nat) : Int) := by omega
            have hk3 : decide ((0 : Int) < ((k + 1 : Nat) : Int)) = true := decide_eq_true hk2
            clear hcell
            generalize L[k + 1] = x at *
            generalize L[k] = y at *
            generalize L.length - 1 - (k + 1) = j at *
            obtain ⟨i, hi⟩ : ∃ i, i = k + 1 := ⟨_, rfl⟩
            rw [← hi] at a0 a1 hw2 hw3 hlt hk2 hk3
            rw [← hi]
            have HI := Lib.hid hi
            have hk4 : 0 < i := by omega
            have hk5 : decide (0 < i) = true := decide_eq_true hk4
            clear hi hk
            go_wp2_with fail
            refine HG.out.mono ?_
            rintro e W6 ⟨rfl, q2, rfl⟩
            clear HG
            go_wp2_with fail
            go_quiet (fail)
            go_wp2_with fail
            go_roundw
            case rel => exact ⟨i + 1, q + q2 + nq, hlt, by go_num, by simp [World.drewN_drewN]⟩
            case measure => simp [intOf]; omega
        · have hkl : k = L.length := by omega
          subst hkl
          go_wp2_with fail
          refine (awake_any _).mono ?_
          rintro e W7 ⟨rfl, hb7⟩
          have HB7 := Lib.hid ((HT4.out.drewN q).b.trans (hb7.mono (HT4.out.drewN q).b.size))
          clear hb7
          go_wp2_with fail
          go_ret
          exact ⟨rfl, HB7.out⟩
theorem law_orders (o : Int) (kv : Value) (ks : List Bs) (w : World) (hk : KeysArg w kv ks) (hsz : ∀ j, j < ks.length → (sx ks j).size ≤ 140737488351232) :
    Calls Try.prog 6 #[.int .i64 o, kv] w (LawOut w) := by
  have hk2 := hk
  obtain ⟨a, c, rfl, _⟩ := hk
  by_cases h1 : o < 4
  · exact orders_e1 o a ks.length c w h1
  · by_cases h2 : 256 < o
    · exact orders_e2 o a ks.length c w h2
    · by_cases h3 : 300 < ks.length
      · exact orders_e3 o a ks.length c w (by omega) (by omega) h3
      · obtain ⟨o, rfl⟩ := Int.eq_ofNat_of_zero_le (show 0 ≤ o by omega)
        exact orders_go o (by omega) (by omega) a c ks w hk2 (by omega) hsz
end Go.Proofs.Ytegljepgncicjaa
/- Btree: how many pairs a tree of a height holds (plain); the height that Height returns. -/
namespace Go.Proofs.Ytegljepgncicjaa
open Go.ChangeShapes Go.WideShapes Go.ChangeAt Go.RowKit Go.Deep
set_option linter.unusedVariables false
set_option linter.unusedSimpArgs false
theorem interR_bd (m M : Nat) : ∀ (ks : List Pr) (cs : List (List Pr)), cs.length = ks.length → (∀ c ∈ cs, m ≤ c.length + 1 ∧ c.length + 1 ≤ M) → ks.length * m ≤ (interR ks cs).length ∧ (interR ks cs).length ≤ ks.length * M
  | [], [], _, _ => by simp [interR]
  | k :: ks, c :: cs, h, hc => by
    obtain ⟨h1, h2⟩ := interR_bd m M ks cs (by simpa using h) (fun c hc' => hc c (List.mem_cons_of_mem _ hc'))
    obtain ⟨h3, h4⟩ := hc c List.mem_cons_self
    simp only [interR, List.length_cons, List.length_append, Nat.add_mul, Nat.one_mul]
    omega
theorem inter_bd (m M : Nat) (ks : List Pr) (cs : List (List Pr)) (h : cs.length = ks.length + 1) (hc : ∀ c ∈ cs, m ≤ c.length + 1 ∧ c.length + 1 ≤ M) : (ks.length + 1) * m ≤ (inter ks cs).length + 1 ∧ (inter ks cs).length + 1 ≤ (ks.length + 1) * M := by
  match cs, h with
  | c :: cs, h =>
    obtain ⟨h1, h2⟩ := interR_bd m M ks cs (by simpa using h) (fun c hc' => hc c (List.mem_cons_of_mem _ hc'))
    obtain ⟨h3, h4⟩ := hc c List.mem_cons_self
    simp only [inter, List.length_append, Nat.add_mul, Nat.one_mul]
    omega
theorem size_T {σ : Sig} {o : Nat} : ∀ {h lo hi N : Nat} {L : List Pr} {S : Nat → Prop}, IsT σ o h lo hi N L S → (lo + 1) * (o / 2 + 1) ^ h ≤ L.length + 1 ∧ L.length + 1 ≤ (hi + 1) * (o + 1) ^ h
  | 0, lo, hi, N, L, S, ⟨ks, vs, h1, h2, h3, h4, h5, _⟩ => by
    subst h5
    rw [List.length_zip, h2, Nat.min_self]
    simp
    omega
  | h + 1, lo, hi, N, L, S, ⟨ks, vs, cs, h1, h2, hI, h4⟩ => by
    have hz : (ks.zip vs).length = ks.length := by rw [List.length_zip, hI.lv, Nat.min_self]
    have hb := inter_bd ((o / 2 + 1) ^ (h + 1)) ((o + 1) ^ (h + 1)) (ks.zip vs) (cs.map (·.L)) (by rw [List.length_map, hz]; exact hI.lc) (fun c hc => by
      obtain ⟨d, hd, rfl⟩ := List.mem_map.1 hc
      have := size_T (hI.kids d hd).1
      rw [(h4 d hd).1, (h4 d hd).2] at this
      rw [Nat.pow_succ, Nat.pow_succ, Nat.mul_comm, Nat.mul_comm ((o + 1) ^ h)]
      exact this)
    rw [hI.eL, ]
    rw [hz] at hb
    exact ⟨Nat.le_trans (Nat.mul_le_mul_right _ (by omega)) hb.1, Nat.le_trans hb.2 (Nat.mul_le_mul_right _ (by omega))⟩
/-- the height n of a tree with m pairs -/
def HgtOK (o n m : Nat) : Prop := (n = 0 ↔ m = 0) ∧ (0 < n → 2 * (o / 2 + 1) ^ (n - 1) ≤ m + 1 ∧ m + 1 ≤ (o + 1) ^ n)
theorem Height_T (W : World) (T o : Nat) (L : List Pr) (Y : Nat → Prop) (h : Tr W T o L Y) (hl : L.length ≤ 5000) :
    ∃ n, HgtOK o n L.length ∧ Calls Try.prog 23 #[.pointer (some ⟨T, 0, none⟩)] W fun e W' => e = .returned (.int .i64 (n : Nat)) ∧ W' = W := by
  obtain ⟨r, σ, hb, hq, hR, hs, h4, h6⟩ := h.hq
  cases r with
  | none =>
    have hL : L = [] := hR
    subst hL
    exact ⟨0, ⟨by simp, fun h => absurd h (Nat.lt_irrefl 0)⟩, Height_of T 0 W (height_0 T o _ W hb)⟩
  | some N =>
    obtain ⟨hh, S, hT⟩ := hR
    have hle := h_le h4 hT (Nat.le_refl _)
    have hsz := size_T hT
    refine ⟨hh + 1, ⟨⟨fun e => by omega, fun e => by omega⟩, fun _ => ⟨hsz.1, ?_⟩⟩, Height_of T _ W (height_T 0 T N o hh 1 o _ σ L S W hq.hp hb hT (by omega) h6 h6)⟩
    rw [Nat.pow_succ, Nat.mul_comm]
    exact hsz.2
end Go.Proofs.Ytegljepgncicjaa
/- Btree: key. -/
namespace Go.Proofs.Ytegljepgncicjaa
open Go.ChangeShapes Go.WideShapes Go.ChangeAt Go.RowKit Go.Deep
set_option linter.unusedVariables false
set_option linter.unusedSimpArgs false
def keyB (n : Nat) : Bs := ⟨#[UInt8.ofNat (n / 256), UInt8.ofNat (n % 256)]⟩
theorem conv2 (W : World) (a b : UInt8) (T : TypeId) (x y : Int) (hx : (a.toNat : Int) = x) (hy : (b.toNat : Int) = y) :
    (convert 75 9 (.slice (some ⟨W.heap.size, 0, none⟩) 2 2)).run Try.prog (W.alloc (.cells #[.int .u8 x, .int .u8 y] T)) = .ok (.string ⟨#[a, b]⟩) (W.alloc (.cells #[.int .u8 x, .int .u8 y] T)) := by
  subst hx
  subst hy
  exact run_convert_bytes_back _ 75 9 5 ⟨W.heap.size, 0, none⟩ 2 [a, b] (by kernel_rfl) (by kernel_rfl) (by kernel_rfl) (fun j hj => by
    have : j = 0 ∨ j = 1 := by have : j < 2 := by simpa using hj
                               omega
    rcases this with rfl | rfl <;> simp [go_sem, Addr.add])
set_option maxRecDepth 100000 in
theorem key_any (n : Nat) (h : n < 65536) (w : World) :
    Calls Try.prog 21 #[.int .i64 n] w fun e w' => e = .returned (.string (keyB n)) ∧ Below w.heap.size w w' := by
  have h1 : n / 256 < 256 := by omega
  have h2 : n % 256 < 256 := by omega
  go_enter Try.func21, Try.ntmps21
  have hc := conv2 w (UInt8.ofNat (n / 256)) (UInt8.ofNat (n % 256)) 5 ((n : Int) / 256) ((n : Int) % 256) (by simp; omega) (by simp)
  go_wp2_with fail
  go_ret
  exact ⟨rfl, (Below.refl _ _).alloc (Nat.le_refl _) _⟩
end Go.Proofs.Ytegljepgncicjaa
/- Btree: the pairs that the law Heights puts and deletes (plain). -/
namespace Go.Proofs.Ytegljepgncicjaa
open Go.ChangeShapes Go.WideShapes Go.ChangeAt Go.RowKit Go.Deep
set_option linter.unusedVariables false
set_option linter.unusedSimpArgs false
theorem putL_keep {L : List Pr} {k v : Bs} {x : Pr} (h : x ∈ L) (hne : x.1 ≠ k) : x ∈ putL L k v := by
  induction L with
  | nil => cases h
  | cons a L ih =>
    obtain ⟨a, b⟩ := a
    unfold putL
    rcases List.mem_cons.1 h with rfl | h
    · split
      · simp
      · simp
    · split
      · exact List.mem_cons_of_mem _ (ih h)
      · split
        · exact List.mem_cons_of_mem _ h
        · exact List.mem_cons_of_mem _ (List.mem_cons_of_mem _ h)
theorem putL_new (L : List Pr) (k v : Bs) : (k, v) ∈ putL L k v := by
  induction L with
  | nil => simp [putL]
  | cons a L ih =>
    obtain ⟨a, b⟩ := a
    unfold putL
    split
    · exact List.mem_cons_of_mem _ ih
    · split <;> simp
theorem delL_keep {L : List Pr} {k : Bs} {x : Pr} (h : x ∈ L) (hne : x.1 ≠ k) : x ∈ delL L k := by
  induction L with
  | nil => cases h
  | cons a L ih =>
    obtain ⟨a, b⟩ := a
    unfold delL
    rcases List.mem_cons.1 h with rfl | h
    · split
      · simp
      · simp
    · split
      · exact List.mem_cons_of_mem _ (ih h)
      · split
        · exact h
        · exact List.mem_cons_of_mem _ h
theorem getL_mem {L : List Pr} {k v : Bs} (h : getL L k = some v) : (k, v) ∈ L := by
  induction L with
  | nil => cases h
  | cons a L ih =>
    obtain ⟨a, b⟩ := a
    unfold getL at h
    split at h
    · exact List.mem_cons_of_mem _ (ih h)
    · split at h
      · rename_i e
        cases h
        subst e
        simp
      · cases h
theorem mem_getL {L : List Pr} (hs : Srt L) {x : Pr} (h : x ∈ L) : getL L x.1 = some x.2 := by
  obtain ⟨k, hk, rfl⟩ := List.mem_iff_getElem.1 h
  exact srt_get hs k hk
theorem delL_srt {L : List Pr} {k : Bs} (h : Srt L) : Srt (delL L k) := List.Pairwise.sublist (delL_sub L k) h
/-- the number of the key of a step -/
def hN (s i : Nat) : Nat := i * (2 * s + 1) % 65536
theorem hN_inj (s i j : Nat) (hi : i < 65536) (hj : j < 65536) (h : hN s i = hN s j) : i = j := by
  unfold hN at h
  have hc : Nat.Coprime 65536 (2 * s + 1) := by
    have h2 : Nat.Coprime 2 (2 * s + 1) := by
      unfold Nat.Coprime
      rw [Nat.gcd_rec, show (2 * s + 1) % 2 = 1 by omega]
      rfl
    have := Nat.Coprime.pow_left 16 h2
    exact this
  have key : ∀ i j, i < j → j < 65536 → i * (2 * s + 1) % 65536 = j * (2 * s + 1) % 65536 → False := fun i j hij hj h => by
    have hd : 65536 ∣ (j - i) * (2 * s + 1) := by
      rw [Nat.sub_mul]
      exact Nat.dvd_of_mod_eq_zero (Nat.sub_mod_eq_zero_of_mod_eq h.symm)
    have h3 := Nat.Coprime.dvd_of_dvd_mul_right hc hd
    have := Nat.le_of_dvd (by omega) h3
    omega
  rcases Nat.lt_trichotomy i j with h1 | h1 | h1
  · exact absurd h (fun h => key i j h1 hj h)
  · exact h1
  · exact absurd h (fun h => key j i h1 hi h.symm)
theorem hN_lt (s i : Nat) : hN s i < 65536 := Nat.mod_lt _ (by omega)
theorem keyB_inj {a b : Nat} (ha : a < 65536) (hb : b < 65536) (h : keyB a = keyB b) : a = b := by
  have h1 : (#[UInt8.ofNat (a / 256), UInt8.ofNat (a % 256)] : Array UInt8) = #[UInt8.ofNat (b / 256), UInt8.ofNat (b % 256)] := congrArg ByteArray.data h
  simp at h1
  obtain ⟨h1, h2⟩ := h1
  have e1 := congrArg UInt8.toNat h1
  have e2 := congrArg UInt8.toNat h2
  simp at e1 e2
  omega
def putH (s : Nat) : Nat → List Pr
  | 0 => []
  | i + 1 => putL (putH s i) (keyB (hN s i)) ⟨#[]⟩
def delH (s n : Nat) : Nat → List Pr
  | 0 => putH s n
  | i + 1 => delL (delH s n i) (keyB (hN s i))
theorem putH_srt (s : Nat) : ∀ n, Srt (putH s n)
  | 0 => List.Pairwise.nil
  | n + 1 => putL_srt (putH_srt s n)
theorem putH_mem (s : Nat) : ∀ n x, x ∈ putH s n → ∃ i, i < n ∧ x.1 = keyB (hN s i)
  | 0, x, h => by cases h
  | n + 1, x, h => by
    rcases putL_mem h with h | rfl
    · obtain ⟨i, h1, h2⟩ := putH_mem s n x h
      exact ⟨i, by omega, h2⟩
    · exact ⟨n, by omega, rfl⟩
theorem kne (s i j : Nat) (hi : i < 65536) (hj : j < 65536) (h : i ≠ j) : keyB (hN s i) ≠ keyB (hN s j) := fun e => h (hN_inj s i j hi hj (keyB_inj (hN_lt s i) (hN_lt s j) e))
theorem putH_has (s : Nat) : ∀ n, n ≤ 65536 → ∀ i, i < n → (keyB (hN s i), (⟨#[]⟩ : Bs)) ∈ putH s n
  | 0, _, i, h => by omega
  | n + 1, hn, i, h => by
    by_cases e : i = n
    · subst e; exact putL_new _ _ _
    · exact putL_keep (putH_has s n (by omega) i (by omega)) (kne s i n (by omega) (by omega) e)
theorem putH_len (s : Nat) : ∀ n, n ≤ 65536 → (putH s n).length = n
  | 0, _ => rfl
  | n + 1, hn => by
    have hg : getL (putH s n) (keyB (hN s n)) = none := by
      cases hg : getL (putH s n) (keyB (hN s n)) with
      | none => rfl
      | some v =>
        obtain ⟨i, h1, h2⟩ := putH_mem s n _ (getL_mem hg)
        exact absurd h2 (kne s n i (by omega) (by omega) (by omega))
    show (putL (putH s n) _ _).length = n + 1
    rw [putL_len, hg, putH_len s n (by omega)]
    rfl
theorem delH_srt (s n : Nat) : ∀ k, Srt (delH s n k)
  | 0 => putH_srt s n
  | k + 1 => delL_srt (delH_srt s n k)
theorem delH_has (s n : Nat) (hn : n ≤ 65536) : ∀ k i, k ≤ i → i < n → (keyB (hN s i), (⟨#[]⟩ : Bs)) ∈ delH s n k
  | 0, i, _, h => putH_has s n hn i h
  | k + 1, i, hk, h => delL_keep (delH_has s n hn k i (by omega) h) (kne s i k (by omega) (by omega) (by omega))
theorem delH_len (s n : Nat) (hn : n ≤ 65536) : ∀ k, k ≤ n → (delH s n k).length = n - k
  | 0, _ => putH_len s n hn
  | k + 1, hk => by
    have h1 := mem_getL (delH_srt s n k) (delH_has s n hn k k (Nat.le_refl _) (by omega))
    have h2 := delL_len (delH s n k) (keyB (hN s k))
    dsimp only at h1
    rw [h1, delH_len s n hn k (by omega)] at h2
    show (delL (delH s n k) _).length = _
    simp at h2
    omega
theorem TW1.del {w0 W : World} {T o : Nat} {L : List Pr} (h : TW1 w0 T o L W) (hl : L.length ≤ 5000) (key : Bs) :
    Calls Try.prog 22 #[.pointer (some ⟨T, 0, none⟩), .string key] W fun e W' => e = .returned (.bool (getL L key).isSome) ∧ TW1 w0 T o (delL L key) W' := by
  obtain ⟨Y, h1, h2⟩ := h.tr
  refine (Del_T W T o L Y key h1 hl).mono ?_
  rintro e W1 ⟨rfl, ht, hk⟩
  refine ⟨rfl, ⟨_, ht, fun k hy => ?_⟩, h.b.trans (hk.below h.b.size h2)⟩
  rcases hy with hy | hy
  · exact h2 k hy
  · have := h.b.size; omega
end Go.Proofs.Ytegljepgncicjaa
/- Btree: the law Heights. -/
namespace Go.Proofs.Ytegljepgncicjaa
open Go.ChangeShapes Go.WideShapes Go.ChangeAt Go.RowKit Go.Deep
set_option linter.unusedVariables false
set_option linter.unusedSimpArgs false
theorem bq (w : World) (ob : Obj) (q : Nat) : Below w.heap.size w ((w.alloc ob).drewN q) := ((Below.refl _ w).alloc (Nat.le_refl _) ob).trans ⟨rfl, rfl, rfl, Nat.le_refl _, fun _ _ => rfl⟩
set_option maxRecDepth 100000 in
set_option maxHeartbeats 1600000 in
theorem heights_e1 (o : Int) (n s a : Int) (w : World) (h : o < 4) :
    Calls Try.prog 5 #[.agg #[.int .i64 o, .int .u16 n, .int .u16 s, .int .u16 a]] w (LawOut w) := by
  have d1 : decide (o < 4) = true := decide_eq_true h
  go_enter Try.func5, Try.ntmps5
  go_wp2_with fail
  go_quiet (fail)
  go_wp2_with fail
  refine (awake_any _).mono ?_
  rintro e w1 ⟨rfl, hb⟩
  have HB2 := Lib.hid ((bq w _ _).trans (hb.mono (bq w _ _).size))
  clear hb
  go_wp2_with fail
  go_ret
  exact ⟨rfl, HB2.out⟩
set_option maxRecDepth 100000 in
set_option maxHeartbeats 1600000 in
theorem heights_e2 (o : Int) (n s a : Int) (w : World) (h : 256 < o) :
    Calls Try.prog 5 #[.agg #[.int .i64 o, .int .u16 n, .int .u16 s, .int .u16 a]] w (LawOut w) := by
  have d1 : decide (o < 4) = false := decide_eq_false (by omega)
  have d2 : decide (256 < o) = true := decide_eq_true h
  go_enter Try.func5, Try.ntmps5
  go_wp2_with fail
  go_quiet (fail)
  go_wp2_with fail
  refine (awake_any _).mono ?_
  rintro e w1 ⟨rfl, hb⟩
  have HB2 := Lib.hid ((bq w _ _).trans (hb.mono (bq w _ _).size))
  clear hb
  go_wp2_with fail
  go_ret
  exact ⟨rfl, HB2.out⟩
set_option maxRecDepth 100000 in
set_option maxHeartbeats 1600000 in
theorem heights_e3 (o : Int) (n s a : Int) (w : World) (h1 : 4 ≤ o) (h2 : o ≤ 256) (h : 2000 < n) :
    Calls Try.prog 5 #[.agg #[.int .i64 o, .int .u16 n, .int .u16 s, .int .u16 a]] w (LawOut w) := by
  have d1 : decide (o < 4) = false := decide_eq_false (by omega)
  have d2 : decide (256 < o) = false := decide_eq_false (by omega)
  have d3 : decide (2000 < n) = true := decide_eq_true (by omega)
  go_enter Try.func5, Try.ntmps5
  go_wp2_with fail
  go_quiet (fail)
  go_wp2_with fail
  refine (awake_any _).mono ?_
  rintro e w1 ⟨rfl, hb⟩
  have HB2 := Lib.hid ((bq w _ _).trans (hb.mono (bq w _ _).size))
  clear hb
  go_wp2_with fail
  go_ret
  exact ⟨rfl, HB2.out⟩
theorem hgt_12 (o hh : Nat) (h4 : 4 ≤ o) (h : 2 * (o / 2 + 1) ^ (hh - 1) ≤ 2001) : hh ≤ 12 := by
  rcases Nat.lt_or_ge 12 hh with h1 | h1
  · have h3 : 3 ^ 12 ≤ 3 ^ (hh - 1) := Nat.pow_le_pow_right (by omega) (by omega)
    have h5 : 3 ^ (hh - 1) ≤ (o / 2 + 1) ^ (hh - 1) := Nat.pow_le_pow_left (by omega) _
    have h6 : (3 : Nat) ^ 12 = 531441 := by decide
    omega
  · exact h1
set_option maxRecDepth 100000 in
set_option maxHeartbeats 3200000 in
theorem heights_go (o n s a : Nat) (w : World) (h4 : 4 ≤ o) (h6 : o ≤ 256) (hn : n ≤ 2000) (hs : s ≤ 65535) (ha : a ≤ 65535) :
    Calls Try.prog 5 #[.agg #[.int .i64 o, .int .u16 n, .int .u16 s, .int .u16 a]] w (LawOut w) := by
  have d1 : decide ((o : Int) < 4) = false := decide_eq_false (by omega)
  have d2 : decide (256 < (o : Int)) = false := decide_eq_false (by omega)
  have d3 : decide (2000 < (n : Int)) = false := decide_eq_false (by omega)
  have wn : IntKind.i64.wrap (n : Int) = (n : Int) := by rw [IntKind.wrap_i64]; omega
  have ws : IntKind.i64.wrap (s : Int) = (s : Int) := by rw [IntKind.wrap_i64]; omega
  have wa : IntKind.i64.wrap (a : Int) = (a : Int) := by rw [IntKind.wrap_i64]; omega
  go_enter Try.func5, Try.ntmps5
  go_wp2_with fail
  go_quiet (fail)
  go_wp2_with fail
  clear d1 d2 d3
  refine (New_ok o h4 h6 _).mono ?_
  rintro e w1 ⟨rfl, hw⟩
  obtain rfl := hw.symm
  generalize hW0 : World.drewN _ _ = W0
  have HB0 : Hid (Below w.heap.size w W0) := Lib.hid (by rw [← hW0]; exact bq w _ _)
  clear hW0
  have HT := Lib.hid (tw1_new o h4 h6 W0)
  generalize W0.alloc _ = W1 at HT ⊢
  obtain ⟨T, hT⟩ : ∃ T, T = W0.heap.size := ⟨_, rfl⟩
  rw [← hT] at HT ⊢
  clear hT
  go_wp2_with fail
  go_loopw [9] (fun i wr => ∃ k : Nat, k ≤ n ∧ i = .int .i64 k ∧ TW1 W0 T o (putH s k) wr) (fun i _ => n - (intOf i).toNat)
  case atStart => exact ⟨0, Nat.zero_le _, rfl, HT.out⟩
  case round =>
    clear HT
    obtain ⟨k, hk, rfl, htw⟩ := hrel
    have HT := Lib.hid htw
    clear htw
    have HLn := Lib.hid (putH_len s k (by omega))
    by_cases hlt : k < n
    · have hP : k * (2 * s + 1) ≤ 2000 * 131071 := Nat.mul_le_mul (by omega) (by omega)
      have hc : ((k * (2 * s + 1) : Nat) : Int) = (k : Int) * (2 * (s : Int) + 1) := by push_cast; rfl
      have hz : (hN s k : Int) = ((k : Int) * (2 * (s : Int) + 1)) % 65536 := by unfold hN; rw [← hc]; rfl
      have hPi : (k : Int) * (2 * (s : Int) + 1) ≤ 2000 * 131071 := by rw [← hc]; omega
      have hP0 : 0 ≤ (k : Int) * (2 * (s : Int) + 1) := by rw [← hc]; omega
      have HZ := Lib.hid hz
      clear hz hP hc
      go_wp2_with fail
      rw [← HZ.out]
      refine (key_any (hN s k) (hN_lt s k) _).mono ?_
      rintro e w2 ⟨rfl, hb2⟩
      have HT2 := Lib.hid (HT.out.below hb2)
      clear hb2 HT
      go_wp2_with fail
      refine (HT2.out.put (by have := HLn.out; omega) (keyB (hN s k)) ⟨#[]⟩).mono ?_
      rintro e w3 ⟨rfl, ht3⟩
      have HT3 : Hid (TW1 W0 T o (putH s (k + 1)) w3) := Lib.hid ht3
      clear ht3 HT2 HZ hPi hP0
      have hk1 : k + 1 ≤ n := hlt
      go_wp2_with fail
      go_roundw
      case rel => exact ⟨k + 1, hk1, by go_num, HT3.out⟩
      case measure => simp [intOf]; omega
    · have hkn : k = n := by omega
      subst hkn
      go_wp2_with fail
      obtain ⟨m, hm⟩ : ∃ m, m = min a k := ⟨_, rfl⟩
      go_loopw [10] (fun i wr => ∃ j : Nat, j ≤ a ∧ j ≤ k ∧ i = .int .i64 j ∧ TW1 W0 T o (delH s k j) wr) (fun i _ => k - (intOf i).toNat)
      case atStart => exact ⟨0, Nat.zero_le _, Nat.zero_le _, rfl, HT.out⟩
      case round =>
        clear HT HLn
        obtain ⟨j, hja, hjk, rfl, htw⟩ := hrel
        have HT := Lib.hid htw
        clear htw
        have HLn := Lib.hid (delH_len s k (by omega) j hjk)
        by_cases hlt2 : j < a ∧ j < k
        · obtain ⟨hla, hlk⟩ := hlt2
          have hP : j * (2 * s + 1) ≤ 2000 * 131071 := Nat.mul_le_mul (by omega) (by omega)
          have hc : ((j * (2 * s + 1) : Nat) : Int) = (j : Int) * (2 * (s : Int) + 1) := by push_cast; rfl
          have hz : (hN s j : Int) = ((j : Int) * (2 * (s : Int) + 1)) % 65536 := by unfold hN; rw [← hc]; rfl
          have hPi : (j : Int) * (2 * (s : Int) + 1) ≤ 2000 * 131071 := by rw [← hc]; omega
          have hP0 : 0 ≤ (j : Int) * (2 * (s : Int) + 1) := by rw [← hc]; omega
          have HZ := Lib.hid hz
          clear hz hP hc
          go_wp2_with fail
          rw [← HZ.out]
          refine (key_any (hN s j) (hN_lt s j) _).mono ?_
          rintro e w2 ⟨rfl, hb2⟩
          have HT2 := Lib.hid (HT.out.below hb2)
          clear hb2 HT
          go_wp2_with fail
          refine (HT2.out.del (by have := HLn.out; omega) (keyB (hN s j))).mono ?_
          rintro e w3 ⟨rfl, ht3⟩
          have HT3 : Hid (TW1 W0 T o (delH s k (j + 1)) w3) := Lib.hid ht3
          clear ht3 HT2 HZ hPi hP0
          have hj1 : j + 1 ≤ k := hlk
          have hj2 : j + 1 ≤ a := hla
          go_wp2_with fail
          go_roundw
          case rel => exact ⟨j + 1, hj2, hj1, by go_num, HT3.out⟩
          case measure => simp [intOf]; omega
        · by_cases hak : a < k
          · obtain ⟨Y0, hY0, hYb⟩ := HT.out.tr
            obtain ⟨hh, hok, hcall⟩ := Height_T wr T o (delH s k j) Y0 hY0 (by have := HLn.out; omega)
            obtain ⟨left, hleft⟩ : ∃ left : Nat, left = k - j := ⟨_, rfl⟩
            have hlk : left = k - j := hleft
            have HLz := Lib.hid (show (delH s k j).length = left by rw [HLn.out, hleft])
            rw [HLz.out] at hok
            have hl0 : 0 < left := by omega
            have hl2 : left ≤ 2000 := by omega
            have hh0 : 0 < hh := by have := hok.1; omega
            obtain ⟨hlo, hhi⟩ := hok.2 hh0
            have h12 : hh ≤ 12 := hgt_12 o hh h4 (by omega)
            have HC := Lib.hid hcall
            have HY0 := Lib.hid hY0
            have HOK := Lib.hid (And.intro hlo hhi)
            have hsub : (k : Int) - (j : Int) = (left : Int) := by omega
            have HE := Lib.hid hleft
            clear hcall hok hY0 hlo hhi hleft hlk
            have f0 : decide ((j : Int) < (a : Int)) = false := decide_eq_false (by omega)
            have f2 : decide ((a : Int) < (k : Int)) = true := decide_eq_true (by omega)
            have haj : a = j := by omega
            subst haj
            go_wp2_with fail
            clear hsub
            refine HC.out.mono ?_
            rintro e w2 ⟨rfl, hw2⟩
            obtain rfl := hw2.symm
            clear hw2
            have e0 : ((hh : Int) == 0) = false := beq_eq_false_iff_ne.2 (by omega)
            have e1 : ((left : Int) == 0) = false := beq_eq_false_iff_ne.2 (by omega)
            have e2 : decide ((hh : Int) < 0) = false := decide_eq_false (by omega)
            have e3 : decide ((12 : Int) < (hh : Int)) = false := decide_eq_false (by omega)
            have e4 : ((left : Int) != (left : Int)) = false := by simp
            go_wp2_with fail
            refine (Len_T wr T o _ Y0 HY0.out).mono ?_
            rintro e w2 ⟨rfl, hw2⟩
            obtain rfl := hw2.symm
            clear hw2
            rw [HLz.out]
            go_wp2_with fail
            refine (Check_T wr T o _ Y0 HY0.out (by have := HLn.out; omega)).mono ?_
            rintro e w2 ⟨rfl, hb2⟩
            have HT2 := Lib.hid (HT.out.below hb2)
            clear hb2
            go_wp2_with fail
            clear e0 e1 e2 e3 e4
            go_loopw [13, 14, 15] (fun l m i wr => ∃ d M : Nat, d ≤ hh ∧ l = .int .i64 ((2 * (o / 2 + 1) ^ (d - 1) : Nat) : Int) ∧ m = .int .i64 (M : Int) ∧ (M = (o + 1) ^ d ∨ 1048576 ≤ M) ∧ M ≤ 300000000 ∧ i = .int .i64 d ∧ wr = w2) (fun l m i _ => hh - (intOf i).toNat)
            case atStart => exact ⟨0, 1, Nat.zero_le _, rfl, rfl, .inl rfl, by omega, rfl, rfl⟩
            case round =>
              obtain ⟨d, M, hd, rfl, rfl, hM, hMb, rfl, rfl⟩ := hrel
              have HM := Lib.hid hM
              clear hM
              obtain ⟨A, hA⟩ : ∃ A, A = 2 * (o / 2 + 1) ^ (d - 1) := ⟨_, rfl⟩
              have hAle : A ≤ 2001 := by
                rw [hA]
                exact Nat.le_trans (Nat.mul_le_mul_left _ (Nat.pow_le_pow_right (by omega) (by omega))) (Nat.le_trans HOK.out.1 (by omega))
              rw [← hA]
              have HA := Lib.hid hA
              clear hA
              by_cases hlt : d < hh
              · have hd1 : d + 1 ≤ hh := hlt
                by_cases hd0 : 0 < d
                · have hAn : A * (o / 2 + 1) = 2 * (o / 2 + 1) ^ (d + 1 - 1) := by
                    rw [HA.out, Nat.mul_assoc, ← Nat.pow_succ]
                    show 2 * (o / 2 + 1) ^ (d - 1 + 1) = _
                    rw [show d - 1 + 1 = d + 1 - 1 by omega]
                  have hAb : A * (o / 2 + 1) ≤ 2001 := by
                    rw [hAn]
                    exact Nat.le_trans (Nat.mul_le_mul_left _ (Nat.pow_le_pow_right (by omega) (by omega))) (Nat.le_trans HOK.out.1 (by omega))
                  have hcA : ((A * (o / 2 + 1) : Nat) : Int) = (A : Int) * ((o : Int) / 2 + 1) := by push_cast; rfl
                  have b0 : 0 ≤ (A : Int) * ((o : Int) / 2 + 1) := by rw [← hcA]; omega
                  have b1 : (A : Int) * ((o : Int) / 2 + 1) ≤ 2001 := by rw [← hcA]; omega
                  have HA2 := Lib.hid (And.intro hAn hcA)
                  clear hAn hcA hAb
                  have t0 : decide ((0 : Int) < (d : Int)) = true := decide_eq_true (by omega)
                  have t1 : decide ((A : Int) < 1048576) = true := decide_eq_true (by omega)
                  by_cases hM1 : M < 1048576
                  · have t2 : decide ((M : Int) < 1048576) = true := decide_eq_true (by omega)
                    have hMn : M * (o + 1) = (o + 1) ^ (d + 1) := by
                      rcases HM.out with h | h
                      · rw [h, ← Nat.pow_succ]
                      · omega
                    have hMb2 : M * (o + 1) ≤ 300000000 := Nat.le_trans (Nat.mul_le_mul (Nat.le_of_lt hM1) (show o + 1 ≤ 257 by omega)) (by omega)
                    have hcM : ((M * (o + 1) : Nat) : Int) = (M : Int) * ((o : Int) + 1) := by push_cast; rfl
                    have m0 : 0 ≤ (M : Int) * ((o : Int) + 1) := by rw [← hcM]; omega
                    have m1 : (M : Int) * ((o : Int) + 1) ≤ 300000000 := by rw [← hcM]; omega
                    have HM2 := Lib.hid (And.intro hMn hcM)
                    clear hMn hcM
                    go_wp2_with fail
                    go_roundw
                    case rel => exact ⟨d + 1, M * (o + 1), hd1, by rw [← HA2.out.1, HA2.out.2], by rw [HM2.out.2], .inl HM2.out.1, hMb2, by go_num, by first | rfl | trivial⟩
                    case measure => simp [intOf]; omega
                  · have t2 : decide ((M : Int) < 1048576) = false := decide_eq_false (by omega)
                    have hM3 : 1048576 ≤ M := by omega
                    go_wp2_with fail
                    go_roundw
                    case rel => exact ⟨d + 1, M, hd1, by rw [← HA2.out.1, HA2.out.2], rfl, .inr hM3, hMb, by go_num, by first | rfl | trivial⟩
                    case measure => simp [intOf]; omega
                · have hd00 : d = 0 := by omega
                  subst hd00
                  have hA1 : A = 2 := HA.out
                  subst hA1
                  by_cases hM1 : M < 1048576
                  · have t2 : decide ((M : Int) < 1048576) = true := decide_eq_true (by omega)
                    have hMn : M * (o + 1) = (o + 1) ^ (0 + 1) := by
                      rcases HM.out with h | h
                      · rw [h, ← Nat.pow_succ]
                      · omega
                    have hMb2 : M * (o + 1) ≤ 300000000 := Nat.le_trans (Nat.mul_le_mul (Nat.le_of_lt hM1) (show o + 1 ≤ 257 by omega)) (by omega)
                    have hcM : ((M * (o + 1) : Nat) : Int) = (M : Int) * ((o : Int) + 1) := by push_cast; rfl
                    have m0 : 0 ≤ (M : Int) * ((o : Int) + 1) := by rw [← hcM]; omega
                    have m1 : (M : Int) * ((o : Int) + 1) ≤ 300000000 := by rw [← hcM]; omega
                    have HM2 := Lib.hid (And.intro hMn hcM)
                    clear hMn hcM
                    go_wp2_with fail
                    go_roundw
                    case rel => exact ⟨1, M * (o + 1), hd1, rfl, by rw [HM2.out.2], .inl HM2.out.1, hMb2, rfl, by first | rfl | trivial⟩
                    case measure => simp [intOf]; omega
                  · have t2 : decide ((M : Int) < 1048576) = false := decide_eq_false (by omega)
                    have hM3 : 1048576 ≤ M := by omega
                    go_wp2_with fail
                    go_roundw
                    case rel => exact ⟨1, M, hd1, rfl, rfl, .inr hM3, hMb, rfl, by first | rfl | trivial⟩
                    case measure => simp [intOf]; omega
              · have hdh : d = hh := by omega
                subst hdh
                have hf1 : A ≤ left + 1 := by rw [HA.out]; exact HOK.out.1
                have hf2 : left + 1 ≤ M := by
                  rcases HM.out with h | h
                  · rw [h]; exact HOK.out.2
                  · omega
                have e0 : ((d : Int) == 0) = false := beq_eq_false_iff_ne.2 (by omega)
                have e1 : decide ((A : Int) - 1 ≤ (left : Int)) = true := decide_eq_true (by omega)
                have e2 : decide ((left : Int) ≤ (M : Int) - 1) = true := decide_eq_true (by omega)
                go_wp2_with fail
                refine (awake_any _).mono ?_
                rintro e w7 ⟨rfl, hb7⟩
                have HB7 := Lib.hid ((HB0.out.trans (HT2.out.b.mono HB0.out.size)).trans (hb7.mono (HB0.out.trans (HT2.out.b.mono HB0.out.size)).size))
                clear hb7
                go_wp2_with fail
                go_ret
                exact ⟨rfl, HB7.out⟩
          · by_cases hja2 : j < a
            · obtain ⟨Y0, hY0, hYb⟩ := HT.out.tr
              obtain ⟨hh, hok, hcall⟩ := Height_T wr T o (delH s k j) Y0 hY0 (by have := HLn.out; omega)
              have HLz := Lib.hid (show (delH s k j).length = 0 by rw [HLn.out]; omega)
              have hh0 : hh = 0 := hok.1.2 HLz.out
              subst hh0
              have HC := Lib.hid hcall
              have HY0 := Lib.hid hY0
              clear hcall hok hY0
              have f0 : decide ((j : Int) < (a : Int)) = true := decide_eq_true (by omega)
              have f1 : decide ((j : Int) < (k : Int)) = false := decide_eq_false (by omega)
              have f2 : decide ((a : Int) < (k : Int)) = false := decide_eq_false (by omega)
              go_wp2_with fail
              refine HC.out.mono ?_
              rintro e w2 ⟨rfl, hw2⟩
              obtain rfl := hw2.symm
              clear hw2
              go_wp2_with fail
              refine (Len_T wr T o _ Y0 HY0.out).mono ?_
              rintro e w2 ⟨rfl, hw2⟩
              obtain rfl := hw2.symm
              clear hw2
              rw [HLz.out]
              go_wp2_with fail
              refine (Check_T wr T o _ Y0 HY0.out (by have := HLn.out; omega)).mono ?_
              rintro e w2 ⟨rfl, hb2⟩
              have HT2 := Lib.hid (HT.out.below hb2)
              clear hb2
              go_wp2_with fail
              go_loopw [13, 14, 15] (fun l m i wr => l = .int .i64 2 ∧ m = .int .i64 1 ∧ i = .int .i64 0 ∧ wr = w2) (fun l m i _ => 0)
              case atStart => exact ⟨rfl, rfl, rfl, rfl⟩
              case round =>
                obtain ⟨rfl, rfl, rfl, rfl⟩ := hrel
                go_wp2_with fail
                refine (awake_any _).mono ?_
                rintro e w7 ⟨rfl, hb7⟩
                have HB7 := Lib.hid ((HB0.out.trans (HT2.out.b.mono HB0.out.size)).trans (hb7.mono (HB0.out.trans (HT2.out.b.mono HB0.out.size)).size))
                clear hb7
                go_wp2_with fail
                go_ret
                exact ⟨rfl, HB7.out⟩
            · obtain ⟨Y0, hY0, hYb⟩ := HT.out.tr
              obtain ⟨hh, hok, hcall⟩ := Height_T wr T o (delH s k j) Y0 hY0 (by have := HLn.out; omega)
              have HLz := Lib.hid (show (delH s k j).length = 0 by rw [HLn.out]; omega)
              have hh0 : hh = 0 := hok.1.2 HLz.out
              subst hh0
              have HC := Lib.hid hcall
              have HY0 := Lib.hid hY0
              clear hcall hok hY0
              have f0 : decide ((j : Int) < (a : Int)) = false := decide_eq_false (by omega)
              have f2 : decide ((a : Int) < (k : Int)) = false := decide_eq_false (by omega)
              go_wp2_with fail
              refine HC.out.mono ?_
              rintro e w2 ⟨rfl, hw2⟩
              obtain rfl := hw2.symm
              clear hw2
              go_wp2_with fail
              refine (Len_T wr T o _ Y0 HY0.out).mono ?_
              rintro e w2 ⟨rfl, hw2⟩
              obtain rfl := hw2.symm
              clear hw2
              rw [HLz.out]
              go_wp2_with fail
              refine (Check_T wr T o _ Y0 HY0.out (by have := HLn.out; omega)).mono ?_
              rintro e w2 ⟨rfl, hb2⟩
              have HT2 := Lib.hid (HT.out.below hb2)
              clear hb2
              go_wp2_with fail
              go_loopw [13, 14, 15] (fun l m i wr => l = .int .i64 2 ∧ m = .int .i64 1 ∧ i = .int .i64 0 ∧ wr = w2) (fun l m i _ => 0)
              case atStart => exact ⟨rfl, rfl, rfl, rfl⟩
              case round =>
                obtain ⟨rfl, rfl, rfl, rfl⟩ := hrel
                go_wp2_with fail
                refine (awake_any _).mono ?_
                rintro e w7 ⟨rfl, hb7⟩
                have HB7 := Lib.hid ((HB0.out.trans (HT2.out.b.mono HB0.out.size)).trans (hb7.mono (HB0.out.trans (HT2.out.b.mono HB0.out.size)).size))
                clear hb7
                go_wp2_with fail
                go_ret
                exact ⟨rfl, HB7.out⟩
theorem law_heights (o n s a : Int) (hn : 0 ≤ n) (hs : 0 ≤ s ∧ s ≤ 65535) (ha : 0 ≤ a ∧ a ≤ 65535) (w : World) :
    Calls Try.prog 5 #[.agg #[.int .i64 o, .int .u16 n, .int .u16 s, .int .u16 a]] w (LawOut w) := by
  by_cases h1 : o < 4
  · exact heights_e1 o n s a w h1
  · by_cases h2 : 256 < o
    · exact heights_e2 o n s a w h2
    · by_cases h3 : 2000 < n
      · exact heights_e3 o n s a w (by omega) (by omega) h3
      · obtain ⟨o, rfl⟩ := Int.eq_ofNat_of_zero_le (show 0 ≤ o by omega)
        obtain ⟨n, rfl⟩ := Int.eq_ofNat_of_zero_le hn
        obtain ⟨s, rfl⟩ := Int.eq_ofNat_of_zero_le hs.1
        obtain ⟨a, rfl⟩ := Int.eq_ofNat_of_zero_le ha.1
        exact heights_go o n s a w (by omega) (by omega) (by omega) (by omega) (by omega)
end Go.Proofs.Ytegljepgncicjaa
/- The step from a law's contract to its row, where the law only makes memory; whatever the parameters' types. -/
namespace Go.Proofs.Ytegljepgncicjaa
open Go.RowKit Go.WideShapes Go.ChangeShapes
section
variable {H : Type} {enc : TypeId × Value → H} {P : Program}
theorem post_of_below2 {f : Func} {s : ChangeSpec} {apart fresh handsOn again : Bool} {W W' : World} {args : Array Value} {v : Value} {ds gs : List (DataW H)} {before pa pv : List MemPlace}
    (hW : DataW.Whole enc P f.params.toList s.vars apart W args.toList ds gs before)
    (hres : ∀ (b : Nat) (sp : Nat → Bool) (hd : Bool), DataW.TrodAll enc P W' b sp hd f.resultTypes.toList (v.resultList f.resultTypes.size) (s.fn H (ds ++ gs)).results [])
    (hargs : ∀ sp : Nat → Bool, (∀ p ∈ before, sp p.block = true) → DataW.TrodAll enc P W' 0 sp true f.params.toList args.toList (s.fn H (ds ++ gs)).args pa)
    (hvars : ∀ sp : Nat → Bool, (∀ p ∈ before, sp p.block = true) → DataW.TrodVars enc P W' sp s.vars (s.fn H (ds ++ gs)).vars pv)
    (hps : before = pa ++ pv) (hb : Below W.heap.size W W')
    (hok : ∀ (j : Nat) (t : TypeId) (r : Value), f.resultTypes[j]? = some t → (v.resultList f.resultTypes.size)[j]? = some r → Value.okWide P W' .any 0 t r) :
    s.post enc P f apart fresh handsOn again W args v W' := by
  have hlt : ∀ p ∈ before, p.block < W.heap.size := fun p hp => hW.lt p hp
  have hold : ∀ p ∈ before, (fun b => decide (b < W.heap.size)) p.block = true := fun p hp => by simpa using hlt p hp
  refine ⟨ds, gs, before, [], pa, pv, hW, hres _ _ _, hargs _ hold, hvars _ hold, World.keptBut_mono (fun p hp => ⟨hp, ?_⟩) (hb.frame (· ∈ before)), fun _ => ?_⟩
  · rw [hps, List.mem_append] at hp
    exact Or.inr hp
  · obtain ⟨_, _, _, _, _, hz, hn⟩ := hW
    refine ⟨hok, _, _, ([] ++ pa) ++ pv, ⟨[] ++ pa, pv, trodAll_append (hargs _ (fun _ _ => rfl)) (hres _ _ _), hvars _ (fun _ _ => rfl), rfl, ?_, ?_⟩, ?_⟩
    · intro b off hp
      have hin : MemPlace.cell b off ∈ before := by rw [hps]; simpa using hp
      rw [hb.frozen (hlt _ hin)]
      exact hz b off hin
    · intro ha
      have := hn ha
      rw [hps] at this
      simpa using this
    · intro p hp _
      rw [hps]
      simpa using hp
end

section
variable {H : Type} {enc : TypeId × Value → H} {P : Program}
theorem trodAll_stays (hl : laidOutB P = true) {W W' : World} {sp : Nat → Bool} (hb : Below W.heap.size W W') :
    ∀ (ts : List TypeId) (vs : List Value) (ds : List (DataW H)) (ps : List MemPlace), ts.all (fun t => P.readableRec t && decide (t < P.types.size)) = true →
      DataW.TrodAll enc P W 0 (fun _ => true) true ts vs ds ps → (∀ p ∈ ps, p.block < W.heap.size) → (∀ p ∈ ps, sp p.block = true) → DataW.TrodAll enc P W' 0 sp true ts vs ds ps
  | [], vs, ds, ps, _, h, _, _ => by
    obtain ⟨rfl, rfl, rfl⟩ := trodAll_nil h
    exact trodAll_mk0
  | t :: ts, vs, ds, ps, ha, h, hlt, hs => by
    obtain ⟨v, vs', d, ds', p, q, rfl, rfl, rfl, h1, h2⟩ := trodAll_cons h
    simp only [List.all_cons, Bool.and_eq_true, decide_eq_true_eq] at ha
    exact trodAll_cons_mk (WideElems.Trod_stays hl ha.1.1 ha.1.2 h1 (fun x hx => hb.same (hlt x (List.mem_append_left _ hx))) (fun x hx => hs x (List.mem_append_left _ hx)))
      (trodAll_stays hl hb ts vs' ds' q ha.2 h2 (fun x hx => hlt x (List.mem_append_right _ hx)) (fun x hx => hs x (List.mem_append_right _ hx)))
/-- a law that returned true and only made memory meets its row -/
theorem post_law {f : Func} {s : ChangeSpec} {apart fresh handsOn again : Bool} {W W' : World} {args : Array Value} {ds gs : List (DataW H)} {before : List MemPlace} {T : TypeId}
    (hl : laidOutB P = true) (hp : f.params.toList.all (fun t => P.readableRec t && decide (t < P.types.size)) = true) (hv : s.vars = [])
    (hW : DataW.Whole enc P f.params.toList s.vars apart W args.toList ds gs before)
    (hfn : s.fn H ds = { results := [.lit (.bool true)], args := ds }) (hrt : f.resultTypes = #[T]) (hT : P.underlying T = some .bool) (hb : Below W.heap.size W W') :
    s.post enc P f apart fresh handsOn again W args (.bool true) W' := by
  have hW' := hW
  have hlt : ∀ p ∈ before, p.block < W.heap.size := fun p hp => hW.lt p hp
  obtain ⟨p, q, hA, hV, hpq, _, _⟩ := hW
  rw [hv] at hV
  obtain ⟨rfl, rfl⟩ := trodVars_none hV
  rw [List.append_nil] at hpq
  subst hpq
  have hfn' : s.fn H (ds ++ []) = { results := [.lit (.bool true)], args := ds } := by rw [List.append_nil]; exact hfn
  refine post_of_below2 (pa := before) (pv := []) hW' ?_ ?_ ?_ (by simp) hb ?_
  · intro b sp hd
    rw [hfn', hrt]
    exact trodAll_cons_mk (shut_bool hT _) trodAll_mk0
  · intro sp hsp
    rw [hfn']
    exact trodAll_stays hl hb _ _ _ _ hp hA hlt hsp
  · intro sp hsp
    rw [hfn', hv]
    rfl
  · exact ok_one hrt rfl (okWide_bool_mk hT _)
end
end Go.Proofs.Ytegljepgncicjaa
