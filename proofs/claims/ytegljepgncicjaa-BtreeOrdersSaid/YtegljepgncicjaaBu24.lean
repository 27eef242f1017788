/- Btree: the reference's place, Get, Len, New. -/
import Derived.Test.YtegljepgncicjaaBu23
namespace Go.Proofs.Ytegljepgncicjaa
open Go.ChangeShapes Go.WideShapes Go.ChangeAt Go.RowKit Go.Deep Go.Shelf
set_option linter.unusedVariables false
set_option linter.unusedSimpArgs false
/-- the box of a reference tree that was passed -/
structure RB (w : World) (N : Nat) (o : Int) (a : Option Addr) (n c : Nat) (L : List Pr) (W : World) : Prop where
  c0 : W.cell? ⟨N, 0, none⟩ = some (.int .i64 o)
  c1 : W.cell? ⟨N, 1, none⟩ = some (.slice a n c)
  fr : ∀ j, W.frozen? ⟨N, j, none⟩ = false
  lt : N < W.heap.size
  pr : PrAt W (.slice a n c) L
  ge : w.heap.size ≤ N
  b : Below w.heap.size w W
theorem RB.start {w : World} {o : Int} {a : Option Addr} {n c : Nat} {L : List Pr} (h : PrAt w (.slice a n c) L) (t : TypeId) : RB w w.heap.size o a n c L (w.alloc (.cells #[.int .i64 o, .slice a n c] t)) := by
  have hb := Box.new w [.int .i64 o, .slice a n c] t
  have hb2 : Below w.heap.size w (w.alloc (.cells #[.int .i64 o, .slice a n c] t)) := (Below.refl _ w).alloc (Nat.le_refl _) _
  exact ⟨hb.cell 0 _ rfl, hb.cell 1 _ rfl, hb.free, hb.lt, h.below hb2, Nat.le_refl _, hb2⟩
theorem PrAt.below' {W W' : World} {v : Value} {L : List Pr} {B : Nat} (h : PrAt W v L) (hb : Below B W W') (hB : ∀ k, v.ownBlock = some k → k < B) : PrAt W' v L := by
  rcases h with h | ⟨g, c, rfl, h1, h2, h3, h4⟩
  · exact .inl h
  · refine .inr ⟨g, c, rfl, h1, h2, Nat.lt_of_lt_of_le h3 hb.size, fun j hj => ?_⟩
    have hg := hB g rfl
    rw [hb.cell (p := ⟨g, j * 2, none⟩) hg, hb.cell (p := ⟨g, j * 2 + 1, none⟩) hg]
    exact h4 j hj
theorem RB.next {w W W' : World} {N n c : Nat} {o : Int} {a : Option Addr} {L : List Pr} (h : RB w N o a n c L W) (hb : Below W.heap.size W W') : RB w N o a n c L W' := by
  have hk : Kept (fun k => ¬ k < W.heap.size) W W' := ⟨hb.os, hb.tape, hb.output, hb.size, fun k hk _ => hb.block k hk⟩
  refine ⟨(hb.cell (p := ⟨N, 0, none⟩) h.lt).trans h.c0, (hb.cell (p := ⟨N, 1, none⟩) h.lt).trans h.c1, fun j => ?_, Nat.lt_of_lt_of_le h.lt hb.size, h.pr.below hb, h.ge, h.b.trans (hb.mono h.b.size)⟩
  exact (World.frozen?_of_block (a := ⟨N, j, none⟩) (hb.block N h.lt)).trans (h.fr j)
theorem RB.drewN {w W : World} {N n c : Nat} {o : Int} {a : Option Addr} {L : List Pr} (h : RB w N o a n c L W) (q : Nat) : RB w N o a n c L (W.drewN q) := h.next ⟨rfl, rfl, rfl, Nat.le_refl _, fun _ _ => rfl⟩
theorem beqB (a b : Bs) : (ByteArray.toList a == ByteArray.toList b) = decide (a = b) := by
  by_cases h : a = b
  · subst h; simp
  · rw [decide_eq_false h]
    rw [beq_eq_false_iff_ne]
    intro e
    apply h
    rw [ByteArray.toList_eq, ByteArray.toList_eq] at e
    cases a; cases b
    simp at e
    exact congrArg _ e
def rT (o : Int) (v : Value) : Value := .agg #[.int .i64 o, v]
def PlaceOut (L : List Pr) (key : Bs) (w : World) (e : Ending) (W' : World) : Prop := e = .returned (.tuple #[.int .i64 (posL L key : Nat), .bool (hasL L key)]) ∧ Below w.heap.size w W'
set_option maxRecDepth 100000 in
set_option maxHeartbeats 1600000 in
theorem place_any (o : Int) (v : Value) (L : List Pr) (key : Bs) (w : World) (hv : PrAt w v L) (hl : L.length ≤ 5000) :
    Calls Try.prog 36 #[.agg #[.int .i64 o, v], .string key] w (PlaceOut L key w) := by
  obtain ⟨a, c, rfl⟩ := hv.len
  have HR := Lib.hid (RB.start (o := o) hv 30)
  obtain ⟨N, hN⟩ : ∃ N, N = w.heap.size := ⟨_, rfl⟩
  have hz : ∀ W, Below w.heap.size w W → Hid (Below w.heap.size w W) := fun _ h => Lib.hid h
  clear hv
  go_enter Try.func36, Try.ntmps36
  go_wp2_with fail
  rw [← hN] at HR
  rw [← hN]
  clear hN
  generalize w.alloc _ = W1 at HR ⊢
  have c1 := HR.out.c1
  go_loopw [6] (fun i wr => ∃ k : Nat, k ≤ posL L key ∧ i = .int .i64 k ∧ wr = W1) (fun i _ => L.length - (intOf i).toNat)
  case atStart => exact ⟨0, Nat.zero_le _, rfl, rfl⟩
  case round =>
    obtain ⟨k, hk, rfl, rfl⟩ := hrel
    have hpl := posL_le L key
    by_cases hlt : k < L.length
    · obtain ⟨g, c', hg, _, _, _, hcell⟩ := HR.out.pr.get (by omega)
      cases hg
      have a0 := (hcell k hlt).1
      have HA := Lib.hid (posL_at L key)
      have HB := Lib.hid (posL_before L key k)
      have HH : Hid (posL L key = k → hasL L key = decide (L[k].1 = key)) := Lib.hid (fun e => by unfold hasL; rw [e, List.getElem?_eq_getElem hlt])
      have hlt2 : k < L.length := hlt
      cases hless : lB L[k].1 key with
      | true =>
        have HK : Hid (k + 1 ≤ posL L key) := Lib.hid (by
          rcases Nat.lt_or_ge k (posL L key) with h | h
          · exact h
          · have e : posL L key = k := by omega
            have := HA.out (by rw [e]; exact hlt)
            simp only [e] at this
            rw [hless] at this; cases this)
        have hle : Op.bytesLess L[k].1.toList key.toList = true := hless
        clear hcell HH hpl hk
        generalize L[k] = x at a0 hle
        clear hless HA HB
        go_wp2_with fail
        go_roundw
        case rel => exact ⟨k + 1, HK.out, by go_num, by first | rfl | trivial⟩
        case measure => simp [intOf]; omega
      | false =>
        have hk2 : posL L key = k := by
          rcases Nat.lt_or_ge k (posL L key) with h | h
          · rw [HB.out h hlt] at hless; cases hless
          · omega
        have hle : Op.bytesLess L[k].1.toList key.toList = false := hless
        have hhas := HH.out hk2
        have HE := Lib.hid (And.intro hk2 hhas)
        clear hcell HH hpl hk hk2 hhas HA HB hless
        generalize L[k] = x at a0 hle HE
        go_wp2_with fail
        go_quiet (fail)
        go_wp2_with fail
        refine bodyPost_ret (v := .tuple #[.int .i64 k, .bool (ByteArray.toList x.1 == ByteArray.toList key)]) (by simp [results, Try.results36, go_sem]) rfl ?_
        unfold PlaceOut
        rw [HE.out.1, HE.out.2, beqB]
        exact ⟨rfl, (HR.out.drewN _).b⟩
    · have hk2 : posL L key = k := by omega
      have hk3 : k = L.length := by omega
      have HE := Lib.hid (show hasL L key = false by unfold hasL; rw [hk2, List.getElem?_eq_none (by omega)])
      clear hpl hk
      subst hk3
      have HE2 := Lib.hid hk2
      clear hk2
      go_wp2_with fail
      go_quiet (fail)
      go_wp2_with fail
      go_ret2
      unfold PlaceOut
      rw [HE.out, HE2.out]
      exact ⟨rfl, (HR.out.drewN _).b⟩
set_option maxRecDepth 100000 in
theorem rGet_any (o : Int) (v : Value) (L : List Pr) (key : Bs) (w : World) (hv : PrAt w v L) (hl : L.length ≤ 5000) :
    Calls Try.prog 28 #[.agg #[.int .i64 o, v], .string key] w fun e W' => e = .returned (.tuple #[.string ((getL L key).getD ByteArray.empty), .bool (getL L key).isSome]) ∧ Below w.heap.size w W' := by
  obtain ⟨a, c, rfl⟩ := hv.len
  have HR := Lib.hid (RB.start (o := o) hv 30)
  obtain ⟨N, hN⟩ : ∃ N, N = w.heap.size := ⟨_, rfl⟩
  clear hv
  go_enter Try.func28, Try.ntmps28
  go_wp2_with fail
  rw [← hN] at HR
  refine (place_any o (.slice a L.length c) L key _ HR.out.pr hl).mono ?_
  rw [← hN]
  clear hN
  generalize w.alloc _ = W1 at HR ⊢
  rintro e W2 ⟨rfl, hb⟩
  have HR2 := Lib.hid (HR.out.next hb)
  clear hb HR
  have c1 := HR2.out.c1
  have hp := posL_le L key
  cases hh : hasL L key with
  | false =>
    have HE := Lib.hid (show getL L key = none by rw [getL_pos, hh]; rfl)
    go_wp2_with fail
    go_ret2
    rw [HE.out]
    exact ⟨rfl, HR2.out.b⟩
  | true =>
    have hlt := hasL_lt hh
    have HE := Lib.hid (show getL L key = some L[posL L key].2 by rw [getL_pos, hh, List.getElem?_eq_getElem hlt]; rfl)
    obtain ⟨g, c', hg, _, _, _, hcell⟩ := HR2.out.pr.get (by omega)
    cases hg
    have a1 := (hcell _ hlt).2
    clear hcell hh
    generalize L[posL L key] = x at a1 HE
    generalize posL L key = k at *
    go_wp2_with fail
    go_ret2
    rw [HE.out]
    exact ⟨rfl, HR2.out.b⟩
theorem rLen_any (o : Int) (v : Value) (L : List Pr) (w : World) (hv : PrAt w v L) :
    Calls Try.prog 14 #[.agg #[.int .i64 o, v]] w fun e W' => e = .returned (.int .i64 L.length) ∧ Below w.heap.size w W' := by
  obtain ⟨a, c, rfl⟩ := hv.len
  have HR := Lib.hid (RB.start (o := o) hv 30)
  clear hv
  go_enter Try.func14, Try.ntmps14
  go_wp2_with fail
  go_ret
  exact ⟨rfl, HR.out.b⟩
theorem rNew_ok (o : Int) (w : World) (h4 : 4 ≤ o) (h6 : o ≤ 256) :
    Calls Try.prog 11 #[.int .i64 o] w fun e W' => e = .returned (.tuple #[.agg #[.int .i64 o, .slice none 0 0], .int .i64 0]) ∧ Below w.heap.size w W' := by
  have d1 : decide (o < 4) = false := decide_eq_false (by omega)
  have d2 : decide (256 < o) = false := decide_eq_false (by omega)
  have HB := Lib.hid ((Below.refl w.heap.size w).alloc (Nat.le_refl _) (.cells #[.int .i64 0, .slice none 0 0] 30))
  go_enter Try.func11, Try.ntmps11
  go_wp2_with fail
  exact bodyPost_ret (v := .tuple #[.agg #[.int .i64 o, .slice none 0 0], .int .i64 0]) (by simp [results, Try.results11, go_sem]) rfl ⟨rfl, by first | exact (Below.refl _ w).alloc (Nat.le_refl _) _ | repeat' (first | exact HB.out | refine Below.setCell ?_ (by simp) _)⟩
theorem rNew_no (o : Int) (w : World) (h : o < 4 ∨ 256 < o) :
    Calls Try.prog 11 #[.int .i64 o] w fun e W' => e = .returned (.tuple #[.agg #[.int .i64 0, .slice none 0 0], .int .i64 1]) ∧ Below w.heap.size w W' := by
  have HB := Lib.hid ((Below.refl w.heap.size w).alloc (Nat.le_refl _) (.cells #[.int .i64 0, .slice none 0 0] 30))
  by_cases h1 : o < 4
  · have d1 : decide (o < 4) = true := decide_eq_true h1
    go_enter Try.func11, Try.ntmps11
    go_wp2_with fail
    exact bodyPost_ret (v := .tuple #[.agg #[.int .i64 0, .slice none 0 0], .int .i64 1]) (by simp [results, Try.results11, go_sem]) rfl ⟨rfl, by first | exact (Below.refl _ w).alloc (Nat.le_refl _) _ | repeat' (first | exact HB.out | refine Below.setCell ?_ (by simp) _)⟩
  · have d1 : decide (o < 4) = false := decide_eq_false h1
    have d2 : decide (256 < o) = true := decide_eq_true (by omega)
    go_enter Try.func11, Try.ntmps11
    go_wp2_with fail
    exact bodyPost_ret (v := .tuple #[.agg #[.int .i64 0, .slice none 0 0], .int .i64 1]) (by simp [results, Try.results11, go_sem]) rfl ⟨rfl, by first | exact (Below.refl _ w).alloc (Nat.le_refl _) _ | repeat' (first | exact HB.out | refine Below.setCell ?_ (by simp) _)⟩
end Go.Proofs.Ytegljepgncicjaa
