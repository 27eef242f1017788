/- Mvcc: play. -/
import Derived.Test.YtaecppkkbdbdbaaMv22
namespace Go.Proofs.Ytaecppkkbdbdbaa
open Go.ChangeShapes Go.WideShapes Go.ChangeAt Go.RowKit Go.Deep Go.ChangeMaps Go.Shelf Go.Sort
set_option linter.unusedVariables false
set_option linter.unusedSimpArgs false
theorem Turned.pre {B S m clock' : Nat} {E E' : List En} {W W1 W' : World} (hb : Below W.heap.size W W1) (h : Turned B S m E W1 W' E' clock') : Turned B S m E W W' E' clock' :=
  ⟨h.1, fun j hj => (h.2.1 j hj).imp id (fun h2 => Nat.le_trans hb.size h2), (show Kept (Foot S m E) W W1 from ⟨hb.os, hb.tape, hb.output, hb.size, fun j hj _ => hb.block j hj⟩).trans h.2.2 (fun j hj => .inl hj)⟩
theorem Turned.same {B S m clock : Nat} {E : List En} {W W' : World} (h : Sto B W S m E clock) (hb : Below W.heap.size W W') : Turned B S m E W W' E clock :=
  ⟨h.below hb, fun j hj => .inl hj, ⟨hb.os, hb.tape, hb.output, hb.size, fun j hj _ => hb.block j hj⟩⟩
/-- a store that has been changed, and what its keys hold -/
def Done (B S m : Nat) (E : List En) (A : Bs → List Ver) (W W' : World) : Prop := ∃ E' clock', Turned B S m E W W' E' clock' ∧ lkL E' = A
theorem Done.pre {B S m : Nat} {E : List En} {A : Bs → List Ver} {W W1 W' : World} (hb : Below W.heap.size W W1) (h : Done B S m E A W1 W') : Done B S m E A W W' := by
  obtain ⟨E', c', h1, h2⟩ := h
  exact ⟨E', c', h1.pre hb, h2⟩
def PutOut (B S m : Nat) (E : List En) (k : Bs) (x : Ver) (W : World) (e : Ending) (W' : World) : Prop :=
  e = .returned (.int .i64 (if okT (lkL E k) x.1 then 0 else 1)) ∧ Done B S m E (addA (lkL E) k x) W W'
theorem add_any (B S m clock : Nat) (E : List En) (k : Bs) (s : Int) (vl : Bs) (dl : Bool) (W : World) (h : Sto B W S m E clock) (hB : B ≤ W.heap.size) (hT : total E < 5000) :
    Calls Try.prog 44 #[.pointer (some ⟨S, 0, none⟩), .string k, .agg #[.int .i64 s, .string vl, .bool dl]] W (PutOut B S m E k (s, vl, dl) W) := by
  by_cases ho : okT (lkL E k) s
  · have hl := lk_total E k
    refine (add_ok B S m clock E k s vl dl W h hB ho.1 ho.2.1 ho.2.2 (by omega)).mono ?_
    rintro e W' ⟨rfl, val, ht⟩
    refine ⟨by rw [if_pos ho], _, _, ht, ?_⟩
    rw [put_lk h.ok]
    unfold addA
    rw [if_pos ho]
  · refine (add_bad B S m clock E k s vl dl W h (by unfold okT at ho; omega)).mono ?_
    rintro e W' ⟨rfl, hb⟩
    refine ⟨by rw [if_neg ho], E, clock, .same h hb, ?_⟩
    unfold addA
    rw [if_neg ho]
theorem put_any (B S m clock : Nat) (E : List En) (k vl : Bs) (s : Int) (W : World) (h : Sto B W S m E clock) (hB : B ≤ W.heap.size) (hT : total E < 5000) :
    Calls Try.prog 12 #[.pointer (some ⟨S, 0, none⟩), .string k, .string vl, .int .i64 s] W (PutOut B S m E k (s, vl, false) W) :=
  put_of S k vl s W _ _ (add_any B S m clock E k s vl false W h hB hT)
theorem del_any (B S m clock : Nat) (E : List En) (k : Bs) (s : Int) (W : World) (h : Sto B W S m E clock) (hB : B ≤ W.heap.size) (hT : total E < 5000) :
    Calls Try.prog 14 #[.pointer (some ⟨S, 0, none⟩), .string k, .int .i64 s] W (PutOut B S m E k (s, ⟨#[]⟩, true) W) :=
  del_of S k s W _ _ (add_any B S m clock E k s ⟨#[]⟩ true W h hB hT)
theorem swept_done {B S m clock : Nat} {E : List En} {f : List Ver → List Ver} {W W' : World} (h : Sto B W S m E clock) (f0 : f [] = []) (hs : Swept B S m clock E f W W') : Done B S m E (fun k => f (lkL E k)) W W' := by
  obtain ⟨E', seen, hall, hsw, ht⟩ := hs
  exact ⟨E', clock, ht, swept_lk hsw hall h.gd ht.1.gd f0⟩
def PlayOut (B S m : Nat) (E : List En) (x : Opv) (W : World) (e : Ending) (W' : World) : Prop := (∃ v, e = .returned v) ∧ Done B S m E (stepA (lkL E) x) W W'
def opc (x : Opv) : Array Value := #[.int .i64 x.kind, .string x.key, .string x.value, .int .i64 x.stamp, .bool x.back]
set_option maxRecDepth 100000 in
set_option maxHeartbeats 1600000 in
theorem play_any (B S m clock : Nat) (E : List En) (x : Opv) (W : World) (h : Sto B W S m E clock) (hB : B ≤ W.heap.size) (hT : total E < 5000) :
    Calls Try.prog 34 #[.pointer (some ⟨S, 0, none⟩), .agg (opc x)] W (PlayOut B S m E x W) := by
  obtain ⟨xk, xa, xv, xs, xb⟩ := x
  have hb5 := Box.new W [.int .i64 xk, .string xa, .string xv, .int .i64 xs, .bool xb] 31
  have hbb : Below W.heap.size W (W.alloc (.cells #[.int .i64 xk, .string xa, .string xv, .int .i64 xs, .bool xb] 31)) := (Below.refl _ W).alloc (Nat.le_refl _) _
  have HB := Lib.hid hbb
  have HS := Lib.hid (h.below hbb)
  have HBW := Lib.hid (Nat.le_trans hB hbb.size)
  have HG := Lib.hid h
  have HT := Lib.hid hT
  have c0 := hb5.cell 0 _ rfl
  have c1 := hb5.cell 1 _ rfl
  have c2 := hb5.cell 2 _ rfl
  have c3 := hb5.cell 3 _ rfl
  have c4 := hb5.cell 4 _ rfl
  clear hb5 hbb h hB hT
  unfold opc
  by_cases h1 : xk = 1
  · subst h1
    go_enter Try.func34, Try.ntmps34
    go_wp2_with fail
    refine (put_any B S m clock E _ _ _ _ HS.out HBW.out HT.out).mono ?_
    rintro e W1 ⟨he, hd⟩
    generalize (if okT _ _ then (0 : Int) else 1) = nn at he
    subst he
    have HD := Lib.hid hd
    clear hd
    go_wp2_with fail
    go_end0
    exact ⟨⟨_, rfl⟩, by unfold stepA; rw [if_pos rfl]; exact HD.out.pre HB.out⟩
  · have d1 : (xk == 1) = false := beq_eq_false_iff_ne.2 h1
    by_cases h2 : xk = 2
    · subst h2
      clear h1
      go_enter Try.func34, Try.ntmps34
      go_wp2_with fail
      refine (del_any B S m clock E _ _ _ HS.out HBW.out HT.out).mono ?_
      rintro e W1 ⟨he, hd⟩
      generalize (if okT _ _ then (0 : Int) else 1) = nn at he
      subst he
      have HD := Lib.hid hd
      clear hd
      go_wp2_with fail
      go_end0
      exact ⟨⟨_, rfl⟩, by unfold stepA; rw [if_neg (show ¬ ((2 : Int) = 1) by decide), if_pos rfl]; exact HD.out.pre HB.out⟩
    · have d2 : (xk == 2) = false := beq_eq_false_iff_ne.2 h2
      by_cases h3 : xk = 5
      · subst h3
        clear h1 h2
        go_enter Try.func34, Try.ntmps34
        go_wp2_with fail
        refine (rollback_any B S m clock E _ _ HS.out HBW.out (by have := HT.out; omega)).mono ?_
        rintro e W1 ⟨rfl, hd⟩
        have HD := Lib.hid (swept_done HS.out (roll_nil _) hd)
        clear hd
        go_wp2_with fail
        go_end0
        exact ⟨⟨_, rfl⟩, by unfold stepA; rw [if_neg (show ¬ ((5 : Int) = 1) by decide), if_neg (show ¬ ((5 : Int) = 2) by decide), if_pos rfl]; exact HD.out.pre HB.out⟩
      · have d3 : (xk == 5) = false := beq_eq_false_iff_ne.2 h3
        by_cases h4 : xk = 6
        · subst h4
          clear h1 h2 h3
          go_enter Try.func34, Try.ntmps34
          go_wp2_with fail
          refine (prune_any B S m clock E _ _ HS.out HBW.out (by have := HT.out; omega)).mono ?_
          rintro e W1 ⟨rfl, hd⟩
          have HD := Lib.hid (swept_done HS.out (prune_nil _) hd)
          clear hd
          go_wp2_with fail
          go_end0
          exact ⟨⟨_, rfl⟩, by unfold stepA; rw [if_neg (show ¬ ((6 : Int) = 1) by decide), if_neg (show ¬ ((6 : Int) = 2) by decide), if_neg (show ¬ ((6 : Int) = 5) by decide), if_pos rfl]; exact HD.out.pre HB.out⟩
        · have d4 : (xk == 6) = false := beq_eq_false_iff_ne.2 h4
          have HD : Hid (stepA (lkL E) ⟨xk, xa, xv, xs, xb⟩ = lkL E) := Lib.hid (by unfold stepA; rw [if_neg h1, if_neg h2, if_neg h3, if_neg h4])
          clear h1 h2 h3 h4
          go_enter Try.func34, Try.ntmps34
          go_wp2_with fail
          go_end0
          exact ⟨⟨_, rfl⟩, E, clock, .same HG.out HB.out, HD.out.symm⟩
end Go.Proofs.Ytaecppkkbdbdbaa
