/- Mvcc: a store in memory; Last, Get, New. -/
import Derived.Test.YtpcjmceakelilaaMv4
import Derived.RangeFuncBox
namespace Go.Proofs.Ytpcjmceakelilaa
open Go.ChangeShapes Go.WideShapes Go.ChangeAt Go.RowKit Go.Deep Go.ChangeMaps
set_option linter.unusedVariables false
set_option linter.unusedSimpArgs false
/-- the store at S: its map in block m, the entries E; nothing of it lies below B -/
structure Sto (B : Nat) (W : World) (S m : Nat) (E : List En) (clock : Nat) : Prop where
  box : Boxed W S 89 (.map (some m))
  map : MapAt W m E clock
  ok : EnOK E clock
  rows : ∀ e ∈ E, VRow B W e.val e.vs ∧ e.vs ≠ [] ∧ Asc e.vs ∧ (∀ x ∈ e.vs, 1 ≤ x.1 ∧ x.1 ≤ 1099511627776) ∧ e.vs.length ≤ 5000
  apart : E.Pairwise fun a b => ∀ k, a.val.ownBlock = some k → b.val.ownBlock ≠ some k
  off : ∀ e ∈ E, ∀ k, e.val.ownBlock = some k → k ≠ S ∧ k ≠ m
  mS : m ≠ S
  bS : B ≤ S
  bm : B ≤ m
/-- the blocks of a store -/
def Foot (S m : Nat) (E : List En) (k : Nat) : Prop := k = S ∨ k = m ∨ ∃ e ∈ E, e.val.ownBlock = some k
theorem Sto.foot {B S m clock : Nat} {W : World} {E : List En} (h : Sto B W S m E clock) {k : Nat} (hk : Foot S m E k) : B ≤ k ∧ k < W.heap.size := by
  rcases hk with rfl | rfl | ⟨e, he, hk⟩
  · exact ⟨h.bS, h.box.lt⟩
  · exact ⟨h.bm, h.map.lt⟩
  · exact (h.rows e he).1.lt k hk
theorem Box.kept' {S : Nat → Prop} {W W' : World} {b : Nat} {cs : List Value} (h : Box W b cs) (hk : Kept S W W') (hS : ¬ S b) : Box W' b cs := by
  have e := hk.block b h.lt hS
  exact ⟨fun j v hv => by rw [World.cell?_of_block (a := ⟨b, 0 + j, none⟩) e]; exact h.rng j v hv, fun o => (World.frozen?_of_block (a := ⟨b, o, none⟩) e).trans (h.free o), Nat.lt_of_lt_of_le h.lt hk.size⟩
theorem boxed_kept {S : Nat → Prop} {W W' : World} {b : Nat} {t : TypeId} {v : Value} (h : Boxed W b t v) (hk : Kept S W W') (hS : ¬ S b) : Boxed W' b t v := (hk.block b h.lt hS).trans h
theorem Sto.kept {B S m clock : Nat} {W W' : World} {E : List En} {T : Nat → Prop} (h : Sto B W S m E clock) (hk : Kept T W W') (hT : ∀ k, Foot S m E k → ¬ T k) : Sto B W' S m E clock :=
  ⟨boxed_kept h.box hk (hT _ (.inl rfl)), h.map.kept hk (hT _ (.inr (.inl rfl))), h.ok, fun e he => ⟨(h.rows e he).1.kept hk (fun k hk2 => hT k (.inr (.inr ⟨e, he, hk2⟩))), (h.rows e he).2⟩, h.apart, h.off, h.mS, h.bS, h.bm⟩
theorem Sto.below {B S m clock : Nat} {W W' : World} {E : List En} (h : Sto B W S m E clock) (hb : Below W.heap.size W W') : Sto B W' S m E clock := h.kept (kept_below hb) (fun _ _ h => h)
theorem Sto.drew {B S m clock : Nat} {W : World} {E : List En} (h : Sto B W S m E clock) : Sto B W.drew S m E clock := h.below ⟨rfl, rfl, rfl, Nat.le_refl _, fun _ _ => rfl⟩
theorem Sto.drewN {B S m clock : Nat} {W : World} {E : List En} (h : Sto B W S m E clock) (q : Nat) : Sto B (W.drewN q) S m E clock := h.below ⟨rfl, rfl, rfl, Nat.le_refl _, fun _ _ => rfl⟩
theorem Sto.base {B B' S m clock : Nat} {W : World} {E : List En} (h : Sto B' W S m E clock) (hb : B ≤ B') : Sto B W S m E clock :=
  ⟨h.box, h.map, h.ok, fun e he => ⟨(h.rows e he).1.base hb, (h.rows e he).2⟩, h.apart, h.off, h.mS, Nat.le_trans hb h.bS, Nat.le_trans hb h.bm⟩
/-- the slice of a key -/
theorem Sto.row {B S m clock : Nat} {W : World} {E : List En} (h : Sto B W S m E clock) (k : Bs) : VRow B W (lkV E k) (lkL E k) ∧ Asc (lkL E k) ∧ (∀ x ∈ lkL E k, 1 ≤ x.1 ∧ x.1 ≤ 1099511627776) ∧ (lkL E k).length ≤ 5000 := by
  unfold lkV lkL
  cases hl : lkE E k with
  | none => exact ⟨VRow.nil B W, List.Pairwise.nil, (fun x hx => by cases hx), by simp⟩
  | some e =>
    have := h.rows e (lkE_mem hl).1
    exact ⟨this.1, this.2.2⟩
/-- the time of the last version -/
def lastT (L : List Ver) : Int := match L.getLast? with
  | some x => x.1
  | none => -1
theorem lastT_at {L : List Ver} (h : 0 < L.length) : lastT L = (L[L.length - 1]'(by omega)).1 := by
  unfold lastT
  rw [List.getLast?_eq_getElem?, List.getElem?_eq_getElem (by omega)]
set_option maxRecDepth 100000 in
set_option maxHeartbeats 1600000 in
theorem last_any (B S m clock : Nat) (E : List En) (k : Bs) (W : World) (h : Sto B W S m E clock) :
    Calls Try.prog 36 #[.pointer (some ⟨S, 0, none⟩), .string k] W fun e W' => e = .returned (.int .i64 (lastT (lkL E k))) ∧ W' = W := by
  have a0 := h.box.cell
  have hl := run_look h.map k
  obtain ⟨hr, _, _, hlen⟩ := h.row k
  clear h
  generalize lkL E k = L at *
  generalize lkV E k = v at *
  rcases Nat.eq_zero_or_pos L.length with h0 | h0
  · have hL : L = [] := List.eq_nil_of_length_eq_zero h0
    subst hL
    obtain ⟨va, vc, rfl⟩ := hr.len
    clear hr
    go_enter Try.func36, Try.ntmps36
    go_wp2_with fail
    go_ret
    exact ⟨rfl, rfl⟩
  · obtain ⟨g, c, rfl, h1, h2, h3, hc⟩ := hr.get h0
    have hla := lastT_at h0
    obtain ⟨j, hj⟩ : ∃ j, j = L.length - 1 := ⟨_, rfl⟩
    have hjl : j < L.length := by omega
    have c0 := (hc j hjl).1
    have hla' : lastT L = L[j].1 := by rw [hla]; simp only [hj]
    have HLA := Lib.hid hla'
    have hw : IntKind.i64.wrap ((L.length : Int) - 1) = (j : Int) := by rw [IntKind.wrap_i64]; omega
    have hne : ((L.length : Int) == 0) = false := beq_eq_false_iff_ne.2 (by omega)
    have hjp : (j : Int) < (L.length : Int) := by omega
    clear hla hla' hc hr hj h0
    generalize L[j].1 = s at *
    go_enter Try.func36, Try.ntmps36
    go_wp2_with fail
    go_ret
    exact ⟨by rw [HLA.out]; rfl, rfl⟩
/-- the value of versions at a time -/
def valAt (L : List Ver) (t : Int) : Option Bs := match L[upto L t - 1]? with
  | some x => if upto L t = 0 ∨ x.2.2 = true then none else some x.2.1
  | none => none
def GetOut (o : Option Bs) (W : World) (e : Ending) (W' : World) : Prop := e = .returned (.tuple #[.string (o.getD ⟨#[]⟩), .bool o.isSome]) ∧ Below W.heap.size W W'
set_option maxRecDepth 100000 in
set_option maxHeartbeats 1600000 in
theorem get_any (B S m clock : Nat) (E : List En) (k : Bs) (t : Int) (W : World) (h : Sto B W S m E clock) :
    Calls Try.prog 31 #[.pointer (some ⟨S, 0, none⟩), .string k, .int .i64 t] W (GetOut (valAt (lkL E k) t) W) := by
  have a0 := h.box.cell
  have hl := run_look h.map k
  obtain ⟨hr, hasc, _, hlen⟩ := h.row k
  clear h
  generalize lkL E k = L at *
  generalize lkV E k = v at *
  have HA := Lib.hid hasc
  have HR := Lib.hid hr
  have HU := Lib.hid (upto_le L t)
  obtain ⟨n, hn⟩ : ∃ n, n = upto L t := ⟨_, rfl⟩
  obtain ⟨va, vc, rfl⟩ := hr.len
  clear hr hasc
  have hU := until_any (.slice va L.length vc) L t W HR.out.at_ HA.out (by omega)
  rw [← hn] at hU
  have HUN := Lib.hid hU
  have HV := Lib.hid (rfl : valAt L t = valAt L t)
  clear hU
  by_cases h0 : n = 0
  · have hv : valAt L t = none := by
      unfold valAt
      rw [← hn, h0]
      split <;> simp
    rw [hv]
    clear hv hn HV
    subst h0
    go_enter Try.func31, Try.ntmps31
    go_wp2_with fail
    refine HUN.out.mono ?_
    rintro e W1 ⟨rfl, hb⟩
    have HB := Lib.hid hb
    clear hb
    go_wp2_with fail
    go_ret2
    exact ⟨rfl, HB.out⟩
  · have hnl : n ≤ L.length := by rw [hn]; exact upto_le L t
    obtain ⟨j, hj⟩ : ∃ j, j = n - 1 := ⟨_, rfl⟩
    have hjl : j < L.length := by omega
    obtain ⟨g, c, hve, _, hcx, hgl, hc⟩ := HR.out.get (by omega)
    cases hve
    obtain ⟨_, c1, c2⟩ := hc j hjl
    have hv : valAt L t = if L[j].2.2 = true then none else some L[j].2.1 := by
      unfold valAt
      rw [← hn, ← hj, List.getElem?_eq_getElem hjl]
      show (if n = 0 ∨ L[j].2.2 = true then none else some L[j].2.1) = _
      simp [h0]
    rw [hv]
    have hw : IntKind.i64.wrap ((n : Int) - 1) = (j : Int) := by rw [IntKind.wrap_i64]; omega
    have hne : ((n : Int) == 0) = false := beq_eq_false_iff_ne.2 (by omega)
    have hjp : (j : Int) < (L.length : Int) := by omega
    have hn0 : 0 < n := by omega
    clear hv hn hc HV hj h0 hnl
    generalize L[j].2.1 = s at *
    generalize L[j].2.2 = d at *
    obtain ⟨o, ho⟩ : ∃ o : Option Bs, o = if d = true then none else some s := ⟨_, rfl⟩
    rw [← ho]
    have HO := Lib.hid ho
    clear ho
    go_enter Try.func31, Try.ntmps31
    go_wp2_with fail
    refine HUN.out.mono ?_
    rintro e W1 ⟨rfl, hb⟩
    have e1 := (hb.cell (p := ⟨g, j * 3 + 1, none⟩) hgl).trans c1
    have e2 := (hb.cell (p := ⟨g, j * 3 + 2, none⟩) hgl).trans c2
    have HB := Lib.hid hb
    clear hb c1 c2 hl a0 HU HUN HR
    cases d with
    | true =>
      go_wp2_with fail
      go_ret2
      exact ⟨by rw [HO.out]; rfl, HB.out⟩
    | false =>
      go_wp2_with fail
      go_ret2
      exact ⟨by rw [HO.out]; rfl, HB.out⟩
set_option maxRecDepth 100000 in
theorem new_any (W : World) : Calls Try.prog 39 #[] W fun e W' => e = .returned (.pointer (some ⟨W.heap.size + 1, 0, none⟩)) ∧ Sto W.heap.size W' (W.heap.size + 1) W.heap.size [] 0 ∧ Below W.heap.size W W' := by
  have hmm := @run_makeMap Try.prog
  have hb := Boxed.new (W.alloc (Obj.map #[] 0)) 89 (Value.map (some W.heap.size))
  rw [World.size_alloc] at hb
  have hm : MapAt ((W.alloc (Obj.map #[] 0)).alloc (Obj.cells #[Value.map (some W.heap.size)] 89)) W.heap.size [] 0 := by
    show _ = some (Obj.map #[] 0)
    rw [heap_alloc_old _ _ (by simp)]
    exact heap_alloc_new W _
  have hbb : Below W.heap.size W ((W.alloc (Obj.map #[] 0)).alloc (Obj.cells #[Value.map (some W.heap.size)] 89)) := ((Below.refl _ W).alloc (Nat.le_refl _) _).alloc (by simp) _
  have HX := Lib.hid (And.intro hb (And.intro hm hbb))
  clear hb hm hbb
  go_enter Try.func39, Try.ntmps39
  go_wp2_with fail
  go_ret
  exact ⟨rfl, ⟨HX.out.1, HX.out.2.1, EnOK.nil 0, (fun e he => by cases he), List.Pairwise.nil, (fun e he => by cases he), by omega, by omega, Nat.le_refl _⟩, HX.out.2.2⟩
end Go.Proofs.Ytpcjmceakelilaa
