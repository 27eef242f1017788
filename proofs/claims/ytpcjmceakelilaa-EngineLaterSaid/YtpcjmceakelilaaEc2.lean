/- Merged texts: Mv5, Mv6, Mv7, Mv8, Mv9, Mv10, Mv11. -/
import Derived.Test.YtpcjmceakelilaaEc1
import Derived.RangeFuncBox
/- Mvcc: a store in memory; Last, Get, New. -/
namespace Go.Proofs.Ytpcjmceakelilaa
open Go.ChangeShapes Go.WideShapes Go.ChangeAt Go.RowKit Go.Deep Go.ChangeMaps
set_option linter.unusedVariables false
set_option linter.unusedSimpArgs false
/-- the store at S: its map in block m, the entries E; nothing of it lies below B -/
structure Sto (B : Nat) (W : World) (S m : Nat) (E : List En) (clock : Nat) : Prop where
  box : Boxed W S 89 (.map (some m))
  map : MapAt W m E clock
  ok : EnOK E clock
  rows : ∀ e ∈ E, VRow B W e.val e.vs ∧ e.vs ≠ [] ∧ Asc e.vs ∧ (∀ x ∈ e.vs, 1 ≤ x.1 ∧ x.1 ≤ 1099511627776) ∧ e.vs.length ≤ 5000
  apart : E.Pairwise fun a b => ∀ k, a.val.ownBlock = some k → b.val.ownBlock ≠ some k
  off : ∀ e ∈ E, ∀ k, e.val.ownBlock = some k → k ≠ S ∧ k ≠ m
  mS : m ≠ S
  bS : B ≤ S
  bm : B ≤ m
/-- the blocks of a store -/
def Foot (S m : Nat) (E : List En) (k : Nat) : Prop := k = S ∨ k = m ∨ ∃ e ∈ E, e.val.ownBlock = some k
theorem Sto.foot {B S m clock : Nat} {W : World} {E : List En} (h : Sto B W S m E clock) {k : Nat} (hk : Foot S m E k) : B ≤ k ∧ k < W.heap.size := by
  rcases hk with rfl | rfl | ⟨e, he, hk⟩
  · exact ⟨h.bS, h.box.lt⟩
  · exact ⟨h.bm, h.map.lt⟩
  · exact (h.rows e he).1.lt k hk
theorem Box.kept' {S : Nat → Prop} {W W' : World} {b : Nat} {cs : List Value} (h : Box W b cs) (hk : Kept S W W') (hS : ¬ S b) : Box W' b cs := by
  have e := hk.block b h.lt hS
  exact ⟨fun j v hv => by rw [World.cell?_of_block (a := ⟨b, 0 + j, none⟩) e]; exact h.rng j v hv, fun o => (World.frozen?_of_block (a := ⟨b, o, none⟩) e).trans (h.free o), Nat.lt_of_lt_of_le h.lt hk.size⟩
theorem boxed_kept {S : Nat → Prop} {W W' : World} {b : Nat} {t : TypeId} {v : Value} (h : Boxed W b t v) (hk : Kept S W W') (hS : ¬ S b) : Boxed W' b t v := (hk.block b h.lt hS).trans h
theorem Sto.kept {B S m clock : Nat} {W W' : World} {E : List En} {T : Nat → Prop} (h : Sto B W S m E clock) (hk : Kept T W W') (hT : ∀ k, Foot S m E k → ¬ T k) : Sto B W' S m E clock :=
  ⟨boxed_kept h.box hk (hT _ (.inl rfl)), h.map.kept hk (hT _ (.inr (.inl rfl))), h.ok, fun e he => ⟨(h.rows e he).1.kept hk (fun k hk2 => hT k (.inr (.inr ⟨e, he, hk2⟩))), (h.rows e he).2⟩, h.apart, h.off, h.mS, h.bS, h.bm⟩
theorem Sto.below {B S m clock : Nat} {W W' : World} {E : List En} (h : Sto B W S m E clock) (hb : Below W.heap.size W W') : Sto B W' S m E clock := h.kept (kept_below hb) (fun _ _ h => h)
theorem Sto.drew {B S m clock : Nat} {W : World} {E : List En} (h : Sto B W S m E clock) : Sto B W.drew S m E clock := h.below ⟨rfl, rfl, rfl, Nat.le_refl _, fun _ _ => rfl⟩
theorem Sto.drewN {B S m clock : Nat} {W : World} {E : List En} (h : Sto B W S m E clock) (q : Nat) : Sto B (W.drewN q) S m E clock := h.below ⟨rfl, rfl, rfl, Nat.le_refl _, fun _ _ => rfl⟩
theorem Sto.base {B B' S m clock : Nat} {W : World} {E : List En} (h : Sto B' W S m E clock) (hb : B ≤ B') : Sto B W S m E clock :=
  ⟨h.box, h.map, h.ok, fun e he => ⟨(h.rows e he).1.base hb, (h.rows e he).2⟩, h.apart, h.off, h.mS, Nat.le_trans hb h.bS, Nat.le_trans hb h.bm⟩
/-- the slice of a key -/
theorem Sto.row {B S m clock : Nat} {W : World} {E : List En} (h : Sto B W S m E clock) (k : Bs) : VRow B W (lkV E k) (lkL E k) ∧ Asc (lkL E k) ∧ (∀ x ∈ lkL E k, 1 ≤ x.1 ∧ x.1 ≤ 1099511627776) ∧ (lkL E k).length ≤ 5000 := by
  unfold lkV lkL
  cases hl : lkE E k with
  | none => exact ⟨VRow.nil B W, List.Pairwise.nil, (fun x hx => by cases hx), by simp⟩
  | some e =>
    have := h.rows e (lkE_mem hl).1
    exact ⟨this.1, this.2.2⟩
/-- the time of the last version -/
def lastT (L : List Ver) : Int := match L.getLast? with
  | some x => x.1
  | none => -1
theorem lastT_at {L : List Ver} (h : 0 < L.length) : lastT L = (L[L.length - 1]'(by omega)).1 := by
  unfold lastT
  rw [List.getLast?_eq_getElem?, List.getElem?_eq_getElem (by omega)]
set_option maxRecDepth 100000 in
set_option maxHeartbeats 1600000 in
theorem last_any (B S m clock : Nat) (E : List En) (k : Bs) (W : World) (h : Sto B W S m E clock) :
    Calls Try.prog 36 #[.pointer (some ⟨S, 0, none⟩), .string k] W fun e W' => e = .returned (.int .i64 (lastT (lkL E k))) ∧ W' = W := by
  have a0 := h.box.cell
  have hl := run_look h.map k
  obtain ⟨hr, _, _, hlen⟩ := h.row k
  clear h
  generalize lkL E k = L at *
  generalize lkV E k = v at *
  rcases Nat.eq_zero_or_pos L.length with h0 | h0
  · have hL : L = [] := List.eq_nil_of_length_eq_zero h0
    subst hL
    obtain ⟨va, vc, rfl⟩ := hr.len
    clear hr
    go_enter Try.func36, Try.ntmps36
    go_wp2_with fail
    go_ret
    exact ⟨rfl, rfl⟩
  · obtain ⟨g, c, rfl, h1, h2, h3, hc⟩ := hr.get h0
    have hla := lastT_at h0
    obtain ⟨j, hj⟩ : ∃ j, j = L.length - 1 := ⟨_, rfl⟩
    have hjl : j < L.length := by omega
    have c0 := (hc j hjl).1
    have hla' : lastT L = L[j].1 := by rw [hla]; simp only [hj]
    have HLA := Lib.hid hla'
    have hw : IntKind.i64.wrap ((L.length : Int) - 1) = (j : Int) := by rw [IntKind.wrap_i64]; omega
    have hne : ((L.length : Int) == 0) = false := beq_eq_false_iff_ne.2 (by omega)
    have hjp : (j : Int) < (L.length : Int) := by omega
    clear hla hla' hc hr hj h0
    generalize L[j].1 = s at *
    go_enter Try.func36, Try.ntmps36
    go_wp2_with fail
    go_ret
    exact ⟨by rw [HLA.out]; rfl, rfl⟩
/-- the value of versions at a time -/
def valAt (L : List Ver) (t : Int) : Option Bs := match L[upto L t - 1]? with
  | some x => if upto L t = 0 ∨ x.2.2 = true then none else some x.2.1
  | none => none
def GetOut (o : Option Bs) (W : World) (e : Ending) (W' : World) : Prop := e = .returned (.tuple #[.string (o.getD ⟨#[]⟩), .bool o.isSome]) ∧ Below W.heap.size W W'
set_option maxRecDepth 100000 in
set_option maxHeartbeats 1600000 in
theorem get_any (B S m clock : Nat) (E : List En) (k : Bs) (t : Int) (W : World) (h : Sto B W S m E clock) :
    Calls Try.prog 31 #[.pointer (some ⟨S, 0, none⟩), .string k, .int .i64 t] W (GetOut (valAt (lkL E k) t) W) := by
  have a0 := h.box.cell
  have hl := run_look h.map k
  obtain ⟨hr, hasc, _, hlen⟩ := h.row k
  clear h
  generalize lkL E k = L at *
  generalize lkV E k = v at *
  have HA := Lib.hid hasc
  have HR := Lib.hid hr
  have HU := Lib.hid (upto_le L t)
  obtain ⟨n, hn⟩ : ∃ n, n = upto L t := ⟨_, rfl⟩
  obtain ⟨va, vc, rfl⟩ := hr.len
  clear hr hasc
  have hU := until_any (.slice va L.length vc) L t W HR.out.at_ HA.out (by omega)
  rw [← hn] at hU
  have HUN := Lib.hid hU
  have HV := Lib.hid (rfl : valAt L t = valAt L t)
  clear hU
  by_cases h0 : n = 0
  · have hv : valAt L t = none := by
      unfold valAt
      rw [← hn, h0]
      split <;> simp
    rw [hv]
    clear hv hn HV
    subst h0
    go_enter Try.func31, Try.ntmps31
    go_wp2_with fail
    refine HUN.out.mono ?_
    rintro e W1 ⟨rfl, hb⟩
    have HB := Lib.hid hb
    clear hb
    go_wp2_with fail
    go_ret2
    exact ⟨rfl, HB.out⟩
  · have hnl : n ≤ L.length := by rw [hn]; exact upto_le L t
    obtain ⟨j, hj⟩ : ∃ j, j = n - 1 := ⟨_, rfl⟩
    have hjl : j < L.length := by omega
    obtain ⟨g, c, hve, _, hcx, hgl, hc⟩ := HR.out.get (by omega)
    cases hve
    obtain ⟨_, c1, c2⟩ := hc j hjl
    have hv : valAt L t = if L[j].2.2 = true then none else some L[j].2.1 := by
      unfold valAt
      rw [← hn, ← hj, List.getElem?_eq_getElem hjl]
      show (if n = 0 ∨ L[j].2.2 = true then none else some L[j].2.1) = _
      simp [h0]
    rw [hv]
    have hw : IntKind.i64.wrap ((n : Int) - 1) = (j : Int) := by rw [IntKind.wrap_i64]; omega
    have hne : ((n : Int) == 0) = false := beq_eq_false_iff_ne.2 (by omega)
    have hjp : (j : Int) < (L.length : Int) := by omega
    have hn0 : 0 < n := by omega
    clear hv hn hc HV hj h0 hnl
    generalize L[j].2.1 = s at *
    generalize L[j].2.2 = d at *
    obtain ⟨o, ho⟩ : ∃ o : Option Bs, o = if d = true then none else some s := ⟨_, rfl⟩
    rw [← ho]
    have HO := Lib.hid ho
    clear ho
    go_enter Try.func31, Try.ntmps31
    go_wp2_with fail
    refine HUN.out.mono ?_
    rintro e W1 ⟨rfl, hb⟩
    have e1 := (hb.cell (p := ⟨g, j * 3 + 1, none⟩) hgl).trans c1
    have e2 := (hb.cell (p := ⟨g, j * 3 + 2, none⟩) hgl).trans c2
    have HB := Lib.hid hb
    clear hb c1 c2 hl a0 HU HUN HR
    cases d with
    | true =>
      go_wp2_with fail
      go_ret2
      exact ⟨by rw [HO.out]; rfl, HB.out⟩
    | false =>
      go_wp2_with fail
      go_ret2
      exact ⟨by rw [HO.out]; rfl, HB.out⟩
set_option maxRecDepth 100000 in
theorem new_any (W : World) : Calls Try.prog 39 #[] W fun e W' => e = .returned (.pointer (some ⟨W.heap.size + 1, 0, none⟩)) ∧ Sto W.heap.size W' (W.heap.size + 1) W.heap.size [] 0 ∧ Below W.heap.size W W' := by
  have hmm := @run_makeMap Try.prog
  have hb := Boxed.new (W.alloc (Obj.map #[] 0)) 89 (Value.map (some W.heap.size))
  rw [World.size_alloc] at hb
  have hm : MapAt ((W.alloc (Obj.map #[] 0)).alloc (Obj.cells #[Value.map (some W.heap.size)] 89)) W.heap.size [] 0 := by
    show _ = some (Obj.map #[] 0)
    rw [heap_alloc_old _ _ (by simp)]
    exact heap_alloc_new W _
  have hbb : Below W.heap.size W ((W.alloc (Obj.map #[] 0)).alloc (Obj.cells #[Value.map (some W.heap.size)] 89)) := ((Below.refl _ W).alloc (Nat.le_refl _) _).alloc (by simp) _
  have HX := Lib.hid (And.intro hb (And.intro hm hbb))
  clear hb hm hbb
  go_enter Try.func39, Try.ntmps39
  go_wp2_with fail
  go_ret
  exact ⟨rfl, ⟨HX.out.1, HX.out.2.1, EnOK.nil 0, (fun e he => by cases he), List.Pairwise.nil, (fun e he => by cases he), by omega, by omega, Nat.le_refl _⟩, HX.out.2.2⟩
end Go.Proofs.Ytpcjmceakelilaa
/- Mvcc: an append of a version; Store.add. -/
namespace Go.Proofs.Ytpcjmceakelilaa
open Go.ChangeShapes Go.WideShapes Go.ChangeAt Go.RowKit Go.Deep Go.ChangeMaps
set_option linter.unusedVariables false
set_option linter.unusedSimpArgs false
theorem infoV : (Try.prog.info? 72).map (fun i => (i.zero, i.size, i.bytes)) = some (some (.agg #[.int .i64 0, .string ⟨#[]⟩, .bool false]), 3, 32) := by kernel_rfl
/-- the source of an append -/
def VSrc (W : World) (sv : Value) (x : Ver) : Prop := ∃ ad c, sv = .slice (some ad) 1 c ∧ ∀ j u, (verc x)[j]? = some u → W.cell? (ad.add j) = some u
theorem vsrc_new (W : World) (x : Ver) (t : TypeId) : VSrc (W.alloc (.cells (verc x).toArray t)) (.slice (some ⟨W.heap.size, 0, none⟩) 1 1) x :=
  ⟨_, _, rfl, fun j u hj => by rw [addr_add', Nat.zero_add]; exact (Box.new W (verc x) t).cell j u hj⟩
def ASide (a : Act) (x y : Nat) (v sv : Value) : Prop := a.eval (.tmp x) = v ∧ a.eval (.tmp y) = sv
theorem wp_appV {Q : Exit → Act → World → Prop} {K : Act → World → Prop} (x y B : Nat) (v sv : Value) (L : List Ver) (n : Ver) (d : Option Nat) (pos : String) (af) (a : Act) (W : World)
    (h : VRow B W v L) (hs : L.length ≤ 100000) (hB : B ≤ W.heap.size) (hsrc : VSrc W sv n) (hside : ASide a x y v sv)
    (hK : ∀ v' W', VRow B W' v' (L ++ [n]) → Kept (fun k => v.ownBlock = some k) W W' → (∀ k, v'.ownBlock = some k → v.ownBlock = some k ∨ W.heap.size ≤ k) → K (a.put d v') W') :
    Oper.wp Try.prog { dst := d, op := Op.call { callee := .builtin .append, args := #[.tmp x, .tmp y], argTypes := #[90, 90] }, type := 90, pos := pos, after := af, guard := none } a W K Q := by
  obtain ⟨hx, hy⟩ := hside
  obtain ⟨i9, hi9, hz0, hz1, hz2⟩ := info_parts infoV
  obtain ⟨ad, c, rfl, hc⟩ := hsrc
  obtain ⟨v', w', hr, h2, h3, _, h5⟩ := run_append_own_at (P := Try.prog) W B 90 90 72 i9 (.agg #[.int .i64 0, .string ⟨#[]⟩, .bool false]) 3 32 Try.underlying90 hi9 hz0 hz1 hz2 rfl (by decide) v L.length (vrv L) h ad 1 c (verc n) rfl hc (fun u hu => by simp [verc] at hu; rcases hu with rfl | rfl | rfl <;> rfl) (by unfold maxLen; omega) (by omega) hB
  unfold Oper.wp execOp
  simp only [resolve, invoke, builtin, Sem.run_bind, Sem.run_pure, Result.andThen_ok, List.map_toArray, List.map_cons, List.map_nil, hx, hy, hr]
  refine hK v' w' ?_ ⟨h3.os, h3.tape, h3.output, h3.size, fun k hk hs => h3.block k hk (fun e => hs e.symm)⟩ (fun k hk => ?_)
  · show w'.ownsRow B _ 3 v' (L ++ [n]).length (vrv (L ++ [n]))
    rw [vrv_app, List.length_append]
    have e : vrv [n] = verc n := by simp [vrv]
    rw [e]
    exact h2
  · rcases h5 with h5 | h5
    · exact .inl (by rw [← h5]; exact hk)
    · rw [h5] at hk; cases hk; exact .inr (Nat.le_refl _)
theorem Sto.c0 {B S m clock : Nat} {W : World} {E : List En} (h : Sto B W S m E clock) : W.cell? ⟨S, 0, none⟩ = some (.map (some m)) := h.box.cell
theorem Sto.off_key {B S m clock : Nat} {W : World} {E : List En} (h : Sto B W S m E clock) (k : Bs) : ∀ j, (lkV E k).ownBlock = some j → j ≠ S ∧ j ≠ m := by
  unfold lkV
  cases hl : lkE E k with
  | none => intro j hj; simp [Value.ownBlock] at hj
  | some e => exact h.off e (lkE_mem hl).1
theorem putE_mem {E : List En} {clock : Nat} {k : Bs} {val : Value} {vs : List Ver} (hn : (E.map (·.key)).Nodup) {x : En} (hx : x ∈ putE E clock k val vs) : (x ∈ E ∧ x.key ≠ k) ∨ (x.key = k ∧ x.val = val ∧ x.vs = vs) := by
  unfold putE at hx
  cases hl : lkE E k with
  | some e =>
    rw [hl] at hx
    obtain ⟨y, hy, rfl⟩ := List.mem_map.1 hx
    by_cases hk : y.key = k
    · rw [if_pos hk]; exact .inr ⟨hk, rfl, rfl⟩
    · rw [if_neg hk]; exact .inl ⟨hy, hk⟩
  | none =>
    rw [hl] at hx
    rcases List.mem_append.1 hx with hx | hx
    · exact .inl ⟨hx, lkE_none hl x hx⟩
    · rw [List.mem_singleton.1 hx]; exact .inr ⟨rfl, rfl, rfl⟩
/-- the value of a key is stored -/
theorem Sto.put {B S m clock : Nat} {W W' : World} {E : List En} {T : Nat → Prop} (h : Sto B W S m E clock) (hk : Kept T W W') (k : Bs) (val : Value) (vs : List Ver) (hT : ∀ j, T j → ∀ e ∈ E, e.key ≠ k → e.val.ownBlock ≠ some j) (hT2 : ∀ j, T j → j ≠ S ∧ j ≠ m)
    (hr : VRow B W' val vs) (hne : vs ≠ []) (ha : Asc vs) (hb : ∀ x ∈ vs, 1 ≤ x.1 ∧ x.1 ≤ 1099511627776) (hl : vs.length ≤ 5000) (ho : ∀ j, val.ownBlock = some j → j ≠ S ∧ j ≠ m ∧ ∀ e ∈ E, e.key ≠ k → e.val.ownBlock ≠ some j) :
    Sto B (setBlock W' m (.map (esOf (putE E clock k val vs)) (putC E clock k))) S m (putE E clock k val vs) (putC E clock k) := by
  have hm' : MapAt W' m E clock := h.map.kept hk (fun e => (hT2 m e).2 rfl)
  have hks : Kept (fun j => j = m) W' (setBlock W' m (.map (esOf (putE E clock k val vs)) (putC E clock k))) := setBlock_kept (Kept.refl _ W') m _ (.inl rfl)
  refine ⟨boxed_kept (boxed_kept h.box hk (fun e => (hT2 S e).1 rfl)) hks (fun e => h.mS e.symm), setBlock_at hm', h.ok.put k val vs, fun e he => ?_, ?_, fun e he j hj => ?_, h.mS, h.bS, h.bm⟩
  · rcases putE_mem h.ok.keys he with ⟨he, hek⟩ | ⟨_, e2, e3⟩
    · exact ⟨((h.rows e he).1.kept hk (fun j hj ht => hT j ht e he hek hj)).kept hks (fun j hj => (h.off e he j hj).2), (h.rows e he).2⟩
    · rw [e2, e3]; exact ⟨hr.kept hks (fun j hj => (ho j hj).2.1), hne, ha, hb, hl⟩
  · unfold putE
    cases hlk : lkE E k with
    | some e =>
      show (updE E k val vs).Pairwise _
      unfold updE
      have hkk : E.Pairwise fun a b => a.key ≠ b.key := by
        have := h.ok.keys
        unfold List.Nodup at this
        rwa [List.pairwise_map] at this
      refine List.pairwise_map.2 ((h.apart.and (hkk.and (List.pairwise_of_forall_mem_list (l := E) (r := fun a b => a ∈ E ∧ b ∈ E) (fun a ha b hb => ⟨ha, hb⟩)))).imp ?_)
      rintro a b ⟨hab, hne2, haE, hbE⟩ j hj hj2
      by_cases hak : a.key = k
      · rw [if_pos hak] at hj
        by_cases hbk : b.key = k
        · exact hne2 (by rw [hak, hbk])
        · rw [if_neg hbk] at hj2; exact (ho j hj).2.2 b hbE hbk hj2
      · rw [if_neg hak] at hj
        by_cases hbk : b.key = k
        · rw [if_pos hbk] at hj2; exact (ho j hj2).2.2 a haE hak hj
        · rw [if_neg hbk] at hj2; exact hab j hj hj2
    | none =>
      show (E ++ [⟨k, vs, val, clock⟩] : List En).Pairwise _
      rw [List.pairwise_append]
      refine ⟨h.apart, List.pairwise_singleton _ _, fun a ha b hb j hj hj2 => ?_⟩
      rw [List.mem_singleton.1 hb] at hj2
      exact (ho j hj2).2.2 a ha (lkE_none hlk a ha) hj
  · rcases putE_mem h.ok.keys he with ⟨he, hek⟩ | ⟨_, e2, _⟩
    · exact h.off e he j hj
    · rw [e2] at hj; exact ⟨(ho j hj).1, (ho j hj).2.1⟩
theorem Sto.ne_own {B S m clock : Nat} {W : World} {E : List En} (h : Sto B W S m E clock) {x e : En} (hx : x ∈ E) (he : e ∈ E) (hne : x.key ≠ e.key) : ∀ j, x.val.ownBlock = some j → e.val.ownBlock ≠ some j := by
  obtain ⟨i, hi, rfl⟩ := List.mem_iff_getElem.1 hx
  obtain ⟨l, hl, rfl⟩ := List.mem_iff_getElem.1 he
  have hp := List.pairwise_iff_getElem.1 h.apart
  intro j h1 h2
  rcases Nat.lt_trichotomy i l with h3 | h3 | h3
  · exact hp i l hi hl h3 j h1 h2
  · subst h3; exact hne rfl
  · exact hp l i hl hi h3 j h2 h1
theorem Sto.apart_key {B S m clock : Nat} {W : World} {E : List En} (h : Sto B W S m E clock) (k : Bs) : ∀ j, (lkV E k).ownBlock = some j → ∀ e ∈ E, e.key ≠ k → e.val.ownBlock ≠ some j := by
  unfold lkV
  cases hl : lkE E k with
  | none => intro j hj; simp [Value.ownBlock] at hj
  | some x => exact fun j hj e he hek => h.ne_own (lkE_mem hl).1 he (by rw [(lkE_mem hl).2]; exact fun e2 => hek e2.symm) j hj
theorem Sto.foot_key {B S m clock : Nat} {W : World} {E : List En} (h : Sto B W S m E clock) (k : Bs) : ∀ j, (lkV E k).ownBlock = some j → Foot S m E j := by
  unfold lkV
  cases hl : lkE E k with
  | none => intro j hj; simp [Value.ownBlock] at hj
  | some x => exact fun j hj => .inr (.inr ⟨x, (lkE_mem hl).1, hj⟩)
theorem asc_snoc {L : List Ver} {x : Ver} (h : Asc L) (hx : lastT L < x.1) : Asc (L ++ [x]) := by
  rcases Nat.eq_zero_or_pos L.length with h0 | h0
  · rw [List.eq_nil_of_length_eq_zero h0]; exact List.pairwise_singleton _ _
  · unfold Asc
    rw [List.pairwise_append]
    refine ⟨h, List.pairwise_singleton _ _, fun a ha b hb => ?_⟩
    rw [List.mem_singleton.1 hb]
    rw [lastT_at h0] at hx
    obtain ⟨i, hi, rfl⟩ := List.mem_iff_getElem.1 ha
    rcases Nat.lt_or_ge i (L.length - 1) with h2 | h2
    · have := List.pairwise_iff_getElem.1 h i (L.length - 1) hi (by omega) h2
      omega
    · have e : i = L.length - 1 := by omega
      subst e; exact hx
/-- what a call that changes a store leaves -/
def Turned (B S m : Nat) (E : List En) (W : World) (W' : World) (E' : List En) (clock' : Nat) : Prop :=
  Sto B W' S m E' clock' ∧ (∀ j, Foot S m E' j → Foot S m E j ∨ W.heap.size ≤ j) ∧ Kept (Foot S m E) W W'
theorem turned_put {B S m clock : Nat} {W Wa w4 : World} {E : List En} {k : Bs} {v4 : Value} {vs : List Ver} (hq : Sto B Wa S m E clock) (hr : VRow B w4 v4 vs) (hk : Kept (fun j => (lkV E k).ownBlock = some j) Wa w4) (ho : ∀ j, v4.ownBlock = some j → (lkV E k).ownBlock = some j ∨ Wa.heap.size ≤ j)
    (hsz : W.heap.size ≤ Wa.heap.size) (hb : Below W.heap.size W Wa) (hne : vs ≠ []) (ha : Asc vs) (hx : ∀ x ∈ vs, 1 ≤ x.1 ∧ x.1 ≤ 1099511627776) (hl : vs.length ≤ 5000) :
    Turned B S m E W (setBlock w4 m (.map (esOf (putE E clock k v4 vs)) (putC E clock k))) (putE E clock k v4 vs) (putC E clock k) := by
  have hks : Kept (fun j => j = m) w4 (setBlock w4 m (.map (esOf (putE E clock k v4 vs)) (putC E clock k))) := setBlock_kept (Kept.refl _ w4) m _ (.inl rfl)
  refine ⟨hq.put hk k v4 vs (fun j hj e he hek => hq.apart_key k j hj e he hek) (fun j hj => hq.off_key k j hj) hr hne ha hx hl (fun j hj => ?_), fun j hj => ?_, ?_⟩
  · rcases ho j hj with h | h
    · exact ⟨(hq.off_key k j h).1, (hq.off_key k j h).2, hq.apart_key k j h⟩
    · exact ⟨fun e => by have := hq.box.lt; omega, fun e => by have := hq.map.lt; omega, fun e he _ e2 => by have := ((hq.rows e he).1.lt j e2).2; omega⟩
  · rcases hj with h | h | ⟨e, he, hj⟩
    · exact .inl (.inl h)
    · exact .inl (.inr (.inl h))
    · rcases putE_mem hq.ok.keys he with ⟨he, _⟩ | ⟨_, e2, _⟩
      · exact .inl (.inr (.inr ⟨e, he, hj⟩))
      · rw [e2] at hj
        rcases ho j hj with h | h
        · exact .inl (hq.foot_key k j h)
        · exact .inr (by omega)
  · have h1 : Kept (Foot S m E) W Wa := ⟨hb.os, hb.tape, hb.output, hb.size, fun j hj _ => hb.block j hj⟩
    exact (h1.trans hk (fun j hj => .inl (hq.foot_key k j hj))).trans hks (fun j hj => .inl (.inr (.inl hj)))
def AddOut (B S m : Nat) (E : List En) (clock : Nat) (k : Bs) (x : Ver) (W : World) (e : Ending) (W' : World) : Prop :=
  e = .returned (.int .i64 0) ∧ ∃ val, Turned B S m E W W' (putE E clock k val (lkL E k ++ [x])) (putC E clock k)
def BadOut (W : World) (e : Ending) (W' : World) : Prop := e = .returned (.int .i64 1) ∧ Below W.heap.size W W'
set_option maxRecDepth 100000 in
set_option maxHeartbeats 1600000 in
theorem add_bad (B S m clock : Nat) (E : List En) (k : Bs) (s : Int) (vl : Bs) (dl : Bool) (W : World) (h : Sto B W S m E clock) (hbad : s < 1 ∨ 1099511627776 < s ∨ s ≤ lastT (lkL E k)) :
    Calls Try.prog 58 #[.pointer (some ⟨S, 0, none⟩), .string k, .agg #[.int .i64 s, .string vl, .bool dl]] W (BadOut W) := by
  have hb5 := Box.new W [.int .i64 s, .string vl, .bool dl] 72
  have hbb : Below W.heap.size W (W.alloc (.cells #[.int .i64 s, .string vl, .bool dl] 72)) := (Below.refl _ W).alloc (Nat.le_refl _) _
  have HL := Lib.hid (fun q => last_any B S m clock E k _ ((h.below hbb).drewN q))
  have HB := Lib.hid hbb
  have HX := Lib.hid hb5
  clear hb5 hbb h
  obtain ⟨la, hla⟩ : ∃ la, la = lastT (lkL E k) := ⟨_, rfl⟩
  rw [← hla] at hbad HL
  clear hla
  have hfin : ∀ q, Below W.heap.size W ((W.alloc (.cells #[.int .i64 s, .string vl, .bool dl] 72)).drewN q) := fun q => HB.out.trans ⟨rfl, rfl, rfl, Nat.le_refl _, fun _ _ => rfl⟩
  have HF := Lib.hid hfin
  clear hfin
  by_cases h1 : s < 1
  · have d1 : decide (s < 1) = true := decide_eq_true h1
    clear hbad h1
    go_enter Try.func58, Try.ntmps58
    go_wp2_with fail
    go_quiet (fail)
    go_wp2_with fail
    go_ret
    exact ⟨rfl, HF.out _⟩
  · have d1 : decide (s < 1) = false := decide_eq_false h1
    by_cases h2 : 1099511627776 < s
    · have d2 : decide (1099511627776 < s) = true := decide_eq_true h2
      clear hbad h1 h2
      go_enter Try.func58, Try.ntmps58
      go_wp2_with fail
      go_quiet (fail)
      go_wp2_with fail
      go_ret
      exact ⟨rfl, HF.out _⟩
    · have d2 : decide (1099511627776 < s) = false := decide_eq_false h2
      have d3 : decide (s ≤ la) = true := decide_eq_true (by omega)
      clear hbad h1 h2
      go_enter Try.func58, Try.ntmps58
      go_wp2_with fail
      go_quiet ((go_at_call 36; refine Calls.quiet_of_same (HL.out _)))
      go_wp2_with fail
      go_ret
      exact ⟨rfl, HF.out _⟩
set_option maxRecDepth 100000 in
set_option maxHeartbeats 3200000 in
theorem add_ok (B S m clock : Nat) (E : List En) (k : Bs) (s : Int) (vl : Bs) (dl : Bool) (W : World) (h : Sto B W S m E clock) (hB : B ≤ W.heap.size) (h1 : ¬ s < 1) (h2 : ¬ 1099511627776 < s) (h3 : ¬ s ≤ lastT (lkL E k)) (hlen : (lkL E k).length + 1 ≤ 5000) :
    Calls Try.prog 58 #[.pointer (some ⟨S, 0, none⟩), .string k, .agg #[.int .i64 s, .string vl, .bool dl]] W (AddOut B S m E clock k (s, vl, dl) W) := by
  have hb5 := Box.new W [.int .i64 s, .string vl, .bool dl] 72
  have hbb : Below W.heap.size W (W.alloc (.cells #[.int .i64 s, .string vl, .bool dl] 72)) := (Below.refl _ W).alloc (Nat.le_refl _) _
  have HL := Lib.hid (fun q => last_any B S m clock E k _ ((h.below hbb).drewN q))
  have HH := Lib.hid h
  have HB := Lib.hid hbb
  have HX := Lib.hid hb5
  have HS3 := Lib.hid (And.intro h1 (And.intro h2 h3))
  clear hb5 hbb h
  obtain ⟨la, hla⟩ : ∃ la, la = lastT (lkL E k) := ⟨_, rfl⟩
  rw [← hla] at h3 HL
  have HLA := Lib.hid hla
  clear hla
  have d1 : decide (s < 1) = false := decide_eq_false h1
  have d2 : decide (1099511627776 < s) = false := decide_eq_false h2
  have d3 : decide (s ≤ la) = false := decide_eq_false h3
  clear h1 h2 h3
  go_enter Try.func58, Try.ntmps58
  go_wp2_with fail
  go_quiet ((go_at_call 36; refine Calls.quiet_of_same (HL.out _)))
  go_wp2_with fail
  clear d1 d2 d3 HL
  generalize hW2 : World.drewN _ _ = W2
  have hBe : Below (W.alloc (.cells #[.int .i64 s, .string vl, .bool dl] 72)).heap.size (W.alloc (.cells #[.int .i64 s, .string vl, .bool dl] 72)) W2 := by rw [← hW2]; exact ⟨rfl, rfl, rfl, Nat.le_refl _, fun _ _ => rfl⟩
  clear hW2
  have HBE := Lib.hid (HB.out.trans (hBe.mono HB.out.size))
  have hS := HH.out.below HBE.out
  have HS := Lib.hid hS
  have hx2 := HX.out.keep hBe
  generalize hb5e : W.heap.size = b5 at hx2 ⊢
  have HB5 := Lib.hid (show ¬ (lkV E k).ownBlock = some b5 from fun e => by have := (HH.out.row k).1.lt _ e; omega)
  have HBW := Lib.hid (show B ≤ W2.heap.size from Nat.le_trans hB HBE.out.size)
  have c0 := hS.drew.c0
  have hm2 := hS.drew.map
  have c1 : W2.drew.cell? ⟨b5, 0, none⟩ = _ := hx2.cell 0 _ rfl
  have c2 : W2.drew.cell? ⟨b5, 1, none⟩ = _ := hx2.cell 1 _ rfl
  have c3 : W2.drew.cell? ⟨b5, 2, none⟩ = _ := hx2.cell 2 _ rfl
  have hbl : b5 < W2.drew.heap.size := hx2.lt
  have HRW := Lib.hid ((hS.drew.kept ((Kept.refl (fun _ => False) W2.drew).alloc (.cells #[.int .i64 s, .string vl, .bool dl] 72)) (fun _ _ h => h)).row k).1
  clear hS hx2 hBe hb5e
  refine wp_region_ordW 15 14 [(0, 0), (1, 0), (2, 0), (3, 1), (4, 0), (5, 0), (6, 0), (7, 0), (8, 1), (9, 0), (10, 1), (11, 1), (12, 2), (13, 2), (14, 3)] (fun X => X.cell? ⟨S, 0, none⟩ = some (.map (some m)) ∧ MapAt X m E clock ∧ X.cell? ⟨b5, 0, none⟩ = some (.int .i64 s) ∧ X.cell? ⟨b5, 1, none⟩ = some (.string vl) ∧ X.cell? ⟨b5, 2, none⟩ = some (.bool dl)) (by kernel_rfl) (by kernel_rfl) ⟨c0, hm2, c1, c2, c3⟩ (fun c a d v w h => by cases d <;> exact h) ?_
  apply wpOrd_read0
  case hi => rfl
  case hw => rfl
  case hy => (intro w; go_simp; try rfl)
  intro K hK; go_simp; refine hK _ _ ?_; clear hK K
  apply wpOrd_read0
  case hi => rfl
  case hw => rfl
  case hy => (intro w; go_simp; try rfl)
  intro K hK; go_simp; refine hK _ _ ?_; clear hK K
  apply wpOrd_read0
  case hi => rfl
  case hw => rfl
  case hy => (intro w; go_simp; try rfl)
  intro K hK; go_simp; refine hK _ _ ?_; clear hK K
  apply wpOrd_read1
  case hi => rfl
  case hw => rfl
  case hy => (intro w hw; obtain ⟨h1, h2, h3, h4, h5⟩ := hw; go_simp; try rfl)
  intro K hK; go_simp; refine hK _ _ ?_; clear hK K
  apply wpOrd_read0
  case hi => rfl
  case hw => rfl
  case hy => (intro w; go_simp; try rfl)
  intro K hK; go_simp; refine hK _ _ ?_; clear hK K
  apply wpOrd_read0
  case hi => rfl
  case hw => rfl
  case hy => (intro w; go_simp; try rfl)
  intro K hK; go_simp; refine hK _ _ ?_; clear hK K
  apply wpOrd_read0
  case hi => rfl
  case hw => rfl
  case hy => (intro w; go_simp; try rfl)
  intro K hK; go_simp; refine hK _ _ ?_; clear hK K
  apply wpOrd_read0
  case hi => rfl
  case hw => rfl
  case hy => (intro w; go_simp; try rfl)
  intro K hK; go_simp; refine hK _ _ ?_; clear hK K
  apply wpOrd_read1
  case hi => rfl
  case hw => rfl
  case hy => (intro w hw; obtain ⟨h1, h2, h3, h4, h5⟩ := hw; go_simp; try rfl)
  intro K hK; go_simp; refine hK _ _ ?_; clear hK K
  apply wpOrd_read0
  case hi => rfl
  case hw => rfl
  case hy => (intro w; go_simp; try rfl)
  intro K hK; go_simp; refine hK _ _ ?_; clear hK K
  apply wpOrd_read1
  case hi => rfl
  case hw => rfl
  case hy => (intro w hw; have hlk := run_look hw.2.1 k; go_simp; try rfl)
  intro K hK; go_simp; refine hK _ _ ?_; clear hK K
  apply wpOrd_read1
  case hi => rfl
  case hw => rfl
  case hy => (intro w hw; obtain ⟨h1, h2, h3, h4, h5⟩ := hw; go_simp; try rfl)
  intro K hK; go_simp; refine hK _ _ ?_; clear hK K
  apply wpOrd_eff2
  case hi => rfl
  case hw => rfl
  intro K hK
  go_simp
  refine hK _ _ ⟨ca (W := W2.drew) HS.out.drew.box.lt c0, hm2.kept ((Kept.refl (fun _ => False) W2.drew).alloc _) (fun h => h), ca (W := W2.drew) hbl c1, ca (W := W2.drew) hbl c2, ca (W := W2.drew) hbl c3⟩ ?_
  clear hK K
  apply wpOrd_eff2
  case hi => rfl
  case hw => rfl
  intro K hK
  refine wp_appV 35 37 B (lkV E k) (.slice (some ⟨W2.heap.size, 0, none⟩) 1 1) (lkL E k) (s, vl, dl) _ _ _ _ _ HRW.out (by omega) (Nat.le_trans HBW.out (by simp)) (vsrc_new W2.drew _ _) ⟨rfl, rfl⟩ ?_
  intro v4 w4 hr4 hk4 ho4
  have HX := Lib.hid (And.intro hr4 (And.intro hk4 ho4))
  have q1 : Sto B (W2.drew.alloc (.cells #[.int .i64 s, .string vl, .bool dl] 72)) S m E clock := HS.out.drew.kept ((Kept.refl (fun _ => False) W2.drew).alloc _) (fun _ _ h => h)
  have hoff := q1.off_key k
  have m4 := q1.map.kept hk4 (fun h => (hoff m h).2 rfl)
  refine hK _ _ ⟨cell_kept2 hk4 q1.box.lt (fun h => (hoff S h).1 rfl) q1.c0, m4, cell_kept2 hk4 (Nat.lt_of_lt_of_le hbl (by simp)) HB5.out (ca (W := W2.drew) hbl c1), cell_kept2 hk4 (Nat.lt_of_lt_of_le hbl (by simp)) HB5.out (ca (W := W2.drew) hbl c2), cell_kept2 hk4 (Nat.lt_of_lt_of_le hbl (by simp)) HB5.out (ca (W := W2.drew) hbl c3)⟩ ?_
  clear hK K
  have HQ1 := Lib.hid q1
  have hup := run_upd m4 q1.ok.keys k v4 (lkL E k ++ [(s, vl, dl)])
  clear hr4 hk4 ho4 q1 hoff
  apply wpOrd_eff3
  case hi => rfl
  case hw => rfl
  intro K hK
  go_simp
  refine hK _ _ (wpOrd_nil ?_)
  clear hK K

  try clear c0 hm2 c1 c2 c3 hbl hup m4
  go_wp2_with fail
  go_ret
  exact ⟨rfl, v4, turned_put HQ1.out HX.out.1 HX.out.2.1 HX.out.2.2 (by have := HBE.out.size; simp; omega) (HBE.out.drew.alloc HBE.out.size _) (by simp) (asc_snoc (HH.out.row k).2.1 (by have := HS3.out; omega)) (fun x hx => by
    rcases List.mem_append.1 hx with hx | hx
    · exact (HH.out.row k).2.2.1 x hx
    · rw [List.mem_singleton.1 hx]; have := HS3.out; exact ⟨by show 1 ≤ s; omega, by show s ≤ 1099511627776; omega⟩) (by rw [List.length_append]; exact hlen)⟩
end Go.Proofs.Ytpcjmceakelilaa
/- Mvcc: Put, Delete; a range over a map: its steps. -/
namespace Go.Proofs.Ytpcjmceakelilaa
open Go.ChangeShapes Go.WideShapes Go.ChangeAt Go.RowKit Go.Deep Go.ChangeMaps
set_option linter.unusedVariables false
set_option linter.unusedSimpArgs false
set_option maxRecDepth 100000 in
theorem put_of (S : Nat) (k vl : Bs) (s : Int) (W : World) (n : Int) (R : World → Prop) (h : Calls Try.prog 58 #[.pointer (some ⟨S, 0, none⟩), .string k, .agg #[.int .i64 s, .string vl, .bool false]] W fun e W' => e = .returned (.int .i64 n) ∧ R W') :
    Calls Try.prog 41 #[.pointer (some ⟨S, 0, none⟩), .string k, .string vl, .int .i64 s] W fun e W' => e = .returned (.int .i64 n) ∧ R W' := by
  have H := Lib.hid h
  clear h
  go_enter Try.func41, Try.ntmps41
  go_wp2_with fail
  refine H.out.mono ?_
  rintro e W1 ⟨rfl, hR⟩
  have HR := Lib.hid hR
  clear hR H
  go_wp2_with fail
  go_ret
  exact ⟨rfl, HR.out⟩
set_option maxRecDepth 100000 in
theorem del_of (S : Nat) (k : Bs) (s : Int) (W : World) (n : Int) (R : World → Prop) (h : Calls Try.prog 58 #[.pointer (some ⟨S, 0, none⟩), .string k, .agg #[.int .i64 s, .string ⟨#[]⟩, .bool true]] W fun e W' => e = .returned (.int .i64 n) ∧ R W') :
    Calls Try.prog 40 #[.pointer (some ⟨S, 0, none⟩), .string k, .int .i64 s] W fun e W' => e = .returned (.int .i64 n) ∧ R W' := by
  have H := Lib.hid h
  clear h
  go_enter Try.func40, Try.ntmps40
  go_wp2_with fail
  refine H.out.mono ?_
  rintro e W1 ⟨rfl, hR⟩
  have HR := Lib.hid hR
  clear hR H
  go_wp2_with fail
  go_ret
  exact ⟨rfl, HR.out⟩
/-- the iterator in block r over the map in block m: the stamps that it has handed out -/
def IterAt (W : World) (r m since : Nat) (seen : Array Nat) (last : Nat) : Prop := W.heap[r]? = some (.mapIter (some m) since seen last)
theorem IterAt.lt {W : World} {r m since last : Nat} {seen : Array Nat} (h : IterAt W r m since seen last) : r < W.heap.size := (Array.getElem?_eq_some_iff.1 h).1
theorem IterAt.kept {S : Nat → Prop} {W W' : World} {r m since last : Nat} {seen : Array Nat} (h : IterAt W r m since seen last) (hk : Kept S W W') (hS : ¬ S r) : IterAt W' r m since seen last := (hk.block r h.lt hS).trans h
theorem run_range_E {W : World} {m clock : Nat} {E : List En} (h : MapAt W m E clock) :
    (Instr.range 87 (.map (some m))).run Try.prog W = .ok (.pointer (some ⟨W.heap.size, 0, none⟩)) (W.alloc (.mapIter (some m) clock #[] clock)) :=
  run_range_map W _ 9 90 m (esOf E) clock Try.underlying87 h
theorem run_next_E {W : World} {m r clock since last : Nat} {seen : Array Nat} {E : List En} (hm : MapAt W m E clock) (hr : IterAt W r m since seen last) (hold : ∀ e ∈ E, e.born < since) (hsl : since ≤ last) (ty : TypeId) :
    ((∀ e ∈ E, seen.contains e.born = true) ∧ (Instr.next (.pointer (some ⟨r, 0, none⟩)) false ty).run Try.prog W = .ok (.tuple #[.bool false]) W) ∨
    ∃ e ∈ E, seen.contains e.born = false ∧ ∃ W1, (W1 = W ∨ W1 = W.drew) ∧ (Instr.next (.pointer (some ⟨r, 0, none⟩)) false ty).run Try.prog W = .ok (.tuple #[.bool true, .string e.key, e.val]) (setBlock W1 r (.mapIter (some m) since (seen.push e.born) clock)) := by
  have hold' : ∀ x ∈ (esOf E).toList, x.born < since := fun x hx => by
    rw [esOf_list] at hx
    obtain ⟨e, he, rfl⟩ := List.mem_map.1 hx
    exact hold e he
  have hm' : W.heap[m]? = some (.map (esOf E) clock) := hm
  have hr' : W.heap[r]? = some (.mapIter (some m) since seen last) := hr
  simp only [Instr.next, getObj, Sem.run_bind, Sem.run, hr', hm', Result.andThen, next_test_false seen (esOf E) since last hold' hsl, Bool.false_eq_true, if_false]
  have hmem : ∀ x ∈ (Array.filter (fun e => !seen.contains e.born) (esOf E)).toList, x.born < since := fun x hx => hold' x (by simp at hx ⊢; exact hx.1)
  have hin : ∀ x ∈ (Array.filter (fun e => !seen.contains e.born) (esOf E)).toList, ∃ e ∈ E, x = e.entry ∧ seen.contains e.born = false := fun x hx => by
    have h1 := Array.mem_filter.1 (Array.mem_toList_iff.1 hx)
    have h2 : x ∈ (esOf E).toList := Array.mem_toList_iff.2 h1.1
    rw [esOf_list] at h2
    obtain ⟨e, he, rfl⟩ := List.mem_map.1 h2
    exact ⟨e, he, rfl, by simpa [En.entry] using h1.2⟩
  have hall : (Array.filter (fun e => !seen.contains e.born) (esOf E)).size = 0 → ∀ e ∈ E, seen.contains e.born = true := fun h0 e he => by
    cases hc : seen.contains e.born with
    | true => rfl
    | false =>
      have h1 : e.entry ∈ Array.filter (fun e => !seen.contains e.born) (esOf E) := Array.mem_filter.2 ⟨Array.mem_toList_iff.1 (by rw [esOf_list]; exact List.mem_map.2 ⟨e, he, rfl⟩), by simpa [En.entry] using hc⟩
      rw [Array.eq_empty_of_size_eq_zero h0] at h1
      cases h1
      contradiction
  generalize Array.filter (fun e => !seen.contains e.born) (esOf E) = L at hmem hin hall ⊢
  have e1 : L.filter (fun x => decide (x.born < since)) = L := Array.filter_eq_self.2 (fun x hx => by simpa using hmem x (by simpa using hx))
  have e2 : L.filter (fun x => decide (x.born ≥ since)) = #[] := by
    rw [Array.filter_eq_empty_iff]
    intro x hx
    have := hmem x (by simpa using hx)
    simp
    omega
  simp only [e1, e2, Array.append_empty]
  by_cases h0 : L.size = 0
  · left
    refine ⟨hall h0, ?_⟩
    have : L = #[] := Array.eq_empty_of_size_eq_zero h0
    subst this
    simp [choose, Sem.run, Question.forced]
  · right
    have hne : L.isEmpty = false := by simp [Array.isEmpty, h0]
    simp only [hne, Bool.false_eq_true, if_false, Array.empty_append, Array.size_map]
    have hch : ∃ (j : Nat) (W1 : World), j < L.size ∧ (W1 = W ∨ W1 = W.drew) ∧ (choose (Question.mapNext L.size)).run Try.prog W = .ok j W1 := by
      by_cases hf : L.size ≤ 1
      · exact ⟨0, W, by omega, .inl rfl, by simp [choose, Sem.run, Question.forced, hf]⟩
      · exact ⟨_, W.drew, Nat.mod_lt _ (by omega), .inr rfl, by
          simp only [choose, Sem.run, Question.forced, decide_eq_true_eq, hf, if_false, Question.cut]
          rfl⟩
    obtain ⟨j, W1, hj, hal, hrun⟩ := hch
    obtain ⟨e, he, hLe, hse⟩ := hin L[j] (by simp)
    refine ⟨e, he, hse, W1, hal, ?_⟩
    have hr1 : W1.heap[r]? = some (.mapIter (some m) since seen last) := by rcases hal with rfl | rfl <;> exact hr
    have hset : ∀ (o' : Obj), (setObj r o').run Try.prog W1 = .ok () (setBlock W1 r o') := fun o' => by
      simp only [setObj, Sem.run, hr1]
      rfl
    simp only [hrun, Array.getElem?_map, Array.getElem?_eq_getElem hj, Option.map_some, Sem.run_bind, hset, Result.andThen, hLe]
    rfl
theorem run_entry_E {W : World} {m r clock since : Nat} {seen : Array Nat} {E : List En} {e : En} (hm : MapAt W m E clock) (hr : IterAt W r m since (seen.push e.born) clock) (he : e ∈ E) (hn : (E.map (·.born)).Nodup) :
    (Instr.entry (.pointer (some ⟨r, 0, none⟩))).run Try.prog W = .ok (.tuple #[.string e.key, e.val]) W := by
  have hm' : W.heap[m]? = some (.map (esOf E) clock) := hm
  have hr' : W.heap[r]? = some (.mapIter (some m) since (seen.push e.born) clock) := hr
  have hf : (esOf E).find? (·.born == e.entry.born) = some e.entry := by
    rw [← Array.find?_toList]
    refine find_born e.entry _ ?_ ?_
    · rw [esOf_list, List.map_map]; exact hn
    · rw [esOf_list]; exact List.mem_map.2 ⟨e, he, rfl⟩
  have hf' : (esOf E).find? (·.born == e.born) = some e.entry := hf
  simp only [Instr.entry, getObj, Sem.run_bind, Sem.run, hr', hm', Result.andThen, Array.back?_push, bne_self_eq_false, Bool.false_eq_true, if_false, hf']
  rfl
end Go.Proofs.Ytpcjmceakelilaa
/- Mvcc: what has been met in a range; Versions. -/
namespace Go.Proofs.Ytpcjmceakelilaa
open Go.ChangeShapes Go.WideShapes Go.ChangeAt Go.RowKit Go.Deep Go.ChangeMaps
set_option linter.unusedVariables false
set_option linter.unusedSimpArgs false
def seenN : List En → Array Nat → (En → Nat) → Nat
  | [], _, _ => 0
  | e :: E, s, f => (if s.contains e.born then f e else 0) + seenN E s f
theorem seenN_other (f : En → Nat) (s : Array Nat) (b : Nat) : ∀ (E : List En), b ∉ E.map (·.born) → seenN E (s.push b) f = seenN E s f
  | [], _ => rfl
  | x :: E, h => by
    have hx : (x.born == b) = false := by
      cases hc : x.born == b with
      | false => rfl
      | true => exact absurd (List.mem_cons.2 (.inl (beq_iff_eq.1 hc).symm)) h
    simp only [seenN, contains_push, hx, Bool.or_false, seenN_other f s b E (fun e => h (List.mem_cons.2 (.inr e)))]
theorem seenN_push (f : En → Nat) (s : Array Nat) (e : En) (hs : s.contains e.born = false) : ∀ (E : List En), (E.map (·.born)).Nodup → e ∈ E → seenN E (s.push e.born) f = seenN E s f + f e
  | x :: E, hn, he => by
    have hn' := List.nodup_cons.1 hn
    rcases List.mem_cons.1 he with rfl | he
    · simp only [seenN, contains_push, hs, beq_self_eq_true, Bool.or_true, if_true, Bool.false_eq_true, if_false, seenN_other f s _ E hn'.1]
      omega
    · have hne : (x.born == e.born) = false := by
        cases hc : x.born == e.born with
        | false => rfl
        | true => exact absurd (List.mem_map.2 ⟨e, he, (beq_iff_eq.1 hc).symm⟩) hn'.1
      simp only [seenN, contains_push, hne, Bool.or_false, seenN_push f s e hs E hn'.2 he]
      omega
theorem seenN_all (f : En → Nat) (s : Array Nat) : ∀ (E : List En), (∀ e ∈ E, s.contains e.born = true) → seenN E s f = (E.map f).sum
  | [], _ => rfl
  | x :: E, h => by
    simp only [seenN, h x List.mem_cons_self, if_true, List.map_cons, List.sum_cons, seenN_all f s E (fun e he => h e (List.mem_cons_of_mem _ he))]
theorem seenN_le (f : En → Nat) (s : Array Nat) : ∀ (E : List En), seenN E s f ≤ (E.map f).sum
  | [] => Nat.le_refl _
  | x :: E => by
    have := seenN_le f s E
    simp only [seenN, List.map_cons, List.sum_cons]
    split <;> omega
theorem seenN_nil (f : En → Nat) : ∀ (E : List En), seenN E #[] f = 0
  | [] => rfl
  | x :: E => by simp [seenN, seenN_nil f E]
/-- how many are left -/
def unseen (E : List En) (s : Array Nat) : Nat := E.length - seenN E s (fun _ => 1)
theorem unseen_push (E : List En) (s : Array Nat) (e : En) (hs : s.contains e.born = false) (hn : (E.map (·.born)).Nodup) (he : e ∈ E) : unseen E (s.push e.born) < unseen E s := by
  have h1 := seenN_push (fun _ => 1) s e hs E hn he
  have h2 := seenN_le (fun _ => 1) (s.push e.born) E
  have h3 : (E.map (fun _ => 1)).sum = E.length := by
    clear h1 h2 he hn
    induction E with
    | nil => rfl
    | cons a E ih => simp only [List.map_cons, List.sum_cons, ih, List.length_cons]; omega
  unfold unseen
  omega
theorem iterSeen_at {W : World} {r m since last : Nat} {seen : Array Nat} (h : IterAt W r m since seen last) : W.iterSeen r = seen := by
  unfold World.iterSeen
  rw [show W.heap[r]? = _ from h]
theorem iter_set {W : World} {r m since last m' since' last' : Nat} {seen seen' : Array Nat} (h : IterAt W r m since seen last) : IterAt (setBlock W r (.mapIter (some m') since' seen' last')) r m' since' seen' last' := setBlock_at h
theorem iter_drew {W W1 : World} {r m since last : Nat} {seen : Array Nat} (h : IterAt W r m since seen last) (hw : W1 = W ∨ W1 = W.drew) : IterAt W1 r m since seen last := by rcases hw with rfl | rfl <;> exact h
theorem kept_drew' {S : Nat → Prop} {W W1 W2 : World} (h : Kept S W W1) (hw : W2 = W1 ∨ W2 = W1.drew) : Kept S W W2 := by rcases hw with rfl | rfl; exact h; exact h.drew
def total (E : List En) : Nat := (E.map fun e => e.vs.length).sum
end Go.Proofs.Ytpcjmceakelilaa
/- Mvcc: Clone of versions; Store.set. -/
namespace Go.Proofs.Ytpcjmceakelilaa
open Go.ChangeShapes Go.WideShapes Go.ChangeAt Go.RowKit Go.Deep Go.ChangeMaps Go.Shelf
set_option linter.unusedVariables false
set_option linter.unusedSimpArgs false
theorem cloneV (g o n c : Nat) (L : List Ver) (W : World) (hn : L.length = n) (h1000 : n ≤ 100000) (hc : ∀ j u, (vrv L)[j]? = some u → W.cell? ⟨g, o + j, none⟩ = some u) :
    Calls Try.prog 45 #[.slice (some ⟨g, o, none⟩) n c] W fun e W' => ∃ v', e = .returned v' ∧ VRow W.heap.size W' v' L ∧ Below W.heap.size W W' := by
  obtain ⟨i9, hi9, hz0, hz1, hz2⟩ := info_parts infoV
  refine Calls.mono (AnyE.slices_Clone Try.laysC50 i9 (.agg #[.int .i64 0, .string ⟨#[]⟩, .bool false]) 3 32 hi9 hz0 hz1 hz2 rfl (by decide) (fun w => Try.sizeOf72 w) g o n c (vrv L) W (by rw [vrv_len, hn]) (by unfold maxLen; omega) (by omega) hc (vrv_one L)) ?_
  rintro e W' ⟨v', rfl, hr, _, hb⟩
  subst hn
  exact ⟨v', rfl, hr, hb⟩
set_option maxRecDepth 100000 in
theorem set_del (B S m clock b : Nat) (E : List En) (k : Bs) (a : Option Addr) (c : Nat) (W : World) (h : Sto B W S m E clock) :
    Calls Try.prog 47 #[.pointer (some ⟨S, 0, none⟩), .string k, .slice a 0 c, .int .i64 b] W fun e W' => e = .returned (.tuple #[]) ∧ W' = setBlock W m (.map (esOf (delE E k)) clock) := by
  have c0 := h.c0
  have hd := run_del h.map h.ok.keys k
  clear h
  go_enter Try.func47, Try.ntmps47
  go_wp2_with fail
  go_end0
  exact ⟨rfl, rfl⟩
set_option maxRecDepth 100000 in
theorem set_same (S n b : Nat) (k : Bs) (a : Option Addr) (c : Nat) (W : World) (h0 : 0 < n) (hnb : b ≤ n) :
    Calls Try.prog 47 #[.pointer (some ⟨S, 0, none⟩), .string k, .slice a n c, .int .i64 b] W fun e W' => e = .returned (.tuple #[]) ∧ W' = W := by
  have d0 : ((n : Int) == 0) = false := beq_eq_false_iff_ne.2 (by omega)
  have d1 : decide ((n : Int) < (b : Int)) = false := decide_eq_false (by omega)
  have d2 : decide (n < b) = false := decide_eq_false (by omega)
  go_enter Try.func47, Try.ntmps47
  go_wp2_with fail
  go_end0
  exact ⟨rfl, rfl⟩
def SetOut (m clock : Nat) (E : List En) (k : Bs) (vs : List Ver) (W : World) (e : Ending) (W' : World) : Prop :=
  e = .returned (.tuple #[]) ∧ ∃ v W1, VRow W.heap.size W1 v vs ∧ Below W.heap.size W W1 ∧ W' = setBlock W1 m (.map (esOf (putE E clock k v vs)) (putC E clock k))
set_option maxRecDepth 100000 in
set_option maxHeartbeats 1600000 in
theorem set_put (B S m clock b g off c : Nat) (E : List En) (k : Bs) (vs : List Ver) (W : World) (h : Sto B W S m E clock) (h0 : 0 < vs.length) (hnb : vs.length < b) (hvl : vs.length ≤ 100000) (hc : ∀ j u, (vrv vs)[j]? = some u → W.cell? ⟨g, off + j, none⟩ = some u) :
    Calls Try.prog 47 #[.pointer (some ⟨S, 0, none⟩), .string k, .slice (some ⟨g, off, none⟩) vs.length c, .int .i64 b] W (SetOut m clock E k vs W) := by
  have c0 : W.drew.cell? ⟨S, 0, none⟩ = some (.map (some m)) := h.c0
  have hm : MapAt W.drew m E clock := h.map
  have hn := h.ok.keys
  have hSl : S < W.drew.heap.size := h.box.lt
  have d0 : ((vs.length : Int) == 0) = false := beq_eq_false_iff_ne.2 (by omega)
  have d1 : decide ((vs.length : Int) < (b : Int)) = true := decide_eq_true (by omega)
  have d2 : decide (vs.length < b) = true := decide_eq_true hnb
  have HC : Hid (∀ j u, (vrv vs)[j]? = some u → W.drew.cell? ⟨g, off + j, none⟩ = some u) := Lib.hid hc
  clear hc h
  go_enter Try.func47, Try.ntmps47
  go_wp2_with fail
  clear d0 d1 d2
  refine wp_region_ordW 8 7 [(0, 0), (1, 0), (2, 0), (3, 1), (4, 0), (5, 0), (6, 2), (7, 3)] (fun X => X.cell? ⟨S, 0, none⟩ = some (.map (some m)) ∧ MapAt X m E clock) (by kernel_rfl) (by kernel_rfl) ⟨c0, hm⟩ (fun c a d v w h => by cases d <;> exact h) ?_
  apply wpOrd_read0
  case hi => rfl
  case hw => rfl
  case hy => (intro w; go_simp; try rfl)
  intro K hK; go_simp; refine hK _ _ ?_; clear hK K
  apply wpOrd_read0
  case hi => rfl
  case hw => rfl
  case hy => (intro w; go_simp; try rfl)
  intro K hK; go_simp; refine hK _ _ ?_; clear hK K
  apply wpOrd_read0
  case hi => rfl
  case hw => rfl
  case hy => (intro w; go_simp; try rfl)
  intro K hK; go_simp; refine hK _ _ ?_; clear hK K
  apply wpOrd_read1
  case hi => rfl
  case hw => rfl
  case hy => (intro w hw; obtain ⟨h1, h2⟩ := hw; go_simp; try rfl)
  intro K hK; go_simp; refine hK _ _ ?_; clear hK K
  apply wpOrd_read0
  case hi => rfl
  case hw => rfl
  case hy => (intro w; go_simp; try rfl)
  intro K hK; go_simp; refine hK _ _ ?_; clear hK K
  apply wpOrd_read0
  case hi => rfl
  case hw => rfl
  case hy => (intro w; go_simp; try rfl)
  intro K hK; go_simp; refine hK _ _ ?_; clear hK K
  apply wpOrd_eff2
  case hi => rfl
  case hw => rfl
  intro K hK
  go_simp
  refine (cloneV g off vs.length c vs _ rfl hvl HC.out).mono ?_
  rintro e W1 ⟨v, rfl, hrow, hb⟩
  have hm1 : MapAt W1 m E clock := hm.kept (kept_below hb) (fun h => h)
  have b0 := (hb.cell (p := ⟨S, 0, none⟩) hSl).trans c0
  have hup := run_upd hm1 hn k v vs
  have HB := Lib.hid (And.intro hrow hb)
  clear hrow hb
  refine hK _ _ ⟨b0, hm1⟩ ?_
  clear hK K
  apply wpOrd_eff3
  case hi => rfl
  case hw => rfl
  intro K hK
  go_simp
  refine hK _ _ (wpOrd_nil ?_)
  clear hK K

  have HB2 : Hid (VRow W.heap.size W1 v vs ∧ Below W.heap.size W W1) := Lib.hid ⟨HB.out.1, ⟨HB.out.2.os, HB.out.2.tape, HB.out.2.output, HB.out.2.size, HB.out.2.block⟩⟩
  try clear c0 hm hn hup hm1 b0
  go_wp2_with fail
  go_end0
  exact ⟨rfl, v, W1, HB2.out.1, HB2.out.2, rfl⟩
end Go.Proofs.Ytpcjmceakelilaa
/- Mvcc: a sweep over a map: the state in the loop (plain). -/
namespace Go.Proofs.Ytpcjmceakelilaa
open Go.ChangeShapes Go.WideShapes Go.ChangeAt Go.RowKit Go.Deep Go.ChangeMaps Go.Shelf
set_option linter.unusedVariables false
set_option linter.unusedSimpArgs false
theorem nodup_inj {α β : Type} {g : α → β} {E : List α} (hn : (E.map g).Nodup) {a b : α} (ha : a ∈ E) (hb : b ∈ E) (h : g a = g b) : a = b := by
  obtain ⟨i, hi, rfl⟩ := List.mem_iff_getElem.1 ha
  obtain ⟨j, hj, rfl⟩ := List.mem_iff_getElem.1 hb
  have := (List.getElem_inj (xs := E.map g) (h₀ := by simpa using hi) (h₁ := by simpa using hj) hn).1 (by simpa using h)
  subst this
  rfl
/-- the versions of an entry where the met ones are swept -/
def sw (f : List Ver → List Ver) (seen : Array Nat) (e : En) : List Ver := if seen.contains e.born then f e.vs else e.vs
structure Swp (E E' : List En) (f : List Ver → List Ver) (seen : Array Nat) : Prop where
  back : ∀ e' ∈ E', ∃ e ∈ E, e'.key = e.key ∧ e'.born = e.born ∧ e'.vs = sw f seen e
  forth : ∀ e ∈ E, sw f seen e ≠ [] → ∃ e' ∈ E', e'.key = e.key ∧ e'.born = e.born ∧ e'.vs = sw f seen e
theorem Swp.start (E : List En) (f : List Ver → List Ver) : Swp E E f #[] :=
  ⟨fun e he => ⟨e, he, rfl, rfl, by simp [sw]⟩, fun e he _ => ⟨e, he, rfl, rfl, by simp [sw]⟩⟩
theorem sw_self (f : List Ver → List Ver) (seen : Array Nat) (x : En) : sw f (seen.push x.born) x = f x.vs := by
  unfold sw
  rw [contains_push, beq_self_eq_true, Bool.or_true, if_pos rfl]
theorem sw_other (f : List Ver → List Ver) (seen : Array Nat) {x e : En} (h : e.born ≠ x.born) : sw f (seen.push x.born) e = sw f seen e := by
  unfold sw
  have : (e.born == x.born) = false := beq_eq_false_iff_ne.2 h
  rw [contains_push, this, Bool.or_false]
section
variable {E E' : List En} {f : List Ver → List Ver} {seen : Array Nat} {c : Nat}
/-- the entry that has come is one of the first ones -/
theorem Swp.origin (h : Swp E E' f seen) {x' : En} (hx : x' ∈ E') (hs : seen.contains x'.born = false) : ∃ x ∈ E, x'.key = x.key ∧ x'.born = x.born ∧ x'.vs = x.vs := by
  obtain ⟨x, hx, h1, h2, h3⟩ := h.back x' hx
  refine ⟨x, hx, h1, h2, ?_⟩
  rw [h3]; unfold sw
  rw [← h2, hs, if_neg (by simp)]
theorem Swp.del (h : Swp E E' f seen) (hE : EnOK E c) {x' x : En} (hx : x ∈ E) (hk : x'.key = x.key) (hf : f x.vs = []) : Swp E (delE E' x'.key) f (seen.push x.born) := by
  refine ⟨fun e' he' => ?_, fun e he hne => ?_⟩
  · obtain ⟨he1, he2⟩ := List.mem_filter.1 he'
    obtain ⟨e, he, h1, h2, h3⟩ := h.back e' he1
    have hke : e.key ≠ x.key := fun e2 => by simp [h1, e2, hk] at he2
    exact ⟨e, he, h1, h2, by rw [sw_other f seen (fun e2 => hke (by rw [nodup_inj hE.borns he hx e2]))]; exact h3⟩
  · have hex : e ≠ x := fun e2 => by rw [e2, sw_self, hf] at hne; exact hne rfl
    have hb : e.born ≠ x.born := fun e2 => hex (nodup_inj hE.borns he hx e2)
    rw [sw_other f seen hb] at hne ⊢
    obtain ⟨e', he', h1, h2, h3⟩ := h.forth e he hne
    refine ⟨e', List.mem_filter.2 ⟨he', ?_⟩, h1, h2, h3⟩
    simp only [Bool.not_eq_true', decide_eq_false_iff_not]
    exact fun e2 => hex (nodup_inj hE.keys he hx (by rw [← h1, e2, hk]))
theorem Swp.upd (h : Swp E E' f seen) (hE : EnOK E c) (hE' : EnOK E' c) {x' x : En} (hx' : x' ∈ E') (hx : x ∈ E) (hk : x'.key = x.key) (hb : x'.born = x.born) (v : Value) : Swp E (updE E' x'.key v (f x.vs)) f (seen.push x.born) := by
  refine ⟨fun e' he' => ?_, fun e he hne => ?_⟩
  · obtain ⟨y, hy, rfl⟩ := List.mem_map.1 he'
    by_cases hyk : y.key = x'.key
    · rw [if_pos hyk]
      have : y = x' := nodup_inj hE'.keys hy hx' hyk
      subst this
      exact ⟨x, hx, hk, hb, by rw [sw_self]⟩
    · rw [if_neg hyk]
      obtain ⟨e, he, h1, h2, h3⟩ := h.back y hy
      have hke : e.born ≠ x.born := fun e2 => hyk (by rw [h1, hk, nodup_inj hE.borns he hx e2])
      exact ⟨e, he, h1, h2, by rw [sw_other f seen hke]; exact h3⟩
  · by_cases hex : e = x
    · subst hex
      refine ⟨{ x' with val := v, vs := f e.vs }, List.mem_map.2 ⟨x', hx', by rw [if_pos rfl]⟩, hk, hb, by rw [sw_self]⟩
    · have hbe : e.born ≠ x.born := fun e2 => hex (nodup_inj hE.borns he hx e2)
      rw [sw_other f seen hbe] at hne ⊢
      obtain ⟨e', he', h1, h2, h3⟩ := h.forth e he hne
      refine ⟨e', List.mem_map.2 ⟨e', he', by rw [if_neg (fun e2 => hex (nodup_inj hE.keys he hx (by rw [← h1, e2, hk])))]⟩, h1, h2, h3⟩
theorem Swp.same (h : Swp E E' f seen) (hE : EnOK E c) {x : En} (hx : x ∈ E) (hs : seen.contains x.born = false) (hf : f x.vs = x.vs) : Swp E E' f (seen.push x.born) := by
  have key : ∀ e ∈ E, sw f (seen.push x.born) e = sw f seen e := fun e he => by
    by_cases hb : e.born = x.born
    · have := nodup_inj hE.borns he hx hb
      subst this
      rw [sw_self, hf]; unfold sw; rw [hs, if_neg (by simp)]
    · exact sw_other f seen hb
  refine ⟨fun e' he' => ?_, fun e he hne => ?_⟩
  · obtain ⟨e, he, h1, h2, h3⟩ := h.back e' he'
    exact ⟨e, he, h1, h2, by rw [key e he]; exact h3⟩
  · rw [key e he] at hne ⊢
    exact h.forth e he hne
end
/-- the state in the loop of a sweep; si: what the iterator has handed out, ss: what has been swept -/
structure SW (B S m r clock : Nat) (E : List En) (f : List Ver → List Ver) (W : World) (si ss : Array Nat) (E' : List En) (X : World) : Prop where
  sto : Sto B X S m E' clock
  it : IterAt X r m clock si clock
  swp : Swp E E' f ss
  foot : ∀ j, Foot S m E' j → (Foot S m E j ∨ W.heap.size ≤ j) ∧ j ≠ r
  kept : Kept (Foot S m E) W X
  rW : r = W.heap.size
section
variable {B S m r clock : Nat} {E E' : List En} {f : List Ver → List Ver} {W X X' : World} {si ss : Array Nat}
theorem SW.start (h : Sto B W S m E clock) (f : List Ver → List Ver) : SW B S m W.heap.size clock E f W #[] #[] E (W.alloc (.mapIter (some m) clock #[] clock)) :=
  ⟨h.below ((Below.refl _ W).alloc (Nat.le_refl _) _), heap_alloc_new W _, Swp.start E f, fun j hj => ⟨.inl hj, fun e => by have := (h.foot hj).2; omega⟩, (Kept.refl _ W).alloc _, rfl⟩
theorem SW.rX (h : SW B S m r clock E f W si ss E' X) : r < X.heap.size := h.it.lt
theorem SW.below (h : SW B S m r clock E f W si ss E' X) (hb : Below X.heap.size X X') : SW B S m r clock E f W si ss E' X' :=
  ⟨h.sto.below hb, h.it.kept (kept_below hb) (fun h => h), h.swp, h.foot, h.kept.trans (kept_below hb) (fun _ h => h.elim), h.rW⟩
theorem SW.step (h : SW B S m r clock E f W si ss E' X) {X2 : World} (hX : X2 = X ∨ X2 = X.drew) (b : Nat) : SW B S m r clock E f W (si.push b) ss E' (setBlock X2 r (.mapIter (some m) clock (si.push b) clock)) := by
  have hk : Kept (fun j => j = r) X (setBlock X2 r (.mapIter (some m) clock (si.push b) clock)) := setBlock_kept (kept_drew' (Kept.refl _ X) hX) r _ (.inl rfl)
  exact ⟨h.sto.kept hk (fun j hj e => (h.foot j hj).2 e), iter_set (iter_drew h.it hX), h.swp, h.foot, h.kept.trans hk (fun j e => .inr (by have := h.rW; omega)), h.rW⟩
theorem Sto.del (h : Sto B X S m E' clock) (k : Bs) : Sto B (setBlock X m (.map (esOf (delE E' k)) clock)) S m (delE E' k) clock := by
  have hks : Kept (fun j => j = m) X (setBlock X m (.map (esOf (delE E' k)) clock)) := setBlock_kept (Kept.refl _ X) m _ (.inl rfl)
  exact ⟨boxed_kept h.box hks (fun e => h.mS e.symm), setBlock_at h.map, h.ok.del k, fun e he => by
    have he' := (List.mem_filter.1 he).1
    exact ⟨(h.rows e he').1.kept hks (fun j hj => (h.off e he' j hj).2), (h.rows e he').2⟩, h.apart.sublist List.filter_sublist, fun e he => h.off e (List.mem_filter.1 he).1, h.mS, h.bS, h.bm⟩
theorem SW.del {b : Nat} (h : SW B S m r clock E f W (si.push b) si E' X) (hE : EnOK E clock) {x' x : En} (hx : x ∈ E) (hk : x'.key = x.key) (hb : x.born = b) (hf : f x.vs = []) :
    SW B S m r clock E f W (si.push b) (si.push b) (delE E' x'.key) (setBlock X m (.map (esOf (delE E' x'.key)) clock)) := by
  have hks : Kept (fun j => j = m) X (setBlock X m (.map (esOf (delE E' x'.key)) clock)) := setBlock_kept (Kept.refl _ X) m _ (.inl rfl)
  have hmr : m ≠ r := (h.foot m (.inr (.inl rfl))).2
  subst hb
  refine ⟨h.sto.del _, h.it.kept hks (fun e => hmr e.symm), h.swp.del hE hx hk hf, fun j hj => h.foot j ?_, h.kept.trans hks (fun j e => .inl (.inr (.inl e))), h.rW⟩
  rcases hj with hj | hj | ⟨e, he, hj⟩
  · exact .inl hj
  · exact .inr (.inl hj)
  · exact .inr (.inr ⟨e, (List.mem_filter.1 he).1, hj⟩)
theorem SW.same {b : Nat} (h : SW B S m r clock E f W (si.push b) si E' X) (hE : EnOK E clock) {x : En} (hx : x ∈ E) (hb : x.born = b) (hs : si.contains x.born = false) (hf : f x.vs = x.vs) : SW B S m r clock E f W (si.push b) (si.push b) E' X := by
  subst hb
  exact ⟨h.sto, h.it, h.swp.same hE hx hs hf, h.foot, h.kept, h.rW⟩
theorem lkE_of_mem {E : List En} (hn : (E.map (·.key)).Nodup) {e : En} (he : e ∈ E) : lkE E e.key = some e := by
  cases hl : lkE E e.key with
  | none => exact absurd rfl (lkE_none hl e he)
  | some y =>
    obtain ⟨h1, h2⟩ := lkE_mem hl
    rw [nodup_inj hn h1 he h2]
theorem SW.put {b : Nat} (h : SW B S m r clock E f W (si.push b) si E' X) (hE : EnOK E clock) {x' x : En} (hx' : x' ∈ E') (hx : x ∈ E) (hk : x'.key = x.key) (hbx : x'.born = x.born) (hb : x.born = b) {v : Value} {X1 : World}
    (hr : VRow X.heap.size X1 v (f x.vs)) (hb1 : Below X.heap.size X X1) (hne : f x.vs ≠ []) (ha : Asc (f x.vs)) (hbd : ∀ y ∈ f x.vs, 1 ≤ y.1 ∧ y.1 ≤ 1099511627776) (hl : (f x.vs).length ≤ 5000) (hBX : B ≤ X.heap.size) :
    SW B S m r clock E f W (si.push b) (si.push b) (updE E' x'.key v (f x.vs)) (setBlock X1 m (.map (esOf (putE E' clock x'.key v (f x.vs))) (putC E' clock x'.key))) := by
  have hlk := lkE_of_mem h.sto.ok.keys hx'
  have hput := h.sto.put (kept_below hb1) x'.key v (f x.vs) (fun _ h => h.elim) (fun _ h => h.elim) (hr.base hBX) hne ha hbd hl (fun j hj => by
    have h1 := (hr.lt j hj).1
    exact ⟨fun e => by have := h.sto.box.lt; omega, fun e => by have := h.sto.map.lt; omega, fun e he _ e2 => by have := ((h.sto.rows e he).1.lt j e2).2; omega⟩)
  have e1 : putE E' clock x'.key v (f x.vs) = updE E' x'.key v (f x.vs) := by unfold putE; rw [hlk]
  have e2 : putC E' clock x'.key = clock := by unfold putC; rw [hlk]
  rw [e1, e2] at hput ⊢
  have hks : Kept (fun j => j = m) X1 (setBlock X1 m (.map (esOf (updE E' x'.key v (f x.vs))) clock)) := setBlock_kept (Kept.refl _ X1) m _ (.inl rfl)
  have hmr : m ≠ r := (h.foot m (.inr (.inl rfl))).2
  subst hb
  refine ⟨hput, (h.it.kept (kept_below hb1) (fun h => h)).kept hks (fun e => hmr e.symm), h.swp.upd hE h.sto.ok hx' hx hk hbx v, fun j hj => ?_, (h.kept.trans (kept_below hb1) (fun _ h => h.elim)).trans hks (fun j e => .inl (.inr (.inl e))), h.rW⟩
  rcases hj with hj | hj | ⟨e, he, hj⟩
  · exact h.foot j (.inl hj)
  · exact h.foot j (.inr (.inl hj))
  · obtain ⟨y, hy, rfl⟩ := List.mem_map.1 he
    by_cases hyk : y.key = x'.key
    · rw [if_pos hyk] at hj
      have h1 := (hr.lt j hj).1
      have h2 := h.rX
      have h3 := h.kept.size
      exact ⟨.inr (by omega), fun e => by omega⟩
    · rw [if_neg hyk] at hj
      exact h.foot j (.inr (.inr ⟨y, hy, hj⟩))
end
end Go.Proofs.Ytpcjmceakelilaa
/- Mvcc: Rollback. -/
namespace Go.Proofs.Ytpcjmceakelilaa
open Go.ChangeShapes Go.WideShapes Go.ChangeAt Go.RowKit Go.Deep Go.ChangeMaps Go.Shelf
set_option linter.unusedVariables false
set_option linter.unusedSimpArgs false
theorem vr_get {W : World} {v : Value} {L : List Ver} (h : VrAt W v L) (h0 : 0 < L.length) : ∃ g c, v = .slice (some ⟨g, 0, none⟩) L.length c ∧ L.length ≤ c ∧ c ≤ 9223372036854775807 ∧ g < W.heap.size ∧ ∀ j (h : j < L.length), W.cell? ⟨g, j * 3, none⟩ = some (.int .i64 L[j].1) ∧ W.cell? ⟨g, j * 3 + 1, none⟩ = some (.string L[j].2.1) ∧ W.cell? ⟨g, j * 3 + 2, none⟩ = some (.bool L[j].2.2) := by
  rcases h with ⟨_, rfl⟩ | h
  · simp at h0
  · exact h
/-- the cells of a piece -/
theorem vr_piece {W : World} {g : Nat} {L M : List Ver} (o : Nat) (hM : ∀ j (h : j < M.length), ∃ h2 : o + j < L.length, L[o + j] = M[j]) (hc : ∀ j (h : j < L.length), W.cell? ⟨g, j * 3, none⟩ = some (.int .i64 L[j].1) ∧ W.cell? ⟨g, j * 3 + 1, none⟩ = some (.string L[j].2.1) ∧ W.cell? ⟨g, j * 3 + 2, none⟩ = some (.bool L[j].2.2)) :
    ∀ j u, (vrv M)[j]? = some u → W.cell? ⟨g, o * 3 + j, none⟩ = some u := fun j u hj => by
  have hl := (List.getElem?_eq_some_iff.1 hj).1
  rw [vrv_len] at hl
  obtain ⟨i, k, hk, rfl⟩ : ∃ i k, k < 3 ∧ j = i * 3 + k := ⟨j / 3, j % 3, Nat.mod_lt _ (by omega), by omega⟩
  have hi : i < M.length := by omega
  obtain ⟨h2, he⟩ := hM i hi
  obtain ⟨c0, c1, c2⟩ := hc (o + i) h2
  rw [he] at c0 c1 c2
  obtain ⟨a0, a1, a2⟩ := vrv_at M i hi
  have e : o * 3 + (i * 3 + k) = (o + i) * 3 + k := by omega
  rw [e]
  match k, hk with
  | 0, _ => rw [Nat.add_zero] at hj ⊢; rw [a0] at hj; rw [c0, hj]
  | 1, _ => rw [a1] at hj; rw [c1, hj]
  | 2, _ => rw [a2] at hj; rw [c2, hj]
/-- a store after a sweep -/
def Swept (B S m clock : Nat) (E : List En) (f : List Ver → List Ver) (W W' : World) : Prop :=
  ∃ E' seen, (∀ e ∈ E, seen.contains e.born = true) ∧ Swp E E' f seen ∧ Turned B S m E W W' E' clock
def SweepOut (B S m clock : Nat) (E : List En) (f : List Ver → List Ver) (n : Nat) (W : World) (e : Ending) (W' : World) : Prop :=
  e = .returned (.int .i64 n) ∧ Swept B S m clock E f W W'
theorem SW.out {B S m r clock : Nat} {E E' : List En} {f : List Ver → List Ver} {W X : World} {seen : Array Nat} (h : SW B S m r clock E f W seen seen E' X) (hall' : ∀ e ∈ E', seen.contains e.born = true) (hne : ∀ e ∈ E, e.vs ≠ []) : Swept B S m clock E f W X := by
  refine ⟨E', seen, fun e he => ?_, h.swp, h.sto, fun j hj => (h.foot j hj).1, h.kept⟩
  cases hs : seen.contains e.born with
  | true => rfl
  | false =>
    obtain ⟨e', he', _, h2, _⟩ := h.swp.forth e he (by unfold sw; rw [hs, if_neg (by simp)]; exact hne e he)
    have := hall' e' he'
    rw [h2, hs] at this
    cases this
/-- the stamps of entries that were struck are met -/
theorem SW.left {B S m r clock : Nat} {E E' : List En} {f : List Ver → List Ver} {W X : World} {seen : Array Nat} (h : SW B S m r clock E f W seen seen E' X) (hE : EnOK E clock) {x' : En} (hx : x' ∈ E') (hs : seen.contains x'.born = false) :
    ∃ x ∈ E, x'.key = x.key ∧ x'.born = x.born ∧ x'.vs = x.vs ∧ seen.contains x.born = false := by
  obtain ⟨x, h1, h2, h3, h4⟩ := h.swp.origin hx hs
  exact ⟨x, h1, h2, h3, h4, by rw [← h3]; exact hs⟩
theorem sum_le {f g : En → Nat} : ∀ (E : List En), (∀ e, f e ≤ g e) → (E.map f).sum ≤ (E.map g).sum
  | [], _ => Nat.le_refl _
  | x :: E, h => by
    have := sum_le E h
    have := h x
    simp only [List.map_cons, List.sum_cons]
    omega
def rollF (t : Int) (L : List Ver) : List Ver := L.take (upto L t)
theorem asc_take {L : List Ver} (n : Nat) (h : Asc L) : Asc (L.take n) := List.Pairwise.sublist (List.take_sublist _ _) h
set_option maxRecDepth 100000 in
set_option maxHeartbeats 3200000 in
theorem rollback_any (B S m clock : Nat) (E : List En) (t : Int) (W : World) (h : Sto B W S m E clock) (hB : B ≤ W.heap.size) (ht : total E ≤ 1000000) :
    Calls Try.prog 51 #[.pointer (some ⟨S, 0, none⟩), .int .i64 t] W (SweepOut B S m clock E (rollF t) (E.map fun e => e.vs.length - upto e.vs t).sum W) := by
  have a0 := h.c0
  have hrg := run_range_E h.map
  have HH := Lib.hid h
  have HT := Lib.hid ht
  have H0 := Lib.hid (SW.start h (rollF t))
  clear h ht
  go_enter Try.func51, Try.ntmps51
  go_wp2_with fail
  obtain ⟨r, hr⟩ : ∃ r, r = W.heap.size := ⟨_, rfl⟩
  rw [← hr] at H0 ⊢
  have HR := Lib.hid hr
  clear hr a0 hrg
  generalize W.alloc (.mapIter (some m) clock #[] clock) = W1 at H0 ⊢
  go_loopw [5] (fun n wr => ∃ seen E', SW B S m r clock E (rollF t) W seen seen E' wr ∧ n = .int .i64 (seenN E seen (fun e => e.vs.length - upto e.vs t))) (fun _ wr => unseen E (wr.iterSeen r))
  case atStart => exact ⟨#[], E, H0.out, by rw [seenN_nil]; rfl⟩
  case round =>
    clear H0
    obtain ⟨seen, E', hsw, rfl⟩ := hrel
    have HS := Lib.hid hsw
    have hms := iterSeen_at hsw.it
    rcases run_next_E hsw.sto.map hsw.it hsw.sto.ok.lt (Nat.le_refl _) 0 with ⟨hall, hrun⟩ | ⟨x', hx', hsx', W2, hW2, hrun⟩
    · have HALL := Lib.hid hall
      have HA := Lib.hid (hsw.out hall (fun e he => (HH.out.rows e he).2.1))
      clear hall hms hsw
      go_wp2_with fail
      go_ret
      obtain ⟨E2, s2, h1, h2⟩ := HA.out
      have e1 : ∀ e ∈ E, seen.contains e.born = true := fun e he => by
        obtain ⟨E3, s3, g1, g2, g3⟩ := HA.out
        cases hs : seen.contains e.born with
        | true => rfl
        | false =>
          obtain ⟨e', he', _, h3, _⟩ := HS.out.swp.forth e he (by unfold sw; rw [hs, if_neg (by simp)]; exact (HH.out.rows e he).2.1)
          have := HALL.out e' he'
          rw [h3, hs] at this
          cases this
      exact ⟨by rw [seenN_all _ seen E e1]; rfl, HA.out⟩
    · obtain ⟨x, hx, hkx, hbx, hvx, hsx⟩ := hsw.left HH.out.ok hx' hsx'
      obtain ⟨W3, hW3⟩ : ∃ W3, W3 = setBlock W2 r (.mapIter (some m) clock (seen.push x'.born) clock) := ⟨_, rfl⟩
      rw [← hW3] at hrun
      have h3 := hsw.step hW2 x'.born
      rw [← hW3] at h3
      have hent := run_entry_E h3.sto.map h3.it hx' h3.sto.ok.borns
      obtain ⟨hrow, hne, hasc, hbd, hlen⟩ := h3.sto.rows x' hx'
      obtain ⟨g, vc, hval, hgc, hcc, hgl, hcell⟩ := hrow.get (by have := List.length_pos_iff.2 hne; exact this)
      have hun := until_any x'.val x'.vs t W3 hrow.at_ hasc (by omega)
      rw [hval] at hrun hent hun
      have HUN := Lib.hid hun
      have H3 := Lib.hid h3
      have HSX := Lib.hid hsx'
      have HX := Lib.hid (And.intro hx' (And.intro hx (And.intro hkx (And.intro hbx (And.intro hvx hsx)))))
      have HQ := Lib.hid (And.intro hne (And.intro hasc (And.intro hbd hlen)))
      have hsn := seenN_push (fun e => e.vs.length - upto e.vs t) seen x hsx E HH.out.ok.borns hx
      have hle := seenN_le (fun e => e.vs.length - upto e.vs t) (seen.push x.born) E
      have hT2 : (E.map fun e => e.vs.length - upto e.vs t).sum ≤ 1000000 := Nat.le_trans (sum_le E (fun e => Nat.sub_le _ _)) HT.out
      have hmeas := unseen_push E seen x hsx HH.out.ok.borns hx
      have hms3 := iterSeen_at h3.it
      rw [hbx] at hms3
      have HM := Lib.hid (And.intro hmeas hms)
      have HSN := Lib.hid hsn
      obtain ⟨n, hn⟩ : ∃ n, n = upto x'.vs t := ⟨_, rfl⟩
      have hnl : n ≤ x'.vs.length := by rw [hn]; exact upto_le _ _
      have hb : seenN E seen (fun e => e.vs.length - upto e.vs t) + (x'.vs.length - n) ≤ 1000000 := by rw [hn, hvx]; omega
      have HCELL := Lib.hid hcell
      have hl0 : 0 < x'.vs.length := List.length_pos_iff.2 hne
      rw [← hn] at HUN
      have HN := Lib.hid hn
      clear hsn hle hT2 hmeas hms hms3 hun hcell hW3 hW2 hx' hx hkx hbx hvx hsx hsx' hne hasc hbd h3 hsw HS hrow hn hval
      generalize seenN E seen (fun e => e.vs.length - upto e.vs t) = N at *
      obtain ⟨k, hk⟩ : ∃ k, k = x'.key := ⟨_, rfl⟩
      obtain ⟨ln, hln⟩ : ∃ ln, ln = x'.vs.length := ⟨_, rfl⟩
      rw [← hk] at hrun hent
      rw [← hln] at hrun hent HUN hlen hnl hb hl0 hgc
      have HK := Lib.hid (And.intro hk hln)
      clear hk hln
      have w1 : IntKind.i64.wrap ((ln : Int) - (n : Int)) = ((ln - n : Nat) : Int) := by rw [IntKind.wrap_i64]; omega
      have w2 : IntKind.i64.wrap ((N : Int) + ((ln - n : Nat) : Int)) = ((N + (ln - n) : Nat) : Int) := by rw [IntKind.wrap_i64]; omega
      go_wp2_with fail
      refine HUN.out.mono ?_
      rintro e W4 ⟨rfl, hb4⟩
      have H4 := Lib.hid (H3.out.below hb4)
      have HC4 := Lib.hid (show ∀ j (h : j < x'.vs.length), W4.cell? ⟨g, j * 3, none⟩ = some (.int .i64 x'.vs[j].1) ∧ W4.cell? ⟨g, j * 3 + 1, none⟩ = some (.string x'.vs[j].2.1) ∧ W4.cell? ⟨g, j * 3 + 2, none⟩ = some (.bool x'.vs[j].2.2) from fun j hj => by
        obtain ⟨q0, q1, q2⟩ := HCELL.out j hj
        exact ⟨(hb4.cell (p := ⟨g, j * 3, none⟩) hgl).trans q0, (hb4.cell (p := ⟨g, j * 3 + 1, none⟩) hgl).trans q1, (hb4.cell (p := ⟨g, j * 3 + 2, none⟩) hgl).trans q2⟩)
      clear hb4 hrun hent HUN H3 HCELL
      go_wp2_with fail
      obtain ⟨g1, g2, g3, g4, g5, g6⟩ := HX.out
      obtain ⟨q1, q2, q3, q4⟩ := HQ.out
      have hfx : rollF t x.vs = x'.vs.take n := by rw [← g5, HN.out]; rfl
      rcases Nat.eq_zero_or_pos n with h0 | h0
      · subst h0
        refine (set_del B S m clock ln E' k _ vc W4 H4.out.sto).mono ?_
        rintro e W5 ⟨rfl, hw5⟩
        have h5 := H4.out.del HH.out.ok g2 g3 g4.symm (by rw [hfx]; rfl)
        rw [← HK.out.1, ← hw5] at h5
        clear hw5 hfx g1 g2 g3 g4 g5 g6 q1 q2 q3 q4
        have HE := Lib.hid (show seenN E (seen.push x'.born) (fun e => e.vs.length - upto e.vs t) = N + (ln - 0) from by
          obtain ⟨g1, g2, g3, g4, g5, g6⟩ := HX.out
          rw [g4, HSN.out, ← g5, ← HN.out, ← HK.out.2])
        have HME := Lib.hid (show unseen E (W5.iterSeen r) < unseen E (wr.iterSeen r) from by
          obtain ⟨g1, g2, g3, g4, g5, g6⟩ := HX.out
          rw [iterSeen_at h5.it, HM.out.2, g4]
          exact HM.out.1)
        have H5 := Lib.hid h5
        clear h5
        go_wp2_with fail
        go_roundw
        case rel => exact ⟨_, _, H5.out, by rw [HE.out]; first | go_num | simp⟩
        case measure => exact HME.out
      · rcases Nat.lt_or_ge n ln with h1 | h1
        · have hlv : (x'.vs.take n).length = n := by rw [List.length_take, ← HK.out.2]; omega
          have hset := set_put B S m clock ln g 0 vc E' k (x'.vs.take n) W4 H4.out.sto (by rw [hlv]; exact h0) (by rw [hlv]; exact h1) (by rw [hlv]; omega) (fun j u hj => by
            have := vr_piece (g := g) (M := x'.vs.take n) 0 (fun i hi => by
              rw [hlv] at hi
              exact ⟨by rw [← HK.out.2]; omega, by rw [List.getElem_take]; simp⟩) HC4.out j u hj
            rwa [Nat.zero_mul] at this)
          rw [hlv] at hset
          refine hset.mono ?_
          rintro e W5 ⟨rfl, v, W6, hr6, hb6, hw5⟩
          have h5 := H4.out.put HH.out.ok g1 g2 g3 g4 g4.symm (v := v) (X1 := W6) (by rw [hfx]; exact hr6) hb6 (by rw [hfx]; exact fun e => by rw [e] at hlv; simp at hlv; omega) (by rw [hfx]; exact asc_take n q2) (by rw [hfx]; exact fun y hy => q3 y (List.mem_of_mem_take hy)) (by rw [hfx, hlv]; have := HK.out.2; omega) (Nat.le_trans hB H4.out.kept.size)
          rw [hfx, ← HK.out.1, ← hw5] at h5
          clear hw5 hfx g1 g2 g3 g4 g5 g6 q1 q2 q3 q4 hset hr6 hb6 hlv
          have HE := Lib.hid (show seenN E (seen.push x'.born) (fun e => e.vs.length - upto e.vs t) = N + (ln - n) from by
            obtain ⟨g1, g2, g3, g4, g5, g6⟩ := HX.out
            rw [g4, HSN.out, ← g5, ← HN.out, ← HK.out.2])
          have HME := Lib.hid (show unseen E (W5.iterSeen r) < unseen E (wr.iterSeen r) from by
            obtain ⟨g1, g2, g3, g4, g5, g6⟩ := HX.out
            rw [iterSeen_at h5.it, HM.out.2, g4]
            exact HM.out.1)
          have H5 := Lib.hid h5
          clear h5
          go_wp2_with fail
          go_roundw
          case rel => exact ⟨_, _, H5.out, by rw [HE.out]; first | go_num | simp⟩
          case measure => exact HME.out
        · have hnl2 : n = ln := by omega
          subst hnl2
          refine (set_same S n n k _ vc W4 h0 (Nat.le_refl _)).mono ?_
          rintro e W5 ⟨rfl, hw5⟩
          have h5 := H4.out.same HH.out.ok g2 g4.symm (by rw [← g4]; exact HSX.out) (by rw [hfx, HK.out.2, List.take_length, g5])
          rw [← hw5] at h5
          clear hw5 hfx g1 g2 g3 g4 g5 g6 q1 q2 q3 q4
          have HE := Lib.hid (show seenN E (seen.push x'.born) (fun e => e.vs.length - upto e.vs t) = N + (n - n) from by
            obtain ⟨g1, g2, g3, g4, g5, g6⟩ := HX.out
            rw [g4, HSN.out, ← g5, ← HN.out, ← HK.out.2])
          have HME := Lib.hid (show unseen E (W5.iterSeen r) < unseen E (wr.iterSeen r) from by
            obtain ⟨g1, g2, g3, g4, g5, g6⟩ := HX.out
            rw [iterSeen_at h5.it, HM.out.2, g4]
            exact HM.out.1)
          have H5 := Lib.hid h5
          clear h5
          go_wp2_with fail
          go_roundw
          case rel => exact ⟨_, _, H5.out, by rw [HE.out]; first | go_num | simp⟩
          case measure => exact HME.out
end Go.Proofs.Ytpcjmceakelilaa
