/- Mvcc: an append of a version; Store.add. -/
import Derived.Test.YtpcjmceakelilaaMv5
namespace Go.Proofs.Ytpcjmceakelilaa
open Go.ChangeShapes Go.WideShapes Go.ChangeAt Go.RowKit Go.Deep Go.ChangeMaps
set_option linter.unusedVariables false
set_option linter.unusedSimpArgs false
theorem infoV : (Try.prog.info? 72).map (fun i => (i.zero, i.size, i.bytes)) = some (some (.agg #[.int .i64 0, .string ⟨#[]⟩, .bool false]), 3, 32) := by kernel_rfl
/-- the source of an append -/
def VSrc (W : World) (sv : Value) (x : Ver) : Prop := ∃ ad c, sv = .slice (some ad) 1 c ∧ ∀ j u, (verc x)[j]? = some u → W.cell? (ad.add j) = some u
theorem vsrc_new (W : World) (x : Ver) (t : TypeId) : VSrc (W.alloc (.cells (verc x).toArray t)) (.slice (some ⟨W.heap.size, 0, none⟩) 1 1) x :=
  ⟨_, _, rfl, fun j u hj => by rw [addr_add', Nat.zero_add]; exact (Box.new W (verc x) t).cell j u hj⟩
def ASide (a : Act) (x y : Nat) (v sv : Value) : Prop := a.eval (.tmp x) = v ∧ a.eval (.tmp y) = sv
theorem wp_appV {Q : Exit → Act → World → Prop} {K : Act → World → Prop} (x y B : Nat) (v sv : Value) (L : List Ver) (n : Ver) (d : Option Nat) (pos : String) (af) (a : Act) (W : World)
    (h : VRow B W v L) (hs : L.length ≤ 100000) (hB : B ≤ W.heap.size) (hsrc : VSrc W sv n) (hside : ASide a x y v sv)
    (hK : ∀ v' W', VRow B W' v' (L ++ [n]) → Kept (fun k => v.ownBlock = some k) W W' → (∀ k, v'.ownBlock = some k → v.ownBlock = some k ∨ W.heap.size ≤ k) → K (a.put d v') W') :
    Oper.wp Try.prog { dst := d, op := Op.call { callee := .builtin .append, args := #[.tmp x, .tmp y], argTypes := #[90, 90] }, type := 90, pos := pos, after := af, guard := none } a W K Q := by
  obtain ⟨hx, hy⟩ := hside
  obtain ⟨i9, hi9, hz0, hz1, hz2⟩ := info_parts infoV
  obtain ⟨ad, c, rfl, hc⟩ := hsrc
  obtain ⟨v', w', hr, h2, h3, _, h5⟩ := run_append_own_at (P := Try.prog) W B 90 90 72 i9 (.agg #[.int .i64 0, .string ⟨#[]⟩, .bool false]) 3 32 Try.underlying90 hi9 hz0 hz1 hz2 rfl (by decide) v L.length (vrv L) h ad 1 c (verc n) rfl hc (fun u hu => by simp [verc] at hu; rcases hu with rfl | rfl | rfl <;> rfl) (by unfold maxLen; omega) (by omega) hB
  unfold Oper.wp execOp
  simp only [resolve, invoke, builtin, Sem.run_bind, Sem.run_pure, Result.andThen_ok, List.map_toArray, List.map_cons, List.map_nil, hx, hy, hr]
  refine hK v' w' ?_ ⟨h3.os, h3.tape, h3.output, h3.size, fun k hk hs => h3.block k hk (fun e => hs e.symm)⟩ (fun k hk => ?_)
  · show w'.ownsRow B _ 3 v' (L ++ [n]).length (vrv (L ++ [n]))
    rw [vrv_app, List.length_append]
    have e : vrv [n] = verc n := by simp [vrv]
    rw [e]
    exact h2
  · rcases h5 with h5 | h5
    · exact .inl (by rw [← h5]; exact hk)
    · rw [h5] at hk; cases hk; exact .inr (Nat.le_refl _)
theorem Sto.c0 {B S m clock : Nat} {W : World} {E : List En} (h : Sto B W S m E clock) : W.cell? ⟨S, 0, none⟩ = some (.map (some m)) := h.box.cell
theorem Sto.off_key {B S m clock : Nat} {W : World} {E : List En} (h : Sto B W S m E clock) (k : Bs) : ∀ j, (lkV E k).ownBlock = some j → j ≠ S ∧ j ≠ m := by
  unfold lkV
  cases hl : lkE E k with
  | none => intro j hj; simp [Value.ownBlock] at hj
  | some e => exact h.off e (lkE_mem hl).1
theorem putE_mem {E : List En} {clock : Nat} {k : Bs} {val : Value} {vs : List Ver} (hn : (E.map (·.key)).Nodup) {x : En} (hx : x ∈ putE E clock k val vs) : (x ∈ E ∧ x.key ≠ k) ∨ (x.key = k ∧ x.val = val ∧ x.vs = vs) := by
  unfold putE at hx
  cases hl : lkE E k with
  | some e =>
    rw [hl] at hx
    obtain ⟨y, hy, rfl⟩ := List.mem_map.1 hx
    by_cases hk : y.key = k
    · rw [if_pos hk]; exact .inr ⟨hk, rfl, rfl⟩
    · rw [if_neg hk]; exact .inl ⟨hy, hk⟩
  | none =>
    rw [hl] at hx
    rcases List.mem_append.1 hx with hx | hx
    · exact .inl ⟨hx, lkE_none hl x hx⟩
    · rw [List.mem_singleton.1 hx]; exact .inr ⟨rfl, rfl, rfl⟩
/-- the value of a key is stored -/
theorem Sto.put {B S m clock : Nat} {W W' : World} {E : List En} {T : Nat → Prop} (h : Sto B W S m E clock) (hk : Kept T W W') (k : Bs) (val : Value) (vs : List Ver) (hT : ∀ j, T j → ∀ e ∈ E, e.key ≠ k → e.val.ownBlock ≠ some j) (hT2 : ∀ j, T j → j ≠ S ∧ j ≠ m)
    (hr : VRow B W' val vs) (hne : vs ≠ []) (ha : Asc vs) (hb : ∀ x ∈ vs, 1 ≤ x.1 ∧ x.1 ≤ 1099511627776) (hl : vs.length ≤ 5000) (ho : ∀ j, val.ownBlock = some j → j ≠ S ∧ j ≠ m ∧ ∀ e ∈ E, e.key ≠ k → e.val.ownBlock ≠ some j) :
    Sto B (setBlock W' m (.map (esOf (putE E clock k val vs)) (putC E clock k))) S m (putE E clock k val vs) (putC E clock k) := by
  have hm' : MapAt W' m E clock := h.map.kept hk (fun e => (hT2 m e).2 rfl)
  have hks : Kept (fun j => j = m) W' (setBlock W' m (.map (esOf (putE E clock k val vs)) (putC E clock k))) := setBlock_kept (Kept.refl _ W') m _ (.inl rfl)
  refine ⟨boxed_kept (boxed_kept h.box hk (fun e => (hT2 S e).1 rfl)) hks (fun e => h.mS e.symm), setBlock_at hm', h.ok.put k val vs, fun e he => ?_, ?_, fun e he j hj => ?_, h.mS, h.bS, h.bm⟩
  · rcases putE_mem h.ok.keys he with ⟨he, hek⟩ | ⟨_, e2, e3⟩
    · exact ⟨((h.rows e he).1.kept hk (fun j hj ht => hT j ht e he hek hj)).kept hks (fun j hj => (h.off e he j hj).2), (h.rows e he).2⟩
    · rw [e2, e3]; exact ⟨hr.kept hks (fun j hj => (ho j hj).2.1), hne, ha, hb, hl⟩
  · unfold putE
    cases hlk : lkE E k with
    | some e =>
      show (updE E k val vs).Pairwise _
      unfold updE
      have hkk : E.Pairwise fun a b => a.key ≠ b.key := by
        have := h.ok.keys
        unfold List.Nodup at this
        rwa [List.pairwise_map] at this
      refine List.pairwise_map.2 ((h.apart.and (hkk.and (List.pairwise_of_forall_mem_list (l := E) (r := fun a b => a ∈ E ∧ b ∈ E) (fun a ha b hb => ⟨ha, hb⟩)))).imp ?_)
      rintro a b ⟨hab, hne2, haE, hbE⟩ j hj hj2
      by_cases hak : a.key = k
      · rw [if_pos hak] at hj
        by_cases hbk : b.key = k
        · exact hne2 (by rw [hak, hbk])
        · rw [if_neg hbk] at hj2; exact (ho j hj).2.2 b hbE hbk hj2
      · rw [if_neg hak] at hj
        by_cases hbk : b.key = k
        · rw [if_pos hbk] at hj2; exact (ho j hj2).2.2 a haE hak hj
        · rw [if_neg hbk] at hj2; exact hab j hj hj2
    | none =>
      show (E ++ [⟨k, vs, val, clock⟩] : List En).Pairwise _
      rw [List.pairwise_append]
      refine ⟨h.apart, List.pairwise_singleton _ _, fun a ha b hb j hj hj2 => ?_⟩
      rw [List.mem_singleton.1 hb] at hj2
      exact (ho j hj2).2.2 a ha (lkE_none hlk a ha) hj
  · rcases putE_mem h.ok.keys he with ⟨he, hek⟩ | ⟨_, e2, _⟩
    · exact h.off e he j hj
    · rw [e2] at hj; exact ⟨(ho j hj).1, (ho j hj).2.1⟩
theorem Sto.ne_own {B S m clock : Nat} {W : World} {E : List En} (h : Sto B W S m E clock) {x e : En} (hx : x ∈ E) (he : e ∈ E) (hne : x.key ≠ e.key) : ∀ j, x.val.ownBlock = some j → e.val.ownBlock ≠ some j := by
  obtain ⟨i, hi, rfl⟩ := List.mem_iff_getElem.1 hx
  obtain ⟨l, hl, rfl⟩ := List.mem_iff_getElem.1 he
  have hp := List.pairwise_iff_getElem.1 h.apart
  intro j h1 h2
  rcases Nat.lt_trichotomy i l with h3 | h3 | h3
  · exact hp i l hi hl h3 j h1 h2
  · subst h3; exact hne rfl
  · exact hp l i hl hi h3 j h2 h1
theorem Sto.apart_key {B S m clock : Nat} {W : World} {E : List En} (h : Sto B W S m E clock) (k : Bs) : ∀ j, (lkV E k).ownBlock = some j → ∀ e ∈ E, e.key ≠ k → e.val.ownBlock ≠ some j := by
  unfold lkV
  cases hl : lkE E k with
  | none => intro j hj; simp [Value.ownBlock] at hj
  | some x => exact fun j hj e he hek => h.ne_own (lkE_mem hl).1 he (by rw [(lkE_mem hl).2]; exact fun e2 => hek e2.symm) j hj
theorem Sto.foot_key {B S m clock : Nat} {W : World} {E : List En} (h : Sto B W S m E clock) (k : Bs) : ∀ j, (lkV E k).ownBlock = some j → Foot S m E j := by
  unfold lkV
  cases hl : lkE E k with
  | none => intro j hj; simp [Value.ownBlock] at hj
  | some x => exact fun j hj => .inr (.inr ⟨x, (lkE_mem hl).1, hj⟩)
theorem asc_snoc {L : List Ver} {x : Ver} (h : Asc L) (hx : lastT L < x.1) : Asc (L ++ [x]) := by
  rcases Nat.eq_zero_or_pos L.length with h0 | h0
  · rw [List.eq_nil_of_length_eq_zero h0]; exact List.pairwise_singleton _ _
  · unfold Asc
    rw [List.pairwise_append]
    refine ⟨h, List.pairwise_singleton _ _, fun a ha b hb => ?_⟩
    rw [List.mem_singleton.1 hb]
    rw [lastT_at h0] at hx
    obtain ⟨i, hi, rfl⟩ := List.mem_iff_getElem.1 ha
    rcases Nat.lt_or_ge i (L.length - 1) with h2 | h2
    · have := List.pairwise_iff_getElem.1 h i (L.length - 1) hi (by omega) h2
      omega
    · have e : i = L.length - 1 := by omega
      subst e; exact hx
/-- what a call that changes a store leaves -/
def Turned (B S m : Nat) (E : List En) (W : World) (W' : World) (E' : List En) (clock' : Nat) : Prop :=
  Sto B W' S m E' clock' ∧ (∀ j, Foot S m E' j → Foot S m E j ∨ W.heap.size ≤ j) ∧ Kept (Foot S m E) W W'
theorem turned_put {B S m clock : Nat} {W Wa w4 : World} {E : List En} {k : Bs} {v4 : Value} {vs : List Ver} (hq : Sto B Wa S m E clock) (hr : VRow B w4 v4 vs) (hk : Kept (fun j => (lkV E k).ownBlock = some j) Wa w4) (ho : ∀ j, v4.ownBlock = some j → (lkV E k).ownBlock = some j ∨ Wa.heap.size ≤ j)
    (hsz : W.heap.size ≤ Wa.heap.size) (hb : Below W.heap.size W Wa) (hne : vs ≠ []) (ha : Asc vs) (hx : ∀ x ∈ vs, 1 ≤ x.1 ∧ x.1 ≤ 1099511627776) (hl : vs.length ≤ 5000) :
    Turned B S m E W (setBlock w4 m (.map (esOf (putE E clock k v4 vs)) (putC E clock k))) (putE E clock k v4 vs) (putC E clock k) := by
  have hks : Kept (fun j => j = m) w4 (setBlock w4 m (.map (esOf (putE E clock k v4 vs)) (putC E clock k))) := setBlock_kept (Kept.refl _ w4) m _ (.inl rfl)
  refine ⟨hq.put hk k v4 vs (fun j hj e he hek => hq.apart_key k j hj e he hek) (fun j hj => hq.off_key k j hj) hr hne ha hx hl (fun j hj => ?_), fun j hj => ?_, ?_⟩
  · rcases ho j hj with h | h
    · exact ⟨(hq.off_key k j h).1, (hq.off_key k j h).2, hq.apart_key k j h⟩
    · exact ⟨fun e => by have := hq.box.lt; omega, fun e => by have := hq.map.lt; omega, fun e he _ e2 => by have := ((hq.rows e he).1.lt j e2).2; omega⟩
  · rcases hj with h | h | ⟨e, he, hj⟩
    · exact .inl (.inl h)
    · exact .inl (.inr (.inl h))
    · rcases putE_mem hq.ok.keys he with ⟨he, _⟩ | ⟨_, e2, _⟩
      · exact .inl (.inr (.inr ⟨e, he, hj⟩))
      · rw [e2] at hj
        rcases ho j hj with h | h
        · exact .inl (hq.foot_key k j h)
        · exact .inr (by omega)
  · have h1 : Kept (Foot S m E) W Wa := ⟨hb.os, hb.tape, hb.output, hb.size, fun j hj _ => hb.block j hj⟩
    exact (h1.trans hk (fun j hj => .inl (hq.foot_key k j hj))).trans hks (fun j hj => .inl (.inr (.inl hj)))
def AddOut (B S m : Nat) (E : List En) (clock : Nat) (k : Bs) (x : Ver) (W : World) (e : Ending) (W' : World) : Prop :=
  e = .returned (.int .i64 0) ∧ ∃ val, Turned B S m E W W' (putE E clock k val (lkL E k ++ [x])) (putC E clock k)
def BadOut (W : World) (e : Ending) (W' : World) : Prop := e = .returned (.int .i64 1) ∧ Below W.heap.size W W'
set_option maxRecDepth 100000 in
set_option maxHeartbeats 1600000 in
theorem add_bad (B S m clock : Nat) (E : List En) (k : Bs) (s : Int) (vl : Bs) (dl : Bool) (W : World) (h : Sto B W S m E clock) (hbad : s < 1 ∨ 1099511627776 < s ∨ s ≤ lastT (lkL E k)) :
    Calls Try.prog 58 #[.pointer (some ⟨S, 0, none⟩), .string k, .agg #[.int .i64 s, .string vl, .bool dl]] W (BadOut W) := by
  have hb5 := Box.new W [.int .i64 s, .string vl, .bool dl] 72
  have hbb : Below W.heap.size W (W.alloc (.cells #[.int .i64 s, .string vl, .bool dl] 72)) := (Below.refl _ W).alloc (Nat.le_refl _) _
  have HL := Lib.hid (fun q => last_any B S m clock E k _ ((h.below hbb).drewN q))
  have HB := Lib.hid hbb
  have HX := Lib.hid hb5
  clear hb5 hbb h
  obtain ⟨la, hla⟩ : ∃ la, la = lastT (lkL E k) := ⟨_, rfl⟩
  rw [← hla] at hbad HL
  clear hla
  have hfin : ∀ q, Below W.heap.size W ((W.alloc (.cells #[.int .i64 s, .string vl, .bool dl] 72)).drewN q) := fun q => HB.out.trans ⟨rfl, rfl, rfl, Nat.le_refl _, fun _ _ => rfl⟩
  have HF := Lib.hid hfin
  clear hfin
  by_cases h1 : s < 1
  · have d1 : decide (s < 1) = true := decide_eq_true h1
    clear hbad h1
    go_enter Try.func58, Try.ntmps58
    go_wp2_with fail
    go_quiet (fail)
    go_wp2_with fail
    go_ret
    exact ⟨rfl, HF.out _⟩
  · have d1 : decide (s < 1) = false := decide_eq_false h1
    by_cases h2 : 1099511627776 < s
    · have d2 : decide (1099511627776 < s) = true := decide_eq_true h2
      clear hbad h1 h2
      go_enter Try.func58, Try.ntmps58
      go_wp2_with fail
      go_quiet (fail)
      go_wp2_with fail
      go_ret
      exact ⟨rfl, HF.out _⟩
    · have d2 : decide (1099511627776 < s) = false := decide_eq_false h2
      have d3 : decide (s ≤ la) = true := decide_eq_true (by omega)
      clear hbad h1 h2
      go_enter Try.func58, Try.ntmps58
      go_wp2_with fail
      go_quiet ((go_at_call 36; refine Calls.quiet_of_same (HL.out _)))
      go_wp2_with fail
      go_ret
      exact ⟨rfl, HF.out _⟩
set_option maxRecDepth 100000 in
set_option maxHeartbeats 3200000 in
theorem add_ok (B S m clock : Nat) (E : List En) (k : Bs) (s : Int) (vl : Bs) (dl : Bool) (W : World) (h : Sto B W S m E clock) (hB : B ≤ W.heap.size) (h1 : ¬ s < 1) (h2 : ¬ 1099511627776 < s) (h3 : ¬ s ≤ lastT (lkL E k)) (hlen : (lkL E k).length + 1 ≤ 5000) :
    Calls Try.prog 58 #[.pointer (some ⟨S, 0, none⟩), .string k, .agg #[.int .i64 s, .string vl, .bool dl]] W (AddOut B S m E clock k (s, vl, dl) W) := by
  have hb5 := Box.new W [.int .i64 s, .string vl, .bool dl] 72
  have hbb : Below W.heap.size W (W.alloc (.cells #[.int .i64 s, .string vl, .bool dl] 72)) := (Below.refl _ W).alloc (Nat.le_refl _) _
  have HL := Lib.hid (fun q => last_any B S m clock E k _ ((h.below hbb).drewN q))
  have HH := Lib.hid h
  have HB := Lib.hid hbb
  have HX := Lib.hid hb5
  have HS3 := Lib.hid (And.intro h1 (And.intro h2 h3))
  clear hb5 hbb h
  obtain ⟨la, hla⟩ : ∃ la, la = lastT (lkL E k) := ⟨_, rfl⟩
  rw [← hla] at h3 HL
  have HLA := Lib.hid hla
  clear hla
  have d1 : decide (s < 1) = false := decide_eq_false h1
  have d2 : decide (1099511627776 < s) = false := decide_eq_false h2
  have d3 : decide (s ≤ la) = false := decide_eq_false h3
  clear h1 h2 h3
  go_enter Try.func58, Try.ntmps58
  go_wp2_with fail
  go_quiet ((go_at_call 36; refine Calls.quiet_of_same (HL.out _)))
  go_wp2_with fail
  clear d1 d2 d3 HL
  generalize hW2 : World.drewN _ _ = W2
  have hBe : Below (W.alloc (.cells #[.int .i64 s, .string vl, .bool dl] 72)).heap.size (W.alloc (.cells #[.int .i64 s, .string vl, .bool dl] 72)) W2 := by rw [← hW2]; exact ⟨rfl, rfl, rfl, Nat.le_refl _, fun _ _ => rfl⟩
  clear hW2
  have HBE := Lib.hid (HB.out.trans (hBe.mono HB.out.size))
  have hS := HH.out.below HBE.out
  have HS := Lib.hid hS
  have hx2 := HX.out.keep hBe
  generalize hb5e : W.heap.size = b5 at hx2 ⊢
  have HB5 := Lib.hid (show ¬ (lkV E k).ownBlock = some b5 from fun e => by have := (HH.out.row k).1.lt _ e; omega)
  have HBW := Lib.hid (show B ≤ W2.heap.size from Nat.le_trans hB HBE.out.size)
  have c0 := hS.drew.c0
  have hm2 := hS.drew.map
  have c1 : W2.drew.cell? ⟨b5, 0, none⟩ = _ := hx2.cell 0 _ rfl
  have c2 : W2.drew.cell? ⟨b5, 1, none⟩ = _ := hx2.cell 1 _ rfl
  have c3 : W2.drew.cell? ⟨b5, 2, none⟩ = _ := hx2.cell 2 _ rfl
  have hbl : b5 < W2.drew.heap.size := hx2.lt
  have HRW := Lib.hid ((hS.drew.kept ((Kept.refl (fun _ => False) W2.drew).alloc (.cells #[.int .i64 s, .string vl, .bool dl] 72)) (fun _ _ h => h)).row k).1
  clear hS hx2 hBe hb5e
  refine wp_region_ordW 15 14 [(0, 0), (1, 0), (2, 0), (3, 1), (4, 0), (5, 0), (6, 0), (7, 0), (8, 1), (9, 0), (10, 1), (11, 1), (12, 2), (13, 2), (14, 3)] (fun X => X.cell? ⟨S, 0, none⟩ = some (.map (some m)) ∧ MapAt X m E clock ∧ X.cell? ⟨b5, 0, none⟩ = some (.int .i64 s) ∧ X.cell? ⟨b5, 1, none⟩ = some (.string vl) ∧ X.cell? ⟨b5, 2, none⟩ = some (.bool dl)) (by kernel_rfl) (by kernel_rfl) ⟨c0, hm2, c1, c2, c3⟩ (fun c a d v w h => by cases d <;> exact h) ?_
  apply wpOrd_read0
  case hi => rfl
  case hw => rfl
  case hy => (intro w; go_simp; try rfl)
  intro K hK; go_simp; refine hK _ _ ?_; clear hK K
  apply wpOrd_read0
  case hi => rfl
  case hw => rfl
  case hy => (intro w; go_simp; try rfl)
  intro K hK; go_simp; refine hK _ _ ?_; clear hK K
  apply wpOrd_read0
  case hi => rfl
  case hw => rfl
  case hy => (intro w; go_simp; try rfl)
  intro K hK; go_simp; refine hK _ _ ?_; clear hK K
  apply wpOrd_read1
  case hi => rfl
  case hw => rfl
  case hy => (intro w hw; obtain ⟨h1, h2, h3, h4, h5⟩ := hw; go_simp; try rfl)
  intro K hK; go_simp; refine hK _ _ ?_; clear hK K
  apply wpOrd_read0
  case hi => rfl
  case hw => rfl
  case hy => (intro w; go_simp; try rfl)
  intro K hK; go_simp; refine hK _ _ ?_; clear hK K
  apply wpOrd_read0
  case hi => rfl
  case hw => rfl
  case hy => (intro w; go_simp; try rfl)
  intro K hK; go_simp; refine hK _ _ ?_; clear hK K
  apply wpOrd_read0
  case hi => rfl
  case hw => rfl
  case hy => (intro w; go_simp; try rfl)
  intro K hK; go_simp; refine hK _ _ ?_; clear hK K
  apply wpOrd_read0
  case hi => rfl
  case hw => rfl
  case hy => (intro w; go_simp; try rfl)
  intro K hK; go_simp; refine hK _ _ ?_; clear hK K
  apply wpOrd_read1
  case hi => rfl
  case hw => rfl
  case hy => (intro w hw; obtain ⟨h1, h2, h3, h4, h5⟩ := hw; go_simp; try rfl)
  intro K hK; go_simp; refine hK _ _ ?_; clear hK K
  apply wpOrd_read0
  case hi => rfl
  case hw => rfl
  case hy => (intro w; go_simp; try rfl)
  intro K hK; go_simp; refine hK _ _ ?_; clear hK K
  apply wpOrd_read1
  case hi => rfl
  case hw => rfl
  case hy => (intro w hw; have hlk := run_look hw.2.1 k; go_simp; try rfl)
  intro K hK; go_simp; refine hK _ _ ?_; clear hK K
  apply wpOrd_read1
  case hi => rfl
  case hw => rfl
  case hy => (intro w hw; obtain ⟨h1, h2, h3, h4, h5⟩ := hw; go_simp; try rfl)
  intro K hK; go_simp; refine hK _ _ ?_; clear hK K
  apply wpOrd_eff2
  case hi => rfl
  case hw => rfl
  intro K hK
  go_simp
  refine hK _ _ ⟨ca (W := W2.drew) HS.out.drew.box.lt c0, hm2.kept ((Kept.refl (fun _ => False) W2.drew).alloc _) (fun h => h), ca (W := W2.drew) hbl c1, ca (W := W2.drew) hbl c2, ca (W := W2.drew) hbl c3⟩ ?_
  clear hK K
  apply wpOrd_eff2
  case hi => rfl
  case hw => rfl
  intro K hK
  refine wp_appV 35 37 B (lkV E k) (.slice (some ⟨W2.heap.size, 0, none⟩) 1 1) (lkL E k) (s, vl, dl) _ _ _ _ _ HRW.out (by omega) (Nat.le_trans HBW.out (by simp)) (vsrc_new W2.drew _ _) ⟨rfl, rfl⟩ ?_
  intro v4 w4 hr4 hk4 ho4
  have HX := Lib.hid (And.intro hr4 (And.intro hk4 ho4))
  have q1 : Sto B (W2.drew.alloc (.cells #[.int .i64 s, .string vl, .bool dl] 72)) S m E clock := HS.out.drew.kept ((Kept.refl (fun _ => False) W2.drew).alloc _) (fun _ _ h => h)
  have hoff := q1.off_key k
  have m4 := q1.map.kept hk4 (fun h => (hoff m h).2 rfl)
  refine hK _ _ ⟨cell_kept2 hk4 q1.box.lt (fun h => (hoff S h).1 rfl) q1.c0, m4, cell_kept2 hk4 (Nat.lt_of_lt_of_le hbl (by simp)) HB5.out (ca (W := W2.drew) hbl c1), cell_kept2 hk4 (Nat.lt_of_lt_of_le hbl (by simp)) HB5.out (ca (W := W2.drew) hbl c2), cell_kept2 hk4 (Nat.lt_of_lt_of_le hbl (by simp)) HB5.out (ca (W := W2.drew) hbl c3)⟩ ?_
  clear hK K
  have HQ1 := Lib.hid q1
  have hup := run_upd m4 q1.ok.keys k v4 (lkL E k ++ [(s, vl, dl)])
  clear hr4 hk4 ho4 q1 hoff
  apply wpOrd_eff3
  case hi => rfl
  case hw => rfl
  intro K hK
  go_simp
  refine hK _ _ (wpOrd_nil ?_)
  clear hK K

  try clear c0 hm2 c1 c2 c3 hbl hup m4
  go_wp2_with fail
  go_ret
  exact ⟨rfl, v4, turned_put HQ1.out HX.out.1 HX.out.2.1 HX.out.2.2 (by have := HBE.out.size; simp; omega) (HBE.out.drew.alloc HBE.out.size _) (by simp) (asc_snoc (HH.out.row k).2.1 (by have := HS3.out; omega)) (fun x hx => by
    rcases List.mem_append.1 hx with hx | hx
    · exact (HH.out.row k).2.2.1 x hx
    · rw [List.mem_singleton.1 hx]; have := HS3.out; exact ⟨by show 1 ≤ s; omega, by show s ≤ 1099511627776; omega⟩) (by rw [List.length_append]; exact hlen)⟩
end Go.Proofs.Ytpcjmceakelilaa
