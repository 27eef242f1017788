/- Engine: an engine in memory: its tables by name, and their stores. -/
import Derived.Test.YtpcjmceakelilaaEn8
namespace Go.Proofs.Ytpcjmceakelilaa
open Go.ChangeShapes Go.WideShapes Go.ChangeAt Go.RowKit Go.Deep Go.ChangeMaps Go.Shelf
set_option linter.unusedVariables false
set_option linter.unusedSimpArgs false
/-- a table: its name, its store (the store's block, its map's block, its entries, the map's clock), its stamp in the map of tables -/
structure Tb where
  key : Bs
  S : Nat
  m : Nat
  E : List En
  clock : Nat
  born : Nat
def Tb.en (t : Tb) : En := ⟨t.key, [], .pointer (some ⟨t.S, 0, none⟩), t.born⟩
def ens (T : List Tb) : List En := T.map Tb.en
def tbOf (T : List Tb) (k : Bs) : Option Tb := T.find? fun t => decide (k = t.key)
def tbP (o : Option Tb) : Value := match o with
  | some t => .pointer (some ⟨t.S, 0, none⟩)
  | none => .pointer none
theorem fnd_ens (k : Bs) : ∀ (T : List Tb) (i : Nat), (fnd k (ens T) i).map (·.2) = (tbOf T k).map Tb.en
  | [], _ => rfl
  | t :: T, i => by
    show (fnd k (t.en :: ens T) i).map (·.2) = ((t :: T).find? fun t => decide (k = t.key)).map Tb.en
    unfold fnd
    rw [List.find?_cons]
    by_cases h : k = t.key
    · rw [if_pos (show k = t.en.key from h), decide_eq_true h]; rfl
    · rw [if_neg (show ¬ k = t.en.key from h), decide_eq_false h]; exact fnd_ens k T (i + 1)
theorem lkE_ens (T : List Tb) (k : Bs) : lkE (ens T) k = (tbOf T k).map Tb.en := fnd_ens k T 0
theorem tbOf_mem {T : List Tb} {k : Bs} {t : Tb} (h : tbOf T k = some t) : t ∈ T ∧ t.key = k :=
  ⟨List.mem_of_find?_eq_some h, (of_decide_eq_true (List.find?_some (p := fun t : Tb => decide (k = t.key)) h)).symm⟩
theorem tbOf_none {T : List Tb} {k : Bs} (h : tbOf T k = none) : ∀ t ∈ T, t.key ≠ k := fun t ht e => by
  have := List.find?_eq_none.1 h t ht
  simp [e] at this
theorem tbOf_of {T : List Tb} (hn : (T.map (·.key)).Nodup) {t : Tb} (ht : t ∈ T) : tbOf T t.key = some t := by
  cases h : tbOf T t.key with
  | none => exact absurd rfl (tbOf_none h t ht)
  | some u =>
    obtain ⟨h1, h2⟩ := tbOf_mem h
    rw [nodup_inj hn h1 ht h2]
theorem zero_st (W : World) : (zeroValue 65).run Try.prog W = .ok (.pointer none) W := by kernel_rfl
theorem run_lookT {W : World} {m clock : Nat} {T : List Tb} (h : MapAt W m (ens T) clock) (k : Bs) :
    (Instr.lookup 48 (.map (some m)) (.string k) false).run Try.prog W = .ok (tbP (tbOf T k)) W := by
  have h1 := findNow_E k (ens T) 0
  rw [← esOf_list] at h1
  have h2 := fnd_ens k T 0
  simp only [Instr.lookup, Sem.run_bind, run_underlying Try.underlying48, MapKept.run_getObj_map h, Result.andThen, Sem.run_pure]
  rw [MapKept.run_checkKey (d := .string) Try.underlying9 (isKeyS k)]
  simp only [Result.andThen, Sem.run_bind]
  rw [MapKept.run_findKey (d := .string) Try.underlying9 h1]
  cases hf : fnd k (ens T) 0 with
  | none =>
    rw [hf] at h2
    cases ht : tbOf T k with
    | none => simp [Result.andThen, zero_st, tbP]
    | some t => rw [ht] at h2; cases h2
  | some p =>
    rw [hf] at h2
    cases ht : tbOf T k with
    | none => rw [ht] at h2; cases h2
    | some t =>
      rw [ht] at h2
      have e : p.2 = t.en := by simpa using h2
      simp [Result.andThen, tbP, e, Tb.en]
theorem run_newT {W : World} {m clock : Nat} {T : List Tb} (h : MapAt W m (ens T) clock) (t : Tb) (hn : tbOf T t.key = none) (hb : t.born = clock) :
    (Instr.mapUpdate 48 (.map (some m)) (.string t.key) (.pointer (some ⟨t.S, 0, none⟩))).run Try.prog W = .ok () (setBlock W m (.map (esOf (ens (T ++ [t]))) (clock + 1))) := by
  have h1 := findNow_E t.key (ens T) 0
  rw [← esOf_list] at h1
  have h2 := fnd_ens t.key T 0
  rw [hn] at h2
  have hf : fnd t.key (ens T) 0 = none := by
    cases hf : fnd t.key (ens T) 0 with
    | none => rfl
    | some p => rw [hf] at h2; cases h2
  rw [hf] at h1
  have e : (esOf (ens T)).push ⟨.string t.key, .pointer (some ⟨t.S, 0, none⟩), clock⟩ = esOf (ens (T ++ [t])) := by
    apply Array.toList_inj.1
    rw [Array.toList_push, esOf_list, esOf_list]
    unfold ens
    rw [List.map_append, List.map_append]
    simp [Tb.en, En.entry, hb]
  simp [Instr.mapUpdate, run_underlying Try.underlying48, MapKept.run_getObj_map h, MapKept.run_checkKey (d := .string) Try.underlying9 (isKeyS t.key), MapKept.run_findKey (d := .string) Try.underlying9 h1, MapKept.run_setObj_map _ h, Result.andThen, setBlock, e]
/-- the engine at b: its map in block mt, the tables T; nothing of it lies below B -/
structure Egs (B : Nat) (W : World) (b mt : Nat) (T : List Tb) (tc : Nat) (st : Int) (dk : Bs) (sy : Int) : Prop where
  box : Box W b [.map (some mt), .int .i64 st, .string dk, .int .i64 sy]
  map : MapAt W mt (ens T) tc
  ok : EnOK (ens T) tc
  sto : ∀ t ∈ T, Sto B W t.S t.m t.E t.clock
  apart : T.Pairwise fun a c => ∀ k, Foot a.S a.m a.E k → ¬ Foot c.S c.m c.E k
  off : ∀ t ∈ T, ∀ k, Foot t.S t.m t.E k → k ≠ b ∧ k ≠ mt
  mb : mt ≠ b
  bb : B ≤ b
  bm : B ≤ mt
/-- the blocks of an engine -/
def FootE (b mt : Nat) (T : List Tb) (k : Nat) : Prop := k = b ∨ k = mt ∨ ∃ t ∈ T, Foot t.S t.m t.E k
section
variable {B b mt tc : Nat} {W W' : World} {T : List Tb} {st sy : Int} {dk : Bs}
theorem Egs.foot (h : Egs B W b mt T tc st dk sy) {k : Nat} (hk : FootE b mt T k) : B ≤ k ∧ k < W.heap.size := by
  rcases hk with rfl | rfl | ⟨t, ht, hk⟩
  · exact ⟨h.bb, h.box.lt⟩
  · exact ⟨h.bm, h.map.lt⟩
  · exact (h.sto t ht).foot hk
theorem Egs.kept {F : Nat → Prop} (h : Egs B W b mt T tc st dk sy) (hk : Kept F W W') (hF : ∀ k, FootE b mt T k → ¬ F k) : Egs B W' b mt T tc st dk sy :=
  ⟨h.box.kept' hk (hF b (.inl rfl)), h.map.kept hk (hF mt (.inr (.inl rfl))), h.ok, fun t ht => (h.sto t ht).kept hk (fun k hk2 => hF k (.inr (.inr ⟨t, ht, hk2⟩))), h.apart, h.off, h.mb, h.bb, h.bm⟩
theorem Egs.below (h : Egs B W b mt T tc st dk sy) (hb : Below W.heap.size W W') : Egs B W' b mt T tc st dk sy := h.kept (kept_below hb) (fun _ _ h => h)
theorem Egs.drew (h : Egs B W b mt T tc st dk sy) : Egs B W.drew b mt T tc st dk sy := h.below ⟨rfl, rfl, rfl, Nat.le_refl _, fun _ _ => rfl⟩
theorem Egs.drewN (h : Egs B W b mt T tc st dk sy) (q : Nat) : Egs B (W.drewN q) b mt T tc st dk sy := h.below ⟨rfl, rfl, rfl, Nat.le_refl _, fun _ _ => rfl⟩
theorem Egs.base {B' : Nat} (h : Egs B' W b mt T tc st dk sy) (hb : B ≤ B') : Egs B W b mt T tc st dk sy :=
  ⟨h.box, h.map, h.ok, fun t ht => (h.sto t ht).base hb, h.apart, h.off, h.mb, Nat.le_trans hb h.bb, Nat.le_trans hb h.bm⟩
theorem Egs.c0 (h : Egs B W b mt T tc st dk sy) : W.cell? ⟨b, 0, none⟩ = some (.map (some mt)) := h.box.cell 0 _ rfl
theorem Egs.c1 (h : Egs B W b mt T tc st dk sy) : W.cell? ⟨b, 1, none⟩ = some (.int .i64 st) := h.box.cell 1 _ rfl
theorem Egs.c2 (h : Egs B W b mt T tc st dk sy) : W.cell? ⟨b, 2, none⟩ = some (.string dk) := h.box.cell 2 _ rfl
theorem Egs.c3 (h : Egs B W b mt T tc st dk sy) : W.cell? ⟨b, 3, none⟩ = some (.int .i64 sy) := h.box.cell 3 _ rfl
theorem ens_keys (T : List Tb) : (ens T).map (·.key) = T.map (·.key) := by unfold ens; rw [List.map_map]; rfl
theorem Egs.keys (h : Egs B W b mt T tc st dk sy) : (T.map (·.key)).Nodup := by have := h.ok.keys; rwa [ens_keys] at this
/-- the box alone is another one -/
theorem Egs.rebox {st' sy' : Int} {dk' : Bs} (h : Egs B W b mt T tc st dk sy) (ho : Only W W' b) (hb : Box W' b [.map (some mt), .int .i64 st', .string dk', .int .i64 sy']) : Egs B W' b mt T tc st' dk' sy' := by
  have hk : Kept (fun k => k = b) W W' := ⟨(ho.below b (Nat.le_refl _)).os, (ho.below b (Nat.le_refl _)).tape, (ho.below b (Nat.le_refl _)).output, (ho.below b (Nat.le_refl _)).size, fun k _ hk => ho.heap k hk⟩
  exact ⟨hb, h.map.kept hk (fun e => h.mb e), h.ok, fun t ht => (h.sto t ht).kept hk (fun k hk2 e => (h.off t ht k hk2).1 e), h.apart, h.off, h.mb, h.bb, h.bm⟩
theorem Egs.setStamp (h : Egs B W b mt T tc st dk sy) (st' : Int) : Egs B (W.setCell ⟨b, 1, none⟩ (.int .i64 st')) b mt T tc st' dk sy := h.rebox (Only.setCell W b 1 _) (h.box.setCell 1 (.int .i64 st') (by simp))
theorem Egs.setDisk (h : Egs B W b mt T tc st dk sy) (dk' : Bs) : Egs B (W.setCell ⟨b, 2, none⟩ (.string dk')) b mt T tc st dk' sy := h.rebox (Only.setCell W b 2 _) (h.box.setCell 2 (.string dk') (by simp))
theorem Egs.setSync (h : Egs B W b mt T tc st dk sy) (sy' : Int) : Egs B (W.setCell ⟨b, 3, none⟩ (.int .i64 sy')) b mt T tc st dk sy' := h.rebox (Only.setCell W b 3 _) (h.box.setCell 3 (.int .i64 sy') (by simp))
theorem Egs.fr (h : Egs B W b mt T tc st dk sy) (j : Nat) : W.frozen? ⟨b, j, none⟩ = false := h.box.free j
end
/-- a table's store is another one -/
def updT (T : List Tb) (k : Bs) (E : List En) (c : Nat) : List Tb := T.map fun t => if t.key = k then { t with E := E, clock := c } else t
theorem updT_ens (T : List Tb) (k : Bs) (E : List En) (c : Nat) : ens (updT T k E c) = ens T := by
  unfold ens updT
  rw [List.map_map]
  refine List.map_congr_left fun t _ => ?_
  show Tb.en (if t.key = k then _ else t) = t.en
  split <;> rfl
theorem updT_mem {T : List Tb} {k : Bs} {E : List En} {c : Nat} {x : Tb} (h : x ∈ updT T k E c) : (x ∈ T ∧ x.key ≠ k) ∨ ∃ t ∈ T, t.key = k ∧ x = { t with E := E, clock := c } := by
  obtain ⟨t, ht, rfl⟩ := List.mem_map.1 h
  by_cases hk : t.key = k
  · rw [if_pos hk]; exact .inr ⟨t, ht, hk, rfl⟩
  · rw [if_neg hk]; exact .inl ⟨ht, hk⟩
/-- what a call that changes an engine leaves -/
structure ETurn (B b : Nat) (F : Nat → Prop) (W W' : World) (mt : Nat) (T : List Tb) (tc : Nat) (st : Int) (dk : Bs) (sy : Int) : Prop where
  egs : Egs B W' b mt T tc st dk sy
  foot : ∀ k, FootE b mt T k → F k ∨ W.heap.size ≤ k
  kept : Kept F W W'
theorem ETurn.trans {B b mt mt' tc tc' : Nat} {F : Nat → Prop} {W W' W'' : World} {T T' : List Tb} {st st' sy sy' : Int} {dk dk' : Bs} (h : ETurn B b F W W' mt T tc st dk sy) (g : ETurn B b (FootE b mt T) W' W'' mt' T' tc' st' dk' sy') : ETurn B b F W W'' mt' T' tc' st' dk' sy' :=
  ⟨g.egs, fun k hk => (g.foot k hk).elim (fun h1 => h.foot k h1) (fun h1 => .inr (Nat.le_trans h.kept.size h1)), h.kept.trans g.kept (fun k hk => h.foot k hk)⟩
theorem ETurn.same {B b mt tc : Nat} {W W' : World} {T : List Tb} {st sy : Int} {dk : Bs} (h : Egs B W b mt T tc st dk sy) (hb : Below W.heap.size W W') : ETurn B b (FootE b mt T) W W' mt T tc st dk sy :=
  ⟨h.below hb, fun k hk => .inl hk, ⟨hb.os, hb.tape, hb.output, hb.size, fun k hk _ => hb.block k hk⟩⟩
theorem ETurn.low {B b mt tc : Nat} {F : Nat → Prop} {W W' : World} {T : List Tb} {st sy : Int} {dk : Bs} (h : ETurn B b F W W' mt T tc st dk sy) (hB : B ≤ W.heap.size) (hF : ∀ k, F k → B ≤ k) : Below B W W' := h.kept.below hB hF
section
variable {B b mt tc : Nat} {W W' : World} {T : List Tb} {st sy : Int} {dk : Bs}
theorem Egs.ne_foot (h : Egs B W b mt T tc st dk sy) {x y : Tb} (hx : x ∈ T) (hy : y ∈ T) (hne : x.key ≠ y.key) : ∀ k, Foot x.S x.m x.E k → ¬ Foot y.S y.m y.E k := by
  obtain ⟨i, hi, rfl⟩ := List.mem_iff_getElem.1 hx
  obtain ⟨l, hl, rfl⟩ := List.mem_iff_getElem.1 hy
  have hp := List.pairwise_iff_getElem.1 h.apart
  intro j h1 h2
  rcases Nat.lt_trichotomy i l with h3 | h3 | h3
  · exact hp i l hi hl h3 j h1 h2
  · subst h3; exact hne rfl
  · exact hp l i hl hi h3 j h2 h1
/-- the store of a table has been changed -/
theorem Egs.turn (h : Egs B W b mt T tc st dk sy) {t : Tb} (ht : t ∈ T) {E' : List En} {c' : Nat} (hT : Turned B t.S t.m t.E W W' E' c') : ETurn B b (FootE b mt T) W W' mt (updT T t.key E' c') tc st dk sy := by
  obtain ⟨h1, h2, h3⟩ := hT
  have hsub : ∀ k, Foot t.S t.m t.E k → FootE b mt T k := fun k hk => .inr (.inr ⟨t, ht, hk⟩)
  have hfoot : ∀ x ∈ updT T t.key E' c', (x ∈ T ∧ x.key ≠ t.key) ∨ (x.S = t.S ∧ x.m = t.m ∧ x.E = E' ∧ x.clock = c' ∧ x.key = t.key) := fun x hx => by
    rcases updT_mem hx with hx | ⟨u, hu, hk, rfl⟩
    · exact .inl hx
    · have : u = t := nodup_inj h.keys hu ht hk
      subst this
      exact .inr ⟨rfl, rfl, rfl, rfl, rfl⟩
  refine ⟨⟨h.box.kept' h3 (fun hk => (h.off t ht b hk).1 rfl), ?_, by rw [updT_ens]; exact h.ok, fun x hx => ?_, ?_, fun x hx k hk => ?_, h.mb, h.bb, h.bm⟩, fun k hk => ?_, ⟨h3.os, h3.tape, h3.output, h3.size, fun k hk hs => h3.block k hk (fun hf => hs (hsub k hf))⟩⟩
  · rw [updT_ens]; exact h.map.kept h3 (fun hk => (h.off t ht mt hk).2 rfl)
  · rcases hfoot x hx with ⟨hx, hne⟩ | ⟨e1, e2, e3, e4, e5⟩
    · exact (h.sto x hx).kept h3 (fun k hk hk2 => h.ne_foot hx ht hne k hk hk2)
    · rw [e1, e2, e3, e4]; exact h1
  · have hkk : T.Pairwise fun a b => a.key ≠ b.key := by
      have := h.keys
      unfold List.Nodup at this
      rwa [List.pairwise_map] at this
    unfold updT
    refine List.pairwise_map.2 ((h.apart.and (hkk.and (List.pairwise_of_forall_mem_list (l := T) (r := fun a b => a ∈ T ∧ b ∈ T) (fun a ha b hb => ⟨ha, hb⟩)))).imp ?_)
    rintro a c ⟨hac, hne2, haT, hcT⟩ k hk hk2
    by_cases hak : a.key = t.key
    · have e : a = t := nodup_inj h.keys haT ht hak
      subst e
      rw [if_pos rfl] at hk
      rw [if_neg (fun e => hne2 e.symm)] at hk2
      rcases h2 k hk with h4 | h4
      · exact hac k h4 hk2
      · have := ((h.sto c hcT).foot hk2).2; omega
    · rw [if_neg hak] at hk
      by_cases hck : c.key = t.key
      · have e : c = t := nodup_inj h.keys hcT ht hck
        subst e
        rw [if_pos rfl] at hk2
        rcases h2 k hk2 with h4 | h4
        · exact hac k hk h4
        · have := ((h.sto a haT).foot hk).2; omega
      · rw [if_neg hck] at hk2; exact hac k hk hk2
  · rcases hfoot x hx with ⟨hx, hne⟩ | ⟨e1, e2, e3, e4, e5⟩
    · exact h.off x hx k hk
    · rw [e1, e2, e3] at hk
      rcases h2 k hk with h4 | h4
      · exact h.off t ht k h4
      · exact ⟨fun e => by have := h.box.lt; omega, fun e => by have := h.map.lt; omega⟩
  · rcases hk with hk | hk | ⟨x, hx, hk⟩
    · exact .inl (.inl hk)
    · exact .inl (.inr (.inl hk))
    · rcases hfoot x hx with ⟨hx, hne⟩ | ⟨e1, e2, e3, e4, e5⟩
      · exact .inl (.inr (.inr ⟨x, hx, hk⟩))
      · rw [e1, e2, e3] at hk
        exact (h2 k hk).imp (hsub k) id
/-- a table is added, with a store of its own -/
theorem Egs.add (h : Egs B W b mt T tc st dk sy) {t : Tb} (hn : tbOf T t.key = none) (hb : t.born = tc) {W1 : World} (hw : Below W.heap.size W W1) (hs : Sto W.heap.size W1 t.S t.m t.E t.clock) (hB : B ≤ W.heap.size) :
    ETurn B b (FootE b mt T) W (setBlock W1 mt (.map (esOf (ens (T ++ [t]))) (tc + 1))) mt (T ++ [t]) (tc + 1) st dk sy := by
  have h1 := h.below hw
  have hks : Kept (fun k => k = mt) W1 (setBlock W1 mt (.map (esOf (ens (T ++ [t]))) (tc + 1))) := setBlock_kept (Kept.refl _ W1) mt _ (.inl rfl)
  have hnew : ∀ k, Foot t.S t.m t.E k → W.heap.size ≤ k := fun k hk => (hs.foot hk).1
  have hno := tbOf_none hn
  have hmlt := h.map.lt
  have hblt := h.box.lt
  refine ⟨⟨h1.box.kept' hks (fun e => h.mb e.symm), setBlock_at h1.map, ?_, fun x hx => ?_, ?_, fun x hx k hk => ?_, h.mb, h.bb, h.bm⟩, fun k hk => ?_, ?_⟩
  · have e : ens (T ++ [t]) = ens T ++ [t.en] := by simp [ens]
    rw [e]
    refine ⟨?_, ?_, fun x hx => ?_⟩
    · rw [List.map_append, List.nodup_append]
      refine ⟨h.ok.keys, by simp, fun a ha c hc => ?_⟩
      rw [ens_keys] at ha
      obtain ⟨u, hu, rfl⟩ := List.mem_map.1 ha
      have hc' : c = t.key := by simpa [Tb.en] using hc
      rw [hc']
      exact hno u hu
    · rw [List.map_append, List.nodup_append]
      refine ⟨h.ok.borns, by simp, fun a ha c hc => ?_⟩
      obtain ⟨u, hu, rfl⟩ := List.mem_map.1 ha
      have hc' : c = tc := by simpa [Tb.en, hb] using hc
      have := h.ok.lt u hu
      omega
    · rcases List.mem_append.1 hx with hx | hx
      · have := h.ok.lt x hx; omega
      · rw [List.mem_singleton.1 hx]; show t.born < tc + 1; omega
  · rcases List.mem_append.1 hx with hx | hx
    · exact (h1.sto x hx).kept hks (fun k hk => (h.off x hx k hk).2)
    · rw [List.mem_singleton.1 hx]
      exact (hs.kept hks (fun k hk e => by have := hnew k hk; omega)).base hB
  · rw [List.pairwise_append]
    refine ⟨h.apart, List.pairwise_singleton _ _, fun a ha c hc k hk hk2 => ?_⟩
    rw [List.mem_singleton.1 hc] at hk2
    have := hnew k hk2
    have := ((h.sto a ha).foot hk).2
    omega
  · rcases List.mem_append.1 hx with hx | hx
    · exact h.off x hx k hk
    · rw [List.mem_singleton.1 hx] at hk
      have := hnew k hk
      exact ⟨by omega, by omega⟩
  · rcases hk with hk | hk | ⟨x, hx, hk⟩
    · exact .inl (.inl hk)
    · exact .inl (.inr (.inl hk))
    · rcases List.mem_append.1 hx with hx | hx
      · exact .inl (.inr (.inr ⟨x, hx, hk⟩))
      · rw [List.mem_singleton.1 hx] at hk; exact .inr (hnew k hk)
  · have h2 : Kept (FootE b mt T) W W1 := ⟨hw.os, hw.tape, hw.output, hw.size, fun k hk _ => hw.block k hk⟩
    exact h2.trans hks (fun k hk => .inl (.inr (.inl hk)))
end
/-- what the tables hold -/
def cont (T : List Tb) (tb : Bs) : Bs → List Ver := match tbOf T tb with
  | some t => lkL t.E
  | none => fun _ => []
theorem tbOf_upd (T : List Tb) (k : Bs) (E : List En) (c : Nat) (tb : Bs) : tbOf (updT T k E c) tb = (tbOf T tb).map fun t => if t.key = k then { t with E := E, clock := c } else t := by
  unfold tbOf updT
  rw [List.find?_map]
  congr 1
  refine congrArg (fun p => T.find? p) (funext fun t => ?_)
  show decide (tb = (if t.key = k then { t with E := E, clock := c } else t : Tb).key) = decide (tb = t.key)
  split <;> rfl
theorem cont_upd {T : List Tb} {k : Bs} {t : Tb} (ht : tbOf T k = some t) (E : List En) (c : Nat) : cont (updT T k E c) = fun tb => if tb = k then lkL E else cont T tb := by
  funext tb
  unfold cont
  rw [tbOf_upd]
  by_cases h : tb = k
  · subst h
    rw [ht]
    simp [(tbOf_mem ht).2]
  · rw [if_neg h]
    cases hu : tbOf T tb with
    | none => rfl
    | some u =>
      have : u.key ≠ k := by rw [(tbOf_mem hu).2]; exact h
      simp [this]
theorem cont_add {T : List Tb} {t : Tb} (hn : tbOf T t.key = none) : cont (T ++ [t]) = fun tb => if tb = t.key then lkL t.E else cont T tb := by
  funext tb
  unfold cont tbOf
  rw [List.find?_append]
  by_cases h : tb = t.key
  · subst h
    have : T.find? (fun u => decide (t.key = u.key)) = none := hn
    rw [this]
    simp
  · rw [if_neg h]
    cases hu : T.find? (fun t => decide (tb = t.key)) with
    | none => simp [h]
    | some u => rfl
end Go.Proofs.Ytpcjmceakelilaa
