/- Mvcc: stores into a map, deletions, the steps of a range. -/
import Derived.Test.YtpcjmceakelilaaMv2
namespace Go.Proofs.Ytpcjmceakelilaa
open Go.ChangeShapes Go.WideShapes Go.ChangeAt Go.RowKit Go.Deep Go.ChangeMaps
set_option linter.unusedVariables false
set_option linter.unusedSimpArgs false
/-- the entries' names fit the block: keys and stamps once each, stamps below the clock -/
structure EnOK (E : List En) (clock : Nat) : Prop where
  keys : (E.map (·.key)).Nodup
  borns : (E.map (·.born)).Nodup
  lt : ∀ e ∈ E, e.born < clock
theorem EnOK.nil (clock : Nat) : EnOK [] clock := ⟨List.nodup_nil, List.nodup_nil, fun e he => (by cases he)⟩
/-- the slice of a key is another one -/
def updE (E : List En) (k : Bs) (val : Value) (vs : List Ver) : List En := E.map fun e => if e.key = k then { e with val := val, vs := vs } else e
def delE (E : List En) (k : Bs) : List En := E.filter fun e => !decide (e.key = k)
def putE (E : List En) (clock : Nat) (k : Bs) (val : Value) (vs : List Ver) : List En := match lkE E k with
  | some _ => updE E k val vs
  | none => E ++ [⟨k, vs, val, clock⟩]
def putC (E : List En) (clock : Nat) (k : Bs) : Nat := match lkE E k with
  | some _ => clock
  | none => clock + 1
theorem updE_keys (E : List En) (k : Bs) (val : Value) (vs : List Ver) : (updE E k val vs).map (·.key) = E.map (·.key) := by
  unfold updE
  rw [List.map_map]
  refine List.map_congr_left (fun e _ => ?_)
  show (if e.key = k then _ else e).key = e.key
  split <;> rfl
theorem updE_borns (E : List En) (k : Bs) (val : Value) (vs : List Ver) : (updE E k val vs).map (·.born) = E.map (·.born) := by
  unfold updE
  rw [List.map_map]
  refine List.map_congr_left (fun e _ => ?_)
  show (if e.key = k then _ else e).born = e.born
  split <;> rfl
theorem born_lt_map {E E' : List En} {clock : Nat} (h : ∀ e ∈ E, e.born < clock) (he : ∀ e ∈ E', e.born ∈ E.map (·.born)) : ∀ e ∈ E', e.born < clock := fun e h' => by
  obtain ⟨x, h1, h2⟩ := List.mem_map.1 (he e h')
  rw [← h2]; exact h x h1
theorem EnOK.upd {E : List En} {clock : Nat} (h : EnOK E clock) (k : Bs) (val : Value) (vs : List Ver) : EnOK (updE E k val vs) clock :=
  ⟨by rw [updE_keys]; exact h.keys, by rw [updE_borns]; exact h.borns, born_lt_map h.lt (fun e he => by rw [← updE_borns E k val vs]; exact List.mem_map.2 ⟨e, he, rfl⟩)⟩
theorem EnOK.sub {E E' : List En} {clock : Nat} (h : EnOK E clock) (hs : E'.Sublist E) : EnOK E' clock := ⟨(hs.map _).nodup h.keys, (hs.map _).nodup h.borns, fun e he => h.lt e (hs.subset he)⟩
theorem EnOK.del {E : List En} {clock : Nat} (h : EnOK E clock) (k : Bs) : EnOK (delE E k) clock := h.sub List.filter_sublist
theorem EnOK.put {E : List En} {clock : Nat} (h : EnOK E clock) (k : Bs) (val : Value) (vs : List Ver) : EnOK (putE E clock k val vs) (putC E clock k) := by
  unfold putE putC
  cases hl : lkE E k with
  | some e => exact h.upd k val vs
  | none =>
    refine ⟨?_, ?_, fun e he => ?_⟩
    · show ((E ++ [⟨k, vs, val, clock⟩] : List En).map (·.key)).Nodup
      rw [List.map_append, List.nodup_append]
      refine ⟨h.keys, by simp, fun a ha b hb => ?_⟩
      obtain ⟨e, he, rfl⟩ := List.mem_map.1 ha
      have hb' : b = k := by simpa using hb
      rw [hb']
      exact lkE_none hl e he
    · show ((E ++ [⟨k, vs, val, clock⟩] : List En).map (·.born)).Nodup
      rw [List.map_append, List.nodup_append]
      refine ⟨h.borns, by simp, fun a ha b hb => ?_⟩
      obtain ⟨e, he, rfl⟩ := List.mem_map.1 ha
      have hb' : b = clock := by simpa using hb
      have := h.lt e he
      omega
    · rcases List.mem_append.1 he with he | he
      · have := h.lt e he; show e.born < clock + 1; omega
      · rw [List.mem_singleton.1 he]; show clock < clock + 1; omega
theorem modify_upd {E : List En} {k : Bs} {val : Value} {vs : List Ver} {d : Nat} {e : En} (hn : (E.map (·.key)).Nodup) (hd : E[d]? = some e) (hk : e.key = k) :
    (esOf E).modify d (fun x => { x with key := .string k, val := val }) = esOf (updE E k val vs) := by
  apply Array.toList_inj.1
  rw [Array.toList_modify, esOf_list, esOf_list]
  apply List.ext_getElem?
  intro j
  rw [List.getElem?_modify, List.getElem?_map, List.getElem?_map]
  unfold updE
  rw [List.getElem?_map]
  cases hj : E[j]? with
  | none => rfl
  | some x =>
    simp only [Option.map_some]
    by_cases hdj : d = j
    · subst hdj
      rw [hd] at hj
      cases hj
      simp [En.entry, hk]
    · show some (if d = j then _ else x.entry) = some (if x.key = k then _ else x).entry
      rw [if_neg hdj, if_neg (fun hxk => ?_)]
      · obtain ⟨h1, h2⟩ := List.getElem?_eq_some_iff.1 hd
        obtain ⟨h3, h4⟩ := List.getElem?_eq_some_iff.1 hj
        have := (List.getElem_inj (xs := E.map (·.key)) (h₀ := by simpa using h1) (h₁ := by simpa using h3) hn).1 (by simp [h2, h4, hk, hxk])
        exact hdj this
theorem run_upd {W : World} {m clock : Nat} {E : List En} (h : MapAt W m E clock) (hn : (E.map (·.key)).Nodup) (k : Bs) (val : Value) (vs : List Ver) :
    (Instr.mapUpdate 87 (.map (some m)) (.string k) val).run Try.prog W = .ok () (setBlock W m (.map (esOf (putE E clock k val vs)) (putC E clock k))) := by
  have h1 := findNow_E k E 0
  rw [← esOf_list] at h1
  unfold putE putC lkE
  cases hf : fnd k E 0 with
  | none =>
    rw [hf] at h1
    have e : (esOf E).push ⟨.string k, val, clock⟩ = esOf (E ++ [⟨k, vs, val, clock⟩]) := by
      apply Array.toList_inj.1
      rw [Array.toList_push, esOf_list, esOf_list, List.map_append]; rfl
    simp [Instr.mapUpdate, run_underlying Try.underlying87, MapKept.run_getObj_map h, MapKept.run_checkKey (d := .string) Try.underlying9 (isKeyS k), MapKept.run_findKey (d := .string) Try.underlying9 h1, MapKept.run_setObj_map _ h, Result.andThen, setBlock, e]
  | some p =>
    obtain ⟨j, e⟩ := p
    rw [hf] at h1
    obtain ⟨d, hjd, h2, h3⟩ := fnd_some k E 0 j e hf
    have hj0 : j = d := by omega
    subst hj0
    have hes : (esOf E)[j]? = some e.entry := by
      rw [← Array.getElem?_toList, esOf_list, List.getElem?_map, h2]; rfl
    have hke : e.entry.key = .string k := by show Value.string e.key = _; rw [h3]
    have hm := modify_upd (val := val) (vs := vs) hn h2 h3
    simp [Instr.mapUpdate, run_underlying Try.underlying87, MapKept.run_getObj_map h, MapKept.run_checkKey (d := .string) Try.underlying9 (isKeyS k), MapKept.run_findKey (d := .string) Try.underlying9 h1, hes, hke, MapKept.run_keyThatStays (isKeyS k), MapKept.run_setObj_map _ h, Result.andThen, setBlock, hm]
theorem erase_del {E : List En} {k : Bs} {d : Nat} {e : En} (hn : (E.map (·.key)).Nodup) (hd : E[d]? = some e) (hk : e.key = k) :
    (esOf E).eraseIdxIfInBounds d = esOf (delE E k) := by
  have hdl := (List.getElem?_eq_some_iff.1 hd).1
  apply Array.toList_inj.1
  have h0 : d < (esOf E).size := by rw [← Array.length_toList, esOf_list]; simpa using hdl
  unfold Array.eraseIdxIfInBounds
  rw [dif_pos h0, Array.toList_eraseIdx, esOf_list, esOf_list]
  clear h0
  induction E generalizing d with
  | nil => cases hd
  | cons a E ih =>
    cases d with
    | zero =>
      have ha : a = e := by simpa using hd
      subst ha
      rw [List.map_cons, List.eraseIdx_cons_zero]
      unfold delE
      rw [List.filter_cons, if_neg (by simp [hk])]
      refine congrArg (List.map En.entry) (List.filter_eq_self.2 (fun x hx => ?_)).symm
      have h1 := (List.nodup_cons.1 hn).1
      simp only [Bool.not_eq_true', decide_eq_false_iff_not]
      exact fun hxk => h1 (List.mem_map.2 ⟨x, hx, hxk.trans hk.symm⟩)
    | succ d =>
      have hd' : E[d]? = some e := by simpa using hd
      rw [List.map_cons, List.eraseIdx_cons_succ]
      unfold delE
      have hn' := List.nodup_cons.1 hn
      rw [List.filter_cons, if_pos (by
        simp only [Bool.not_eq_true', decide_eq_false_iff_not]
        exact fun hak => hn'.1 (List.mem_map.2 ⟨e, List.mem_of_getElem? hd', hk.trans hak.symm⟩))]
      rw [List.map_cons]
      exact congrArg (List.cons _) (ih hn'.2 hd' (by simpa using hdl))
theorem run_del {W : World} {m clock : Nat} {E : List En} (h : MapAt W m E clock) (hn : (E.map (·.key)).Nodup) (k : Bs) (ty : TypeId) :
    (Builtin.delete_ #[87, 9] ty #[.map (some m), .string k]).run Try.prog W = .ok (.tuple #[]) (setBlock W m (.map (esOf (delE E k)) clock)) := by
  have h1 := findNow_E k E 0
  rw [← esOf_list] at h1
  cases hf : fnd k E 0 with
  | none =>
    rw [hf] at h1
    have e : delE E k = E := List.filter_eq_self.2 (fun x hx => by simpa using fnd_none k E 0 hf x hx)
    simp [Builtin.delete_, run_underlying Try.underlying87, MapKept.run_getObj_map h, MapKept.run_checkKey (d := .string) Try.underlying9 (isKeyS k), MapKept.run_findKey (d := .string) Try.underlying9 h1, MapKept.run_setObj_map _ h, Result.andThen, setBlock, e]
  | some p =>
    obtain ⟨j, e⟩ := p
    rw [hf] at h1
    obtain ⟨d, hjd, h2, h3⟩ := fnd_some k E 0 j e hf
    have hj0 : j = d := by omega
    subst hj0
    have hm := erase_del hn h2 h3
    simp [Builtin.delete_, run_underlying Try.underlying87, MapKept.run_getObj_map h, MapKept.run_checkKey (d := .string) Try.underlying9 (isKeyS k), MapKept.run_findKey (d := .string) Try.underlying9 h1, MapKept.run_setObj_map _ h, Result.andThen, setBlock, hm]
theorem setBlock_kept {S : Nat → Prop} {W W' : World} (h : Kept S W W') (m : Nat) (o : Obj) (hm : S m ∨ W.heap.size ≤ m) : Kept S W (setBlock W' m o) := by
  refine ⟨h.os, h.tape, h.output, by show W.heap.size ≤ (W'.heap.setIfInBounds m o).size; rw [Array.size_setIfInBounds]; exact h.size, fun k hk hs => ?_⟩
  rw [← h.block k hk hs]
  show (W'.heap.setIfInBounds m o)[k]? = _
  rw [Array.getElem?_setIfInBounds_ne (fun e => by subst e; rcases hm with hm | hm; exact hs hm; omega)]
theorem setBlock_at {W : World} {m : Nat} {o o' : Obj} (h : W.heap[m]? = some o') : (setBlock W m o).heap[m]? = some o := by
  show (W.heap.setIfInBounds m o)[m]? = _
  exact (MapKept.heap_set h).1
theorem MapAt.kept {S : Nat → Prop} {W W' : World} {m clock : Nat} {E : List En} (h : MapAt W m E clock) (hk : Kept S W W') (hS : ¬ S m) : MapAt W' m E clock := (hk.block m (Array.getElem?_eq_some_iff.1 h).1 hS).trans h
theorem MapAt.lt {W : World} {m clock : Nat} {E : List En} (h : MapAt W m E clock) : m < W.heap.size := (Array.getElem?_eq_some_iff.1 h).1
end Go.Proofs.Ytpcjmceakelilaa
