/- Mvcc: a sweep over a map: the state in the loop (plain). -/
import Derived.Test.YtpcjmceakelilaaMv9
namespace Go.Proofs.Ytpcjmceakelilaa
open Go.ChangeShapes Go.WideShapes Go.ChangeAt Go.RowKit Go.Deep Go.ChangeMaps Go.Shelf
set_option linter.unusedVariables false
set_option linter.unusedSimpArgs false
theorem nodup_inj {α β : Type} {g : α → β} {E : List α} (hn : (E.map g).Nodup) {a b : α} (ha : a ∈ E) (hb : b ∈ E) (h : g a = g b) : a = b := by
  obtain ⟨i, hi, rfl⟩ := List.mem_iff_getElem.1 ha
  obtain ⟨j, hj, rfl⟩ := List.mem_iff_getElem.1 hb
  have := (List.getElem_inj (xs := E.map g) (h₀ := by simpa using hi) (h₁ := by simpa using hj) hn).1 (by simpa using h)
  subst this
  rfl
/-- the versions of an entry where the met ones are swept -/
def sw (f : List Ver → List Ver) (seen : Array Nat) (e : En) : List Ver := if seen.contains e.born then f e.vs else e.vs
structure Swp (E E' : List En) (f : List Ver → List Ver) (seen : Array Nat) : Prop where
  back : ∀ e' ∈ E', ∃ e ∈ E, e'.key = e.key ∧ e'.born = e.born ∧ e'.vs = sw f seen e
  forth : ∀ e ∈ E, sw f seen e ≠ [] → ∃ e' ∈ E', e'.key = e.key ∧ e'.born = e.born ∧ e'.vs = sw f seen e
theorem Swp.start (E : List En) (f : List Ver → List Ver) : Swp E E f #[] :=
  ⟨fun e he => ⟨e, he, rfl, rfl, by simp [sw]⟩, fun e he _ => ⟨e, he, rfl, rfl, by simp [sw]⟩⟩
theorem sw_self (f : List Ver → List Ver) (seen : Array Nat) (x : En) : sw f (seen.push x.born) x = f x.vs := by
  unfold sw
  rw [contains_push, beq_self_eq_true, Bool.or_true, if_pos rfl]
theorem sw_other (f : List Ver → List Ver) (seen : Array Nat) {x e : En} (h : e.born ≠ x.born) : sw f (seen.push x.born) e = sw f seen e := by
  unfold sw
  have : (e.born == x.born) = false := beq_eq_false_iff_ne.2 h
  rw [contains_push, this, Bool.or_false]
section
variable {E E' : List En} {f : List Ver → List Ver} {seen : Array Nat} {c : Nat}
/-- the entry that has come is one of the first ones -/
theorem Swp.origin (h : Swp E E' f seen) {x' : En} (hx : x' ∈ E') (hs : seen.contains x'.born = false) : ∃ x ∈ E, x'.key = x.key ∧ x'.born = x.born ∧ x'.vs = x.vs := by
  obtain ⟨x, hx, h1, h2, h3⟩ := h.back x' hx
  refine ⟨x, hx, h1, h2, ?_⟩
  rw [h3]; unfold sw
  rw [← h2, hs, if_neg (by simp)]
theorem Swp.del (h : Swp E E' f seen) (hE : EnOK E c) {x' x : En} (hx : x ∈ E) (hk : x'.key = x.key) (hf : f x.vs = []) : Swp E (delE E' x'.key) f (seen.push x.born) := by
  refine ⟨fun e' he' => ?_, fun e he hne => ?_⟩
  · obtain ⟨he1, he2⟩ := List.mem_filter.1 he'
    obtain ⟨e, he, h1, h2, h3⟩ := h.back e' he1
    have hke : e.key ≠ x.key := fun e2 => by simp [h1, e2, hk] at he2
    exact ⟨e, he, h1, h2, by rw [sw_other f seen (fun e2 => hke (by rw [nodup_inj hE.borns he hx e2]))]; exact h3⟩
  · have hex : e ≠ x := fun e2 => by rw [e2, sw_self, hf] at hne; exact hne rfl
    have hb : e.born ≠ x.born := fun e2 => hex (nodup_inj hE.borns he hx e2)
    rw [sw_other f seen hb] at hne ⊢
    obtain ⟨e', he', h1, h2, h3⟩ := h.forth e he hne
    refine ⟨e', List.mem_filter.2 ⟨he', ?_⟩, h1, h2, h3⟩
    simp only [Bool.not_eq_true', decide_eq_false_iff_not]
    exact fun e2 => hex (nodup_inj hE.keys he hx (by rw [← h1, e2, hk]))
theorem Swp.upd (h : Swp E E' f seen) (hE : EnOK E c) (hE' : EnOK E' c) {x' x : En} (hx' : x' ∈ E') (hx : x ∈ E) (hk : x'.key = x.key) (hb : x'.born = x.born) (v : Value) : Swp E (updE E' x'.key v (f x.vs)) f (seen.push x.born) := by
  refine ⟨fun e' he' => ?_, fun e he hne => ?_⟩
  · obtain ⟨y, hy, rfl⟩ := List.mem_map.1 he'
    by_cases hyk : y.key = x'.key
    · rw [if_pos hyk]
      have : y = x' := nodup_inj hE'.keys hy hx' hyk
      subst this
      exact ⟨x, hx, hk, hb, by rw [sw_self]⟩
    · rw [if_neg hyk]
      obtain ⟨e, he, h1, h2, h3⟩ := h.back y hy
      have hke : e.born ≠ x.born := fun e2 => hyk (by rw [h1, hk, nodup_inj hE.borns he hx e2])
      exact ⟨e, he, h1, h2, by rw [sw_other f seen hke]; exact h3⟩
  · by_cases hex : e = x
    · subst hex
      refine ⟨{ x' with val := v, vs := f e.vs }, List.mem_map.2 ⟨x', hx', by rw [if_pos rfl]⟩, hk, hb, by rw [sw_self]⟩
    · have hbe : e.born ≠ x.born := fun e2 => hex (nodup_inj hE.borns he hx e2)
      rw [sw_other f seen hbe] at hne ⊢
      obtain ⟨e', he', h1, h2, h3⟩ := h.forth e he hne
      refine ⟨e', List.mem_map.2 ⟨e', he', by rw [if_neg (fun e2 => hex (nodup_inj hE.keys he hx (by rw [← h1, e2, hk])))]⟩, h1, h2, h3⟩
theorem Swp.same (h : Swp E E' f seen) (hE : EnOK E c) {x : En} (hx : x ∈ E) (hs : seen.contains x.born = false) (hf : f x.vs = x.vs) : Swp E E' f (seen.push x.born) := by
  have key : ∀ e ∈ E, sw f (seen.push x.born) e = sw f seen e := fun e he => by
    by_cases hb : e.born = x.born
    · have := nodup_inj hE.borns he hx hb
      subst this
      rw [sw_self, hf]; unfold sw; rw [hs, if_neg (by simp)]
    · exact sw_other f seen hb
  refine ⟨fun e' he' => ?_, fun e he hne => ?_⟩
  · obtain ⟨e, he, h1, h2, h3⟩ := h.back e' he'
    exact ⟨e, he, h1, h2, by rw [key e he]; exact h3⟩
  · rw [key e he] at hne ⊢
    exact h.forth e he hne
end
/-- the state in the loop of a sweep; si: what the iterator has handed out, ss: what has been swept -/
structure SW (B S m r clock : Nat) (E : List En) (f : List Ver → List Ver) (W : World) (si ss : Array Nat) (E' : List En) (X : World) : Prop where
  sto : Sto B X S m E' clock
  it : IterAt X r m clock si clock
  swp : Swp E E' f ss
  foot : ∀ j, Foot S m E' j → (Foot S m E j ∨ W.heap.size ≤ j) ∧ j ≠ r
  kept : Kept (Foot S m E) W X
  rW : r = W.heap.size
section
variable {B S m r clock : Nat} {E E' : List En} {f : List Ver → List Ver} {W X X' : World} {si ss : Array Nat}
theorem SW.start (h : Sto B W S m E clock) (f : List Ver → List Ver) : SW B S m W.heap.size clock E f W #[] #[] E (W.alloc (.mapIter (some m) clock #[] clock)) :=
  ⟨h.below ((Below.refl _ W).alloc (Nat.le_refl _) _), heap_alloc_new W _, Swp.start E f, fun j hj => ⟨.inl hj, fun e => by have := (h.foot hj).2; omega⟩, (Kept.refl _ W).alloc _, rfl⟩
theorem SW.rX (h : SW B S m r clock E f W si ss E' X) : r < X.heap.size := h.it.lt
theorem SW.below (h : SW B S m r clock E f W si ss E' X) (hb : Below X.heap.size X X') : SW B S m r clock E f W si ss E' X' :=
  ⟨h.sto.below hb, h.it.kept (kept_below hb) (fun h => h), h.swp, h.foot, h.kept.trans (kept_below hb) (fun _ h => h.elim), h.rW⟩
theorem SW.step (h : SW B S m r clock E f W si ss E' X) {X2 : World} (hX : X2 = X ∨ X2 = X.drew) (b : Nat) : SW B S m r clock E f W (si.push b) ss E' (setBlock X2 r (.mapIter (some m) clock (si.push b) clock)) := by
  have hk : Kept (fun j => j = r) X (setBlock X2 r (.mapIter (some m) clock (si.push b) clock)) := setBlock_kept (kept_drew' (Kept.refl _ X) hX) r _ (.inl rfl)
  exact ⟨h.sto.kept hk (fun j hj e => (h.foot j hj).2 e), iter_set (iter_drew h.it hX), h.swp, h.foot, h.kept.trans hk (fun j e => .inr (by have := h.rW; omega)), h.rW⟩
theorem Sto.del (h : Sto B X S m E' clock) (k : Bs) : Sto B (setBlock X m (.map (esOf (delE E' k)) clock)) S m (delE E' k) clock := by
  have hks : Kept (fun j => j = m) X (setBlock X m (.map (esOf (delE E' k)) clock)) := setBlock_kept (Kept.refl _ X) m _ (.inl rfl)
  exact ⟨boxed_kept h.box hks (fun e => h.mS e.symm), setBlock_at h.map, h.ok.del k, fun e he => by
    have he' := (List.mem_filter.1 he).1
    exact ⟨(h.rows e he').1.kept hks (fun j hj => (h.off e he' j hj).2), (h.rows e he').2⟩, h.apart.sublist List.filter_sublist, fun e he => h.off e (List.mem_filter.1 he).1, h.mS, h.bS, h.bm⟩
theorem SW.del {b : Nat} (h : SW B S m r clock E f W (si.push b) si E' X) (hE : EnOK E clock) {x' x : En} (hx : x ∈ E) (hk : x'.key = x.key) (hb : x.born = b) (hf : f x.vs = []) :
    SW B S m r clock E f W (si.push b) (si.push b) (delE E' x'.key) (setBlock X m (.map (esOf (delE E' x'.key)) clock)) := by
  have hks : Kept (fun j => j = m) X (setBlock X m (.map (esOf (delE E' x'.key)) clock)) := setBlock_kept (Kept.refl _ X) m _ (.inl rfl)
  have hmr : m ≠ r := (h.foot m (.inr (.inl rfl))).2
  subst hb
  refine ⟨h.sto.del _, h.it.kept hks (fun e => hmr e.symm), h.swp.del hE hx hk hf, fun j hj => h.foot j ?_, h.kept.trans hks (fun j e => .inl (.inr (.inl e))), h.rW⟩
  rcases hj with hj | hj | ⟨e, he, hj⟩
  · exact .inl hj
  · exact .inr (.inl hj)
  · exact .inr (.inr ⟨e, (List.mem_filter.1 he).1, hj⟩)
theorem SW.same {b : Nat} (h : SW B S m r clock E f W (si.push b) si E' X) (hE : EnOK E clock) {x : En} (hx : x ∈ E) (hb : x.born = b) (hs : si.contains x.born = false) (hf : f x.vs = x.vs) : SW B S m r clock E f W (si.push b) (si.push b) E' X := by
  subst hb
  exact ⟨h.sto, h.it, h.swp.same hE hx hs hf, h.foot, h.kept, h.rW⟩
theorem lkE_of_mem {E : List En} (hn : (E.map (·.key)).Nodup) {e : En} (he : e ∈ E) : lkE E e.key = some e := by
  cases hl : lkE E e.key with
  | none => exact absurd rfl (lkE_none hl e he)
  | some y =>
    obtain ⟨h1, h2⟩ := lkE_mem hl
    rw [nodup_inj hn h1 he h2]
theorem SW.put {b : Nat} (h : SW B S m r clock E f W (si.push b) si E' X) (hE : EnOK E clock) {x' x : En} (hx' : x' ∈ E') (hx : x ∈ E) (hk : x'.key = x.key) (hbx : x'.born = x.born) (hb : x.born = b) {v : Value} {X1 : World}
    (hr : VRow X.heap.size X1 v (f x.vs)) (hb1 : Below X.heap.size X X1) (hne : f x.vs ≠ []) (ha : Asc (f x.vs)) (hbd : ∀ y ∈ f x.vs, 1 ≤ y.1 ∧ y.1 ≤ 1099511627776) (hl : (f x.vs).length ≤ 5000) (hBX : B ≤ X.heap.size) :
    SW B S m r clock E f W (si.push b) (si.push b) (updE E' x'.key v (f x.vs)) (setBlock X1 m (.map (esOf (putE E' clock x'.key v (f x.vs))) (putC E' clock x'.key))) := by
  have hlk := lkE_of_mem h.sto.ok.keys hx'
  have hput := h.sto.put (kept_below hb1) x'.key v (f x.vs) (fun _ h => h.elim) (fun _ h => h.elim) (hr.base hBX) hne ha hbd hl (fun j hj => by
    have h1 := (hr.lt j hj).1
    exact ⟨fun e => by have := h.sto.box.lt; omega, fun e => by have := h.sto.map.lt; omega, fun e he _ e2 => by have := ((h.sto.rows e he).1.lt j e2).2; omega⟩)
  have e1 : putE E' clock x'.key v (f x.vs) = updE E' x'.key v (f x.vs) := by unfold putE; rw [hlk]
  have e2 : putC E' clock x'.key = clock := by unfold putC; rw [hlk]
  rw [e1, e2] at hput ⊢
  have hks : Kept (fun j => j = m) X1 (setBlock X1 m (.map (esOf (updE E' x'.key v (f x.vs))) clock)) := setBlock_kept (Kept.refl _ X1) m _ (.inl rfl)
  have hmr : m ≠ r := (h.foot m (.inr (.inl rfl))).2
  subst hb
  refine ⟨hput, (h.it.kept (kept_below hb1) (fun h => h)).kept hks (fun e => hmr e.symm), h.swp.upd hE h.sto.ok hx' hx hk hbx v, fun j hj => ?_, (h.kept.trans (kept_below hb1) (fun _ h => h.elim)).trans hks (fun j e => .inl (.inr (.inl e))), h.rW⟩
  rcases hj with hj | hj | ⟨e, he, hj⟩
  · exact h.foot j (.inl hj)
  · exact h.foot j (.inr (.inl hj))
  · obtain ⟨y, hy, rfl⟩ := List.mem_map.1 he
    by_cases hyk : y.key = x'.key
    · rw [if_pos hyk] at hj
      have h1 := (hr.lt j hj).1
      have h2 := h.rX
      have h3 := h.kept.size
      exact ⟨.inr (by omega), fun e => by omega⟩
    · rw [if_neg hyk] at hj
      exact h.foot j (.inr (.inr ⟨y, hy, hj⟩))
end
end Go.Proofs.Ytpcjmceakelilaa
