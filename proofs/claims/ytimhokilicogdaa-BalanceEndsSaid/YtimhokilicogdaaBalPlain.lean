/- Balance: plain: chunks that are given away; proposals end. -/
import Derived.Test.YtimhokilicogdaaBal16
namespace Go.Proofs.Ytimhokilicogdaa
set_option linter.unusedVariables false
set_option linter.unusedSimpArgs false
theorem pick_none {ok : Nat → Bool} {bet : Int → Int → Bool} {f : Nat → Int} : ∀ {k : Nat}, pick ok bet f k = none → ∀ s, s < k → ok s = false
  | 0, _, s, h => absurd h (Nat.not_lt_zero _)
  | k + 1, h, s, hs => by
    unfold pick at h
    split at h
    · rename_i hn
      split at h
      · simp at h
      · rename_i hk
        rcases Nat.lt_succ_iff_lt_or_eq.1 hs with h1 | rfl
        · exact pick_none hn s h1
        · simpa using hk
    · split at h <;> simp at h
theorem pick_less {ok : Nat → Bool} {f : Nat → Int} : ∀ {k m : Nat}, pick ok less f k = some m → ∀ s, s < k → ok s = true → f m ≤ f s
  | 0, _, _, s, h, _ => absurd h (Nat.not_lt_zero _)
  | k + 1, m, h, s, hs, ho => by
    unfold pick at h
    split at h
    · rename_i hn
      split at h
      · rename_i hk
        simp at h
        subst h
        rcases Nat.lt_succ_iff_lt_or_eq.1 hs with h1 | rfl
        · rw [pick_none hn s h1] at ho; cases ho
        · omega
      · simp at h
    · rename_i m' he
      have ih := pick_less he
      split at h
      · rename_i hk
        simp at h
        subst h
        simp [less] at hk
        rcases Nat.lt_succ_iff_lt_or_eq.1 hs with h1 | rfl
        · have := ih s h1 ho; omega
        · omega
      · rename_i hk
        simp at h
        subst h
        rcases Nat.lt_succ_iff_lt_or_eq.1 hs with h1 | rfl
        · exact ih s h1 ho
        · simp [less, ho] at hk; omega
theorem pick_more {ok : Nat → Bool} {f : Nat → Int} : ∀ {k m : Nat}, pick ok more f k = some m → ∀ s, s < k → ok s = true → f s ≤ f m
  | 0, _, _, s, h, _ => absurd h (Nat.not_lt_zero _)
  | k + 1, m, h, s, hs, ho => by
    unfold pick at h
    split at h
    · rename_i hn
      split at h
      · rename_i hk
        simp at h
        subst h
        rcases Nat.lt_succ_iff_lt_or_eq.1 hs with h1 | rfl
        · rw [pick_none hn s h1] at ho; cases ho
        · omega
      · simp at h
    · rename_i m' he
      have ih := pick_more he
      split at h
      · rename_i hk
        simp at h
        subst h
        simp [more] at hk
        rcases Nat.lt_succ_iff_lt_or_eq.1 hs with h1 | rfl
        · have := ih s h1 ho; omega
        · omega
      · rename_i hk
        simp at h
        subst h
        rcases Nat.lt_succ_iff_lt_or_eq.1 hs with h1 | rfl
        · exact ih s h1 ho
        · simp [more, ho] at hk; omega
/-- what a way is -/
theorem way_some {cs : List Ch} {xs : List Int} {n f t : Nat} (h : wayOf cs xs n = some (f, t)) :
    t < n ∧ f < n ∧ drn xs t = false ∧ 0 < ldf cs f ∧ (∀ s, s < n → drn xs s = false → ldf cs t ≤ ldf cs s) ∧ (drn xs f = true ∨ (drn xs f = false ∧ ldf cs t + 2 ≤ ldf cs f)) := by
  obtain ⟨hp, hf, ht⟩ := way_pos h
  unfold wayOf at h
  split at h
  · simp at h
  · rename_i t' htk
    have hl := pick_less htk
    have ho := pick_ok htk
    simp at ho
    split at h
    · rename_i f' hfk
      simp at h
      obtain ⟨rfl, rfl⟩ := h
      have := pick_ok hfk
      simp at this
      exact ⟨ht, hf, ho, hp, fun s hs hd => hl s hs (by simp [hd]), .inl this.1⟩
    · split at h
      · simp at h
      · rename_i f' hfk
        split at h
        · simp at h
        · rename_i hlt
          simp at h
          obtain ⟨rfl, rfl⟩ := h
          have := pick_ok hfk
          simp at this
          exact ⟨ht, hf, ho, hp, fun s hs hd => hl s hs (by simp [hd]), .inr ⟨this, by omega⟩⟩
theorem way_ne {cs : List Ch} {xs : List Int} {n f t : Nat} (h : wayOf cs xs n = some (f, t)) : f ≠ t := by
  obtain ⟨_, _, h1, _, _, h2⟩ := way_some h
  rintro rfl
  rcases h2 with h2 | ⟨_, h2⟩
  · rw [h1] at h2; cases h2
  · omega
/-- what no way means -/
theorem way_none {cs : List Ch} {xs : List Int} {n : Nat} (h : wayOf cs xs n = none) :
    (∀ s, s < n → drn xs s = true) ∨ ((∀ s, s < n → drn xs s = true → ldf cs s = 0) ∧ ∀ s t, s < n → t < n → drn xs s = false → drn xs t = false → ldf cs s ≤ ldf cs t + 1) := by
  unfold wayOf at h
  split at h
  · rename_i htk
    left
    intro s hs
    simpa using pick_none htk s hs
  · rename_i t htk
    right
    split at h
    · simp at h
    · rename_i hek
      refine ⟨fun s hs hd => ?_, ?_⟩
      · have := pick_none hek s hs
        have h0 := ldf_nonneg cs s
        simp [hd] at this
        omega
      · split at h
        · rename_i hfk
          obtain ⟨f, hf⟩ := full_some htk
          rw [hf] at hfk
          cases hfk
        · rename_i f hfk
          split at h
          · rename_i hlt
            intro s u hs hu hds hdu
            have h1 := pick_more hfk s hs (by simp [hds])
            have h2 := pick_less htk u hu (by simp [hdu])
            omega
          · simp at h
/-- the first chunk of a shard gets a version -/
def bump (f v : Int) : List Ch → List Ch
  | [] => []
  | c :: l => if c.sh = f then { c with vr := v } :: l else c :: bump f v l
theorem bump_length (f v : Int) : ∀ l, (bump f v l).length = l.length
  | [] => rfl
  | c :: l => by unfold bump; split <;> simp [bump_length f v l]
theorem bump_map {α : Type} (g : Ch → α) (hg : ∀ c v, g { c with vr := v } = g c) (f v : Int) : ∀ l, (bump f v l).map g = l.map g
  | [] => rfl
  | c :: l => by unfold bump; split <;> simp [bump_map g hg f v l, hg]
def Ch.to (c : Ch) (t : Int) : Ch := ⟨c.lo, c.hi, t, c.vr, c.jb⟩
/-- chunk i is given to a shard -/
def given (cs : List Ch) (i : Nat) (t v : Int) : List Ch := match cs[i]? with
  | none => cs
  | some c => bump c.sh v (cs.set i { c with sh := t, vr := v })
theorem given_length (cs : List Ch) (i : Nat) (t v : Int) : (given cs i t v).length = cs.length := by
  unfold given; split
  · rfl
  · rw [bump_length]; simp
theorem given_map {α : Type} (g : Ch → α) (hg : ∀ c v, g { c with vr := v } = g c) (hs : ∀ c t, g { c with sh := t } = g c) (cs : List Ch) (i : Nat) (t v : Int) : (given cs i t v).map g = cs.map g := by
  unfold given
  split
  · rfl
  · rename_i c hc
    rw [bump_map g hg]
    apply List.ext_getElem
    · simp
    · intro k h1 h2
      have h2' : k < cs.length := by simpa using h2
      simp only [List.getElem_map, List.getElem_set]
      split
      · rename_i he
        subst he
        have : cs[i]? = some cs[i] := List.getElem?_eq_getElem h2'
        rw [this] at hc
        cases hc
        have e := hg { cs[i] with sh := t } v
        exact e.trans (hs _ _)
      · rfl
theorem countP_map' {α : Type} (g : Ch → α) (p : α → Bool) (l : List Ch) : l.countP (fun c => p (g c)) = (l.map g).countP p := by
  rw [List.countP_map]; rfl
theorem countP_bump (p : Ch → Bool) (hp : ∀ c v, p { c with vr := v } = p c) (f v : Int) (l : List Ch) : (bump f v l).countP p = l.countP p := by
  have h := bump_map p hp f v l
  have h2 := congrArg (List.countP (fun b => b)) h
  rw [List.countP_map, List.countP_map] at h2
  exact h2
theorem countP_given (p : Ch → Bool) (hp : ∀ c v, p { c with vr := v } = p c) (cs : List Ch) (i : Nat) (h : i < cs.length) (t v : Int) :
    (given cs i t v).countP p + (if p cs[i] then 1 else 0) = cs.countP p + (if p (cs[i].to t) then 1 else 0) := by
  unfold given
  rw [List.getElem?_eq_getElem h]
  dsimp only
  rw [countP_bump p hp, List.countP_set h]
  have e : p ⟨cs[i].lo, cs[i].hi, t, v, cs[i].jb⟩ = p (cs[i].to t) := hp (cs[i].to t) v
  rw [e]
  have h1 : (if p cs[i] then 1 else 0) ≤ cs.countP p := by
    split
    · rename_i hpi
      exact List.countP_pos_iff.2 ⟨cs[i], List.getElem_mem h, hpi⟩
    · omega
  omega
theorem ldf_countP (cs : List Ch) (s : Nat) : ldf cs s = (cs.countP (fit s) : Nat) := by
  unfold ldf cntOf
  rw [List.countP_eq_length_filter]
  have e : fit (s : Int) = fun c => decide (c.sh = (s : Int)) && !c.jb := rfl
  rw [e]
  simp
theorem cnt_countP (cs : List Ch) (s : Nat) : cntOf cs true s = cs.countP (fun c => decide (c.sh = (s : Int))) := by
  unfold cntOf
  rw [List.countP_eq_length_filter]
  simp
theorem ldf_given (cs : List Ch) (i : Nat) (h : i < cs.length) (f t : Nat) (v : Int) (hne : f ≠ t) (hf : fit f cs[i] = true) (s : Nat) :
    ldf (given cs i t v) s = ldf cs s + (if s = t then 1 else 0) - (if s = f then 1 else 0) := by
  have := countP_given (fit s) (fun c v => rfl) cs i h t v
  rw [ldf_countP, ldf_countP]
  have e1 : fit (s : Int) cs[i] = decide (s = f) := by
    simp [fit] at hf ⊢
    by_cases h0 : s = f
    · simp [h0, hf.1, hf.2]
    · have : ¬ (f : Int) = s := by omega
      simp [h0, hf.1, hf.2, this]
  have e2 : fit (s : Int) (cs[i].to t) = decide (s = t) := by
    simp [fit, Ch.to] at hf ⊢
    by_cases h0 : s = t
    · simp [h0, hf.2]
    · have : ¬ (t : Int) = s := by omega
      simp [h0, hf.2, this]
  rw [e1, e2] at this
  by_cases h1 : s = t
  · have h2 : ¬ s = f := by omega
    simp [h1] at this ⊢
    have h3 : ¬ t = f := by omega
    simp [h3] at this ⊢
    omega
  · by_cases h2 : s = f
    · simp [h2] at this ⊢
      simp [hne] at this ⊢
      omega
    · simp [h1, h2] at this ⊢
      omega
theorem cnt_given (cs : List Ch) (i : Nat) (h : i < cs.length) (f t : Nat) (v : Int) (hne : f ≠ t) (hf : fit f cs[i] = true) :
    (cntOf (given cs i t v) true f : Int) = (cntOf cs true f : Int) - 1 ∧ (cntOf (given cs i t v) true t : Int) = (cntOf cs true t : Int) + 1 := by
  simp [fit] at hf
  have e1 : ¬ (f : Int) = t := by omega
  have e2 : ¬ (t : Int) = f := by omega
  constructor
  · have := countP_given (fun c => decide (c.sh = (f : Int))) (fun c v => rfl) cs i h t v
    rw [cnt_countP, cnt_countP]
    simp [hf.1, e1, e2, Ch.to] at this
    omega
  · have := countP_given (fun c => decide (c.sh = (t : Int))) (fun c v => rfl) cs i h t v
    rw [cnt_countP, cnt_countP]
    simp [hf.1, e1, e2, Ch.to] at this
    omega
/-- the shards that have got chunks are not greater than the others by more than one -/
def Even1 (R : Nat → Bool) (cs : List Ch) (xs : List Int) (n : Nat) : Prop := ∀ s, R s = true → drn xs s = false ∧ ∀ u, u < n → drn xs u = false → ldf cs s ≤ ldf cs u + 1
/-- chunks that can be moved on shards that have not got any -/
def rest (R : Nat → Bool) (cs : List Ch) : Nat := cs.countP fun c => !c.jb && !(decide (0 ≤ c.sh) && R c.sh.toNat)
def Lim (cs : List Ch) (xs : List Int) (n k : Nat) : Prop := ∃ R, Even1 R cs xs n ∧ rest R cs ≤ k
theorem Lim.start (cs : List Ch) (xs : List Int) (n : Nat) : Lim cs xs n cs.length :=
  ⟨fun _ => false, ⟨fun s h => absurd h (by simp), List.countP_le_length⟩⟩
theorem Lim.step {cs : List Ch} {xs : List Int} {n k f t i : Nat} (hL : Lim cs xs n k) (hw : wayOf cs xs n = some (f, t)) (h : i < cs.length) (hf : fit f cs[i] = true) (v : Int) :
    ∃ k', k = k' + 1 ∧ Lim (given cs i t v) xs n k' := by
  obtain ⟨R, hE, hr⟩ := hL
  obtain ⟨ht, hfn, hdt, hpos, hmin, hor⟩ := way_some hw
  have hne := way_ne hw
  have hRf : R f = false := by
    cases hR : R f with
    | false => rfl
    | true =>
      obtain ⟨hd, hle⟩ := hE f hR
      have := hle t ht hdt
      rcases hor with h1 | ⟨_, h1⟩
      · rw [hd] at h1; cases h1
      · omega
  have hl := ldf_given cs i h f t v hne hf
  have hc1 := countP_given (fun c => !c.jb && !(decide (0 ≤ c.sh) && R c.sh.toNat)) (fun c v => rfl) cs i h t v
  have hmono : rest (fun s => R s || decide (s = t)) (given cs i t v) + (if R t then 0 else 1) ≤ rest R (given cs i t v) := by
    unfold rest
    by_cases hRt : R t = true
    · simp only [hRt, if_true, Nat.add_zero]
      apply List.countP_mono_left
      intro c _ hc
      simp at hc ⊢
      exact ⟨hc.1, hc.2.imp id fun h => h.1⟩
    · simp only [hRt, Bool.false_eq_true, if_false]
      have hpos' : 0 < (given cs i t v).countP (fun c => !c.jb && decide (c.sh = (t : Int))) := by
        have := countP_given (fun c => !c.jb && decide (c.sh = (t : Int))) (fun c v => rfl) cs i h t v
        simp [fit] at hf
        have e1 : ¬ (f : Int) = t := by omega
        simp [hf.1, hf.2, e1, Ch.to] at this
        omega
      have hsplit : (given cs i t v).countP (fun c => !c.jb && !(decide (0 ≤ c.sh) && R c.sh.toNat)) = (given cs i t v).countP (fun c => !c.jb && !(decide (0 ≤ c.sh) && (R c.sh.toNat || decide (c.sh.toNat = t)))) + (given cs i t v).countP (fun c => !c.jb && decide (c.sh = (t : Int))) := by
        generalize given cs i t v = l
        induction l with
        | nil => rfl
        | cons c l ih =>
          simp only [List.countP_cons, ih]
          by_cases e : c.sh = (t : Int)
          · have e2 : c.sh.toNat = t := by omega
            have e3 : R c.sh.toNat = false := by rw [e2]; simpa using hRt
            have e4 : 0 ≤ c.sh := by omega
            cases hj : c.jb <;> simp [e, hRt] <;> omega
          · by_cases e4 : 0 ≤ c.sh
            · have e2 : ¬ c.sh.toNat = t := by omega
              cases hj : c.jb <;> simp [e, e2, e4] <;> omega
            · cases hj : c.jb <;> simp [e, e4] <;> omega
      omega
  have hfi := hf
  simp [fit] at hfi
  have hfr : R cs[i].sh.toNat = false := by rw [hfi.1]; simpa using hRf
  simp [hfi.1, hfi.2, hRf, Ch.to] at hc1
  have hrest : rest R (given cs i t v) + 1 = rest R cs + (if R t then 0 else 1) := by
    unfold rest
    cases hRt : R t <;> simp [hRt] at hc1 ⊢ <;> exact hc1
  refine ⟨k - 1, ?_, fun s => R s || decide (s = t), ?_, ?_⟩
  · have : 0 < rest R cs := by
      cases hRt : R t <;> simp [hRt] at hmono hrest <;> omega
    omega
  · intro s hs
    simp at hs
    have hd : drn xs s = false := by
      rcases hs with hs | rfl
      · exact (hE s hs).1
      · exact hdt
    refine ⟨hd, fun u hu hdu => ?_⟩
    rw [hl s, hl u]
    have hsf : ldf cs s ≤ ldf cs u + 1 := by
      rcases hs with hs | rfl
      · exact (hE s hs).2 u hu hdu
      · have := hmin u hu hdu; omega
    have hst : s ≠ t → ldf cs s ≤ ldf cs t + 1 := fun h => by
      rcases hs with hs | rfl
      · exact (hE s hs).2 t ht hdt
      · exact absurd rfl h
    have hmu := hmin u hu hdu
    have hfu : u = f → ldf cs t + 2 ≤ ldf cs u := fun e => by
      subst e
      rcases hor with h1 | ⟨_, h1⟩
      · rw [hdu] at h1; cases h1
      · exact h1
    by_cases a1 : s = t <;> by_cases a2 : s = f <;> by_cases a3 : u = t <;> by_cases a4 : u = f <;> simp only [a1, a2, a3, a4, if_true, if_false, ite_true, ite_false] <;> (try have hfu' := hfu a4) <;> (try have hst' := hst a1) <;> (try subst a1) <;> (try subst a3) <;> simp_all <;> omega
  · cases hRt : R t <;> simp [hRt] at hmono hrest <;> omega
theorem Lim.done {cs : List Ch} {xs : List Int} {n f t : Nat} (hL : Lim cs xs n 0) (hw : wayOf cs xs n = some (f, t)) : False := by
  obtain ⟨hp, _, _⟩ := way_pos hw
  obtain ⟨c, hc, hf⟩ := fit_ex hp
  obtain ⟨i, hi, rfl⟩ := List.getElem_of_mem hc
  obtain ⟨k', h, _⟩ := hL.step hw hi hf 0
  omega
end Go.Proofs.Ytimhokilicogdaa
