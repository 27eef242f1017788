/- Mvcc: what has been met in a range; Versions. -/
import Derived.Test.YtpcjmceakelilaaMv7
namespace Go.Proofs.Ytpcjmceakelilaa
open Go.ChangeShapes Go.WideShapes Go.ChangeAt Go.RowKit Go.Deep Go.ChangeMaps
set_option linter.unusedVariables false
set_option linter.unusedSimpArgs false
def seenN : List En → Array Nat → (En → Nat) → Nat
  | [], _, _ => 0
  | e :: E, s, f => (if s.contains e.born then f e else 0) + seenN E s f
theorem seenN_other (f : En → Nat) (s : Array Nat) (b : Nat) : ∀ (E : List En), b ∉ E.map (·.born) → seenN E (s.push b) f = seenN E s f
  | [], _ => rfl
  | x :: E, h => by
    have hx : (x.born == b) = false := by
      cases hc : x.born == b with
      | false => rfl
      | true => exact absurd (List.mem_cons.2 (.inl (beq_iff_eq.1 hc).symm)) h
    simp only [seenN, contains_push, hx, Bool.or_false, seenN_other f s b E (fun e => h (List.mem_cons.2 (.inr e)))]
theorem seenN_push (f : En → Nat) (s : Array Nat) (e : En) (hs : s.contains e.born = false) : ∀ (E : List En), (E.map (·.born)).Nodup → e ∈ E → seenN E (s.push e.born) f = seenN E s f + f e
  | x :: E, hn, he => by
    have hn' := List.nodup_cons.1 hn
    rcases List.mem_cons.1 he with rfl | he
    · simp only [seenN, contains_push, hs, beq_self_eq_true, Bool.or_true, if_true, Bool.false_eq_true, if_false, seenN_other f s _ E hn'.1]
      omega
    · have hne : (x.born == e.born) = false := by
        cases hc : x.born == e.born with
        | false => rfl
        | true => exact absurd (List.mem_map.2 ⟨e, he, (beq_iff_eq.1 hc).symm⟩) hn'.1
      simp only [seenN, contains_push, hne, Bool.or_false, seenN_push f s e hs E hn'.2 he]
      omega
theorem seenN_all (f : En → Nat) (s : Array Nat) : ∀ (E : List En), (∀ e ∈ E, s.contains e.born = true) → seenN E s f = (E.map f).sum
  | [], _ => rfl
  | x :: E, h => by
    simp only [seenN, h x List.mem_cons_self, if_true, List.map_cons, List.sum_cons, seenN_all f s E (fun e he => h e (List.mem_cons_of_mem _ he))]
theorem seenN_le (f : En → Nat) (s : Array Nat) : ∀ (E : List En), seenN E s f ≤ (E.map f).sum
  | [] => Nat.le_refl _
  | x :: E => by
    have := seenN_le f s E
    simp only [seenN, List.map_cons, List.sum_cons]
    split <;> omega
theorem seenN_nil (f : En → Nat) : ∀ (E : List En), seenN E #[] f = 0
  | [] => rfl
  | x :: E => by simp [seenN, seenN_nil f E]
/-- how many are left -/
def unseen (E : List En) (s : Array Nat) : Nat := E.length - seenN E s (fun _ => 1)
theorem unseen_push (E : List En) (s : Array Nat) (e : En) (hs : s.contains e.born = false) (hn : (E.map (·.born)).Nodup) (he : e ∈ E) : unseen E (s.push e.born) < unseen E s := by
  have h1 := seenN_push (fun _ => 1) s e hs E hn he
  have h2 := seenN_le (fun _ => 1) (s.push e.born) E
  have h3 : (E.map (fun _ => 1)).sum = E.length := by
    clear h1 h2 he hn
    induction E with
    | nil => rfl
    | cons a E ih => simp only [List.map_cons, List.sum_cons, ih, List.length_cons]; omega
  unfold unseen
  omega
theorem iterSeen_at {W : World} {r m since last : Nat} {seen : Array Nat} (h : IterAt W r m since seen last) : W.iterSeen r = seen := by
  unfold World.iterSeen
  rw [show W.heap[r]? = _ from h]
theorem iter_set {W : World} {r m since last m' since' last' : Nat} {seen seen' : Array Nat} (h : IterAt W r m since seen last) : IterAt (setBlock W r (.mapIter (some m') since' seen' last')) r m' since' seen' last' := setBlock_at h
theorem iter_drew {W W1 : World} {r m since last : Nat} {seen : Array Nat} (h : IterAt W r m since seen last) (hw : W1 = W ∨ W1 = W.drew) : IterAt W1 r m since seen last := by rcases hw with rfl | rfl <;> exact h
theorem kept_drew' {S : Nat → Prop} {W W1 W2 : World} (h : Kept S W W1) (hw : W2 = W1 ∨ W2 = W1.drew) : Kept S W W2 := by rcases hw with rfl | rfl; exact h; exact h.drew
def total (E : List En) : Nat := (E.map fun e => e.vs.length).sum
end Go.Proofs.Ytpcjmceakelilaa
