/- Mvcc: maps from strings to slices: the entries by name; what look-ups, stores, deletions and the steps of a range do. -/
import Derived.Test.YtpcjmceakelilaaMv1
import Derived.MapKept
import Derived.ChangeMaps4
import Derived.Laws.IdiomRangeMap
import Derived.Maps.OwnOps
import Derived.Maps.RangeWalk
namespace Go.Proofs.Ytpcjmceakelilaa
open Go.ChangeShapes Go.WideShapes Go.ChangeAt Go.RowKit Go.Deep
set_option linter.unusedVariables false
set_option linter.unusedSimpArgs false
/-- an entry: its key, its versions, the slice that holds them, its stamp -/
structure En where
  key : Bs
  vs : List Ver
  val : Value
  born : Nat
def En.entry (e : En) : MapEntry := ⟨.string e.key, e.val, e.born⟩
def esOf (E : List En) : Array MapEntry := (E.map En.entry).toArray
def fnd (k : Bs) : List En → Nat → Option (Nat × En)
  | [], _ => none
  | e :: E, i => if k = e.key then some (i, e) else fnd k E (i + 1)
theorem beq_bs (a b : Bs) : (a == b) = decide (a = b) := by
  rw [Bool.eq_iff_iff, MapKept.bytes_beq]; simp
theorem findNow_E (k : Bs) : ∀ (E : List En) (i : Nat), Instr.findNow .string (.string k) (E.map En.entry) i = some ((fnd k E i).map fun p => (p.1, p.2.val))
  | [], _ => rfl
  | e :: E, i => by
    show (match Instr.sameNow .string (.string k) (.string e.key) with | some true => some (some (i, e.val)) | some false => Instr.findNow .string (.string k) (E.map En.entry) (i + 1) | none => none) = _
    have h : Instr.sameNow .string (.string k) (.string e.key) = some (decide (k = e.key)) := congrArg some (beq_bs k e.key)
    rw [h]
    unfold fnd
    by_cases hk : k = e.key
    · rw [if_pos hk, decide_eq_true hk]; rfl
    · rw [if_neg hk, decide_eq_false hk]; exact findNow_E k E (i + 1)
theorem fnd_some (k : Bs) : ∀ (E : List En) (i j : Nat) (e : En), fnd k E i = some (j, e) → ∃ d, j = i + d ∧ E[d]? = some e ∧ e.key = k
  | [], _, _, _, h => by cases h
  | a :: E, i, j, e, h => by
    unfold fnd at h
    by_cases hk : k = a.key
    · rw [if_pos hk] at h
      cases h
      exact ⟨0, rfl, rfl, hk.symm⟩
    · rw [if_neg hk] at h
      obtain ⟨d, h1, h2, h3⟩ := fnd_some k E (i + 1) j e h
      exact ⟨d + 1, by omega, h2, h3⟩
theorem fnd_none (k : Bs) : ∀ (E : List En) (i : Nat), fnd k E i = none → ∀ e ∈ E, e.key ≠ k
  | [], _, _, _, h => by cases h
  | a :: E, i, h, e, he => by
    unfold fnd at h
    by_cases hk : k = a.key
    · rw [if_pos hk] at h; cases h
    · rw [if_neg hk] at h
      rcases List.mem_cons.1 he with rfl | he
      · exact fun e => hk e.symm
      · exact fnd_none k E (i + 1) h e he
/-- the entry of a key -/
def lkE (E : List En) (k : Bs) : Option En := (fnd k E 0).map (·.2)
def lkV (E : List En) (k : Bs) : Value := match lkE E k with
  | some e => e.val
  | none => .slice none 0 0
def lkL (E : List En) (k : Bs) : List Ver := match lkE E k with
  | some e => e.vs
  | none => []
theorem lkE_mem {E : List En} {k : Bs} {e : En} (h : lkE E k = some e) : e ∈ E ∧ e.key = k := by
  unfold lkE at h
  cases hf : fnd k E 0 with
  | none => rw [hf] at h; cases h
  | some p =>
    obtain ⟨j, x⟩ := p
    rw [hf] at h
    cases h
    obtain ⟨d, _, h2, h3⟩ := fnd_some k E 0 j x hf
    exact ⟨List.mem_of_getElem? h2, h3⟩
theorem lkE_none {E : List En} {k : Bs} (h : lkE E k = none) : ∀ e ∈ E, e.key ≠ k := by
  unfold lkE at h
  cases hf : fnd k E 0 with
  | none => exact fnd_none k E 0 hf
  | some p => rw [hf] at h; cases h
/-- the block of a map -/
def MapAt (W : World) (m : Nat) (E : List En) (clock : Nat) : Prop := W.heap[m]? = some (.map (esOf E) clock)
theorem esOf_list (E : List En) : (esOf E).toList = E.map En.entry := by simp [esOf]
theorem isKeyS (k : Bs) : MapKept.IsKey .string (.string k) := trivial
theorem zero_vs (W : World) : (zeroValue 90).run Try.prog W = .ok (.slice none 0 0) W := by kernel_rfl
theorem run_look {W : World} {m clock : Nat} {E : List En} (h : MapAt W m E clock) (k : Bs) :
    (Instr.lookup 87 (.map (some m)) (.string k) false).run Try.prog W = .ok (lkV E k) W := by
  have h1 := findNow_E k E 0
  rw [← esOf_list] at h1
  simp only [Instr.lookup, Sem.run_bind, run_underlying Try.underlying87, MapKept.run_getObj_map h, Result.andThen, Sem.run_pure]
  rw [MapKept.run_checkKey (d := .string) Try.underlying9 (isKeyS k)]
  simp only [Result.andThen, Sem.run_bind]
  rw [MapKept.run_findKey (d := .string) Try.underlying9 h1]
  unfold lkV lkE
  cases hf : fnd k E 0 with
  | none => simp [Result.andThen, zero_vs]
  | some p => simp [Result.andThen]
end Go.Proofs.Ytpcjmceakelilaa
