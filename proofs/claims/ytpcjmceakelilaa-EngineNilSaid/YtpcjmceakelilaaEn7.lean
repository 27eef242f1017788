/- Engine: a map whose keys are structs of two strings. -/
import Derived.Test.YtpcjmceakelilaaEnj
import Derived.Test.YtpcjmceakelilaaEn6
import Derived.ChangeKeysEq
import Derived.Laws.StructEq
namespace Go.Proofs.Ytpcjmceakelilaa
open Go.ChangeShapes Go.WideShapes Go.ChangeAt Go.RowKit Go.Deep Go.ChangeMaps Go.Shelf
set_option linter.unusedVariables false
set_option linter.unusedSimpArgs false
theorem und9' : Try.prog.underlying 9 = some .string := by kernel_rfl
theorem key9 : Try.prog.plainKey 9 = true := by kernel_rfl
theorem inj_toList (a c : Bs) : (a.toList = c.toList) = (a = c) := by
  rw [ByteArray.toList_eq, ByteArray.toList_eq]
  obtain ⟨⟨x⟩⟩ := a
  obtain ⟨⟨y⟩⟩ := c
  by_cases h : x = y
  · subst h; simp
  · have h2 : ¬ (ByteArray.mk ⟨x⟩ = ByteArray.mk ⟨y⟩) := fun e => h (by cases e; rfl)
    simp [h]
/-- a place: a table and a key -/
abbrev Plc := Bs × Bs
def plV (p : Plc) : Value := .agg #[.string p.1, .string p.2]
theorem plc_struct : Try.prog.underlying 80 = some (.struct (Try.prog.fieldsOf 80)) := by kernel_rfl
theorem eq_plc (p q : Plc) (w : World) : (Op.equalIn 10000 80 (plV p) (plV q)).run Try.prog w = .ok (decide (p = q)) w := by
  obtain ⟨a, b⟩ := p
  obtain ⟨c, d⟩ := q
  have u9 := und9'
  unfold plV
  rw [show (10000 : Nat) = 9999 + 1 from rfl, run_equalIn_agg w 9999 _ _ _ plc_struct (by kernel_rfl)]
  simp only [Program.fieldsOf, Try.underlying80]
  go_simp
  simp only [inj_toList]
  by_cases h1 : a = c <;> by_cases h2 : b = d <;> simp [h1, h2]
theorem check_plc (p : Plc) (e : Bool) (w : World) : (Instr.checkKey e 10000 80 (plV p)).run Try.prog w = .ok () w := by
  obtain ⟨a, b⟩ := p
  have u9 := und9'
  have p0 : ∀ o, (part 9 #[.string a, .string b] 0).run Try.prog o = .ok (.string a) o := fun o => run_part_plain o key9 rfl
  have p1 : ∀ o, (part 9 #[.string a, .string b] 1).run Try.prog o = .ok (.string b) o := fun o => run_part_plain o key9 rfl
  have hk : ∀ (s : Bs) (n : Nat), (Instr.checkKey e (n + 1) 9 (.string s)).run Try.prog w = .ok () w := fun s n => MapKept.run_checkKey (k := .string s) (d := .string) und9' (show MapKept.IsKey .string (.string s) from trivial) e n
  unfold plV
  rw [show (10000 : Nat) = 9998 + 1 + 1 from rfl]
  unfold Instr.checkKey
  simp [run_underlying Try.underlying80, p0, p1, hk, Result.andThen]
theorem findNow_struct (k : Value) (d : Array Field) : ∀ (es : List MapEntry) (e : MapEntry), Instr.findNow (.struct d) k (e :: es) 0 = none := fun es e => by
  unfold Instr.findNow Instr.sameNow
  rfl
def fndP (p : Plc) : List Plc → Nat → Option (Nat × Value)
  | [], _ => none
  | q :: P, i => if p = q then some (i, .bool true) else fndP p P (i + 1)
def plE : List Plc → Nat → List MapEntry
  | [], _ => []
  | q :: P, i => ⟨plV q, .bool true, i⟩ :: plE P (i + 1)
theorem findAsking_plc (p : Plc) (w : World) : ∀ (P : List Plc) (i j : Nat), (Instr.findAsking 80 (plV p) (plE P j) i).run Try.prog w = .ok (fndP p P i) w
  | [], i, j => by unfold plE Instr.findAsking fndP; rfl
  | q :: P, i, j => by
    have ih := findAsking_plc p w P (i + 1) (j + 1)
    unfold plE Instr.findAsking fndP
    simp only [Op.equal, Op.maxDepth, Sem.run_bind, eq_plc, Result.andThen_ok]
    by_cases h : p = q
    · simp [h]
    · simp [h, ih]
theorem find_plc (p : Plc) (w : World) (P : List Plc) (j : Nat) : (Instr.findKey 80 (plV p) (plE P j)).run Try.prog w = .ok (fndP p P 0) w := by
  unfold Instr.findKey
  simp only [Sem.run_bind, run_underlying plc_struct, Result.andThen_ok]
  cases P with
  | nil => rfl
  | cons q P =>
    have e : plE (q :: P) j = ⟨plV q, .bool true, j⟩ :: plE P (j + 1) := rfl
    rw [e, findNow_struct, ← e]
    exact findAsking_plc p w (q :: P) 0 j
theorem fndP_none {p : Plc} : ∀ (P : List Plc) (i : Nat), p ∉ P → fndP p P i = none
  | [], _, _ => rfl
  | q :: P, i, h => by
    unfold fndP
    rw [if_neg (fun e => h (by rw [e]; exact List.mem_cons_self ..)), fndP_none P (i + 1) (fun e => h (List.mem_cons_of_mem _ e))]
theorem fndP_some {p : Plc} : ∀ (P : List Plc) (i : Nat), p ∈ P → ∃ j, fndP p P i = some (j, .bool true)
  | q :: P, i, h => by
    unfold fndP
    by_cases e : p = q
    · exact ⟨i, if_pos e⟩
    · rw [if_neg e]
      exact fndP_some P (i + 1) ((List.mem_cons.1 h).resolve_left e)
/-- the block of a map of places -/
def PlAt (W : World) (m : Nat) (P : List Plc) : Prop := W.heap[m]? = some (.map (plE P 0).toArray P.length)
def inP (p : Plc) (P : List Plc) : Bool := P.any fun q => decide (p = q)
theorem inP_iff (p : Plc) (P : List Plc) : inP p P = true ↔ p ∈ P := by
  unfold inP
  rw [List.any_eq_true]
  constructor
  · rintro ⟨q, hq, h⟩
    rw [of_decide_eq_true h]; exact hq
  · exact fun h => ⟨p, h, by simp⟩
theorem zero_b (W : World) : (zeroValue 4).run Try.prog W = .ok (.bool false) W := by kernel_rfl
theorem run_lookP {W : World} {m : Nat} {P : List Plc} (h : PlAt W m P) (p : Plc) :
    (Instr.lookup 77 (.map (some m)) (plV p) false).run Try.prog W = .ok (.bool (inP p P)) W := by
  simp only [Instr.lookup, Sem.run_bind, run_underlying Try.underlying77, MapKept.run_getObj_map h, Result.andThen, Sem.run_pure]
  rw [check_plc]
  simp only [Result.andThen, Sem.run_bind]
  rw [find_plc]
  by_cases hp : p ∈ P
  · obtain ⟨j, hj⟩ := fndP_some P 0 hp
    rw [hj, (inP_iff p P).2 hp]
    simp [Result.andThen]
  · have hf : inP p P = false := by
      cases h2 : inP p P with
      | false => rfl
      | true => exact absurd ((inP_iff p P).1 h2) hp
    rw [fndP_none P 0 hp, hf]
    simp [Result.andThen, zero_b]
theorem plE_snoc (p : Plc) : ∀ (P : List Plc) (i : Nat), plE (P ++ [p]) i = plE P i ++ [⟨plV p, .bool true, i + P.length⟩]
  | [], i => rfl
  | q :: P, i => by
    show _ :: plE (P ++ [p]) (i + 1) = _
    rw [plE_snoc p P (i + 1), List.length_cons]
    show _ = _ :: (plE P (i + 1) ++ _)
    rw [show i + 1 + P.length = i + (P.length + 1) by omega]
theorem run_updP {W : World} {m : Nat} {P : List Plc} (h : PlAt W m P) (p : Plc) (hp : p ∉ P) :
    (Instr.mapUpdate 77 (.map (some m)) (plV p) (.bool true)).run Try.prog W = .ok () (setBlock W m (.map (plE (P ++ [p]) 0).toArray (P ++ [p]).length)) := by
  simp only [Instr.mapUpdate, Sem.run_bind, run_underlying Try.underlying77, MapKept.run_getObj_map h, Result.andThen, Sem.run_pure]
  rw [check_plc]
  simp only [Result.andThen, Sem.run_bind]
  rw [find_plc, fndP_none P 0 hp]
  simp [Result.andThen, MapKept.run_setObj_map _ h, setBlock, plE_snoc]
end Go.Proofs.Ytpcjmceakelilaa
