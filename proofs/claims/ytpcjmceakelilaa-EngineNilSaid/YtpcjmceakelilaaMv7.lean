/- Mvcc: Put, Delete; a range over a map: its steps. -/
import Derived.Test.YtpcjmceakelilaaMv6
namespace Go.Proofs.Ytpcjmceakelilaa
open Go.ChangeShapes Go.WideShapes Go.ChangeAt Go.RowKit Go.Deep Go.ChangeMaps
set_option linter.unusedVariables false
set_option linter.unusedSimpArgs false
set_option maxRecDepth 100000 in
theorem put_of (S : Nat) (k vl : Bs) (s : Int) (W : World) (n : Int) (R : World → Prop) (h : Calls Try.prog 58 #[.pointer (some ⟨S, 0, none⟩), .string k, .agg #[.int .i64 s, .string vl, .bool false]] W fun e W' => e = .returned (.int .i64 n) ∧ R W') :
    Calls Try.prog 41 #[.pointer (some ⟨S, 0, none⟩), .string k, .string vl, .int .i64 s] W fun e W' => e = .returned (.int .i64 n) ∧ R W' := by
  have H := Lib.hid h
  clear h
  go_enter Try.func41, Try.ntmps41
  go_wp2_with fail
  refine H.out.mono ?_
  rintro e W1 ⟨rfl, hR⟩
  have HR := Lib.hid hR
  clear hR H
  go_wp2_with fail
  go_ret
  exact ⟨rfl, HR.out⟩
set_option maxRecDepth 100000 in
theorem del_of (S : Nat) (k : Bs) (s : Int) (W : World) (n : Int) (R : World → Prop) (h : Calls Try.prog 58 #[.pointer (some ⟨S, 0, none⟩), .string k, .agg #[.int .i64 s, .string ⟨#[]⟩, .bool true]] W fun e W' => e = .returned (.int .i64 n) ∧ R W') :
    Calls Try.prog 40 #[.pointer (some ⟨S, 0, none⟩), .string k, .int .i64 s] W fun e W' => e = .returned (.int .i64 n) ∧ R W' := by
  have H := Lib.hid h
  clear h
  go_enter Try.func40, Try.ntmps40
  go_wp2_with fail
  refine H.out.mono ?_
  rintro e W1 ⟨rfl, hR⟩
  have HR := Lib.hid hR
  clear hR H
  go_wp2_with fail
  go_ret
  exact ⟨rfl, HR.out⟩
/-- the iterator in block r over the map in block m: the stamps that it has handed out -/
def IterAt (W : World) (r m since : Nat) (seen : Array Nat) (last : Nat) : Prop := W.heap[r]? = some (.mapIter (some m) since seen last)
theorem IterAt.lt {W : World} {r m since last : Nat} {seen : Array Nat} (h : IterAt W r m since seen last) : r < W.heap.size := (Array.getElem?_eq_some_iff.1 h).1
theorem IterAt.kept {S : Nat → Prop} {W W' : World} {r m since last : Nat} {seen : Array Nat} (h : IterAt W r m since seen last) (hk : Kept S W W') (hS : ¬ S r) : IterAt W' r m since seen last := (hk.block r h.lt hS).trans h
theorem run_range_E {W : World} {m clock : Nat} {E : List En} (h : MapAt W m E clock) :
    (Instr.range 87 (.map (some m))).run Try.prog W = .ok (.pointer (some ⟨W.heap.size, 0, none⟩)) (W.alloc (.mapIter (some m) clock #[] clock)) :=
  run_range_map W _ 9 90 m (esOf E) clock Try.underlying87 h
theorem run_next_E {W : World} {m r clock since last : Nat} {seen : Array Nat} {E : List En} (hm : MapAt W m E clock) (hr : IterAt W r m since seen last) (hold : ∀ e ∈ E, e.born < since) (hsl : since ≤ last) (ty : TypeId) :
    ((∀ e ∈ E, seen.contains e.born = true) ∧ (Instr.next (.pointer (some ⟨r, 0, none⟩)) false ty).run Try.prog W = .ok (.tuple #[.bool false]) W) ∨
    ∃ e ∈ E, seen.contains e.born = false ∧ ∃ W1, (W1 = W ∨ W1 = W.drew) ∧ (Instr.next (.pointer (some ⟨r, 0, none⟩)) false ty).run Try.prog W = .ok (.tuple #[.bool true, .string e.key, e.val]) (setBlock W1 r (.mapIter (some m) since (seen.push e.born) clock)) := by
  have hold' : ∀ x ∈ (esOf E).toList, x.born < since := fun x hx => by
    rw [esOf_list] at hx
    obtain ⟨e, he, rfl⟩ := List.mem_map.1 hx
    exact hold e he
  have hm' : W.heap[m]? = some (.map (esOf E) clock) := hm
  have hr' : W.heap[r]? = some (.mapIter (some m) since seen last) := hr
  simp only [Instr.next, getObj, Sem.run_bind, Sem.run, hr', hm', Result.andThen, next_test_false seen (esOf E) since last hold' hsl, Bool.false_eq_true, if_false]
  have hmem : ∀ x ∈ (Array.filter (fun e => !seen.contains e.born) (esOf E)).toList, x.born < since := fun x hx => hold' x (by simp at hx ⊢; exact hx.1)
  have hin : ∀ x ∈ (Array.filter (fun e => !seen.contains e.born) (esOf E)).toList, ∃ e ∈ E, x = e.entry ∧ seen.contains e.born = false := fun x hx => by
    have h1 := Array.mem_filter.1 (Array.mem_toList_iff.1 hx)
    have h2 : x ∈ (esOf E).toList := Array.mem_toList_iff.2 h1.1
    rw [esOf_list] at h2
    obtain ⟨e, he, rfl⟩ := List.mem_map.1 h2
    exact ⟨e, he, rfl, by simpa [En.entry] using h1.2⟩
  have hall : (Array.filter (fun e => !seen.contains e.born) (esOf E)).size = 0 → ∀ e ∈ E, seen.contains e.born = true := fun h0 e he => by
    cases hc : seen.contains e.born with
    | true => rfl
    | false =>
      have h1 : e.entry ∈ Array.filter (fun e => !seen.contains e.born) (esOf E) := Array.mem_filter.2 ⟨Array.mem_toList_iff.1 (by rw [esOf_list]; exact List.mem_map.2 ⟨e, he, rfl⟩), by simpa [En.entry] using hc⟩
      rw [Array.eq_empty_of_size_eq_zero h0] at h1
      cases h1
      contradiction
  generalize Array.filter (fun e => !seen.contains e.born) (esOf E) = L at hmem hin hall ⊢
  have e1 : L.filter (fun x => decide (x.born < since)) = L := Array.filter_eq_self.2 (fun x hx => by simpa using hmem x (by simpa using hx))
  have e2 : L.filter (fun x => decide (x.born ≥ since)) = #[] := by
    rw [Array.filter_eq_empty_iff]
    intro x hx
    have := hmem x (by simpa using hx)
    simp
    omega
  simp only [e1, e2, Array.append_empty]
  by_cases h0 : L.size = 0
  · left
    refine ⟨hall h0, ?_⟩
    have : L = #[] := Array.eq_empty_of_size_eq_zero h0
    subst this
    simp [choose, Sem.run, Question.forced]
  · right
    have hne : L.isEmpty = false := by simp [Array.isEmpty, h0]
    simp only [hne, Bool.false_eq_true, if_false, Array.empty_append, Array.size_map]
    have hch : ∃ (j : Nat) (W1 : World), j < L.size ∧ (W1 = W ∨ W1 = W.drew) ∧ (choose (Question.mapNext L.size)).run Try.prog W = .ok j W1 := by
      by_cases hf : L.size ≤ 1
      · exact ⟨0, W, by omega, .inl rfl, by simp [choose, Sem.run, Question.forced, hf]⟩
      · exact ⟨_, W.drew, Nat.mod_lt _ (by omega), .inr rfl, by
          simp only [choose, Sem.run, Question.forced, decide_eq_true_eq, hf, if_false, Question.cut]
          rfl⟩
    obtain ⟨j, W1, hj, hal, hrun⟩ := hch
    obtain ⟨e, he, hLe, hse⟩ := hin L[j] (by simp)
    refine ⟨e, he, hse, W1, hal, ?_⟩
    have hr1 : W1.heap[r]? = some (.mapIter (some m) since seen last) := by rcases hal with rfl | rfl <;> exact hr
    have hset : ∀ (o' : Obj), (setObj r o').run Try.prog W1 = .ok () (setBlock W1 r o') := fun o' => by
      simp only [setObj, Sem.run, hr1]
      rfl
    simp only [hrun, Array.getElem?_map, Array.getElem?_eq_getElem hj, Option.map_some, Sem.run_bind, hset, Result.andThen, hLe]
    rfl
theorem run_entry_E {W : World} {m r clock since : Nat} {seen : Array Nat} {E : List En} {e : En} (hm : MapAt W m E clock) (hr : IterAt W r m since (seen.push e.born) clock) (he : e ∈ E) (hn : (E.map (·.born)).Nodup) :
    (Instr.entry (.pointer (some ⟨r, 0, none⟩))).run Try.prog W = .ok (.tuple #[.string e.key, e.val]) W := by
  have hm' : W.heap[m]? = some (.map (esOf E) clock) := hm
  have hr' : W.heap[r]? = some (.mapIter (some m) since (seen.push e.born) clock) := hr
  have hf : (esOf E).find? (·.born == e.entry.born) = some e.entry := by
    rw [← Array.find?_toList]
    refine find_born e.entry _ ?_ ?_
    · rw [esOf_list, List.map_map]; exact hn
    · rw [esOf_list]; exact List.mem_map.2 ⟨e, he, rfl⟩
  have hf' : (esOf E).find? (·.born == e.born) = some e.entry := hf
  simp only [Instr.entry, getObj, Sem.run_bind, Sem.run, hr', hm', Result.andThen, Array.back?_push, bne_self_eq_false, Bool.false_eq_true, if_false, hf']
  rfl
end Go.Proofs.Ytpcjmceakelilaa
