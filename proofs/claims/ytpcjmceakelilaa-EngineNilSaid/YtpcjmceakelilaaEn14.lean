/- Engine: New, Stamp, Disk, Synced, Sync, Get; the calls on nil. -/
import Derived.Test.YtpcjmceakelilaaEn13
namespace Go.Proofs.Ytpcjmceakelilaa
open Go.ChangeShapes Go.WideShapes Go.ChangeAt Go.RowKit Go.Deep Go.ChangeMaps Go.Shelf
set_option linter.unusedVariables false
set_option linter.unusedSimpArgs false
set_option maxRecDepth 100000 in
theorem enew_any (W : World) : Calls Try.prog 7 #[] W fun e W' => e = .returned (.pointer (some ⟨W.heap.size + 1, 0, none⟩)) ∧ Egs W.heap.size W' (W.heap.size + 1) W.heap.size [] 0 0 ⟨#[]⟩ 0 ∧ Below W.heap.size W W' := by
  have hmm := @run_makeMap Try.prog
  have hb := Box.new (W.alloc (Obj.map #[] 0)) [.map (some W.heap.size), .int .i64 0, .string ⟨#[]⟩, .int .i64 0] 50
  rw [World.size_alloc] at hb
  have hm : MapAt ((W.alloc (Obj.map #[] 0)).alloc (Obj.cells #[.map (some W.heap.size), .int .i64 0, .string ⟨#[]⟩, .int .i64 0] 50)) W.heap.size (ens []) 0 := by
    show _ = some (Obj.map #[] 0)
    rw [heap_alloc_old _ _ (by simp)]
    exact heap_alloc_new W _
  have hbb : Below W.heap.size W ((W.alloc (Obj.map #[] 0)).alloc (Obj.cells #[.map (some W.heap.size), .int .i64 0, .string ⟨#[]⟩, .int .i64 0] 50)) := ((Below.refl _ W).alloc (Nat.le_refl _) _).alloc (by simp) _
  have HX := Lib.hid (And.intro hb (And.intro hm hbb))
  clear hb hm hbb
  go_enter Try.func7, Try.ntmps7
  go_wp2_with fail
  go_ret
  exact ⟨rfl, ⟨HX.out.1, HX.out.2.1, EnOK.nil 0, (fun t ht => by cases ht), List.Pairwise.nil, (fun t ht => by cases ht), by omega, by omega, Nat.le_refl _⟩, HX.out.2.2⟩
section
variable {B b mt tc : Nat} {W : World} {T : List Tb} {st sy : Int} {dk : Bs}
theorem stamp_any (h : Egs B W b mt T tc st dk sy) : Calls Try.prog 10 #[.pointer (some ⟨b, 0, none⟩)] W fun e W' => e = .returned (.int .i64 st) ∧ W' = W := by
  have c1 := h.c1
  clear h
  go_enter Try.func10, Try.ntmps10
  go_wp2_with fail
  go_ret
  exact ⟨rfl, rfl⟩
theorem disk_any (h : Egs B W b mt T tc st dk sy) : Calls Try.prog 9 #[.pointer (some ⟨b, 0, none⟩)] W fun e W' => e = .returned (.string dk) ∧ W' = W := by
  have c2 := h.c2
  clear h
  go_enter Try.func9, Try.ntmps9
  go_wp2_with fail
  go_ret
  exact ⟨rfl, rfl⟩
theorem synced_any (h : Egs B W b mt T tc st dk sy) : Calls Try.prog 17 #[.pointer (some ⟨b, 0, none⟩)] W fun e W' => e = .returned (.int .i64 sy) ∧ W' = W := by
  have c3 := h.c3
  clear h
  go_enter Try.func17, Try.ntmps17
  go_wp2_with fail
  go_ret
  exact ⟨rfl, rfl⟩
theorem sync_any (h : Egs B W b mt T tc st dk sy) : Calls Try.prog 18 #[.pointer (some ⟨b, 0, none⟩)] W fun e W' => e = .returned (.tuple #[]) ∧ ETurn B b (FootE b mt T) W W' mt T tc st dk dk.size := by
  have c2 := h.c2
  have c3 := h.c3
  have z3 := h.fr 3
  have H := Lib.hid h
  clear h
  go_enter Try.func18, Try.ntmps18
  go_wp2_with fail
  go_end0
  exact ⟨rfl, (ETurn.same H.out (Below.refl _ _)).setSync _ (.inl rfl)⟩
theorem get_nil (k : Bs) (t : Int) (W : World) : Calls Try.prog 31 #[.pointer none, .string k, .int .i64 t] W (GetOut none W) := by
  go_enter Try.func31, Try.ntmps31
  go_wp2_with fail
  go_ret2
  exact ⟨rfl, Below.refl _ _⟩
theorem valAt_nil (t : Int) : valAt [] t = none := by simp [valAt]
theorem get_of (h : Egs B W b mt T tc st dk sy) (tb k : Bs) (t : Int) :
    Calls Try.prog 31 #[tbP (tbOf T tb), .string k, .int .i64 t] W (GetOut (valAt (cont T tb k) t) W) := by
  unfold cont
  cases hu : tbOf T tb with
  | none => rw [valAt_nil]; exact get_nil k t W
  | some u => exact get_any B u.S u.m u.clock u.E k t W (h.sto u (tbOf_mem hu).1)
theorem eget_any (h : Egs B W b mt T tc st dk sy) (tb k : Bs) (t : Int) :
    Calls Try.prog 19 #[.pointer (some ⟨b, 0, none⟩), .string tb, .string k, .int .i64 t] W (GetOut (valAt (cont T tb k) t) W) := by
  have c0 := h.c0
  have hl := run_lookT h.map tb
  have HG := Lib.hid (get_of h tb k t)
  obtain ⟨o, ho⟩ : ∃ o, o = valAt (cont T tb k) t := ⟨_, rfl⟩
  rw [← ho] at HG ⊢
  clear h ho
  go_enter Try.func19, Try.ntmps19
  go_wp2_with fail
  refine HG.out.mono ?_
  rintro e w1 ⟨rfl, hb⟩
  have HB := Lib.hid hb
  clear hb
  go_wp2_with fail
  go_ret2
  exact ⟨rfl, HB.out⟩
end
theorem nil_commit (v : Value) (s : Int) (W : World) : Calls Try.prog 12 #[.pointer none, v, .int .i64 s] W fun e W' => e = .returned (.int .i64 3) ∧ W' = W := by
  go_enter Try.func12, Try.ntmps12
  go_wp2_with fail
  go_ret
  exact ⟨rfl, rfl⟩
theorem nil_rollback (s : Int) (W : World) : Calls Try.prog 21 #[.pointer none, .int .i64 s] W fun e W' => e = .returned (.int .i64 3) ∧ W' = W := by
  go_enter Try.func21, Try.ntmps21
  go_wp2_with fail
  go_ret
  exact ⟨rfl, rfl⟩
theorem nil_stamp (W : World) : Calls Try.prog 10 #[.pointer none] W fun e W' => e = .returned (.int .i64 0) ∧ W' = W := by
  go_enter Try.func10, Try.ntmps10
  go_wp2_with fail
  go_ret
  exact ⟨rfl, rfl⟩
theorem nil_disk (W : World) : Calls Try.prog 9 #[.pointer none] W fun e W' => e = .returned (.string ⟨#[]⟩) ∧ W' = W := by
  go_enter Try.func9, Try.ntmps9
  go_wp2_with fail
  go_ret
  exact ⟨rfl, rfl⟩
theorem nil_synced (W : World) : Calls Try.prog 17 #[.pointer none] W fun e W' => e = .returned (.int .i64 0) ∧ W' = W := by
  go_enter Try.func17, Try.ntmps17
  go_wp2_with fail
  go_ret
  exact ⟨rfl, rfl⟩
theorem nil_sync (W : World) : Calls Try.prog 18 #[.pointer none] W fun e W' => e = .returned (.tuple #[]) ∧ W' = W := by
  go_enter Try.func18, Try.ntmps18
  go_wp2_with fail
  go_end0
  exact ⟨rfl, rfl⟩
theorem nil_get (tb k : Bs) (t : Int) (W : World) : Calls Try.prog 19 #[.pointer none, .string tb, .string k, .int .i64 t] W fun e W' => e = .returned (.tuple #[.string ⟨#[]⟩, .bool false]) ∧ W' = W := by
  go_enter Try.func19, Try.ntmps19
  go_wp2_with fail
  go_ret2
  exact ⟨rfl, rfl⟩
end Go.Proofs.Ytpcjmceakelilaa
