/- Btree: the calls of a nil tree; the law Nil. -/
import Derived.Test.YtegljepgncicjaaBt14
namespace Go.Proofs.Ytegljepgncicjaa
open Go.ChangeShapes Go.WideShapes Go.ChangeAt Go.RowKit Go.Deep Go.Shelf
set_option linter.unusedVariables false
set_option linter.unusedSimpArgs false
theorem Get_nil (k : Bs) (w : World) : Calls Try.prog 24 #[.pointer none, .string k] w fun e w' => e = .returned (.tuple #[.string ByteArray.empty, .bool false]) ∧ w' = w := by
  go_enter Try.func24, Try.ntmps24
  go_wp2_with fail
  go_ret2
  exact ⟨rfl, rfl⟩
theorem Put_nil (k v : Bs) (w : World) : Calls Try.prog 20 #[.pointer none, .string k, .string v] w fun e w' => e = .returned (.bool false) ∧ w' = w := by
  go_enter Try.func20, Try.ntmps20
  go_wp2_with fail
  go_ret
  exact ⟨rfl, rfl⟩
theorem Del_nil (k : Bs) (w : World) : Calls Try.prog 22 #[.pointer none, .string k] w fun e w' => e = .returned (.bool false) ∧ w' = w := by
  go_enter Try.func22, Try.ntmps22
  go_wp2_with fail
  go_ret
  exact ⟨rfl, rfl⟩
theorem Len_nil (w : World) : Calls Try.prog 13 #[.pointer none] w fun e w' => e = .returned (.int .i64 0) ∧ w' = w := by
  go_enter Try.func13, Try.ntmps13
  go_wp2_with fail
  go_ret
  exact ⟨rfl, rfl⟩
theorem Height_nil (w : World) : Calls Try.prog 23 #[.pointer none] w fun e w' => e = .returned (.int .i64 0) ∧ w' = w := by
  go_enter Try.func23, Try.ntmps23
  go_wp2_with fail
  go_ret
  exact ⟨rfl, rfl⟩
theorem Check_nil (w : World) : Calls Try.prog 15 #[.pointer none] w fun e w' => e = .returned (.bool false) ∧ w' = w := by
  go_enter Try.func15, Try.ntmps15
  go_wp2_with fail
  go_ret
  exact ⟨rfl, rfl⟩
theorem Clone_nil (w : World) : Calls Try.prog 25 #[.pointer none] w fun e w' => e = .returned (.pointer none) ∧ w' = w := by
  go_enter Try.func25, Try.ntmps25
  go_wp2_with fail
  go_ret
  exact ⟨rfl, rfl⟩
theorem pairs_nil (lo hi : Bs) (b : Bool) (w : World) : Calls Try.prog 19 #[.pointer none, .string lo, .string hi, .bool b, .int .i64 9] w fun e w' => (∃ g c, e = .returned (.slice g 0 c)) ∧ Below w.heap.size w w' := by
  refine (callsIn_wide.1 (pairs_in 1 none lo hi b 9 [] w (by decide) (by decide) (by decide) ?_)).mono ?_
  · intro W1 bb m hW1 hsb
    exact stops_nil w.heap.size m bb lo hi b W1 hsb
  · rintro e W' ⟨v, rfl, hr, hbl⟩
    refine ⟨?_, hbl⟩
    rcases hr.2 with ⟨rfl, _⟩ | ⟨g, cap, cur, rfl, _⟩
    · exact ⟨none, 0, rfl⟩
    · exact ⟨_, _, rfl⟩
def LawOut (w0 : World) (e : Ending) (W' : World) : Prop := e = .returned (.bool true) ∧ Below w0.heap.size w0 W'
set_option maxRecDepth 100000 in
set_option maxHeartbeats 3200000 in
theorem law_nil (kind : Int) (key val : Bs) (w : World) : Calls Try.prog 8 #[.agg #[.int .i64 kind, .string key, .string val]] w (LawOut w) := by
  have HBX := Lib.hid (Box.new w [.int .i64 kind, .string key, .string val] 36)
  have HBL := Lib.hid ((Below.refl w.heap.size w).alloc (Nat.le_refl _) (.cells #[.int .i64 kind, .string key, .string val] 36))
  go_enter Try.func8, Try.ntmps8
  go_wp2_with fail
  refine (Get_nil _ _).mono ?_
  rintro e w1 ⟨rfl, hw⟩
  obtain rfl := hw.symm
  go_wp2_with fail
  refine (Put_nil _ _ _).mono ?_
  rintro e w1 ⟨rfl, hw⟩
  obtain rfl := hw.symm
  go_wp2_with fail
  refine (Del_nil _ _).mono ?_
  rintro e w1 ⟨rfl, hw⟩
  obtain rfl := hw.symm
  go_wp2_with fail
  refine (Len_nil _).mono ?_
  rintro e w1 ⟨rfl, hw⟩
  obtain rfl := hw.symm
  go_wp2_with fail
  refine (Height_nil _).mono ?_
  rintro e w1 ⟨rfl, hw⟩
  obtain rfl := hw.symm
  go_wp2_with fail
  refine (Check_nil _).mono ?_
  rintro e w1 ⟨rfl, hw⟩
  obtain rfl := hw.symm
  go_wp2_with fail
  refine (Clone_nil _).mono ?_
  rintro e w1 ⟨rfl, hw⟩
  obtain rfl := hw.symm
  go_wp2_with fail
  refine (pairs_nil _ _ _ _).mono ?_
  rintro e w2 ⟨⟨g, c, rfl⟩, hb⟩
  have HB2 := Lib.hid (HBL.out.trans (hb.mono (by simp)))
  clear hb HBL HBX
  go_wp2_with fail
  refine (awake_any w2).mono ?_
  rintro e w3 ⟨rfl, hb⟩
  have HB3 := Lib.hid (HB2.out.trans (hb.mono HB2.out.size))
  clear hb HB2
  go_wp2_with fail
  go_ret
  exact ⟨rfl, HB3.out⟩
end Go.Proofs.Ytegljepgncicjaa
