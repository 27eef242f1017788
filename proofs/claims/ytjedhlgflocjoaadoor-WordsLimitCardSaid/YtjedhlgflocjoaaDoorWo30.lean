/- Words: copies of lists, a list of one word out of another; for the law Joined. -/
import Derived.Test.YtjedhlgflocjoaaDoorWo26
import Derived.Test.YtjedhlgflocjoaaDoorWo28
namespace Go.Proofs.YtjedhlgflocjoaaDoor
open Go.ChangeShapes Go.WideShapes Go.ChangeAt Go.RowKit Go.Sort
set_option linter.unusedVariables false
set_option linter.unusedSimpArgs false
theorem clone_any (v : Value) (ls : List Wd.Str) (w : World) (hv : StrsAt w v ls) (hl : ls.length ≤ 1000000) :
    Calls Tryd.prog 27 #[v] w fun e w' => ∃ v', e = .returned v' ∧ SL w w' v' ls := by
  rcases hv with ⟨rfl, rfl⟩ | ⟨g, cap, rfl, hc, hg, hcell⟩
  · refine (Tryd.slices_Clone_string_nil 0 0 w).mono ?_
    rintro e w' ⟨rfl, rfl⟩
    exact ⟨_, rfl, SL.start _⟩
  · refine (Tryd.slices_Clone_string g 0 ls.length cap (ls.map Wd.bs) w (by simp) (by omega) (fun j hj => ?_)).mono ?_
    · have hj' : j < ls.length := by simpa using hj
      rw [Nat.zero_add, hcell j hj']
      simp [List.getD_eq_getElem?_getD, hj']
    · rintro e w' ⟨v', rfl, ho, _, hb⟩
      have e1 : ((ls.map Wd.bs).take ls.length).map Value.string = strs ls := by
        rw [List.take_of_length_le (by simp), List.map_map]
        rfl
      rw [e1] at ho
      exact ⟨v', rfl, ho, hb⟩
/-- the list of a word against the place of that word -/
theorem eq_sub (v : Value) (x : Wd.Str) (g k c : Nat) (W : World) (hv : StrsAt W v [x]) (hc : W.cell? ⟨g, k, none⟩ = some (.string (Wd.bs x))) :
    Calls Tryd.prog 11 #[v, .slice (some ⟨g, k, none⟩) 1 c] W fun e w' => e = .returned (.bool true) ∧ Below W.heap.size W w' := by
  rcases hv with ⟨_, h⟩ | ⟨g1, cap, rfl, _, hg, hcell⟩
  · cases h
  · refine (Tryd.slices_Equal_string g1 0 1 cap g k 1 c [Wd.bs x] [Wd.bs x] W (by simp) (by simp) (by omega) (by omega) (fun j hj => ?_) (fun j hj => ?_)).mono ?_
    · obtain rfl : j = 0 := by simpa using hj
      exact hcell 0 (by simp)
    · obtain rfl : j = 0 := by simpa using hj
      exact hc
    · rintro e w' ⟨rfl, q, rfl⟩
      exact ⟨by rw [decide_eq_true rfl], below_drewN _ q⟩
end Go.Proofs.YtjedhlgflocjoaaDoor
