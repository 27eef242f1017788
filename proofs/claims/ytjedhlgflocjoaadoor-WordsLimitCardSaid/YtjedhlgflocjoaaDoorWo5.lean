/- Words: stop words; stems by the reference; strings in lower case by the reference. -/
import Derived.Test.YtjedhlgflocjoaaDoorWo4
namespace Go.Proofs.YtjedhlgflocjoaaDoor
open Go.ChangeShapes Go.WideShapes Go.ChangeAt Go.RowKit
set_option linter.unusedVariables false
set_option linter.unusedSimpArgs false
set_option maxHeartbeats 1000000 in
theorem isStop_no (s : ByteArray) (w : World) (h : Wd.stop s.data.toList = false) : Calls Tryd.prog 46 #[.string s] w fun e w' => e = .returned (.bool false) ∧ w = w' := by
  have h' : ∀ x ∈ Wd.stops, (s.data.toList == x) = false := by
    intro x hx
    rw [beq_eq_false_iff_ne]
    intro e
    subst e
    have : Wd.stop s.data.toList = true := by unfold Wd.stop; simpa using hx
    rw [h] at this
    cases this
  have h0 : (s.toList == [97]) = false := by rw [Lib.toList_data]; exact h' _ (by decide)
  have h1 : (s.toList == [97, 110]) = false := by rw [Lib.toList_data]; exact h' _ (by decide)
  have h2 : (s.toList == [97, 110, 100]) = false := by rw [Lib.toList_data]; exact h' _ (by decide)
  have h3 : (s.toList == [97, 114, 101]) = false := by rw [Lib.toList_data]; exact h' _ (by decide)
  have h4 : (s.toList == [97, 115]) = false := by rw [Lib.toList_data]; exact h' _ (by decide)
  have h5 : (s.toList == [97, 116]) = false := by rw [Lib.toList_data]; exact h' _ (by decide)
  have h6 : (s.toList == [98, 101]) = false := by rw [Lib.toList_data]; exact h' _ (by decide)
  have h7 : (s.toList == [98, 121]) = false := by rw [Lib.toList_data]; exact h' _ (by decide)
  have h8 : (s.toList == [102, 111, 114]) = false := by rw [Lib.toList_data]; exact h' _ (by decide)
  have h9 : (s.toList == [102, 114, 111, 109]) = false := by rw [Lib.toList_data]; exact h' _ (by decide)
  have h10 : (s.toList == [105, 110]) = false := by rw [Lib.toList_data]; exact h' _ (by decide)
  have h11 : (s.toList == [105, 115]) = false := by rw [Lib.toList_data]; exact h' _ (by decide)
  have h12 : (s.toList == [105, 116]) = false := by rw [Lib.toList_data]; exact h' _ (by decide)
  have h13 : (s.toList == [111, 102]) = false := by rw [Lib.toList_data]; exact h' _ (by decide)
  have h14 : (s.toList == [111, 110]) = false := by rw [Lib.toList_data]; exact h' _ (by decide)
  have h15 : (s.toList == [111, 114]) = false := by rw [Lib.toList_data]; exact h' _ (by decide)
  have h16 : (s.toList == [116, 104, 97, 116]) = false := by rw [Lib.toList_data]; exact h' _ (by decide)
  have h17 : (s.toList == [116, 104, 101]) = false := by rw [Lib.toList_data]; exact h' _ (by decide)
  have h18 : (s.toList == [116, 111]) = false := by rw [Lib.toList_data]; exact h' _ (by decide)
  have h19 : (s.toList == [119, 105, 116, 104]) = false := by rw [Lib.toList_data]; exact h' _ (by decide)
  clear h h'
  go_enter Tryd.func46, Tryd.ntmps46
  go_wp2
  go_ret
  exact ⟨rfl, rfl⟩
set_option maxHeartbeats 2000000 in
theorem isStop_yes (s : ByteArray) (w : World) (h : Wd.stop s.data.toList = true) : Calls Tryd.prog 46 #[.string s] w fun e w' => e = .returned (.bool true) ∧ w = w' := by
  have hm : s.data.toList ∈ Wd.stops := by unfold Wd.stop at h; simpa using h
  clear h
  have hs : s = Wd.bs s.data.toList := rfl
  generalize s.data.toList = l at hm hs
  subst hs
  unfold Wd.stops at hm
  simp only [List.mem_cons, List.mem_nil_iff, or_false] at hm
  rcases hm with rfl | rfl | rfl | rfl | rfl | rfl | rfl | rfl | rfl | rfl | rfl | rfl | rfl | rfl | rfl | rfl | rfl | rfl | rfl | rfl
  all_goals
    unfold Wd.bs
    go_enter Tryd.func46, Tryd.ntmps46
    go_wp2
    go_ret
    exact ⟨rfl, rfl⟩
/-- the package variables that are read: a number of the library's, the reference's stop words -/
structure Env (w : World) : Prop where
  big : ∃ m : Int, w.cell? ⟨1, 0, none⟩ = some (.int .i64 m)
  size : 2 ≤ w.heap.size
  stops : ∀ j (h : j < Wd.stops.length), w.cell? ⟨0, j, none⟩ = some (.string (Wd.bs Wd.stops[j]))
theorem Env.keep {w w' : World} (h : Env w) (hb : Below w.heap.size w w') : Env w' :=
  ⟨by obtain ⟨m, hm⟩ := h.big; exact ⟨m, (hb.cell (p := ⟨1, 0, none⟩) (show 1 < w.heap.size by have := h.size; omega)).trans hm⟩, Nat.le_trans h.size hb.size,
   fun j hj => (hb.cell (p := ⟨0, j, none⟩) (show 0 < w.heap.size by have := h.size; omega)).trans (h.stops j hj)⟩
theorem Env.far {w w' : World} {B : Nat} (h : Env w) (hb : Below B w w') (hB : 2 ≤ B) : Env w' :=
  ⟨by obtain ⟨m, hm⟩ := h.big; exact ⟨m, (hb.cell (p := ⟨1, 0, none⟩) (show 1 < B by omega)).trans hm⟩, Nat.le_trans h.size hb.size,
   fun j hj => (hb.cell (p := ⟨0, j, none⟩) (show 0 < B by omega)).trans (h.stops j hj)⟩
theorem stops_len : Wd.stops.length = 20 := rfl
set_option maxHeartbeats 1000000 in
theorem rstop_any (s : ByteArray) (w : World) (hw : Env w) : Calls Tryd.prog 47 #[.string s] w fun e w' => e = .returned (.bool (Wd.stop s.data.toList)) ∧ w = w' := by
  have HW := Lib.hid hw
  clear hw
  go_enter Tryd.func47, Tryd.ntmps47
  go_wp2
  go_loop [3] (fun i => ∃ k : Nat, k ≤ 20 ∧ i = .int .i64 k ∧ ∀ j (h : j < Wd.stops.length), j < k → Wd.stops[j] ≠ s.data.toList) (fun i => 20 - (intOf i).toNat)
  case atStart => exact ⟨0, by omega, rfl, fun j _ h => absurd h (by omega)⟩
  case round =>
    obtain ⟨k, hk, rfl, hno⟩ := hrel
    have HNO := Lib.hid hno
    clear hno
    by_cases hlt : k < 20
    · have hc := HW.out.stops k (by rw [stops_len]; exact hlt)
      by_cases he : Wd.stops[k]'(by rw [stops_len]; exact hlt) = s.data.toList
      · rw [he] at hc
        have hbs : Wd.bs s.data.toList = s := rfl
        rw [hbs] at hc
        have HE : Hid (Wd.stop s.data.toList = true) := Lib.hid (by unfold Wd.stop; rw [← he]; simp)
        clear he hbs
        go_wp2
        go_ret
        exact ⟨by rw [HE.out]; rfl, rfl⟩
      · have hne : ((Wd.bs (Wd.stops[k]'(by rw [stops_len]; exact hlt))).toList == s.toList) = false := by
          rw [beq_eq_false_iff_ne, Lib.toList_data, Lib.toList_data]; exact he
        have HE := Lib.hid he
        clear he
        generalize Wd.bs (Wd.stops[k]'(by rw [stops_len]; exact hlt)) = x at hc hne
        go_wp2
        go_round
        case rel => exact ⟨k + 1, by omega, by go_num, fun j hj h => by
          by_cases e : j = k
          · subst e; exact HE.out
          · exact HNO.out j hj (by omega)⟩
        case measure => simp [intOf]; omega
    · have HE : Hid (Wd.stop s.data.toList = false) := Lib.hid (by
        rw [Bool.eq_false_iff]
        intro h
        unfold Wd.stop at h
        have hm : s.data.toList ∈ Wd.stops := by simpa using h
        obtain ⟨j, hj, e⟩ := List.getElem_of_mem hm
        exact HNO.out j hj (by rw [stops_len] at hj; omega) e)
      go_wp2
      go_ret
      exact ⟨by rw [HE.out]; rfl, rfl⟩
set_option maxHeartbeats 400000 in
theorem ends_any (s p : ByteArray) (n : Nat) (w : World) (hs : s.size ≤ 1000000) (hp : p.size ≤ 1000) (hn : n ≤ 1000) :
    Calls Tryd.prog 32 #[.string s, .string p, .int .i64 n] w fun e w' => e = .returned (.bool (Wd.ends s.data.toList p.data.toList n)) ∧ w = w' := by
  have hE : Wd.ends s.data.toList p.data.toList n = (decide (n < s.data.toList.length) && p.data.toList.isSuffixOf s.data.toList) := rfl
  rw [size_list] at hE
  by_cases h1 : n < s.size
  · by_cases h2 : p.size ≤ s.size
    · have hq : p.data.toList.isSuffixOf s.data.toList = ((s.extract (s.size - p.size) s.size).toList == p.toList) := by
        rw [Lib.toList_data, Lib.toList_data, Lib.extract_to_end, Bool.eq_iff_iff, List.isSuffixOf_iff_suffix, beq_iff_eq]
        constructor
        · intro h; have := List.suffix_iff_eq_drop.1 h; rw [size_list, size_list] at this; exact this.symm
        · intro h; rw [← h]; exact List.drop_suffix _ _
      rw [hq] at hE
      generalize hb : ((s.extract (s.size - p.size) s.size).toList == p.toList) = b at hE
      have HE := Lib.hid hE
      clear hE hq
      have e1 : ((s.size : Int) - (p.size : Int)).toNat = s.size - p.size := by omega
      go_enter Tryd.func32, Tryd.ntmps32
      go_wp2
      go_ret
      refine ⟨?_, rfl⟩
      rw [HE.out]
      refine ret_bool ?_
      simp [h1]
    · have HE : Hid (Wd.ends s.data.toList p.data.toList n = false) := Lib.hid (by
        rw [hE]
        have : p.data.toList.isSuffixOf s.data.toList = false := by
          rw [Bool.eq_false_iff]
          intro h
          have := (List.isSuffixOf_iff_suffix.1 h).length_le
          rw [size_list, size_list] at this
          exact h2 this
        rw [this, Bool.and_false])
      clear hE
      go_enter Tryd.func32, Tryd.ntmps32
      go_wp2
      go_ret
      exact ⟨by rw [HE.out]; rfl, rfl⟩
  · have HE : Hid (Wd.ends s.data.toList p.data.toList n = false) := Lib.hid (by rw [hE]; simp [h1])
    clear hE
    go_enter Tryd.func32, Tryd.ntmps32
    go_wp2
    go_ret
    exact ⟨by rw [HE.out]; rfl, rfl⟩
end Go.Proofs.YtjedhlgflocjoaaDoor
