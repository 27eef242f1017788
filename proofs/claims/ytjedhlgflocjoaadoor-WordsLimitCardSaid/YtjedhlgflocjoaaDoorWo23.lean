/- Words: lists that are compared; the example. -/
import Derived.Test.YtjedhlgflocjoaaDoorWo22
namespace Go.Proofs.YtjedhlgflocjoaaDoor
open Go.ChangeShapes Go.WideShapes Go.ChangeAt Go.RowKit Go.Sort
set_option linter.unusedVariables false
set_option linter.unusedSimpArgs false
theorem bs_inj {a b : Wd.Str} (h : Wd.bs a = Wd.bs b) : a = b := by
  have := congrArg (fun x : ByteArray => x.data.toList) h
  exact this
theorem bs_map_inj {l m : List Wd.Str} (h : l.map Wd.bs = m.map Wd.bs) : l = m := by
  have e : ∀ l : List Wd.Str, (l.map Wd.bs).map (fun x : ByteArray => x.data.toList) = l := fun l => by
    rw [List.map_map]
    exact List.map_id'' (fun _ => rfl) l
  rw [← e l, ← e m, h]
theorem equal_any (v u : Value) (l m : List Wd.Str) (w : World) (hv : StrsAt w v l) (hu : StrsAt w u m) (hl : l.length ≤ 1000000) (hm : m.length ≤ 1000000) :
    Calls Tryd.prog 11 #[v, u] w fun e w' => e = .returned (.bool (decide (l = m))) ∧ ∃ q, w' = w.drewN q := by
  have hsv : ∃ a c, v = .slice a l.length c := by
    rcases hv with ⟨rfl, rfl⟩ | ⟨g, cap, rfl, _⟩
    · exact ⟨_, _, rfl⟩
    · exact ⟨_, _, rfl⟩
  have hsu : ∃ a c, u = .slice a m.length c := by
    rcases hu with ⟨rfl, rfl⟩ | ⟨g, cap, rfl, _⟩
    · exact ⟨_, _, rfl⟩
    · exact ⟨_, _, rfl⟩
  by_cases hne : l.length ≠ m.length
  · obtain ⟨a, c, rfl⟩ := hsv
    obtain ⟨a2, c2, rfl⟩ := hsu
    refine (Tryd.slices_Equal_string_lens a a2 l.length c m.length c2 w hne).mono ?_
    rintro e w' ⟨rfl, rfl⟩
    have : decide (l = m) = false := decide_eq_false (fun h => hne (by rw [h]))
    exact ⟨by rw [this], 0, rfl⟩
  · have he : l.length = m.length := by omega
    by_cases h0 : l.length = 0
    · obtain ⟨a, c, rfl⟩ := hsv
      obtain ⟨a2, c2, rfl⟩ := hsu
      have e1 := List.eq_nil_of_length_eq_zero h0
      have e2 := List.eq_nil_of_length_eq_zero (he ▸ h0)
      subst e1
      subst e2
      refine (Tryd.slices_Equal_string_empty a a2 c 0 c2 w (by omega)).mono ?_
      rintro e w' ⟨rfl, rfl⟩
      exact ⟨rfl, 0, rfl⟩
    · rcases hv with ⟨_, rfl⟩ | ⟨g, cap, rfl, hc, hg, hcell⟩
      · exact absurd rfl h0
      · rcases hu with ⟨_, rfl⟩ | ⟨g2, cap2, rfl, hc2, hg2, hcell2⟩
        · exact absurd he h0
        · refine (Tryd.slices_Equal_string g 0 l.length cap g2 0 m.length cap2 (l.map Wd.bs) (m.map Wd.bs) w (by simp) (by simp) (by omega) (by omega) (fun j hj => ?_) (fun j hj => ?_)).mono ?_
          · have hj' : j < l.length := by simpa using hj
            rw [Nat.zero_add, hcell j hj']
            simp [List.getD_eq_getElem?_getD, hj']
          · have hj' : j < m.length := by simpa using hj
            rw [Nat.zero_add, hcell2 j hj']
            simp [List.getD_eq_getElem?_getD, hj']
          · rintro e w' ⟨rfl, q, rfl⟩
            have hd : decide ((l.map Wd.bs).take l.length = (m.map Wd.bs).take m.length) = decide (l = m) := by
              rw [List.take_of_length_le (by simp), List.take_of_length_le (by simp)]
              exact decide_eq_decide.2 ⟨bs_map_inj, fun h => by rw [h]⟩
            exact ⟨by rw [hd], q, rfl⟩
/-- what the example's region carries -/
structure AW (w : World) (a p b : Value) (W : World) : Prop where
  env : EnvB W
  at1 : StrsAt W a [[98, 105, 103], [99, 97, 116], [114, 101, 100]]
  at2 : StrsAt W p [[98, 105, 103, 32, 99, 97, 116, 115]]
  at3 : StrsAt W b [[100, 111, 103]]
  below : Below w.heap.size w W
theorem AW.keep {w : World} {a p b : Value} {W W' : World} (h : AW w a p b W) (hb : Below W.heap.size W W') : AW w a p b W' := ⟨h.env.keep hb, h.at1.keep hb, h.at2.keep hb, h.at3.keep hb, h.below.trans (hb.mono h.below.size)⟩
theorem AW.alloc {w : World} {a p b : Value} {W : World} (h : AW w a p b W) (o : Obj) : AW w a p b (W.alloc o) := h.keep ((Below.refl _ _).alloc (Nat.le_refl _) _)
theorem AW.drew {w : World} {a p b : Value} {W : World} (h : AW w a p b W) : AW w a p b W.drew := h.keep (below_drewN _ 1)
theorem built {W : World} {T : TypeId} (l : List Wd.Str) (vs : Array Value) (h : vs = (l.map (fun x => Value.string (Wd.bs x))).toArray) : StrsAt (W.alloc (.cells vs T)) (.slice (some ⟨W.heap.size, 0, none⟩) l.length l.length) l := by
  subst h
  refine .inr ⟨W.heap.size, _, rfl, Nat.le_refl _, by simp, fun j hj => ?_⟩
  rw [World.cell?_alloc_new]
  simp [hj]
theorem eq_at (v u : Value) (l : List Wd.Str) (W : World) (hl : l.length ≤ 1000000) (hv : StrsAt W v l) (hu : StrsAt W u l) :
    Calls Tryd.prog 11 #[v, u] W fun e w' => e = .returned (.bool true) ∧ Below W.heap.size W w' := by
  refine (equal_any v u l l W hv hu hl hl).mono ?_
  rintro e w' ⟨rfl, q, rfl⟩
  exact ⟨by rw [decide_eq_true rfl], below_drewN _ q⟩
theorem eq1 {w : World} {a p b : Value} {W : World} {T : TypeId} (h : AW w a p b (W.alloc (.cells #[.string ⟨#[98, 105, 103]⟩, .string ⟨#[99, 97, 116]⟩, .string ⟨#[114, 101, 100]⟩] T))) :
    Calls Tryd.prog 11 #[a, .slice (some ⟨W.heap.size, 0, none⟩) 3 3] (W.alloc (.cells #[.string ⟨#[98, 105, 103]⟩, .string ⟨#[99, 97, 116]⟩, .string ⟨#[114, 101, 100]⟩] T)) fun e w' => e = .returned (.bool true) ∧ Below (W.alloc (.cells #[.string ⟨#[98, 105, 103]⟩, .string ⟨#[99, 97, 116]⟩, .string ⟨#[114, 101, 100]⟩] T)).heap.size (W.alloc (.cells #[.string ⟨#[98, 105, 103]⟩, .string ⟨#[99, 97, 116]⟩, .string ⟨#[114, 101, 100]⟩] T)) w' :=
  eq_at _ _ [[98, 105, 103], [99, 97, 116], [114, 101, 100]] _ (by decide) h.at1 (built [[98, 105, 103], [99, 97, 116], [114, 101, 100]] _ rfl)
theorem eq2 {w : World} {a p b : Value} {W : World} {T : TypeId} (h : AW w a p b (W.alloc (.cells #[.string ⟨#[98, 105, 103, 32, 99, 97, 116, 115]⟩] T))) :
    Calls Tryd.prog 11 #[p, .slice (some ⟨W.heap.size, 0, none⟩) 1 1] (W.alloc (.cells #[.string ⟨#[98, 105, 103, 32, 99, 97, 116, 115]⟩] T)) fun e w' => e = .returned (.bool true) ∧ Below (W.alloc (.cells #[.string ⟨#[98, 105, 103, 32, 99, 97, 116, 115]⟩] T)).heap.size (W.alloc (.cells #[.string ⟨#[98, 105, 103, 32, 99, 97, 116, 115]⟩] T)) w' :=
  eq_at _ _ [[98, 105, 103, 32, 99, 97, 116, 115]] _ (by decide) h.at2 (built [[98, 105, 103, 32, 99, 97, 116, 115]] _ rfl)
theorem eq3 {w : World} {a p b : Value} {W : World} {T : TypeId} (h : AW w a p b (W.alloc (.cells #[.string ⟨#[100, 111, 103]⟩] T))) :
    Calls Tryd.prog 11 #[b, .slice (some ⟨W.heap.size, 0, none⟩) 1 1] (W.alloc (.cells #[.string ⟨#[100, 111, 103]⟩] T)) fun e w' => e = .returned (.bool true) ∧ Below (W.alloc (.cells #[.string ⟨#[100, 111, 103]⟩] T)).heap.size (W.alloc (.cells #[.string ⟨#[100, 111, 103]⟩] T)) w' :=
  eq_at _ _ [[100, 111, 103]] _ (by decide) h.at3 (built [[100, 111, 103]] _ rfl)
theorem eq4a {v : Value} {W : World} {T : TypeId} (h : StrsAt W v [[99, 97, 116]]) :
    Calls Tryd.prog 11 #[v, .slice (some ⟨W.heap.size, 0, none⟩) 1 1] (W.alloc (.cells #[.string ⟨#[99, 97, 116]⟩] T)) fun e w' => e = .returned (.bool true) ∧ Below (W.alloc (.cells #[.string ⟨#[99, 97, 116]⟩] T)).heap.size (W.alloc (.cells #[.string ⟨#[99, 97, 116]⟩] T)) w' :=
  eq_at _ _ [[99, 97, 116]] _ (by decide) (h.keep ((Below.refl _ _).alloc (Nat.le_refl _) _)) (built [[99, 97, 116]] _ rfl)
theorem eq4b {v : Value} {W0 W : World} {T : TypeId} (h : StrsAt W v [[99, 97, 116]]) (hb : Below (W0.alloc (.cells #[.string ⟨#[99, 97, 116]⟩] T)).heap.size (W0.alloc (.cells #[.string ⟨#[99, 97, 116]⟩] T)) W) :
    Calls Tryd.prog 11 #[v, .slice (some ⟨W0.heap.size, 0, none⟩) 1 1] W fun e w' => e = .returned (.bool true) ∧ Below W.heap.size W w' :=
  eq_at _ _ [[99, 97, 116]] _ (by decide) h (StrsAt.keep (built [[99, 97, 116]] _ rfl) hb)
theorem found1 (W : World) (h : EnvB W) : Calls Tryd.prog 20 #[.string ⟨#[99, 97, 116, 115, 32, 45, 100, 111, 103]⟩, .string ⟨#[65, 32, 99, 97, 116]⟩] W fun e w' => e = .returned (.bool true) ∧ Below W.heap.size W w' := by
  refine (Found_any _ _ W h (by decide) (by decide)).mono ?_
  rintro e w' ⟨rfl, hb⟩
  have e : Wd.foundS [99, 97, 116, 115, 32, 45, 100, 111, 103] [65, 32, 99, 97, 116] = true := by decide +kernel
  exact ⟨congrArg (fun x => Ending.returned (Value.bool x)) e, hb⟩
theorem found2 (W : World) (h : EnvB W) : Calls Tryd.prog 20 #[.string ⟨#[99, 97, 116, 115, 32, 45, 100, 111, 103]⟩, .string ⟨#[67, 97, 116, 115, 32, 97, 110, 100, 32, 100, 111, 103, 115]⟩] W fun e w' => e = .returned (.bool false) ∧ Below W.heap.size W w' := by
  refine (Found_any _ _ W h (by decide) (by decide)).mono ?_
  rintro e w' ⟨rfl, hb⟩
  have e : Wd.foundS [99, 97, 116, 115, 32, 45, 100, 111, 103] [67, 97, 116, 115, 32, 97, 110, 100, 32, 100, 111, 103, 115] = false := by decide +kernel
  exact ⟨congrArg (fun x => Ending.returned (Value.bool x)) e, hb⟩
theorem score1 (W : World) (h : EnvB W) : Calls Tryd.prog 22 #[.string ⟨#[99, 97, 116]⟩, .string ⟨#[67, 97, 116, 44, 32, 99, 97, 116, 115, 32, 97, 110, 100, 32, 97, 32, 100, 111, 103]⟩] W fun e w' => e = .returned (.int .i64 20) ∧ Below W.heap.size W w' := by
  refine (Score_any _ _ W h (by decide) (by decide)).mono ?_
  rintro e w' ⟨rfl, hb⟩
  have e : Wd.scoreS [99, 97, 116] [67, 97, 116, 44, 32, 99, 97, 116, 115, 32, 97, 110, 100, 32, 97, 32, 100, 111, 103] = 20 := by decide +kernel
  exact ⟨congrArg (fun x : Nat => Ending.returned (Value.int .i64 x)) e, hb⟩
theorem stem1 (W : World) : Calls Tryd.prog 14 #[.string ⟨#[98, 101, 114, 114, 105, 101, 115]⟩] W fun e w' => e = .returned (.string ⟨#[98, 101, 114, 114, 121]⟩) ∧ W = w' := by
  refine (stem_any _ W (by decide)).mono ?_
  rintro e w' ⟨rfl, rfl⟩
  have e : Wd.stem [98, 101, 114, 114, 105, 101, 115] = [98, 101, 114, 114, 121] := by decide +kernel
  exact ⟨congrArg (fun x : Wd.Str => Ending.returned (Value.string (Wd.bs x))) e, rfl⟩
theorem tokens1 (W : World) : Calls Tryd.prog 12 #[.string ⟨#[97, 32, 98]⟩] W fun e w' => ∃ x c, e = .returned (.slice x 2 c) ∧ Below W.heap.size W w' := by
  refine (tokens_any _ W (by decide)).mono ?_
  rintro e w' ⟨v, rfl, hs⟩
  have e : Wd.tokens [97, 32, 98] = [[97], [98]] := by decide +kernel
  have hs' : SL W w' v [[97], [98]] := by rw [← e]; exact hs
  rcases hs'.reads with ⟨_, h⟩ | ⟨g, cap, rfl, _⟩
  · cases h
  · exact ⟨_, _, rfl, hs'.below⟩
theorem index1 (W : World) : Calls Tryd.prog 16 #[.string ⟨#[84, 104, 101, 32, 99, 97, 116, 115, 32, 97, 110, 100, 32, 116, 104, 101, 32, 99, 97, 116]⟩] W fun e w' => ∃ v, e = .returned v ∧ StrsAt w' v [[99, 97, 116]] ∧ Below W.heap.size W w' := by
  refine (index_any _ W (by decide)).mono ?_
  rintro e w' ⟨v, rfl, hs⟩
  have e : Wd.index [84, 104, 101, 32, 99, 97, 116, 115, 32, 97, 110, 100, 32, 116, 104, 101, 32, 99, 97, 116] = [[99, 97, 116]] := by decide +kernel
  have hs' : SL W w' v [[99, 97, 116]] := by rw [← e]; exact hs
  exact ⟨v, rfl, hs'.reads, hs'.below⟩
theorem parse1 (w W : World) (hb : Below w.heap.size w W) (h : EnvB W) : Calls Tryd.prog 18 #[.string ⟨#[114, 101, 100, 32, 34, 66, 105, 103, 32, 67, 97, 116, 115, 34, 32, 45, 100, 111, 103, 115]⟩] W fun e w' => ∃ a p b, e = .returned (.tuple #[a, p, b]) ∧ AW w a p b w' := by
  refine (parse_any _ W h (by decide)).mono ?_
  rintro e w' ⟨a, p, b, rfl, h1, h2, h3, h4⟩
  have e1 : Wd.uniq (Wd.parsed [114, 101, 100, 32, 34, 66, 105, 103, 32, 67, 97, 116, 115, 34, 32, 45, 100, 111, 103, 115]).need = [[98, 105, 103], [99, 97, 116], [114, 101, 100]] := by decide +kernel
  have e2 : (Wd.parsed [114, 101, 100, 32, 34, 66, 105, 103, 32, 67, 97, 116, 115, 34, 32, 45, 100, 111, 103, 115]).phr = [[98, 105, 103, 32, 99, 97, 116, 115]] := by decide +kernel
  have e3 : Wd.uniq (Wd.parsed [114, 101, 100, 32, 34, 66, 105, 103, 32, 67, 97, 116, 115, 34, 32, 45, 100, 111, 103, 115]).neg = [[100, 111, 103]] := by decide +kernel
  exact ⟨a, p, b, rfl, h.keep h4, by rw [← e1]; exact h1, by rw [← e2]; exact h2, by rw [← e3]; exact h3, hb.trans (h4.mono hb.size)⟩
set_option maxHeartbeats 4000000 in
theorem awake_any (w : World) (hw : EnvB w) : Calls Tryd.prog 10 #[] w fun e w' => e = .returned (.bool true) ∧ Below w.heap.size w w' := by
  have HW := Lib.hid hw
  clear hw
  go_enter Tryd.func10, Tryd.ntmps10
  go_wp2_with fail
  refine (parse1 w _ (Below.refl _ _) HW.out).mono ?_
  rintro e w1 ⟨a, p, b, rfl, hA⟩
  clear HW
  have HA := Lib.hid hA
  clear hA
  go_wp2_with fail
  refine (eq1 (HA.out.alloc _)).mono ?_
  rintro e w2 ⟨rfl, hb2⟩
  have HA2 := Lib.hid ((HA.out.alloc _).keep hb2)
  clear hb2 HA
  go_wp2_with fail
  refine (eq2 (HA2.out.alloc _)).mono ?_
  rintro e w3 ⟨rfl, hb2⟩
  have HA3 := Lib.hid ((HA2.out.alloc _).keep hb2)
  clear hb2 HA2
  go_wp2_with fail
  refine (eq3 (HA3.out.alloc _)).mono ?_
  rintro e w4 ⟨rfl, hb2⟩
  have HA4 := Lib.hid ((HA3.out.alloc _).keep hb2)
  clear hb2 HA3
  go_wp2_with fail
  refine (found1 _ HA4.out.env).mono ?_
  rintro e w5 ⟨rfl, hb2⟩
  have HA5 := Lib.hid (HA4.out.keep hb2)
  clear hb2 HA4
  go_wp2_with fail
  refine (found2 _ HA5.out.env).mono ?_
  rintro e w6 ⟨rfl, hb2⟩
  have HA6 := Lib.hid (HA5.out.keep hb2)
  clear hb2 HA5
  go_wp2_with fail
  refine (score1 _ HA6.out.env).mono ?_
  rintro e w7 ⟨rfl, hb2⟩
  have HA7 := Lib.hid (HA6.out.keep hb2)
  clear hb2 HA6
  go_wp2_with fail
  refine (stem1 _).mono ?_
  rintro e w8 ⟨rfl, rfl⟩
  go_wp2_with fail
  refine (tokens1 _).mono ?_
  rintro e w9 ⟨x9, c9, rfl, hb2⟩
  have HA9 := Lib.hid (HA7.out.keep hb2)
  clear hb2 HA7
  go_wp2_with fail
  refine (index1 _).mono ?_
  rintro e w10 ⟨v10, rfl, hv10, hb2⟩
  have HA10 := Lib.hid (HA9.out.keep hb2)
  have HV10 := Lib.hid hv10
  clear hb2 HA9 hv10
  go_wp2_with fail
  refine (eq4a HV10.out).mono ?_
  rintro e w11 ⟨rfl, hb2⟩
  have HA11 := Lib.hid ((HA10.out.alloc _).keep hb2)
  clear hb2 HA10
  go_wp2_with fail
  go_ret
  exact ⟨rfl, HA11.out.below⟩
end Go.Proofs.YtjedhlgflocjoaaDoor
