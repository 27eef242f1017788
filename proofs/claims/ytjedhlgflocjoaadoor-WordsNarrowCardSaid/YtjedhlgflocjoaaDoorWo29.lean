/- Words: the law Narrow. -/
import Derived.Test.YtjedhlgflocjoaaDoorWo26
import Derived.Test.YtjedhlgflocjoaaDoorWo28
import Derived.Lib.ConvBytes
namespace Wd
/-- whether a text has a quotation mark -/
def quo (l : Str) : Bool := List.contains l 34
theorem quo_iff {l : Str} : quo l = true ↔ 34 ∈ l := List.contains_iff_mem
end Wd
namespace Go.Proofs.YtjedhlgflocjoaaDoor
open Go.ChangeShapes Go.WideShapes Go.ChangeAt Go.RowKit Go.Sort
set_option linter.unusedVariables false
set_option linter.unusedSimpArgs false
theorem take_no (l : List UInt8) (c : UInt8) (k : Nat) (h : k < l.length) (h1 : c ∉ l.take k) (h2 : l[k] ≠ c) : c ∉ l.take (k + 1) := by
  rw [List.take_succ_eq_append_getElem h]
  intro hm
  rcases List.mem_append.1 hm with hm | hm
  · exact h1 hm
  · exact h2 (List.mem_singleton.1 hm).symm
set_option maxHeartbeats 1000000 in
theorem indexb_any (g c : Nat) (l : List UInt8) (w : World) (hl : l.length ≤ 1000000) (hc : ∀ j (h : j < l.length), w.cell? ⟨g, j, none⟩ = some (.int .u8 (l[j].toNat : Int))) :
    Calls Tryd.prog 48 #[.slice (some ⟨g, 0, none⟩) l.length c, .int .u8 34] w fun e w' => (∃ i : Int, e = .returned (.int .i64 i) ∧ decide (0 ≤ i) = Wd.quo l) ∧ w = w' := by
  have HC := Lib.hid hc
  clear hc
  go_enter Tryd.func48, Tryd.ntmps48
  go_wp2_with fail
  go_loop [8] (fun i => ∃ k : Nat, k ≤ l.length ∧ i = .int .i64 k ∧ 34 ∉ l.take k) (fun i => l.length - (intOf i).toNat)
  case atStart => exact ⟨0, Nat.zero_le _, rfl, by simp⟩
  case round =>
    obtain ⟨k, hk, rfl, hno⟩ := hrel
    have HNO := Lib.hid hno
    clear hno
    by_cases hlt : k < l.length
    · have hcell := HC.out k hlt
      have HT := Lib.hid (take_no l 34 k hlt HNO.out)
      have HM := Lib.hid (List.getElem_mem hlt)
      generalize hy : l[k] = y at *
      clear hy
      by_cases h34 : y = 34
      · have HY : Hid (Wd.quo l = true) := Lib.hid (by rw [Wd.quo_iff, ← h34]; exact HM.out)
        subst h34
        clear HT HM
        have t1 : ((34 : Int) == (((34 : UInt8).toNat : Nat) : Int)) = true := rfl
        go_wp2_with fail
        go_ret
        exact ⟨⟨k, rfl, by rw [HY.out]; simp⟩, rfl⟩
      · have HN := Lib.hid (HT.out h34)
        have t1 : ((34 : Int) == (y.toNat : Int)) = false := by
          rw [beq_eq_false_iff_ne]
          intro e
          exact h34 (UInt8.toNat_inj.1 (by show y.toNat = 34; omega))
        clear h34 HT HM
        go_wp2_with fail
        go_round
        case rel => exact ⟨k + 1, by omega, by go_num, HN.out⟩
        case measure => simp [intOf] <;> omega
    · obtain rfl : k = l.length := by omega
      have HY : Hid (Wd.quo l = false) := Lib.hid (by
        have h := HNO.out
        rw [List.take_of_length_le (Nat.le_refl _)] at h
        rw [Bool.eq_false_iff]
        exact fun h2 => h (Wd.quo_iff.1 h2))
      clear HNO
      go_wp2_with fail
      go_ret
      exact ⟨⟨-1, rfl, by rw [HY.out]; rfl⟩, rfl⟩
theorem containsb_any (g c : Nat) (l : List UInt8) (w : World) (hl : l.length ≤ 1000000) (hc : ∀ j (h : j < l.length), w.cell? ⟨g, j, none⟩ = some (.int .u8 (l[j].toNat : Int))) :
    Calls Tryd.prog 24 #[.slice (some ⟨g, 0, none⟩) l.length c, .int .u8 34] w fun e w' => e = .returned (.bool (Wd.quo l)) ∧ w = w' := by
  have HI := Lib.hid (indexb_any g c l w hl hc)
  clear hc
  go_enter Tryd.func24, Tryd.ntmps24
  go_wp2_with fail
  refine HI.out.mono ?_
  rintro e w1 ⟨⟨i, rfl, hi⟩, rfl⟩
  have HB := Lib.hid hi
  clear hi
  go_wp2_with fail
  go_ret
  exact ⟨by rw [← HB.out]; rfl, rfl⟩
theorem bytes_below (w : World) (e : TypeId) (s : ByteArray) : Below w.heap.size w (Lib.bytesWorld w e s) := by
  refine ⟨rfl, rfl, rfl, by rw [Lib.bytesWorld_size]; omega, fun j hj => ?_⟩
  first | exact Lib.bytesWorld_at_old w e s j hj | (show (Lib.bytesWorld w e s).heap[j]? = w.heap[j]?; exact Lib.bytesWorld_at_old w e s j hj)
set_option maxHeartbeats 2000000 in
theorem narrow_late (s x t : ByteArray) (w : World) (h : ¬ (s.size ≤ 3000 ∧ x.size ≤ 3000 ∧ t.size ≤ 3000)) (hw : EnvB w) : Calls Tryd.prog 6 #[.string s, .string x, .string t] w fun e w' => e = .returned (.bool true) ∧ Below w.heap.size w w' := by
  have HW := Lib.hid hw
  clear hw
  have HA := Lib.hid (awake_any w HW.out)
  by_cases h1 : s.size ≤ 3000
  · by_cases h2 : x.size ≤ 3000
    · have h3 : 3000 < t.size := by omega
      clear h
      go_enter Tryd.func6, Tryd.ntmps6
      go_wp2_with fail
      refine HA.out.mono ?_
      rintro e w9 ⟨rfl, hb9⟩
      have HB9 := Lib.hid hb9
      clear hb9
      go_wp2_with fail
      go_ret
      exact ⟨rfl, HB9.out⟩
    · have h3 : 3000 < x.size := by omega
      clear h h2
      go_enter Tryd.func6, Tryd.ntmps6
      go_wp2_with fail
      refine HA.out.mono ?_
      rintro e w9 ⟨rfl, hb9⟩
      have HB9 := Lib.hid hb9
      clear hb9
      go_wp2_with fail
      go_ret
      exact ⟨rfl, HB9.out⟩
  · have h3 : 3000 < s.size := by omega
    clear h h1
    go_enter Tryd.func6, Tryd.ntmps6
    go_wp2_with fail
    refine HA.out.mono ?_
    rintro e w9 ⟨rfl, hb9⟩
    have HB9 := Lib.hid hb9
    clear hb9
    go_wp2_with fail
    go_ret
    exact ⟨rfl, HB9.out⟩
set_option maxHeartbeats 2000000 in
theorem narrow_in (s x t : ByteArray) (w : World) (hw : EnvB w) (h : s.size ≤ 3000) (h2 : x.size ≤ 3000) (h3 : t.size ≤ 3000) : Calls Tryd.prog 6 #[.string s, .string x, .string t] w fun e w' => e = .returned (.bool true) ∧ Below w.heap.size w w' := by
  have HW := Lib.hid hw
  clear hw
  have hcv : (convert 9 33 (.string (s ++ x))).run Tryd.prog w = .ok (.slice (some ⟨w.heap.size, 0, none⟩) (s ++ x).size (grownCap w (s ++ x).size 0 5)) (Lib.bytesWorld w 5 (s ++ x)) := Lib.run_convert_string_bytes (P := Tryd.prog) w 9 33 5 (s ++ x) (u := .string) Tryd.underlying9 (by kernel_rfl) Tryd.underlying5
  have t1 : decide ((3000 : Int) < (s.size : Int)) = false := by simp; omega
  have t2 : decide ((3000 : Int) < (x.size : Int)) = false := by simp; omega
  have t3 : decide ((3000 : Int) < (t.size : Int)) = false := by simp; omega
  have HZ : Hid ((s ++ x).size = s.size + x.size) := Lib.hid (by simp)
  have HH : Hid (s.size ≤ 3000 ∧ x.size ≤ 3000 ∧ t.size ≤ 3000) := Lib.hid ⟨h, h2, h3⟩
  have hsum : s.size + x.size ≤ 9223372036854775807 := by omega
  have hsum2 : ¬ (9223372036854775807 < s.size + x.size) := by omega
  have HTW : Hid (∀ W, Calls Tryd.prog 12 #[.string x] W fun e w' => ∃ v, e = .returned v ∧ StrsAt w' v (Wd.tokens x.data.toList) ∧ Below W.heap.size W w') := Lib.hid (fun W => by
    refine (tokens_any x W (by omega)).mono ?_
    rintro e w' ⟨v, rfl, hs⟩
    exact ⟨v, rfl, hs.reads, hs.below⟩)
  have HAPP : Hid ((s ++ x).data.toList = s.data.toList ++ x.data.toList) := Lib.hid (by simp)
  have HCB : Hid (∀ c, Calls Tryd.prog 24 #[.slice (some ⟨w.heap.size, 0, none⟩) (s.size + x.size) c, .int .u8 34] (Lib.bytesWorld w 5 (s ++ x)) fun e w' => e = .returned (.bool (Wd.quo (s ++ x).data.toList)) ∧ Lib.bytesWorld w 5 (s ++ x) = w') := Lib.hid (fun c => by
    have e : (s ++ x).data.toList.length = s.size + x.size := by rw [size_list]; simp
    rw [← e]
    refine containsb_any _ c _ _ (by omega) (fun j hj => ?_)
    rw [Lib.bytesWorld_cell w 5 (s ++ x) j (by rw [size_list] at hj; exact hj)]
    rw [List.getD_eq_getElem?_getD, List.getElem?_eq_getElem hj]
    rfl)
  have HB0 := Lib.hid (bytes_below w 5 (s ++ x))
  clear h h2 h3
  go_enter Tryd.func6, Tryd.ntmps6
  set_option maxRecDepth 4000 in go_wp2_with fail
  refine (HCB.out _).mono ?_
  rintro e w1 ⟨rfl, rfl⟩
  clear HCB hcv
  generalize Lib.bytesWorld w 5 (s ++ x) = W1 at *
  cases hq : Wd.quo (s ++ x).data.toList with
  | true =>
    go_wp2_with fail
    refine (awake_any _ (HW.out.keep HB0.out)).mono ?_
    rintro e w9 ⟨rfl, hb9⟩
    have HB9 := Lib.hid (below_all HB0.out hb9)
    clear hb9
    go_wp2_with fail
    go_ret
    exact ⟨rfl, HB9.out⟩
  | false =>
    have HQ := Lib.hid hq
    clear hq
    go_wp2_with fail
    refine (HTW.out _).mono ?_
    rintro e w2 ⟨v, rfl, hv, hb⟩
    have HV := Lib.hid hv
    have HB2 := Lib.hid (below_all HB0.out hb)
    obtain ⟨xv, cv, rfl⟩ := strs_shape hv
    clear hv hb HB0
    have HOWN : Hid (Wd.tokens x.data.toList = [x.data.toList] → Wd.quo (s ++ x).data.toList = false → Wd.foundS (s.data.toList ++ 32 :: 45 :: x.data.toList) t.data.toList = true → Wd.foundS s.data.toList t.data.toList = true) := Lib.hid (fun h1 h2 h3 => by
      have h4 : ¬ 34 ∈ s.data.toList ++ x.data.toList := fun hm => by
        rw [HAPP.out] at h2
        rw [Wd.quo_iff.2 hm] at h2
        cases h2
      exact Wd.found_less _ _ _ (fun h => h4 (List.mem_append_left _ h)) (fun h => h4 (List.mem_append_right _ h)) h1 h3)
    generalize Wd.tokens x.data.toList = ts at *
    by_cases hlen : ts.length = 1
    · rw [hlen]
      go_wp2_with fail
      refine (HTW.out _).mono ?_
      rintro e w3 ⟨v3, rfl, hv, hb⟩
      have HV3 := Lib.hid hv
      have HB3 := Lib.hid (below_all HB2.out hb)
      obtain ⟨xv3, cv3, rfl⟩ := strs_shape hv
      clear hv hb HB2
      obtain ⟨g3, rfl, _, hc3⟩ := strs_at HV3.out 0 (by omega)
      obtain ⟨y, rfl⟩ : ∃ y, ts = [y] := List.length_eq_one_iff.1 hlen
      have hc3' : w3.cell? ⟨g3, 0, none⟩ = some (.string (Wd.bs y)) := hc3
      clear hc3 hlen
      cases hxy : ((Wd.bs y).toList == x.toList) with
      | false =>
        go_wp2_with fail
        refine (awake_any _ (HW.out.keep HB3.out)).mono ?_
        rintro e w9 ⟨rfl, hb9⟩
        have HB9 := Lib.hid (below_all HB3.out hb9)
        clear hb9
        go_wp2_with fail
        go_ret
        exact ⟨rfl, HB9.out⟩
      | true =>
        have hyx : y = x.data.toList := by
          have h := beq_iff_eq.1 hxy
          rw [Lib.toList_data, Lib.toList_data] at h
          exact h
        have HO2 := Lib.hid (HOWN.out (by rw [hyx]) HQ.out)
        have hs1 : s.size + 2 ≤ 9223372036854775807 := by have := HH.out; omega
        have hs2 : ¬ (9223372036854775807 < s.size + 2) := by have := HH.out; omega
        have hs3 : s.size + 2 + x.size ≤ 9223372036854775807 := by have := HH.out; omega
        have hs4 : ¬ (9223372036854775807 < s.size + 2 + x.size) := by have := HH.out; omega
        have HF1 : Hid (∀ W, EnvB W → Calls Tryd.prog 20 #[.string s, .string t] W fun e w' => e = .returned (.bool (Wd.foundS s.data.toList t.data.toList)) ∧ Below W.heap.size W w') := Lib.hid (fun W hW => Found_any s t W hW (by have := HH.out; omega) (by have := HH.out; omega))
        have HF2 : Hid (∀ W, EnvB W → Calls Tryd.prog 20 #[.string (s ++ ⟨#[32, 45]⟩ ++ x), .string t] W fun e w' => e = .returned (.bool (Wd.foundS (s.data.toList ++ 32 :: 45 :: x.data.toList) t.data.toList)) ∧ Below W.heap.size W w') := Lib.hid (fun W hW => by
          have e : (s ++ (⟨#[32, 45]⟩ : ByteArray) ++ x).data.toList = s.data.toList ++ 32 :: 45 :: x.data.toList := by simp
          rw [← e]
          refine Found_any _ t W hW ?_ (by have := HH.out; omega)
          have e2 : (s ++ (⟨#[32, 45]⟩ : ByteArray) ++ x).size = s.size + 2 + x.size := by simp; rfl
          rw [e2]
          have := HH.out
          omega)
        generalize Wd.foundS (s.data.toList ++ 32 :: 45 :: x.data.toList) t.data.toList = f2 at *
        generalize Wd.foundS s.data.toList t.data.toList = f1 at *
        clear HOWN hyx
        cases f1 with
        | true =>
          go_wp2_with fail
          refine (HF1.out _ (HW.out.keep HB3.out)).mono ?_
          rintro e w4 ⟨rfl, hb⟩
          have HB4 := Lib.hid (below_all HB3.out hb)
          clear hb HF1 HF2
          go_wp2_with fail
          refine (awake_any _ (HW.out.keep HB4.out)).mono ?_
          rintro e w9 ⟨rfl, hb9⟩
          have HB9 := Lib.hid (below_all HB4.out hb9)
          clear hb9
          go_wp2_with fail
          go_ret
          exact ⟨rfl, HB9.out⟩
        | false =>
          have hf2 : f2 = false := by
            cases f2 with
            | false => rfl
            | true => exact absurd (HO2.out rfl) (by decide)
          subst hf2
          clear HO2
          go_wp2_with fail
          refine (HF1.out _ (HW.out.keep HB3.out)).mono ?_
          rintro e w4 ⟨rfl, hb⟩
          have HB4 := Lib.hid (below_all HB3.out hb)
          clear hb HF1
          go_wp2_with fail
          refine (HF2.out _ (HW.out.keep HB4.out)).mono ?_
          rintro e w5 ⟨rfl, hb⟩
          have HB5 := Lib.hid (below_all HB4.out hb)
          clear hb HF2
          go_wp2_with fail
          refine (awake_any _ (HW.out.keep HB5.out)).mono ?_
          rintro e w9 ⟨rfl, hb9⟩
          have HB9 := Lib.hid (below_all HB5.out hb9)
          clear hb9
          go_wp2_with fail
          go_ret
          exact ⟨rfl, HB9.out⟩
    · go_wp2_with fail
      refine (awake_any _ (HW.out.keep HB2.out)).mono ?_
      rintro e w9 ⟨rfl, hb9⟩
      have HB9 := Lib.hid (below_all HB2.out hb9)
      clear hb9
      go_wp2_with fail
      go_ret
      exact ⟨rfl, HB9.out⟩
theorem law_narrow (s x t : ByteArray) (w : World) (hw : EnvB w) : Calls Tryd.prog 6 #[.string s, .string x, .string t] w fun e w' => e = .returned (.bool true) ∧ Below w.heap.size w w' := by
  by_cases h : s.size ≤ 3000 ∧ x.size ≤ 3000 ∧ t.size ≤ 3000
  · exact narrow_in s x t w hw h.1 h.2.1 h.2.2
  · exact narrow_late s x t w h hw
end Go.Proofs.YtjedhlgflocjoaaDoor
