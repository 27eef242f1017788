/- Words: the law Joined. -/
import Derived.Test.YtjedhlgflocjoaaDoorWo30
import Derived.Deep.RegionHeld3
namespace Go.Proofs.YtjedhlgflocjoaaDoor
open Go.ChangeShapes Go.WideShapes Go.ChangeAt Go.RowKit Go.Sort
set_option linter.unusedVariables false
set_option linter.unusedSimpArgs false
theorem src_at {W : World} {v : Value} {ls : List Wd.Str} (h : StrsAt W v ls) : SrcAt W v ls := by
  rcases h with ⟨rfl, rfl⟩ | ⟨g, cap, rfl, _, _, hc⟩
  · exact .inl ⟨0, rfl, rfl⟩
  · exact .inr ⟨⟨g, 0, none⟩, cap, rfl, fun j hj => by have := hc j hj; by_cases h0 : j = 0 <;> simp [Addr.add, h0] at this ⊢ <;> (first | exact this | (subst h0; exact this))⟩
set_option maxHeartbeats 2000000 in
theorem joined_in (s x : ByteArray) (w : World) (hw : EnvB w) (h : s.size ≤ 3000) (h2 : x.size ≤ 3000) : Calls Tryd.prog 9 #[.string s, .string x] w fun e w' => e = .returned (.bool true) ∧ Below w.heap.size w w' := by
  have HW := Lib.hid hw
  clear hw
  have hs1 : s.size + 1 ≤ 9223372036854775807 := by omega
  have hs2 : ¬ (9223372036854775807 < s.size + 1) := by omega
  have hs3 : s.size + 1 + x.size ≤ 9223372036854775807 := by omega
  have hs4 : ¬ (9223372036854775807 < s.size + 1 + x.size) := by omega
  have HTA : Hid (∀ W, Calls Tryd.prog 12 #[.string s] W fun e w' => ∃ v, e = .returned v ∧ SL W w' v (Wd.tokens s.data.toList)) := Lib.hid (fun W => tokens_any s W (by omega))
  have HTB : Hid (∀ W, Calls Tryd.prog 12 #[.string x] W fun e w' => ∃ v, e = .returned v ∧ SL W w' v (Wd.tokens x.data.toList)) := Lib.hid (fun W => tokens_any x W (by omega))
  have HTC : Hid (∀ W, Calls Tryd.prog 12 #[.string (s ++ ⟨#[32]⟩ ++ x)] W fun e w' => ∃ v, e = .returned v ∧ SL W w' v (Wd.tokens s.data.toList ++ Wd.tokens x.data.toList)) := Lib.hid (fun W => by
    have e : (s ++ (⟨#[32]⟩ : ByteArray) ++ x).data.toList = s.data.toList ++ 32 :: x.data.toList := by simp
    rw [← Wd.tokens_cat, ← e]
    refine tokens_any _ W ?_
    have e2 : (s ++ (⟨#[32]⟩ : ByteArray) ++ x).size = s.size + 1 + x.size := by simp; rfl
    rw [e2]
    omega)
  have HL1 : Hid ((Wd.tokens s.data.toList).length ≤ 3000) := Lib.hid (by have := Wd.tokens_len s.data.toList; rw [size_list] at this; omega)
  have HL2 : Hid ((Wd.tokens x.data.toList).length ≤ 3000) := Lib.hid (by have := Wd.tokens_len x.data.toList; rw [size_list] at this; omega)
  have HOWN : Hid (∀ y ∈ Wd.tokens s.data.toList, y.length ≤ 3000 ∧ Wd.tokens y = [y]) := Lib.hid (fun y hy => ⟨by have := Wd.tokens_each s.data.toList y hy; rw [size_list] at this; omega, Wd.tokens_own _ y hy⟩)
  generalize Wd.tokens s.data.toList = ta at *
  generalize Wd.tokens x.data.toList = tb at *
  go_enter Tryd.func9, Tryd.ntmps9
  go_wp2_with fail
  refine (HTA.out _).mono ?_
  rintro e w1 ⟨va, rfl, hv⟩
  have HVA := Lib.hid hv
  clear hv HTA
  go_wp2_with fail
  refine (HTB.out _).mono ?_
  rintro e w2 ⟨vb, rfl, hv⟩
  have HA2 := Lib.hid (HVA.out.keep hv.below)
  have HVB := Lib.hid hv
  clear hv HTB HVA
  have HAR := HA2.out.reads
  have HBR := HVB.out.reads
  obtain ⟨xa, ca, rfl⟩ := strs_shape HAR
  obtain ⟨xb, cb, rfl⟩ := strs_shape HBR
  have hca : ta.length ≤ ca := by
    rcases HAR with ⟨h, h'⟩ | ⟨g, cap, e, hc, _⟩
    · rw [h']; exact Nat.zero_le _
    · injection e with e1 e2 e3
      rw [e3]; exact hc
  clear HAR HBR
  have hl1 := HL1.out
  have hl2 := HL2.out
  go_wp2_with fail
  go_loopw [23] (fun i wr => ∃ k : Nat, k ≤ ta.length ∧ i = .int .i64 k ∧ Below w2.heap.size w2 wr) (fun i _ => ta.length - (intOf i).toNat)
  case atStart => exact ⟨0, Nat.zero_le _, rfl, Below.refl _ _⟩
  case round =>
    obtain ⟨k, hk, rfl, hbk⟩ := hrel
    have HBK := Lib.hid hbk
    clear hbk
    by_cases hlt : k < ta.length
    · have HAK := Lib.hid (HA2.out.keep HBK.out)
      obtain ⟨g, rfl, _, hc⟩ := strs_at HAK.out.reads k hlt
      have HY := Lib.hid (HOWN.out _ (List.getElem_mem hlt))
      generalize ta[k] = y at *
      have HTY : Hid (∀ W, Calls Tryd.prog 12 #[.string (Wd.bs y)] W fun e w' => ∃ v, e = .returned v ∧ StrsAt w' v [y] ∧ Below W.heap.size W w') := Lib.hid (fun W => by
        refine (tokens_any (Wd.bs y) W (by rw [Wd.bs_size]; have := HY.out.1; omega)).mono ?_
        rintro e w' ⟨v, rfl, hs⟩
        have e1 : Wd.tokens (Wd.bs y).data.toList = [y] := HY.out.2
        rw [e1] at hs
        exact ⟨v, rfl, hs.reads, hs.below⟩)
      have hS0 : Below wr.heap.size wr wr.drew ∧ wr.drew.cell? ⟨g, k, none⟩ = some (.string (Wd.bs y)) := ⟨below_drewN wr 1, hc⟩
      have hi0 : (0 : Int) ≤ (k : Int) := by omega
      have hi1 : (k : Int) ≤ (k : Int) + 1 := by omega
      have hi2 : (k : Int) + 1 ≤ (ca : Int) := by omega
      have hi3 : (k : Int) < (ta.length : Int) := by omega
      have hwr : IntKind.i64.wrap ((k : Int) + 1) = (k : Int) + 1 := IntWalk.i64_in _ (by omega)
      go_wp2_with fail
      go_region_held3 (fun W => Below wr.heap.size wr W ∧ W.cell? ⟨g, k, none⟩ = some (.string (Wd.bs y))) (first | assumption | (refine ls_keep ?_ (by assumption); assumption))
        (first
          | (go_at_call 12; refine (HTY.out _).mono ?_; rintro e wq ⟨vq, rfl, hvq, hbq⟩)
          | (go_at_call 11; refine (eq_sub _ y g k _ _ (by assumption) (And.right (by assumption))).mono ?_; rintro e wq ⟨rfl, hbq2⟩))
      all_goals go_wp2_with fail
      all_goals go_roundw
      all_goals first
        | exact ⟨k + 1, by omega, by go_num, below_all HBK.out (And.left (by assumption))⟩
        | (simp [intOf] <;> omega)
    · obtain rfl : k = ta.length := by omega
      have HB3 := Lib.hid (below_all HA2.out.below HBK.out)
      have hlen : (ta ++ tb).length ≤ 6000 := by rw [List.length_append]; omega
      clear HOWN
      go_wp2_with fail
      refine (HTC.out _).mono ?_
      rintro e w4 ⟨vt, rfl, hv⟩
      have HVT := Lib.hid hv
      clear hv HTC
      have HA4 := Lib.hid ((HA2.out.reads.keep HBK.out).keep HVT.out.below)
      go_wp2_with fail
      refine (clone_any _ ta w4 HA4.out (by omega)).mono ?_
      rintro e w5 ⟨vc, rfl, hv⟩
      have HVC := Lib.hid hv
      clear hv
      have hsrc := src_at (((HVB.out.reads.keep HBK.out).keep HVT.out.below).keep HVC.out.below)
      have hz := HVC.out.below.size
      go_wp2_with (with_reducible refine wpList_appM 45 46 w4.heap.size vc (.slice xb tb.length cb) ta tb _ _ _ _ _ HVC.out.own hsrc ?_ ?_)
      · exact ⟨rfl, rfl, by omega, by omega, hz⟩
      rintro v' w6 ho hg hb
      have HS6 := Lib.hid (show SL w4 w6 v' (ta ++ tb) from HVC.out.grown ho hg)
      clear ho hg hb hsrc hz
      have HVT6 := Lib.hid (HVT.out.reads.keep HS6.out.below)
      have HB6 := Lib.hid (below_all (below_all HB3.out HVT.out.below) HS6.out.below)
      have HS6R := Lib.hid HS6.out.reads
      generalize ta ++ tb = tab at *
      clear HVC HVT HA4 HS6
      go_wp2_with fail
      refine (eq_at vt v' tab w6 (by omega) HVT6.out HS6R.out).mono ?_
      rintro e w7 ⟨rfl, hb7⟩
      have HB7 := Lib.hid (below_all HB6.out hb7)
      clear hb7
      go_wp2_with fail
      refine (awake_any _ (HW.out.keep HB7.out)).mono ?_
      rintro e w9 ⟨rfl, hb9⟩
      have HB9 := Lib.hid (below_all HB7.out hb9)
      clear hb9
      go_wp2_with fail
      go_ret
      exact ⟨rfl, HB9.out⟩
theorem law_joined (s x : ByteArray) (w : World) (hw : EnvB w) : Calls Tryd.prog 9 #[.string s, .string x] w fun e w' => e = .returned (.bool true) ∧ Below w.heap.size w w' := by
  by_cases h : s.size ≤ 3000
  · by_cases h2 : x.size ≤ 3000
    · exact joined_in s x w hw h h2
    · have HW := Lib.hid hw
      clear hw
      have h' : 3000 < x.size := by omega
      go_enter Tryd.func9, Tryd.ntmps9
      go_wp2_with fail
      refine (awake_any _ HW.out).mono ?_
      rintro e w9 ⟨rfl, hb9⟩
      have HB9 := Lib.hid hb9
      clear hb9
      go_wp2_with fail
      go_ret
      exact ⟨rfl, HB9.out⟩
  · have HW := Lib.hid hw
    clear hw
    have h' : 3000 < s.size := by omega
    go_enter Tryd.func9, Tryd.ntmps9
    go_wp2_with fail
    refine (awake_any _ HW.out).mono ?_
    rintro e w9 ⟨rfl, hb9⟩
    have HB9 := Lib.hid hb9
    clear hb9
    go_wp2_with fail
    go_ret
    exact ⟨rfl, HB9.out⟩
end Go.Proofs.YtjedhlgflocjoaaDoor
