/- Words: the search in an ascending list; found. -/
import Derived.Test.YtjedhlgflocjoaaDoorWo20
namespace Wd
theorem lt_count (l : List Str) (x : Str) (ha : Asc l) : ∃ k, k ≤ l.length ∧ (∀ t (h : t < l.length), t < k → l[t] < x) ∧ (∀ t (h : t < l.length), k ≤ t → ¬ l[t] < x) := by
  induction l with
  | nil => exact ⟨0, Nat.le_refl _, fun t h => absurd h (by simp), fun t h => absurd h (by simp)⟩
  | cons y l ih =>
    have ha' := List.pairwise_cons.1 ha
    by_cases hy : y < x
    · obtain ⟨k, h1, h2, h3⟩ := ih ha'.2
      refine ⟨k + 1, by simp; omega, fun t h ht => ?_, fun t h ht => ?_⟩
      · match t with
        | 0 => exact hy
        | t + 1 => exact h2 t (by simpa using h) (by omega)
      · match t with
        | 0 => omega
        | t + 1 => exact h3 t (by simpa using h) (by omega)
    · refine ⟨0, Nat.zero_le _, fun t h ht => by omega, fun t h ht => ?_⟩
      match t with
      | 0 => exact hy
      | t + 1 =>
        have := ha'.1 (l[t]'(by simpa using h)) (List.getElem_mem _)
        exact fun h' => hy (str_trans this h')
/-- whether a text is found by a search's parts -/
def foundB (n p g : List Str) (t : Str) : Bool := !(n.isEmpty && p.isEmpty) && (n.isEmpty || n.any (has (index t))) && p.all (Go.Lib.contains (lower t)) && !g.any (has (index t))
def hitsB (n : List Str) (ws : List Str) : Nat := (ws.filter (fun w => has n (stem w) && !stop w)).length
def foundS (s t : Str) : Bool := foundB (uniq (parsed s).need) (parsed s).phr (uniq (parsed s).neg) t
def scoreB (n p g : List Str) (t : Str) : Nat := if foundB n p g t then 5 * p.length + 10 * hitsB n (tokens t) else 0
def scoreS (s t : Str) : Nat := scoreB (uniq (parsed s).need) (parsed s).phr (uniq (parsed s).neg) t
theorem asc_index (t : Str) : Asc (index t) := (asc_uniq _).sublist (List.take_sublist _ _)
end Wd
namespace Go.Proofs.YtjedhlgflocjoaaDoor
open Go.ChangeShapes Go.WideShapes Go.ChangeAt Go.RowKit Go.Sort
set_option linter.unusedVariables false
set_option linter.unusedSimpArgs false
theorem bsearch_any (v : Value) (l : List Wd.Str) (x : ByteArray) (w : World) (hv : StrsAt w v l) (hl : l.length ≤ 1000000) (ha : Wd.Asc l) :
    Calls Tryd.prog 45 #[v, .string x] w fun e w' => ∃ i : Nat, e = .returned (.tuple #[.int .i64 i, .bool (Wd.has l x.data.toList)]) ∧ ∃ q, w' = w.drewN q := by
  rcases hv with ⟨rfl, rfl⟩ | ⟨g, cap, rfl, hc, hg, hcell⟩
  · refine (Go.Proofs.Any2.slices_BinarySearch_string_empty Tryd.laysBS none 0 x w).mono ?_
    rintro e w' ⟨rfl, rfl⟩
    exact ⟨0, rfl, 0, rfl⟩
  · refine (Go.Proofs.Any2.slices_BinarySearch_string Tryd.laysBS g 0 l.length cap (fun t => if h : t < l.length then Wd.bs l[t] else x) x w (by omega) (fun j hj => ?_)).mono ?_
    · rw [Nat.zero_add, hcell j hj]; simp [hj]
    · rintro e w' ⟨rfl, q, rfl⟩
      obtain ⟨k, hk, h1, h2⟩ := Wd.lt_count l x.data.toList ha
      have hless : ∀ t, Op.bytesLess (if h : t < l.length then Wd.bs l[t] else x).toList x.toList = decide (∃ h : t < l.length, l[t] < x.data.toList) := by
        intro t
        by_cases h : t < l.length
        · rw [dif_pos h, bytesLess_eq, Lib.toList_data, Lib.toList_data]
          have e : (Wd.bs l[t]).data.toList = l[t] := rfl
          rw [e]
          simp [h]
        · rw [dif_neg h, bytesLess_eq, decide_eq_false (Wd.str_irrefl _)]
          exact (decide_eq_false (fun ⟨h3, _⟩ => h h3)).symm
      have hk2 : Lib.bsGo (fun t => Op.bytesLess (if h : t < l.length then Wd.bs l[t] else x).toList x.toList) l.length 0 l.length = k := by
        refine Lib.bsGo_spec _ k (fun t ht => ?_) (fun t ht => ?_) l.length 0 l.length (by omega) (by omega) hk
        · rw [hless]; exact decide_eq_true ⟨by omega, h1 t (by omega) ht⟩
        · rw [hless]; exact decide_eq_false (fun ⟨h, h3⟩ => h2 t h ht h3)
      refine ⟨k, ?_, q, rfl⟩
      rw [hk2]
      have e : decide (k < l.length ∧ (if h : k < l.length then Wd.bs l[k] else x) = x) = Wd.has l x.data.toList := by
        rw [Bool.eq_iff_iff, decide_eq_true_eq, Wd.has_iff]
        constructor
        · rintro ⟨h, h3⟩
          rw [dif_pos h] at h3
          rw [← h3]
          exact List.getElem_mem h
        · intro hm
          obtain ⟨j, hj, e⟩ := List.getElem_of_mem hm
          have hkj : k = j := by
            rcases Nat.lt_trichotomy k j with h | h | h
            · have h4 := h2 k (by omega) (Nat.le_refl _)
              have h5 := (List.pairwise_iff_getElem.1 ha) k j (by omega) hj h
              rw [e] at h5
              exact absurd h5 h4
            · exact h
            · have := h1 j hj h
              rw [e] at this
              exact absurd this (Wd.str_irrefl _)
          subst hkj
          refine ⟨hj, ?_⟩
          rw [dif_pos hj, e]
          rfl
      rw [e]
set_option maxHeartbeats 400000 in
theorem has1_any (b : Nat) (sv : Value) (l : List Wd.Str) (x : Wd.Str) (w : World) (hb : w.cell? ⟨b, 0, none⟩ = some sv) (hv : StrsAt w sv l) (hl : l.length ≤ 1000000) (ha : Wd.Asc l) :
    Calls Tryd.prog 65 #[.string (Wd.bs x), .pointer (some ⟨b, 0, none⟩)] w fun e w' => e = .returned (.bool (Wd.has l x)) ∧ ∃ q, w' = w.drewN q := by
  have HB := Lib.hid (fun w h => bsearch_any sv l (Wd.bs x) w h hl ha)
  have HV := Lib.hid hv
  clear hv
  have hsv : ∃ a n c, sv = .slice a n c := by
    rcases HV.out with ⟨rfl, _⟩ | ⟨g, cap, rfl, _⟩
    · exact ⟨_, _, _, rfl⟩
    · exact ⟨_, _, _, rfl⟩
  obtain ⟨a, n, c, rfl⟩ := hsv
  go_enter Tryd.func65, Tryd.ntmps65
  go_wp2_with fail
  refine (HB.out _ HV.out).mono ?_
  rintro e w1 ⟨i, rfl, q, rfl⟩
  have hbs : (Wd.bs x).data.toList = x := rfl
  rw [hbs]
  go_wp2_with fail
  go_ret
  exact ⟨rfl, q, rfl⟩
theorem cfunc_any (v : Value) (ls : List Wd.Str) (b : Nat) (sv : Value) (l : List Wd.Str) (w : World) (hv : StrsAt w v ls) (hls : ls.length ≤ 1000000) (hb : w.cell? ⟨b, 0, none⟩ = some sv) (hbl : b < w.heap.size) (hsv : StrsAt w sv l) (hl : l.length ≤ 1000000) (ha : Wd.Asc l) :
    Calls Tryd.prog 66 #[v, .func (.func 65) #[] #[.pointer (some ⟨b, 0, none⟩)]] w fun e w' => e = .returned (.bool (ls.any (Wd.has l))) ∧ ∃ q, w' = w.drewN q := by
  rcases hv with ⟨rfl, rfl⟩ | ⟨g, cap, rfl, hc, hg, hcell⟩
  · refine (Tryd.slices_ContainsFunc_empty (α := Wd.Str) none 0 _ w).mono ?_
    rintro e w' ⟨rfl, rfl⟩
    exact ⟨rfl, 0, rfl⟩
  · refine (Tryd.slices_ContainsFunc (fun x : Wd.Str => .string (Wd.bs x)) (Wd.has l) 65 #[.pointer (some ⟨b, 0, none⟩)] (enters_of Tryd.func65 (by kernel_rfl) rfl) g 0 ls.length cap ls w ?_ (Nat.le_refl _) (by omega) (fun j hj => ?_)).mono ?_
    · intro W x hW
      exact has1_any b sv l x W ((hW.cell (p := ⟨b, 0, none⟩) hbl).trans hb) (hsv.keep hW) hl ha
    · rw [Nat.zero_add, hcell j hj]
      simp [hj]
    · rintro e w' ⟨rfl, q, rfl⟩
      exact ⟨by rw [List.take_of_length_le (Nat.le_refl _)], q, rfl⟩
/-- the box of the stems that found's inner function reads -/
structure FS (w W : World) (bb : Nat) (sv : Value) (ix : List Wd.Str) : Prop where
  cell : W.cell? ⟨bb, 0, none⟩ = some sv
  lt : bb < W.heap.size
  at' : StrsAt W sv ix
  below : Below w.heap.size w W
theorem FS.keep {w W W' : World} {bb : Nat} {sv : Value} {ix : List Wd.Str} (h : FS w W bb sv ix) (hb : Below W.heap.size W W') : FS w W' bb sv ix :=
  ⟨(hb.cell (p := ⟨bb, 0, none⟩) h.lt).trans h.cell, Nat.lt_of_lt_of_le h.lt hb.size, h.at'.keep hb, h.below.trans (hb.mono h.below.size)⟩
theorem below_drewN (W : World) (q : Nat) : Below W.heap.size W (W.drewN q) := ⟨rfl, rfl, rfl, Nat.le_refl _, fun _ _ => rfl⟩
theorem FS.start {w W : World} {sv : Value} {ix : List Wd.Str} (h : SL w W sv ix) (T : TypeId) : FS w (W.alloc (.cells #[sv] T)) W.heap.size sv ix :=
  ⟨by simp [go_sem], by simp, h.reads.keep ((Below.refl _ _).alloc (Nat.le_refl _) _), Below.alloc' h.below _⟩
theorem all_take (f : Wd.Str → Bool) (l : List Wd.Str) (k : Nat) (h : k < l.length) : (l.take (k + 1)).all f = ((l.take k).all f && f l[k]) := by
  rw [List.take_succ_eq_append_getElem h, List.all_append]
  simp
theorem all_stop (f : Wd.Str → Bool) (l : List Wd.Str) (k : Nat) (h : k < l.length) (hf : f l[k] = false) : l.all f = false := by
  rw [Bool.eq_false_iff]
  intro h2
  have := List.all_eq_true.1 h2 _ (List.getElem_mem h)
  rw [hf] at this
  cases this
theorem isEmpty_len (l : List Wd.Str) : l.isEmpty = decide (l.length = 0) := by cases l <;> rfl
set_option maxHeartbeats 2000000 in
theorem found_any (a p b : Value) (n ph ng : List Wd.Str) (t : ByteArray) (w : World) (hw : EnvB w) (ha : StrsAt w a n) (hp : StrsAt w p ph) (hb : StrsAt w b ng) (hn : n.length ≤ 1000000) (hph : ph.length ≤ 1000000) (hng : ng.length ≤ 1000000) (hphl : ∀ x ∈ ph, x.length ≤ 1000000) (ht : t.size ≤ 50000) :
    Calls Tryd.prog 43 #[a, p, b, .string t] w fun e w' => e = .returned (.bool (Wd.foundB n ph ng t.data.toList)) ∧ Below w.heap.size w w' := by
  have HFB : Hid (Wd.foundB n ph ng t.data.toList = (!(n.isEmpty && ph.isEmpty) && (n.isEmpty || n.any (Wd.has (Wd.index t.data.toList))) && ph.all (Lib.contains (Wd.lower t.data.toList)) && !ng.any (Wd.has (Wd.index t.data.toList)))) := Lib.hid rfl
  generalize Wd.foundB n ph ng t.data.toList = F at *
  have HW := Lib.hid hw
  have HA := Lib.hid ha
  have HP := Lib.hid hp
  have HB := Lib.hid hb
  have HIL : Hid ((Wd.index t.data.toList).length ≤ 1000000) := Lib.hid (by
    show ((Wd.uniq (Wd.stemsOf (Wd.tokens t.data.toList))).take 128).length ≤ _
    rw [List.length_take]; omega)
  have HASC := Lib.hid (Wd.asc_index t.data.toList)
  have HIX : Hid (∀ W, Calls Tryd.prog 16 #[.string t] W fun e w' => ∃ v, e = .returned v ∧ SL W w' v (Wd.index t.data.toList)) := Lib.hid (fun W => index_any t W (by omega))
  have HLO : Hid (∀ W, Calls Tryd.prog 38 #[.string t] W fun e w' => e = .returned (.string (Wd.bs (Wd.lower t.data.toList))) ∧ Below W.heap.size W w') := Lib.hid (fun W => lower_any t W (by omega))
  have HLZ : Hid ((Wd.bs (Wd.lower t.data.toList)).size ≤ 50000) := Lib.hid (by rw [Wd.bs_size, Wd.lower_length, size_list]; exact ht)
  have HPL := Lib.hid hphl
  clear hw ha hp hb hphl
  have hLl : Hid ((Wd.bs (Wd.lower t.data.toList)).data.toList = Wd.lower t.data.toList) := Lib.hid rfl
  generalize Wd.index t.data.toList = ix at *
  generalize Wd.lower t.data.toList = lw at *
  -- the shapes of the three slices
  have hsa : ∃ x c, a = .slice x n.length c := by
    rcases HA.out with ⟨rfl, rfl⟩ | ⟨g, cap, rfl, _⟩
    · exact ⟨_, _, rfl⟩
    · exact ⟨_, _, rfl⟩
  have hsp : ∃ x c, p = .slice x ph.length c := by
    rcases HP.out with ⟨rfl, rfl⟩ | ⟨g, cap, rfl, _⟩
    · exact ⟨_, _, rfl⟩
    · exact ⟨_, _, rfl⟩
  obtain ⟨xa, ca, rfl⟩ := hsa
  obtain ⟨xp, cp, rfl⟩ := hsp
  by_cases h00 : n.length = 0 ∧ ph.length = 0
  · have HF : Hid (F = false) := Lib.hid (by
      rw [HFB.out]
      rw [List.eq_nil_of_length_eq_zero h00.1, List.eq_nil_of_length_eq_zero h00.2]
      rfl)
    obtain ⟨h1, h2⟩ := h00
    have t1 : ((n.length : Int) == 0) = true := by rw [h1]; rfl
    have t2 : ((ph.length : Int) == 0) = true := by rw [h2]; rfl
    clear h1 h2
    go_enter Tryd.func43, Tryd.ntmps43
    go_wp2_with fail
    go_ret
    exact ⟨by rw [HF.out]; rfl, Below.refl _ _⟩
  · have HE : Hid ((n.isEmpty && ph.isEmpty) = false) := Lib.hid (by
      rw [isEmpty_len, isEmpty_len, Bool.eq_false_iff]
      intro h
      simp only [Bool.and_eq_true, decide_eq_true_eq] at h
      exact h00 h)
    by_cases hn0 : n.length = 0
    · have hp0 : ¬ ph.length = 0 := fun h => h00 ⟨hn0, h⟩
      have HNP : Hid ((n.isEmpty || n.any (Wd.has ix)) = true) := Lib.hid (by rw [isEmpty_len, decide_eq_true hn0]; rfl)
      have t2 : ((ph.length : Int) == 0) = false := by rw [beq_eq_false_iff_ne]; omega
      obtain rfl : n = [] := List.eq_nil_of_length_eq_zero hn0
      clear hn0 hp0 h00
      go_enter Tryd.func43, Tryd.ntmps43
      go_wp2_with fail
      refine (HIX.out _).mono ?_
      rintro e w1 ⟨sv, rfl, hsl1⟩
      have HFS0 := Lib.hid (FS.start hsl1 24)
      clear hsl1 HIX
      have hsv : ∃ x m c, sv = .slice x m c := by
        rcases HFS0.out.at' with ⟨rfl, _⟩ | ⟨g, cap, rfl, _⟩
        · exact ⟨_, _, _, rfl⟩
        · exact ⟨_, _, _, rfl⟩
      obtain ⟨xs, ms, cs, rfl⟩ := hsv
      have HFS := HFS0
      clear HFS0
      go_wp2_with fail
      refine (HLO.out _).mono ?_
      rintro e w5 ⟨rfl, hb5⟩
      have HFS5 := Lib.hid (HFS.out.keep hb5)
      clear hb5 HFS HLO
      have HP5 := Lib.hid (HP.out.keep HFS5.out.below)
      have HB5 := Lib.hid (HB.out.keep HFS5.out.below)
      obtain ⟨mm, hmm⟩ := (HW.out.keep HFS5.out.below).big
      have HMM := Lib.hid hmm
      clear hmm
      have hpr := HP5.out
      rcases hpr with ⟨hnil, hph0⟩ | ⟨gp, cp', hsl, hcp, hgp, hcell⟩
      · exact absurd t2 (by rw [hph0]; decide)
      · injection hsl with e1 e2 e3
        subst e1
        subst e3
        clear e2
        have HCELL := Lib.hid hcell
        clear hcell hcp
        go_wp2_with fail
        go_loop [38] (fun i => ∃ k : Nat, k ≤ ph.length ∧ i = .int .i64 k ∧ (ph.take k).all (Lib.contains lw) = true) (fun i => ph.length - (intOf i).toNat)
        case atStart => exact ⟨0, Nat.zero_le _, rfl, rfl⟩
        case round =>
          obtain ⟨k, hk, rfl, hall⟩ := hrel
          have HALLK := Lib.hid hall
          clear hall
          by_cases hlt : k < ph.length
          · have hc := HCELL.out k hlt
            have HCON : Hid (∀ W, W.cell? ⟨1, 0, none⟩ = some (.int .i64 mm) → Calls Tryd.prog 67 #[.string (Wd.bs lw), .string (Wd.bs ph[k])] W fun e w' => e = .returned (.bool (Lib.contains lw ph[k])) ∧ w' = W) := Lib.hid (fun W h => Tryd.strings_Contains (Wd.bs lw) (Wd.bs ph[k]) mm W (by have := HLZ.out; omega) h)
            have HTK := Lib.hid (all_take (Lib.contains lw) ph k hlt)
            have HST := Lib.hid (all_stop (Lib.contains lw) ph k hlt)
            cases hcb : Lib.contains lw ph[k] with
            | true =>
              rw [hcb] at HCON HTK
              clear hcb HST
              generalize ph[k] = x at *
              go_wp2_with fail
              refine (HCON.out _ HMM.out).mono ?_
              rintro e w6 ⟨rfl, rfl⟩
              go_wp2_with fail
              go_round
              case rel => exact ⟨k + 1, by omega, by go_num, by rw [HTK.out, HALLK.out]; rfl⟩
              case measure => simp [intOf] <;> omega
            | false =>
              rw [hcb] at HCON HTK
              have HST2 := Lib.hid (HST.out hcb)
              clear hcb HST
              generalize ph[k] = x at *
              go_wp2_with fail
              refine (HCON.out _ HMM.out).mono ?_
              rintro e w6 ⟨rfl, rfl⟩
              go_wp2_with fail
              go_ret
              have HRES : Hid (F = false) := Lib.hid (by rw [HFB.out, HST2.out]; simp)
              exact ⟨by rw [HRES.out]; rfl, HFS5.out.below⟩
          · obtain rfl : k = ph.length := by omega
            have HALLP : Hid (ph.all (Lib.contains lw) = true) := Lib.hid (by have h := HALLK.out; rw [List.take_of_length_le (Nat.le_refl _)] at h; exact h)
            go_wp2_with fail
            refine (cfunc_any b ng _ _ ix _ HB5.out hng HFS5.out.cell HFS5.out.lt HFS5.out.at' HIL.out HASC.out).mono ?_
            rintro e w6 ⟨rfl, q6, rfl⟩
            have HRES : Hid (F = !ng.any (Wd.has ix)) := Lib.hid (by rw [HFB.out, HE.out, HNP.out, HALLP.out]; rfl)
            generalize ng.any (Wd.has ix) = rb at *
            go_wp2_with fail
            go_ret
            exact ⟨by rw [HRES.out]; rfl, HFS5.out.below.trans ((below_drewN _ _).mono HFS5.out.below.size)⟩
    · have t1 : ((n.length : Int) == 0) = false := by rw [beq_eq_false_iff_ne]; omega
      have t3 : 0 < n.length := by omega
      have HNE : Hid (n.isEmpty = false) := Lib.hid (by rw [isEmpty_len]; simp [hn0])
      clear hn0 h00
      go_enter Tryd.func43, Tryd.ntmps43
      go_wp2_with fail
      refine (HIX.out _).mono ?_
      rintro e w1 ⟨sv, rfl, hsl1⟩
      have HFS0 := Lib.hid (FS.start hsl1 24)
      clear hsl1 HIX
      have hsv : ∃ x m c, sv = .slice x m c := by
        rcases HFS0.out.at' with ⟨rfl, _⟩ | ⟨g, cap, rfl, _⟩
        · exact ⟨_, _, _, rfl⟩
        · exact ⟨_, _, _, rfl⟩
      obtain ⟨xs, ms, cs, rfl⟩ := hsv
      go_wp2_with fail
      refine (cfunc_any _ n _ _ ix _ (HA.out.keep HFS0.out.below) hn HFS0.out.cell HFS0.out.lt HFS0.out.at' HIL.out HASC.out).mono ?_
      rintro e w4 ⟨rfl, q4, rfl⟩
      have HFS := Lib.hid (HFS0.out.keep (below_drewN _ q4))
      cases hany : n.any (Wd.has ix) with
      | false =>
        have HRES : Hid (F = false) := Lib.hid (by rw [HFB.out, HNE.out, hany]; simp)
        clear hany
        go_wp2_with fail
        go_ret
        exact ⟨by rw [HRES.out]; rfl, HFS.out.below⟩
      | true =>
        have HNP : Hid ((n.isEmpty || n.any (Wd.has ix)) = true) := Lib.hid (by rw [hany, Bool.or_true])
        clear hany HFS0
        go_wp2_with fail
        refine (HLO.out _).mono ?_
        rintro e w5 ⟨rfl, hb5⟩
        have HFS5 := Lib.hid (HFS.out.keep hb5)
        clear hb5 HFS HLO
        have HP5 := Lib.hid (HP.out.keep HFS5.out.below)
        have HB5 := Lib.hid (HB.out.keep HFS5.out.below)
        obtain ⟨mm, hmm⟩ := (HW.out.keep HFS5.out.below).big
        have HMM := Lib.hid hmm
        clear hmm
        have hpr := HP5.out
        rcases hpr with ⟨hnil, hph0⟩ | ⟨gp, cp', hsl, hcp, hgp, hcell⟩
        · injection hnil with e1 e2 e3
          subst e1
          subst e3
          subst hph0
          have HALLP : Hid (([] : List Wd.Str).all (Lib.contains lw) = true) := Lib.hid rfl
          clear e2
          go_wp2_with fail
          go_loop [38] (fun i => i = .int .i64 0) (fun _ => 0)
          case atStart => rfl
          case round =>
            obtain rfl := hrel
            go_wp2_with fail
            refine (cfunc_any b ng _ _ ix _ HB5.out hng HFS5.out.cell HFS5.out.lt HFS5.out.at' HIL.out HASC.out).mono ?_
            rintro e w6 ⟨rfl, q6, rfl⟩
            have HRES : Hid (F = !ng.any (Wd.has ix)) := Lib.hid (by rw [HFB.out, HE.out, HNP.out, HALLP.out]; rfl)
            generalize ng.any (Wd.has ix) = rb at *
            go_wp2_with fail
            go_ret
            exact ⟨by rw [HRES.out]; rfl, HFS5.out.below.trans ((below_drewN _ _).mono HFS5.out.below.size)⟩
        · injection hsl with e1 e2 e3
          subst e1
          subst e3
          clear e2
          have HCELL := Lib.hid hcell
          clear hcell hcp
          go_wp2_with fail
          go_loop [38] (fun i => ∃ k : Nat, k ≤ ph.length ∧ i = .int .i64 k ∧ (ph.take k).all (Lib.contains lw) = true) (fun i => ph.length - (intOf i).toNat)
          case atStart => exact ⟨0, Nat.zero_le _, rfl, rfl⟩
          case round =>
            obtain ⟨k, hk, rfl, hall⟩ := hrel
            have HALLK := Lib.hid hall
            clear hall
            by_cases hlt : k < ph.length
            · have hc := HCELL.out k hlt
              have HCON : Hid (∀ W, W.cell? ⟨1, 0, none⟩ = some (.int .i64 mm) → Calls Tryd.prog 67 #[.string (Wd.bs lw), .string (Wd.bs ph[k])] W fun e w' => e = .returned (.bool (Lib.contains lw ph[k])) ∧ w' = W) := Lib.hid (fun W h => Tryd.strings_Contains (Wd.bs lw) (Wd.bs ph[k]) mm W (by have := HLZ.out; omega) h)
              have HTK := Lib.hid (all_take (Lib.contains lw) ph k hlt)
              have HST := Lib.hid (all_stop (Lib.contains lw) ph k hlt)
              cases hcb : Lib.contains lw ph[k] with
              | true =>
                rw [hcb] at HCON HTK
                clear hcb HST
                generalize ph[k] = x at *
                go_wp2_with fail
                refine (HCON.out _ HMM.out).mono ?_
                rintro e w6 ⟨rfl, rfl⟩
                go_wp2_with fail
                go_round
                case rel => exact ⟨k + 1, by omega, by go_num, by rw [HTK.out, HALLK.out]; rfl⟩
                case measure => simp [intOf] <;> omega
              | false =>
                rw [hcb] at HCON HTK
                have HST2 := Lib.hid (HST.out hcb)
                clear hcb HST
                generalize ph[k] = x at *
                go_wp2_with fail
                refine (HCON.out _ HMM.out).mono ?_
                rintro e w6 ⟨rfl, rfl⟩
                go_wp2_with fail
                go_ret
                have HRES : Hid (F = false) := Lib.hid (by rw [HFB.out, HST2.out]; simp)
                exact ⟨by rw [HRES.out]; rfl, HFS5.out.below⟩
            · obtain rfl : k = ph.length := by omega
              have HALLP : Hid (ph.all (Lib.contains lw) = true) := Lib.hid (by have h := HALLK.out; rw [List.take_of_length_le (Nat.le_refl _)] at h; exact h)
              go_wp2_with fail
              refine (cfunc_any b ng _ _ ix _ HB5.out hng HFS5.out.cell HFS5.out.lt HFS5.out.at' HIL.out HASC.out).mono ?_
              rintro e w6 ⟨rfl, q6, rfl⟩
              have HRES : Hid (F = !ng.any (Wd.has ix)) := Lib.hid (by rw [HFB.out, HE.out, HNP.out, HALLP.out]; rfl)
              generalize ng.any (Wd.has ix) = rb at *
              go_wp2_with fail
              go_ret
              exact ⟨by rw [HRES.out]; rfl, HFS5.out.below.trans ((below_drewN _ _).mono HFS5.out.below.size)⟩
end Go.Proofs.YtjedhlgflocjoaaDoor
