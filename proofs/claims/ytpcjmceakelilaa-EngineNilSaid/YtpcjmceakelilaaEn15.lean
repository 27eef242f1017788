/- Engine: the law's awake. -/
import Derived.Test.YtpcjmceakelilaaEn14
namespace Go.Proofs.Ytpcjmceakelilaa
open Go.ChangeShapes Go.WideShapes Go.ChangeAt Go.RowKit Go.Deep Go.ChangeMaps Go.Shelf
set_option linter.unusedVariables false
set_option linter.unusedSimpArgs false
theorem ChAt.new (W : World) (tb ky vl : Bs) (dl : Bool) (t : TypeId) : ChAt (W.alloc (.cells #[.string tb, .string ky, .string vl, .bool dl] t)) (.slice (some ⟨W.heap.size, 0, none⟩) 1 1) [(tb, ky, vl, dl)] := by
  have e := heap_alloc_new W (.cells #[.string tb, .string ky, .string vl, .bool dl] t)
  refine .inr ⟨W.heap.size, 1, rfl, Nat.le_refl _, by decide, by simp, fun j hj => ?_⟩
  have h0 : j = 0 := by simpa using hj
  subst h0
  exact ⟨Lib.cell_of_heap e 0, Lib.cell_of_heap e 1, Lib.cell_of_heap e 2, Lib.cell_of_heap e 3⟩
theorem recB_len1 (k s : Nat) (x : Chg) (hs : s < 4611686018427387904) (hx : x.1.size ≤ 20000 ∧ x.2.1.size ≤ 20000 ∧ x.2.2.1.size ≤ 20000) : (recB k s [x]).length ≤ 60119 := by
  unfold recB
  have h1 := numB_len s hs
  have h2 := numB_len 1 (by decide)
  have h3 := chsB_len [x] (fun y hy => by rw [List.mem_singleton.1 hy]; exact hx)
  split
  · have e : [x].length = 1 := rfl
    rw [e] at h3 ⊢
    simp only [List.length_append, List.length_cons]; omega
  · simp only [List.append_nil, List.length_cons]; omega
theorem comC_ok {A : Bs → Bs → List Ver} {dk : Bs} {s : Nat} {x : Chg} (h : refC A s [x] = 0) (hd : dk.size ≤ 1000000) : comC A dk s [x] = 0 := by
  have h1 := refC_zero h
  unfold comC
  rw [if_neg (by simp [h]), Int.toNat_natCast, if_pos]
  have := recB_len1 1 s x (by omega) (h1.2.2.2.1.2 x (by simp))
  exact ⟨by omega, by omega⟩
def bt : Bs := ⟨#[116]⟩
def ba : Bs := ⟨#[97]⟩
def bb : Bs := ⟨#[98]⟩
def bx : Bs := ⟨#[120]⟩
def by' : Bs := ⟨#[121]⟩
def bz : Bs := ⟨#[122]⟩
def noT : Bs → Bs → List Ver := fun _ _ => []
theorem aw_cont : cont [] = noT := rfl
theorem aw1 : refC noT 5 [(bt, ba, bx, false)] = 0 := by decide +kernel
theorem aw2 : refC (addsA noT 5 [(bt, ba, bx, false)]) 3 [(bt, bb, by', false)] = 0 := by decide +kernel
theorem aw3 : refC (addsA (addsA noT 5 [(bt, ba, bx, false)]) 3 [(bt, bb, by', false)]) 5 [(bt, ba, bz, false)] = 1 := by decide +kernel
theorem aw4 : valAt (addsA (addsA noT 5 [(bt, ba, bx, false)]) 3 [(bt, bb, by', false)] bt ba) 4 = none := by decide +kernel
theorem aw5 : valAt (addsA (addsA noT 5 [(bt, ba, bx, false)]) 3 [(bt, bb, by', false)] bt bb) 4 = some by' := by decide +kernel
theorem one_foot {B b mt tc : Nat} {W : World} {T : List Tb} {st sy : Int} {dk : Bs} (h : Egs B W b mt T tc st dk sy) : ∀ k, (Value.slice (some ⟨W.heap.size, 0, none⟩) 1 1).ownBlock = some k → ¬ FootE b mt T k := fun k hk hf => by
  simp only [Value.ownBlock, Option.some.injEq] at hk
  have := (h.foot hf).2
  omega
theorem commit_one {B b mt tc : Nat} {W : World} {T : List Tb} {st sy : Int} {dk : Bs} {N : Nat} (h : Egs B W b mt T tc st dk sy) (tb ky vl : Bs) (dl : Bool) (s : Nat) (hz : refC (cont T) s [(tb, ky, vl, dl)] = 0) (hd : dk.size ≤ 1000000) (hN : Bud T N) (hN2 : N + 1 < 5000) (hB : B ≤ W.heap.size) :
    Calls Try.prog 12 #[.pointer (some ⟨b, 0, none⟩), .slice (some ⟨W.heap.size, 0, none⟩) 1 1, .int .i64 s] (W.alloc (.cells #[.string tb, .string ky, .string vl, .bool dl] 58)) fun e W' => e = .returned (.int .i64 0) ∧ ∃ T' tc', Egs B W' b mt T' tc' (max st s) (addD dk 1 s [(tb, ky, vl, dl)]) sy ∧ cont T' = addsA (cont T) s [(tb, ky, vl, dl)] ∧ Bud T' (N + 1) ∧ Below B W W' ∧ B ≤ W'.heap.size := by
  have hba : Below W.heap.size W (W.alloc (.cells #[.string tb, .string ky, .string vl, .bool dl] 58)) := (Below.refl _ W).alloc (Nat.le_refl _) _
  have h1 := h.below hba
  have hc := comC_ok hz hd
  refine (commit_any s _ [(tb, ky, vl, dl)] N _ h1 (ChAt.new W tb ky vl dl _) (one_foot h) hN (fun _ => hN2) (Nat.le_trans hB hba.size) (by omega)).mono ?_
  rintro e W' ⟨he, ho⟩
  rw [hc] at he
  refine ⟨he, ?_⟩
  rcases ho with ⟨h2, _⟩ | ⟨_, _, _, T', tc', h2, h3, h4⟩
  · exact absurd hc h2
  · have hbl := (hba.mono hB).trans (h2.low (Nat.le_trans hB hba.size) (fun k hk => (h.foot hk).1))
    exact ⟨T', tc', h2.egs, h3, h4, hbl, Nat.le_trans hB hbl.size⟩
theorem commit_bad {B b mt tc : Nat} {W : World} {T : List Tb} {st sy : Int} {dk : Bs} {N : Nat} {n : Int} (h : Egs B W b mt T tc st dk sy) (tb ky vl : Bs) (dl : Bool) (s : Nat) (hz : refC (cont T) s [(tb, ky, vl, dl)] = n) (hn : n ≠ 0) (hd : dk.size ≤ 1000000) (hN : Bud T N) (hN2 : N + 1 < 5000) (hB : B ≤ W.heap.size) :
    Calls Try.prog 12 #[.pointer (some ⟨b, 0, none⟩), .slice (some ⟨W.heap.size, 0, none⟩) 1 1, .int .i64 s] (W.alloc (.cells #[.string tb, .string ky, .string vl, .bool dl] 58)) fun e W' => e = .returned (.int .i64 n) ∧ Below W.heap.size W W' := by
  have hba : Below W.heap.size W (W.alloc (.cells #[.string tb, .string ky, .string vl, .bool dl] 58)) := (Below.refl _ W).alloc (Nat.le_refl _) _
  have h1 := h.below hba
  have hc : comC (cont T) dk s [(tb, ky, vl, dl)] = n := by unfold comC; rw [if_pos (by rw [hz]; exact hn), hz]
  refine (commit_any s _ [(tb, ky, vl, dl)] N _ h1 (ChAt.new W tb ky vl dl _) (one_foot h) hN (fun _ => hN2) (Nat.le_trans hB hba.size) (by omega)).mono ?_
  rintro e W' ⟨he, ho⟩
  rw [hc] at he
  refine ⟨he, ?_⟩
  rcases ho with ⟨_, h2⟩ | ⟨h2, _⟩
  · exact hba.trans (h2.mono hba.size)
  · exact absurd (hc.symm.trans h2) hn
theorem addD_one (dk : Bs) (k s : Nat) (x : Chg) (hs : s < 4611686018427387904) (hx : x.1.size ≤ 20000 ∧ x.2.1.size ≤ 20000 ∧ x.2.2.1.size ≤ 20000) : (addD dk k s [x]).size ≤ dk.size + 60127 ∧ 0 < (addD dk k s [x]).size := by
  rw [addD_size]
  have := recB_len1 k s x hs hx
  omega
set_option maxRecDepth 100000 in
set_option maxHeartbeats 4000000 in
theorem awake_any (W : World) : Calls Try.prog 14 #[] W fun e W' => e = .returned (.bool true) ∧ Below W.heap.size W W' := by
  go_enter Try.func14, Try.ntmps14
  go_wp2_with fail
  refine (enew_any W).mono ?_
  rintro e w1 ⟨rfl, hE1, hb1⟩
  have c1 := hE1.c0
  have HE1 := Lib.hid hE1
  have HB1 := Lib.hid hb1
  clear hE1 hb1 c1
  go_wp2_with fail
  refine (commit_one HE1.out bt ba bx false 5 aw1 (by decide) ⟨Nat.le_refl 0, fun t ht => by cases ht⟩ (by decide) HB1.out.size).mono ?_
  rintro e w2 ⟨rfl, T2, tc2, hE2, hc2, hN2, hb2, hs2⟩
  have hd2 := addD_one ⟨#[]⟩ 1 5 (bt, ba, bx, false) (by decide) (by decide)
  have H2 := Lib.hid (And.intro hE2 (And.intro hc2 (And.intro hN2 (And.intro (HB1.out.trans hb2) (And.intro hs2 hd2)))))
  clear hE2 hc2 hN2 hb2 hs2 hd2 HE1 HB1
  generalize addD ⟨#[]⟩ 1 5 [(bt, ba, bx, false)] = D2 at H2
  go_wp2_with fail
  refine (commit_one H2.out.1 bt bb by' false 3 (by rw [H2.out.2.1]; exact aw2) (by have := H2.out.2.2.2.2.2.1; have : (⟨#[]⟩ : Bs).size = 0 := rfl; omega) H2.out.2.2.1 (by decide) H2.out.2.2.2.2.1).mono ?_
  rintro e w3 ⟨rfl, T3, tc3, hE3, hc3, hN3, hb3, hs3⟩
  have hd3 := addD_one D2 1 3 (bt, bb, by', false) (by decide) (by decide)
  have hc3 : cont T3 = addsA (addsA noT 5 [(bt, ba, bx, false)]) 3 [(bt, bb, by', false)] := by rw [hc3, H2.out.2.1]; rfl
  have H3 := Lib.hid (And.intro hE3 (And.intro hc3 (And.intro hN3 (And.intro (H2.out.2.2.2.1.trans hb3) (And.intro hs3 (And.intro hd3 (show D2.size ≤ 60127 by have := H2.out.2.2.2.2.2.1; have : (⟨#[]⟩ : Bs).size = 0 := rfl; omega)))))))
  clear hE3 hc3 hN3 hb3 hs3 hd3 H2
  generalize addD D2 1 3 [(bt, bb, by', false)] = D3 at H3
  go_wp2_with fail
  refine (commit_bad (n := 1) H3.out.1 bt ba bz false 5 (by rw [H3.out.2.1]; exact aw3) (by decide) (by have := H3.out.2.2.2.2.2.1; have := H3.out.2.2.2.2.2.2; omega) H3.out.2.2.1 (by decide) H3.out.2.2.2.2.1).mono ?_
  rintro e w4 ⟨rfl, hb4⟩
  have H4 := Lib.hid (And.intro (H3.out.1.below hb4) (And.intro H3.out.2.1 (And.intro (H3.out.2.2.2.1.trans (hb4.mono H3.out.2.2.2.2.1)) (show 0 < D3.size from H3.out.2.2.2.2.2.1.2))))
  clear hb4 H3
  go_wp2_with fail
  have g4 := eget_any H4.out.1 bt ba 4
  rw [H4.out.2.1, aw4] at g4
  refine g4.mono ?_
  rintro e w5 ⟨rfl, hb5⟩
  clear g4
  have H5 := Lib.hid (And.intro (H4.out.1.below hb5) (And.intro H4.out.2.1 (And.intro (H4.out.2.2.1.trans (hb5.mono H4.out.2.2.1.size)) H4.out.2.2.2)))
  clear hb5 H4
  go_wp2_with fail
  have g5 := eget_any H5.out.1 bt bb 4
  rw [H5.out.2.1, aw5] at g5
  refine g5.mono ?_
  rintro e w6 ⟨rfl, hb6⟩
  clear g5
  have H6 := Lib.hid (And.intro (H5.out.1.below hb6) (And.intro (H5.out.2.2.1.trans (hb6.mono H5.out.2.2.1.size)) H5.out.2.2.2))
  have hy : ByteArray.toList by' = [121] := by rw [ByteArray.toList_eq]; rfl
  have hd0 : decide (0 < D3.size) = true := decide_eq_true H6.out.2.2
  clear hb6 H5
  go_wp2_with fail
  refine (stamp_any H6.out.1).mono ?_
  rintro e w7 ⟨rfl, hw⟩
  obtain rfl := hw.symm
  go_wp2_with fail
  refine (synced_any H6.out.1).mono ?_
  rintro e w7 ⟨rfl, hw⟩
  obtain rfl := hw.symm
  go_wp2_with fail
  refine (disk_any H6.out.1).mono ?_
  rintro e w7 ⟨rfl, hw⟩
  obtain rfl := hw.symm
  go_wp2_with fail
  go_ret
  exact ⟨rfl, H6.out.2.1⟩
end Go.Proofs.Ytpcjmceakelilaa
