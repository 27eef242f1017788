/- Btree: Put into an empty tree. -/
import Derived.Test.YtegljepgncicjaaBt4
namespace Go.Proofs.Ytegljepgncicjaa
open Go.ChangeShapes Go.WideShapes Go.ChangeAt Go.RowKit Go.Deep
set_option linter.unusedVariables false
set_option linter.unusedSimpArgs false
set_option maxRecDepth 100000 in
set_option maxHeartbeats 1600000 in
theorem tput_empty (B T : Nat) (o : Int) (key val : Bs) (W0 : World) (hE : Box W0 T [.int .i64 o, .int .i64 0, .pointer none]) (hT0 : B ≤ T) (hB0 : B ≤ W0.heap.size) (ho0 : (1 : Int) ≤ o) (ho2 : o ≤ 256) :
    Calls Try.prog 31 #[.pointer (some ⟨T, 0, none⟩), .string key, .string val] W0 (TOut B T o 1 true [key] [val] W0) := by
  have e2 : W0.cell? ⟨T, 2, none⟩ = some (.pointer none) := hE.cell 2 _ rfl
  have e2f : W0.frozen? ⟨T, 2, none⟩ = false := hE.free 2
  have hTl := hE.lt
  have hTne : T ≠ W0.heap.size := Nat.ne_of_lt hTl
  have HT0 : Hid (TreeAt B ((W0.setCell ⟨T, 2, none⟩ (.pointer (some ⟨W0.heap.size, 0, none⟩))).alloc (.cells #[.slice none 0 0, .slice none 0 0, .slice none 0 0] 85)) T W0.heap.size o 0 (.slice none 0 0) (.slice none 0 0) [] []) := Lib.hid (by
    refine ⟨(hE.setCell 2 (.pointer (some ⟨W0.heap.size, 0, none⟩)) (by simp)).alloc _, ⟨by have := Box.new (W0.setCell ⟨T, 2, none⟩ (.pointer (some ⟨W0.heap.size, 0, none⟩))) [.slice none 0 0, .slice none 0 0, .slice none 0 0] 85; simpa using this, .inl ⟨rfl, rfl⟩, .inl ⟨rfl, rfl⟩, by simp [Value.ownBlock], by simp [Value.ownBlock], fun g h => by simp [Value.ownBlock] at h, hB0⟩, hT0, ?_, rfl⟩
    rintro (h | h | h)
    · exact hTne h
    · simp [Value.ownBlock] at h
    · simp [Value.ownBlock] at h)
  have HK0 : Hid (Below B W0 ((W0.setCell ⟨T, 2, none⟩ (.pointer (some ⟨W0.heap.size, 0, none⟩))).alloc (.cells #[.slice none 0 0, .slice none 0 0, .slice none 0 0] 85)) ∧ W0.heap.size ≤ ((W0.setCell ⟨T, 2, none⟩ (.pointer (some ⟨W0.heap.size, 0, none⟩))).alloc (.cells #[.slice none 0 0, .slice none 0 0, .slice none 0 0] 85)).heap.size) :=
    Lib.hid ⟨((Below.refl B W0).setCell (p := ⟨T, 2, none⟩) hT0 _).alloc (by simpa using hB0) _, by simp⟩
  clear hE
  go_enter Try.func31, Try.ntmps31
  go_wp2_with fail
  refine wp_named (fun W => TreeAt B W T W0.heap.size o 0 (.slice none 0 0) (.slice none 0 0) [] [] ∧ Below B W0 W ∧ W0.heap.size ≤ W.heap.size) ⟨HT0.out, HK0.out⟩ ?_
  clear HT0 HK0 e2 e2f hTl hTne
  rintro W ⟨A, hbW, hsW⟩
  have HBW := Lib.hid (And.intro hbW hsW)
  have hB : B ≤ W.heap.size := Nat.le_trans hB0 hsW
  clear hbW hsW
  have hi : bsI [] key = 0 := rfl
  have hf : bsF [] key = false := by unfold bsF; rw [decide_eq_false (fun h => Nat.not_lt_zero _ h.1)]
  have hik : 0 ≤ ([] : List Bs).length := Nat.le_refl _
  have hz0 : (0 : Int) ≤ 0 := Int.le_refl _
  have hz1 : (0 : Int) ≤ 1000 := by decide
  have ho : (([] : List Bs).length : Int) + 1 ≤ o := by simpa using ho0
  obtain ⟨N, hN⟩ : ∃ N, N = W0.heap.size := ⟨_, rfl⟩
  rw [← hN] at A
  rw [← hN]
  have HN := Lib.hid hN
  clear hN
  have HP := Lib.hid (fun W' (L : Leaf B W' N (.slice none 0 0) (.slice none 0 0) [] []) (h : B ≤ W'.heap.size) => nodeput_new B N (.slice none 0 0) (.slice none 0 0) [] [] o key val 0 W' L rfl h (by decide) hi hik hf)
  have HLN : Hid (([key] : List Bs).length = 1 ∧ ([val] : List Bs).length = ([key] : List Bs).length) := Lib.hid ⟨rfl, rfl⟩
  have HA := Lib.hid A
  have a0 : W.cell? ⟨T, 0, none⟩ = some (.int .i64 o) := A.box.cell 0 _ rfl
  have a2 : W.cell? ⟨T, 2, none⟩ = some (.pointer (some ⟨N, 0, none⟩)) := A.box.cell 2 _ rfl
  clear A hi hf hik hz0 hz1 ho
  go_still_tail 10, (by kernel_rfl)
  change wpList _ _ _ _ _ W.drew
  have HA1 : Hid (TreeAt B W.drew T N o 0 (.slice none 0 0) (.slice none 0 0) [] []) := Lib.hid (HA.out.drewN 1)
  clear a0 a2
  go_wp2_with fail
  refine (HP.out _ HA1.out.leaf hB).mono ?_
  rintro e W1 ⟨rfl, kv', vv', hL, hk, hown⟩
  change Leaf B W1 N kv' vv' [key] [val] at hL
  have hb1 : Below B W0 W1 := (Below.drew HBW.out.1).trans (HA1.out.leaf.below hB hk)
  have hsz1 : W0.heap.size ≤ W1.heap.size := Nat.le_trans HBW.out.2 hk.size
  have hbx := HA1.out.box.kept hk HA1.out.out
  have hTo : ¬ Own N kv' vv' T := fun h => by
    rcases hown T h with h | h
    · exact HA1.out.out h
    · have := HA1.out.box.lt; exact absurd this (by omega)
  have HBX := Lib.hid hbx
  have HL := Lib.hid hL
  have HB1 := Lib.hid hb1
  have HTO := Lib.hid hTo
  have hTN : T ≠ N := fun e => HTO.out (.inl e)
  have a0 : W1.cell? ⟨T, 0, none⟩ = some (.int .i64 o) := hbx.cell 0 _ rfl
  have a1 : W1.cell? ⟨T, 1, none⟩ = some (.int .i64 0) := hbx.cell 1 _ rfl
  have a2 : W1.cell? ⟨T, 2, none⟩ = some (.pointer (some ⟨N, 0, none⟩)) := hbx.cell 2 _ rfl
  have f1 : W1.frozen? ⟨T, 1, none⟩ = false := hbx.free 1
  obtain ⟨g, c, hkv⟩ := hL.rk.len
  have n0 : W1.cell? ⟨N, 0, none⟩ = some kv' := hL.box.cell 0 _ rfl
  rw [hkv, HLN.out.1] at n0
  have hgt : decide (o < ((1 : Nat) : Int)) = false := decide_eq_false (by omega)
  have hgt2 : decide (o < (1 : Int)) = false := decide_eq_false (by omega)
  have HA2 := Lib.hid HA.out.bT
  clear hL hk hown hb1 hbx hTo HA1 HA HP hkv
  go_wp2_with fail
  have hset : Kept (fun k => k = T) W1 (W1.setCell ⟨T, 1, none⟩ (.int .i64 1)) := (Kept.refl _ W1).setCells T 1 [.int .i64 1] (.inl rfl)
  have hT2 : TreeAt B (W1.setCell ⟨T, 1, none⟩ (.int .i64 1)) T N o 1 kv' vv' [key] [val] :=
    ⟨HBX.out.setCell 1 _ (by simp), HL.out.kept hset (fun k h e => HTO.out (by rw [← e]; exact h)), HA2.out, HTO.out, HLN.out.2⟩
  have hb2 : Below B W0 (W1.setCell ⟨T, 1, none⟩ (.int .i64 1)) ∧ W0.heap.size ≤ (W1.setCell ⟨T, 1, none⟩ (.int .i64 1)).heap.size := ⟨HB1.out.trans (hset.below (by omega) (fun k e => by rw [e]; exact HA2.out)), by simpa using hsz1⟩
  refine wp_named (fun W' => TreeAt B W' T N o 1 kv' vv' [key] [val] ∧ Below B W0 W' ∧ W0.heap.size ≤ W'.heap.size) ⟨hT2, hb2⟩ ?_
  clear hset hT2 hb2 a0 a1 a2 f1 n0 HBX HL HB1 HTO
  rintro W2 ⟨hT, hb, hs⟩
  have a0 : W2.cell? ⟨T, 0, none⟩ = some (.int .i64 o) := hT.box.cell 0 _ rfl
  have a2 : W2.cell? ⟨T, 2, none⟩ = some (.pointer (some ⟨N, 0, none⟩)) := hT.box.cell 2 _ rfl
  have n0 : W2.cell? ⟨N, 0, none⟩ = some kv' := hT.leaf.box.cell 0 _ rfl
  obtain ⟨g, c, hkv⟩ := hT.leaf.rk.len
  rw [hkv, HLN.out.1] at n0
  have HT := Lib.hid (And.intro hT (And.intro hb hs))
  clear hT hb hs hkv
  go_quiet (fail)
  go_wp2_with fail
  go_ret
  exact ⟨rfl, ⟨_, _, _, HT.out.1.drewN _⟩, below_drewN'' HT.out.2.1 _, HT.out.2.2⟩
end Go.Proofs.Ytegljepgncicjaa
