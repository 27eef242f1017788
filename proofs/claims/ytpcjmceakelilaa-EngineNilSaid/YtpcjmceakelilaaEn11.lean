/- Engine: append: a record is appended to the disk. -/
import Derived.Test.YtpcjmceakelilaaEn10
import Derived.Deep.RegionHeld3
namespace Go.Proofs.Ytpcjmceakelilaa
open Go.ChangeShapes Go.WideShapes Go.ChangeAt Go.RowKit Go.Deep Go.ChangeMaps Go.Shelf
set_option linter.unusedVariables false
set_option linter.unusedSimpArgs false
theorem ETurn.rebox {B b mt tc : Nat} {F : Nat → Prop} {W W1 W2 : World} {T : List Tb} {st sy st' sy' : Int} {dk dk' : Bs} (h : ETurn B b F W W1 mt T tc st dk sy) (hF : F b) (ho : Only W1 W2 b) (hb : Box W2 b [.map (some mt), .int .i64 st', .string dk', .int .i64 sy']) : ETurn B b F W W2 mt T tc st' dk' sy' :=
  ⟨h.egs.rebox ho hb, h.foot, h.kept.trans (T := fun k => k = b) ⟨(ho.below b (Nat.le_refl _)).os, (ho.below b (Nat.le_refl _)).tape, (ho.below b (Nat.le_refl _)).output, (ho.below b (Nat.le_refl _)).size, fun k _ hk => ho.heap k hk⟩ (fun k hk => .inl (by rw [hk]; exact hF))⟩
theorem ETurn.setDisk {B b mt tc : Nat} {F : Nat → Prop} {W W1 : World} {T : List Tb} {st sy : Int} {dk : Bs} (h : ETurn B b F W W1 mt T tc st dk sy) (dk' : Bs) (hF : F b) : ETurn B b F W (W1.setCell ⟨b, 2, none⟩ (.string dk')) mt T tc st dk' sy :=
  h.rebox hF (Only.setCell W1 b 2 _) (h.egs.box.setCell 2 (.string dk') (by simp))
theorem ETurn.setStamp {B b mt tc : Nat} {F : Nat → Prop} {W W1 : World} {T : List Tb} {st sy : Int} {dk : Bs} (h : ETurn B b F W W1 mt T tc st dk sy) (st' : Int) (hF : F b) : ETurn B b F W (W1.setCell ⟨b, 1, none⟩ (.int .i64 st')) mt T tc st' dk sy :=
  h.rebox hF (Only.setCell W1 b 1 _) (h.egs.box.setCell 1 (.int .i64 st') (by simp))
theorem ETurn.setSync {B b mt tc : Nat} {F : Nat → Prop} {W W1 : World} {T : List Tb} {st sy : Int} {dk : Bs} (h : ETurn B b F W W1 mt T tc st dk sy) (sy' : Int) (hF : F b) : ETurn B b F W (W1.setCell ⟨b, 3, none⟩ (.int .i64 sy')) mt T tc st dk sy' :=
  h.rebox hF (Only.setCell W1 b 3 _) (h.egs.box.setCell 3 (.int .i64 sy') (by simp))
theorem ETurn.below {B b mt tc : Nat} {F : Nat → Prop} {W W1 W2 : World} {T : List Tb} {st sy : Int} {dk : Bs} (h : ETurn B b F W W1 mt T tc st dk sy) (hb : Below W1.heap.size W1 W2) : ETurn B b F W W2 mt T tc st dk sy :=
  h.trans (ETurn.same h.egs hb)
/-- a record that is handed on -/
structure RecIn (W : World) (k s : Nat) (v : Value) (L : List Chg) : Prop where
  s_lt : s < 4611686018427387904
  kind : ((k = 2 ∨ k = 4) ∧ L = []) ∨ ((k = 1 ∨ k = 3) ∧ ChAt W v L ∧ Small L)
theorem RecIn.below {W W' : World} {k s : Nat} {v : Value} {L : List Chg} (h : RecIn W k s v L) (hb : Below W.heap.size W W') : RecIn W' k s v L :=
  ⟨h.s_lt, h.kind.imp id (fun g => ⟨g.1, g.2.1.below hb (fun k hk => g.2.1.lt k hk), g.2.2⟩)⟩
theorem text_any {W : World} {k s : Nat} {v : Value} {L : List Chg} (h : RecIn W k s v L) :
    Calls Try.prog 38 #[.agg #[.int .i64 k, .int .i64 s, v]] W fun e w' => e = .returned (.string (mkS (recB k s L))) ∧ Below W.heap.size W w' := by
  rcases h.kind with ⟨hk, rfl⟩ | ⟨rfl | rfl, hv, hL⟩
  · exact text_short k s v W hk h.s_lt
  · exact text_1 s v L W h.s_lt hv hL
  · exact text_3 s v L W h.s_lt hv hL
theorem RecIn.len {W : World} {k s : Nat} {v : Value} {L : List Chg} (h : RecIn W k s v L) : (mkS (recB k s L)).size ≤ 100000000 := by
  rw [mkS_size]
  unfold recB
  have h1 := numB_len s h.s_lt
  rcases h.kind with ⟨hk, rfl⟩ | ⟨_, hv, hL⟩
  · rw [if_neg (by omega), List.append_nil, List.length_cons]; omega
  · have h2 := numB_len L.length (by have := hL.1; omega)
    have h3 := chsB_len L hL.2
    have h4 := hL.1
    split
    · simp only [List.length_append, List.length_cons]; omega
    · simp only [List.length_append, List.length_cons]; omega
theorem wapp_two (a s : ByteArray) (w : World) (ha2 : a.size ≤ 1000000000) (hs2 : s.size ≤ 1000000000) :
    Calls Try.prog 37 #[.string a, .string s] w fun e w' => ∃ (r : Bs) (n : Int), e = .returned (.tuple #[.string r, .int .i64 n]) ∧ (n = 0 ∧ r = a ++ framed s ∧ s.size ≤ 65536 ∧ a.size + s.size + 8 ≤ 16777216 ∨ n = 2 ∧ ¬ (s.size ≤ 65536 ∧ a.size + s.size + 8 ≤ 16777216)) ∧ Below w.heap.size w w' := by
  refine (wapp_any a s w ha2 hs2).mono ?_
  rintro e w' ⟨⟨rfl, h1, h2⟩ | ⟨rfl, h⟩, hb⟩
  · exact ⟨_, _, rfl, .inl ⟨rfl, rfl, h1, h2⟩, hb⟩
  · exact ⟨_, _, rfl, .inr ⟨rfl, h⟩, hb⟩
/-- whether a record fits the disk -/
def Fits (dk : Bs) (k s : Nat) (L : List Chg) : Prop := (recB k s L).length ≤ 65536 ∧ dk.size + (recB k s L).length + 8 ≤ 16777216
instance (dk : Bs) (k s : Nat) (L : List Chg) : Decidable (Fits dk k s L) := by unfold Fits; exact inferInstance
/-- the disk with one more record -/
def addD (dk : Bs) (k s : Nat) (L : List Chg) : Bs := dk ++ framed (mkS (recB k s L))
theorem addD_size (dk : Bs) (k s : Nat) (L : List Chg) : (addD dk k s L).size = dk.size + (recB k s L).length + 8 := by
  unfold addD
  rw [ByteArray.size_append, framed_size, mkS_size]
  omega
set_option maxRecDepth 100000 in
set_option maxHeartbeats 2000000 in
theorem append_any {B b mt tc : Nat} {T : List Tb} {st sy : Int} {dk : Bs} {k s : Nat} {v : Value} {L : List Chg} {W : World} (h : Egs B W b mt T tc st dk sy) (hr : RecIn W k s v L) (hd : dk.size ≤ 1000000000) :
    Calls Try.prog 23 #[.pointer (some ⟨b, 0, none⟩), .agg #[.int .i64 k, .int .i64 s, v]] W fun e W' =>
      (Fits dk k s L ∧ e = .returned (.int .i64 0) ∧ ETurn B b (FootE b mt T) W W' mt T tc st (addD dk k s L) sy) ∨ (¬ Fits dk k s L ∧ e = .returned (.int .i64 2) ∧ Below W.heap.size W W') := by
  have HLN := Lib.hid hr.len
  have hbA : Below W.heap.size W (W.alloc (.cells #[.int .i64 k, .int .i64 s, v] 54)) := (Below.refl _ W).alloc (Nat.le_refl _) _
  have HR1 := Lib.hid (hr.below hbA)
  have HE1 := Lib.hid (h.below hbA)
  have HBA := Lib.hid hbA
  have rc := rec_cells W (.int .i64 k) (.int .i64 s) v 54
  have q0 : (W.alloc (.cells #[.int .i64 k, .int .i64 s, v] 54)).cell? ⟨W.heap.size, 0, none⟩ = some (.int .i64 k) := Lib.cell_of_heap rc 0
  have q1 : (W.alloc (.cells #[.int .i64 k, .int .i64 s, v] 54)).cell? ⟨W.heap.size, 1, none⟩ = some (.int .i64 s) := Lib.cell_of_heap rc 1
  have q2 : (W.alloc (.cells #[.int .i64 k, .int .i64 s, v] 54)).cell? ⟨W.heap.size, 2, none⟩ = some v := Lib.cell_of_heap rc 2
  have p2 := HE1.out.c2
  have HD := Lib.hid hd
  have HB0 := Lib.hid (show b < W.heap.size from h.box.lt)
  have HE0 := Lib.hid h
  clear h hr hbA rc hd
  go_enter Try.func23, Try.ntmps23
  go_wp2_with fail
  generalize hW1 : W.alloc (.cells #[.int .i64 k, .int .i64 s, v] 54) = W1 at *
  have HSZ := Lib.hid (show W.heap.size < W1.heap.size by rw [← hW1]; simp)
  clear hW1
  obtain ⟨FF, hFF⟩ : ∃ FF : World → Prop, FF = fun X => Below W1.heap.size W1 X := ⟨_, rfl⟩
  have fI : FF W1.drew := by rw [hFF]; exact (Below.refl _ _).drew
  have fO : ∀ X, FF X → Below W1.heap.size W1 X := fun X hX => by rw [hFF] at hX; exact hX
  have fB : ∀ X Y, FF X → Below X.heap.size X Y → FF Y := fun X Y hX hY => by rw [hFF] at hX ⊢; exact hX.trans (hY.mono hX.size)
  have fC : ∀ X, FF X → X.cell? ⟨b, 2, none⟩ = some (.string dk) ∧ X.cell? ⟨W.heap.size, 0, none⟩ = some (.int .i64 k) ∧ X.cell? ⟨W.heap.size, 1, none⟩ = some (.int .i64 s) ∧ X.cell? ⟨W.heap.size, 2, none⟩ = some v := fun X hX => by
    have hx := fO X hX
    exact ⟨(hx.cell (p := ⟨b, 2, none⟩) (Nat.lt_trans HB0.out HSZ.out)).trans p2, (hx.cell (p := ⟨W.heap.size, 0, none⟩) HSZ.out).trans q0, (hx.cell (p := ⟨W.heap.size, 1, none⟩) HSZ.out).trans q1, (hx.cell (p := ⟨W.heap.size, 2, none⟩) HSZ.out).trans q2⟩
  clear hFF
  have HT := Lib.hid (fun X (hX : FF X) => text_any (HR1.out.below (fO X hX)))
  go_region_held3 (fun X => X.cell? ⟨b, 2, none⟩ = some (.string dk) ∧ X.cell? ⟨W.heap.size, 0, none⟩ = some (.int .i64 k) ∧ X.cell? ⟨W.heap.size, 1, none⟩ = some (.int .i64 s) ∧ X.cell? ⟨W.heap.size, 2, none⟩ = some v ∧ FF X) (first | (refine ⟨?_, ?_, ?_, ?_, ?_⟩ <;> assumption) | (refine ⟨(fC _ ?_).1, (fC _ ?_).2.1, (fC _ ?_).2.2.1, (fC _ ?_).2.2.2, ?_⟩ <;> assumption)) (first
    | (go_at_call 38; refine (HT.out _ (by assumption)).mono ?_; rintro e w2 ⟨rfl, hb2⟩; have hf2 := fB _ _ (by assumption) hb2)
    | (go_at_call 37; refine (wapp_two dk _ _ HD.out (by have := HLN.out; omega)).mono ?_; rintro e w3 ⟨rr, nn, rfl, hor, hb3⟩; have hf3 := fB _ _ (by assumption) hb3; have HOR := Lib.hid hor; clear hor))
  have hw3 := fO _ hf3
  have hE3 := HE1.out.below hw3
  have c2 := hE3.c2
  have z2 := hE3.fr 2
  have HE3 := Lib.hid hE3
  have HW3 := Lib.hid (show Below W.heap.size W w3 from HBA.out.trans (hw3.mono HBA.out.size))
  clear hE3 hw3 fC fO fB fI hf2 hf3 hb2 hb3 HT HE1 HR1 q0 q1 q2 p2
  rcases HOR.out with ⟨rfl, hrr, h1, h2⟩ | ⟨rfl, h3⟩
  · have HF := Lib.hid (show Fits dk k s L by rw [mkS_size] at h1 h2; exact ⟨h1, h2⟩)
    have HRR := Lib.hid hrr
    clear HOR h1 h2 hrr
    go_wp2_with fail
    go_ret
    refine .inl ⟨HF.out, rfl, ?_⟩
    have := (ETurn.same HE0.out HW3.out).setDisk rr (.inl rfl)
    rw [HRR.out] at this ⊢
    exact this
  · have HF := Lib.hid (show ¬ Fits dk k s L by rw [mkS_size] at h3; exact h3)
    clear HOR h3
    go_wp2_with fail
    go_ret
    exact .inr ⟨HF.out, rfl, HW3.out⟩
end Go.Proofs.Ytpcjmceakelilaa
