/- Words: stems and stop words. -/
import Derived.Test.YtjedhlgflocjoaaDoorWo3
import Derived.Test.YtjedhlgflocjoaaDoorShelf
import Derived.Deep.Light
namespace Wd
def stemB (w : Str) (b1 b2 b3 b4 b5 b6 : Bool) : Str :=
  if decide (3 < w.length) && b1 then w.take (w.length - 2)
  else if decide (4 < w.length) && b2 then w.take (w.length - 3) ++ [121]
  else if decide (5 < w.length) && b3 then w.take (w.length - 3)
  else if decide (4 < w.length) && b4 then w.take (w.length - 2)
  else if decide (3 < w.length) && b5 && !(decide (3 < w.length) && b6) then w.take (w.length - 1)
  else w
theorem stem_B (w : Str) : stem w = stemB w (sSses.isSuffixOf w) (sIes.isSuffixOf w) (sIng.isSuffixOf w) (sEd.isSuffixOf w) (sS.isSuffixOf w) (sSs.isSuffixOf w) := rfl
end Wd
namespace Go.Proofs.YtjedhlgflocjoaaDoor
open Go.ChangeShapes Go.WideShapes Go.ChangeAt Go.RowKit
set_option linter.unusedVariables false
set_option linter.unusedSimpArgs false
theorem suffix_at (s p : ByteArray) (b : Bool) (l q : List UInt8) (hl : s.data.toList = l) (hq : p.data.toList = q) (hb : q.isSuffixOf l = b) (w : World) (hs : s.size ≤ 1000000) :
    Calls Tryd.prog 31 #[.string s, .string p] w fun e w' => e = .returned (.bool b) ∧ w = w' := by
  refine (Go.Proofs.Tryd.strings_HasSuffix s p w (by omega)).mono ?_
  rintro e w' ⟨rfl, rfl⟩
  refine ⟨ret_bool ?_, rfl⟩
  rw [hl, hq, ← hb]; rfl
theorem ext_bs (s : ByteArray) (k : Nat) : s.extract 0 k = Wd.bs (s.data.toList.take k) := by
  have h := Lib.extract_data s 0 k
  simp only [List.drop_zero, Nat.sub_zero] at h
  show _ = (⟨(s.data.toList.take k).toArray⟩ : ByteArray)
  rw [← h]
theorem append_str (s : ByteArray) (l : List UInt8) : s ++ (⟨l.toArray⟩ : ByteArray) = ⟨(s.data.toList ++ l).toArray⟩ := by
  apply ByteArray.ext
  simp
theorem ext_y (s : ByteArray) (k : Nat) : s.extract 0 k ++ ⟨#[121]⟩ = Wd.bs (s.data.toList.take k ++ [121]) := by
  rw [ext_bs]
  exact append_str _ [121]
set_option maxHeartbeats 1000000 in
theorem stem_any (s : ByteArray) (w : World) (hs : s.size ≤ 1000000) : Calls Tryd.prog 14 #[.string s] w fun e w' => e = .returned (.string (Wd.bs (Wd.stem s.data.toList))) ∧ w = w' := by
  have hE := Wd.stem_B s.data.toList
  have h1 := fun w => suffix_at s ⟨#[115, 115, 101, 115]⟩ _ _ Wd.sSses rfl rfl rfl w hs
  have h2 := fun w => suffix_at s ⟨#[105, 101, 115]⟩ _ _ Wd.sIes rfl rfl rfl w hs
  have h3 := fun w => suffix_at s ⟨#[105, 110, 103]⟩ _ _ Wd.sIng rfl rfl rfl w hs
  have h4 := fun w => suffix_at s ⟨#[101, 100]⟩ _ _ Wd.sEd rfl rfl rfl w hs
  have h5 := fun w => suffix_at s ⟨#[115]⟩ _ _ Wd.sS rfl rfl rfl w hs
  have h6 := fun w => suffix_at s ⟨#[115, 115]⟩ _ _ Wd.sSs rfl rfl rfl w hs
  generalize Wd.sSses.isSuffixOf s.data.toList = b1 at *
  generalize Wd.sIes.isSuffixOf s.data.toList = b2 at *
  generalize Wd.sIng.isSuffixOf s.data.toList = b3 at *
  generalize Wd.sEd.isSuffixOf s.data.toList = b4 at *
  generalize Wd.sS.isSuffixOf s.data.toList = b5 at *
  generalize Wd.sSs.isSuffixOf s.data.toList = b6 at *
  have H1 := Lib.hid h1
  have H2 := Lib.hid h2
  have H3 := Lib.hid h3
  have H4 := Lib.hid h4
  have H5 := Lib.hid h5
  have H6 := Lib.hid h6
  have HE := Lib.hid hE
  clear h1 h2 h3 h4 h5 h6 hE
  go_enter Tryd.func14, Tryd.ntmps14
  go_wp2_with (go_at_call 31; (with_reducible first | refine (H1.out _).mono ?_ | refine (H2.out _).mono ?_ | refine (H3.out _).mono ?_ | refine (H4.out _).mono ?_ | refine (H5.out _).mono ?_ | refine (H6.out _).mono ?_); rintro e w1 ⟨rfl, rfl⟩)
  all_goals go_ret
  all_goals refine ⟨ret_str ?_, rfl⟩
  all_goals go_light
  all_goals rw [HE.out]
  all_goals clear HE H1 H2 H3 H4 H5 H6
  all_goals unfold Wd.stemB
  all_goals simp only [size_list]
  all_goals (repeat' split)
  all_goals first | (exfalso; simp_all; done) | (exfalso; simp_all; omega) | exact ext_bs _ _ | exact ext_y _ _ | rfl
end Go.Proofs.YtjedhlgflocjoaaDoor
