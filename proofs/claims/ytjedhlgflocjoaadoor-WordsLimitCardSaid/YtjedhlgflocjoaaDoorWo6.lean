/- Words: stems and lower case by the reference; append to a slice of strings that the call owns. -/
import Derived.Test.YtjedhlgflocjoaaDoorWo5
namespace Wd
def stemC (w : Str) (c1 c2 c3 c4 c5 c6 : Bool) : Str :=
  if c1 then w.take (w.length - 2) else if c2 then w.take (w.length - 3) ++ [121] else if c3 then w.take (w.length - 3) else if c4 then w.take (w.length - 2) else if c5 && !c6 then w.take (w.length - 1) else w
theorem stem_C (w : Str) : stem w = stemC w (ends w sSses 3) (ends w sIes 4) (ends w sIng 5) (ends w sEd 4) (ends w sS 3) (ends w sSs 3) := rfl
theorem ends_len {w e : Str} {n : Nat} (h : ends w e n = true) : n < w.length := by
  unfold ends at h
  simp only [Bool.and_eq_true, decide_eq_true_eq] at h
  exact h.1
end Wd
namespace Go.Proofs.YtjedhlgflocjoaaDoor
open Go.ChangeShapes Go.WideShapes Go.ChangeAt Go.RowKit
set_option linter.unusedVariables false
set_option linter.unusedSimpArgs false
theorem ends_at (s p : ByteArray) (q : List UInt8) (n : Nat) (b : Bool) (hq : p.data.toList = q) (hb : Wd.ends s.data.toList q n = b) (w : World) (hs : s.size ≤ 1000000) (hp : p.size ≤ 1000) (hn : n ≤ 1000) :
    Calls Tryd.prog 32 #[.string s, .string p, .int .i64 n] w fun e w' => e = .returned (.bool b) ∧ w = w' := by
  subst hq; subst hb; exact ends_any s p n w hs hp hn
set_option maxHeartbeats 1000000 in
theorem rstem_any (s : ByteArray) (w : World) (hs : s.size ≤ 1000000) : Calls Tryd.prog 15 #[.string s] w fun e w' => e = .returned (.string (Wd.bs (Wd.stem s.data.toList))) ∧ w = w' := by
  have hE := Wd.stem_C s.data.toList
  have l1 : Wd.ends s.data.toList Wd.sSses 3 = true → 3 < s.size := fun h => by have := Wd.ends_len h; rwa [size_list] at this
  have l2 : Wd.ends s.data.toList Wd.sIes 4 = true → 4 < s.size := fun h => by have := Wd.ends_len h; rwa [size_list] at this
  have l3 : Wd.ends s.data.toList Wd.sIng 5 = true → 5 < s.size := fun h => by have := Wd.ends_len h; rwa [size_list] at this
  have l4 : Wd.ends s.data.toList Wd.sEd 4 = true → 4 < s.size := fun h => by have := Wd.ends_len h; rwa [size_list] at this
  have l5 : Wd.ends s.data.toList Wd.sS 3 = true → 3 < s.size := fun h => by have := Wd.ends_len h; rwa [size_list] at this
  have h1 : ∀ w, Calls Tryd.prog 32 #[.string s, .string ⟨#[115, 115, 101, 115]⟩, .int .i64 3] w fun e w' => e = .returned (.bool (Wd.ends s.data.toList Wd.sSses 3)) ∧ w = w' := fun w => ends_at s ⟨#[115, 115, 101, 115]⟩ Wd.sSses 3 _ rfl rfl w hs (by decide) (by decide)
  have h2 : ∀ w, Calls Tryd.prog 32 #[.string s, .string ⟨#[105, 101, 115]⟩, .int .i64 4] w fun e w' => e = .returned (.bool (Wd.ends s.data.toList Wd.sIes 4)) ∧ w = w' := fun w => ends_at s ⟨#[105, 101, 115]⟩ Wd.sIes 4 _ rfl rfl w hs (by decide) (by decide)
  have h3 : ∀ w, Calls Tryd.prog 32 #[.string s, .string ⟨#[105, 110, 103]⟩, .int .i64 5] w fun e w' => e = .returned (.bool (Wd.ends s.data.toList Wd.sIng 5)) ∧ w = w' := fun w => ends_at s ⟨#[105, 110, 103]⟩ Wd.sIng 5 _ rfl rfl w hs (by decide) (by decide)
  have h4 : ∀ w, Calls Tryd.prog 32 #[.string s, .string ⟨#[101, 100]⟩, .int .i64 4] w fun e w' => e = .returned (.bool (Wd.ends s.data.toList Wd.sEd 4)) ∧ w = w' := fun w => ends_at s ⟨#[101, 100]⟩ Wd.sEd 4 _ rfl rfl w hs (by decide) (by decide)
  have h5 : ∀ w, Calls Tryd.prog 32 #[.string s, .string ⟨#[115]⟩, .int .i64 3] w fun e w' => e = .returned (.bool (Wd.ends s.data.toList Wd.sS 3)) ∧ w = w' := fun w => ends_at s ⟨#[115]⟩ Wd.sS 3 _ rfl rfl w hs (by decide) (by decide)
  have h6 : ∀ w, Calls Tryd.prog 32 #[.string s, .string ⟨#[115, 115]⟩, .int .i64 3] w fun e w' => e = .returned (.bool (Wd.ends s.data.toList Wd.sSs 3)) ∧ w = w' := fun w => ends_at s ⟨#[115, 115]⟩ Wd.sSs 3 _ rfl rfl w hs (by decide) (by decide)
  generalize Wd.ends s.data.toList Wd.sSses 3 = b1 at *
  generalize Wd.ends s.data.toList Wd.sIes 4 = b2 at *
  generalize Wd.ends s.data.toList Wd.sIng 5 = b3 at *
  generalize Wd.ends s.data.toList Wd.sEd 4 = b4 at *
  generalize Wd.ends s.data.toList Wd.sS 3 = b5 at *
  generalize Wd.ends s.data.toList Wd.sSs 3 = b6 at *
  have H1 := Lib.hid h1
  have H2 := Lib.hid h2
  have H3 := Lib.hid h3
  have H4 := Lib.hid h4
  have H5 := Lib.hid h5
  have H6 := Lib.hid h6
  have HE := Lib.hid hE
  clear h1 h2 h3 h4 h5 h6 hE
  cases b1
  case true =>
    have g := l1 rfl
    go_enter Tryd.func15, Tryd.ntmps15
    go_wp2_with (go_at_call 32; (with_reducible first | refine (H1.out _).mono ?_ | refine (H2.out _).mono ?_ | refine (H3.out _).mono ?_ | refine (H4.out _).mono ?_ | refine (H5.out _).mono ?_ | refine (H6.out _).mono ?_); rintro e w1 ⟨rfl, rfl⟩)
    go_ret
    refine ⟨ret_str ?_, rfl⟩
    rw [HE.out]
    unfold Wd.stemC
    simp only [size_list]
    first | exact ext_bs _ _ | exact ext_y _ _ | rfl
  case false =>
    cases b2
    case true =>
      have g := l2 rfl
      go_enter Tryd.func15, Tryd.ntmps15
      go_wp2_with (go_at_call 32; (with_reducible first | refine (H1.out _).mono ?_ | refine (H2.out _).mono ?_ | refine (H3.out _).mono ?_ | refine (H4.out _).mono ?_ | refine (H5.out _).mono ?_ | refine (H6.out _).mono ?_); rintro e w1 ⟨rfl, rfl⟩)
      go_ret
      refine ⟨ret_str ?_, rfl⟩
      rw [HE.out]
      unfold Wd.stemC
      simp only [size_list]
      first | exact ext_bs _ _ | exact ext_y _ _ | rfl
    case false =>
      cases b3
      case true =>
        have g := l3 rfl
        go_enter Tryd.func15, Tryd.ntmps15
        go_wp2_with (go_at_call 32; (with_reducible first | refine (H1.out _).mono ?_ | refine (H2.out _).mono ?_ | refine (H3.out _).mono ?_ | refine (H4.out _).mono ?_ | refine (H5.out _).mono ?_ | refine (H6.out _).mono ?_); rintro e w1 ⟨rfl, rfl⟩)
        go_ret
        refine ⟨ret_str ?_, rfl⟩
        rw [HE.out]
        unfold Wd.stemC
        simp only [size_list]
        first | exact ext_bs _ _ | exact ext_y _ _ | rfl
      case false =>
        cases b4
        case true =>
          have g := l4 rfl
          go_enter Tryd.func15, Tryd.ntmps15
          go_wp2_with (go_at_call 32; (with_reducible first | refine (H1.out _).mono ?_ | refine (H2.out _).mono ?_ | refine (H3.out _).mono ?_ | refine (H4.out _).mono ?_ | refine (H5.out _).mono ?_ | refine (H6.out _).mono ?_); rintro e w1 ⟨rfl, rfl⟩)
          go_ret
          refine ⟨ret_str ?_, rfl⟩
          rw [HE.out]
          unfold Wd.stemC
          simp only [size_list]
          first | exact ext_bs _ _ | exact ext_y _ _ | rfl
        case false =>
          cases b5
          case true =>
            have g := l5 rfl
            cases b6
            · go_enter Tryd.func15, Tryd.ntmps15
              go_wp2_with (go_at_call 32; (with_reducible first | refine (H1.out _).mono ?_ | refine (H2.out _).mono ?_ | refine (H3.out _).mono ?_ | refine (H4.out _).mono ?_ | refine (H5.out _).mono ?_ | refine (H6.out _).mono ?_); rintro e w1 ⟨rfl, rfl⟩)
              go_ret
              refine ⟨ret_str ?_, rfl⟩
              rw [HE.out]
              unfold Wd.stemC
              simp only [size_list]
              first | exact ext_bs _ _ | exact ext_y _ _ | rfl
            · go_enter Tryd.func15, Tryd.ntmps15
              go_wp2_with (go_at_call 32; (with_reducible first | refine (H1.out _).mono ?_ | refine (H2.out _).mono ?_ | refine (H3.out _).mono ?_ | refine (H4.out _).mono ?_ | refine (H5.out _).mono ?_ | refine (H6.out _).mono ?_); rintro e w1 ⟨rfl, rfl⟩)
              go_ret
              refine ⟨ret_str ?_, rfl⟩
              rw [HE.out]
              unfold Wd.stemC
              simp only [size_list]
              first | exact ext_bs _ _ | exact ext_y _ _ | rfl
          case false =>
            go_enter Tryd.func15, Tryd.ntmps15
            go_wp2_with (go_at_call 32; (with_reducible first | refine (H1.out _).mono ?_ | refine (H2.out _).mono ?_ | refine (H3.out _).mono ?_ | refine (H4.out _).mono ?_ | refine (H5.out _).mono ?_ | refine (H6.out _).mono ?_); rintro e w1 ⟨rfl, rfl⟩)
            go_ret
            refine ⟨ret_str ?_, rfl⟩
            rw [HE.out]
            unfold Wd.stemC
            simp only [size_list]
            first | exact ext_bs _ _ | exact ext_y _ _ | rfl
end Go.Proofs.YtjedhlgflocjoaaDoor
