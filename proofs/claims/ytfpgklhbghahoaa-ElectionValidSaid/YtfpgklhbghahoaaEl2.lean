/- Election: copies of members without a log; follow. -/
import Derived.Test.YtfpgklhbghahoaaEl1
namespace Go.Proofs.Ytfpgklhbghahoaa
open Go.ChangeShapes Go.WideShapes Go.ChangeAt Go.RowKit Go.Deep
set_option linter.unusedVariables false
set_option linter.unusedSimpArgs false
def ints (l : List Int) : List Value := l.map (.int .i64 ·)
theorem info3 : (Try.prog.info? 3).map (fun i => (i.zero, i.size, i.bytes)) = some (some (.int .i64 0), 1, 8) := by kernel_rfl
theorem lastTerm_nil (w : World) : Calls Try.prog 38 #[nil] w fun e w' => e = .returned (.int .i64 0) ∧ w = w' := by
  go_enter Try.func38, Try.ntmps38
  go_wp2
  go_ret
  exact ⟨rfl, rfl⟩
theorem copyAll_nil (g : Value) (w : World) : Calls Try.prog 47 #[nil, g] w fun e w' => e = .returned nil ∧ w = w' := by
  go_enter Try.func47, Try.ntmps47
  go_wp2
  go_ret
  exact ⟨rfl, rfl⟩
theorem copyInts_nil (w : World) : Calls Try.prog 49 #[nil] w fun e w' => e = .returned nil ∧ w = w' := by
  go_enter Try.func49, Try.ntmps49
  go_wp2
  go_ret
  exact ⟨rfl, rfl⟩
theorem copyInts_some (B o cap : Nat) (xs : List Int) (w : World) (hl : xs.length ≤ 1000000) (hc : ∀ j (h : j < xs.length), w.cell? ⟨B, o + j, none⟩ = some (.int .i64 xs[j])) :
    Calls Try.prog 49 #[.slice (some ⟨B, o, none⟩) xs.length cap] w fun e w' => (∃ v, e = .returned v ∧ w'.ownsRow w.heap.size 3 1 v xs.length (ints xs)) ∧ Below w.heap.size w w' := by
  obtain ⟨i3, hi3, hz0, hz1, hz2⟩ := info_parts info3
  have HC := Lib.hid hc
  clear hc
  go_enter Try.func49, Try.ntmps49
  go_wp2_with (at_builtin; refine wpList_append_own _ rfl _ _ 23 rfl w.heap.size 3 i3 (.int .i64 0) 1 8 Try.underlying23 hi3 hz0 hz1 hz2 rfl (by decide) _ 0 [] rfl (World.ownsRow_nil _ _ _ _) ⟨B, o, none⟩ xs.length cap (ints xs) rfl ?c1 ?c2 ?c3 ?c4 ?c5 ?c6 ?_)
  case c1 => simp [ints]
  case c2 =>
    intro j u hu
    have hj : j < xs.length := by have := (List.getElem?_eq_some_iff.1 hu).1; simpa [ints] using this
    have h1 := HC.out j hj
    simp [ints, hj] at hu
    subst hu
    first | exact h1 | (by_cases h0 : j = 0 <;> simpa [Addr.add, h0] using h1)
  case c3 =>
    intro u hu
    simp [ints] at hu
    obtain ⟨x, _, rfl⟩ := hu
    rfl
  case c4 => unfold maxLen; omega
  case c5 => omega
  case c6 => exact Nat.le_refl _
  intro v w2 hown hgrow _
  have hb : Below w.heap.size w w2 := (Below.refl _ _).grown hgrow (Nat.le_refl _) (by simp [Value.ownBlock])
  go_wp2_with fail
  go_ret
  exact ⟨⟨_, rfl, by simpa using hown⟩, hb⟩
set_option maxRecDepth 100000 in
set_option maxHeartbeats 800000 in
theorem copyMember_nil (id sz tm vt rl ld ti vs cm : Int) (w : World) :
    Calls Try.prog 36 #[mem id sz tm vt rl ld ti vs nil cm nil nil] w fun e w' => e = .returned (mem id sz tm vt rl ld ti vs nil cm nil nil) ∧ Below w.heap.size w w' := by
  go_enter Try.func36, Try.ntmps36
  go_wp2_with fail
  refine (copyAll_nil _ _).mono ?_
  rintro e w1 ⟨rfl, rfl⟩
  go_wp2_with fail
  refine (copyInts_nil _).mono ?_
  rintro e w1 ⟨rfl, rfl⟩
  go_wp2_with fail
  refine (copyInts_nil _).mono ?_
  rintro e w1 ⟨rfl, rfl⟩
  go_wp2_with fail
  refine bodyPost_ret (v := mem id sz tm vt rl ld ti vs nil cm nil nil) (by simp [results, Try.results36, go_sem]) rfl ⟨rfl, ?_⟩
  repeat' (first | exact Below.refl _ _ | refine Below.setCell ?_ (by simp) _ | refine Below.alloc ?_ (by simp) _)
set_option maxRecDepth 100000 in
set_option maxHeartbeats 800000 in
theorem follow_any (id sz tm vt rl ld ti vs : Int) (ga : Option Addr) (gl gc : Nat) (cm : Int) (na : Option Addr) (nl nc : Nat) (ma : Option Addr) (ml mc : Nat) (t : Int) (w : World) (h0 : 0 ≤ id) (h7 : id ≤ 7) :
    Calls Try.prog 37 #[mem id sz tm vt rl ld ti vs (.slice ga gl gc) cm (.slice na nl nc) (.slice ma ml mc), .int .i64 t] w fun e w' =>
      e = .returned (if t ≤ tm then mem id sz tm vt rl ld ti vs (.slice ga gl gc) cm (.slice na nl nc) (.slice ma ml mc) else mem id sz t (-1) 0 (-1) (if rl = 2 then 10 + 3 * id else ti) 0 (.slice ga gl gc) cm nil nil) ∧ Below w.heap.size w w' := by
  by_cases ht : t ≤ tm
  · rw [if_pos ht]
    go_enter Try.func37, Try.ntmps37
    go_wp2_with fail
    refine bodyPost_ret (v := mem id sz tm vt rl ld ti vs (.slice ga gl gc) cm (.slice na nl nc) (.slice ma ml mc)) (by simp [results, Try.results37, go_sem]) rfl ⟨rfl, ?_⟩
    repeat' (first | exact Below.refl _ _ | refine Below.setCell ?_ (by simp) _ | refine Below.alloc ?_ (by simp) _)
  · rw [if_neg ht]
    by_cases hr : rl = 2
    · rw [if_pos hr]
      subst hr
      go_enter Try.func37, Try.ntmps37
      go_wp2_with fail
      refine (usual_any id _ h0 h7).mono ?_
      rintro e w1 ⟨rfl, rfl⟩
      go_wp2_with fail
      refine bodyPost_ret (v := mem id sz t (-1) 0 (-1) (10 + 3 * id) 0 (.slice ga gl gc) cm nil nil) (by simp [results, Try.results37, go_sem]) rfl ⟨rfl, ?_⟩
      repeat' (first | exact Below.refl _ _ | refine Below.setCell ?_ (by simp) _ | refine Below.alloc ?_ (by simp) _)
    · rw [if_neg hr]
      have hrb : (rl == 2) = false := by rw [beq_eq_false_iff_ne]; exact hr
      go_enter Try.func37, Try.ntmps37
      go_wp2_with fail
      refine bodyPost_ret (v := mem id sz t (-1) 0 (-1) ti 0 (.slice ga gl gc) cm nil nil) (by simp [results, Try.results37, go_sem]) rfl ⟨rfl, ?_⟩
      repeat' (first | exact Below.refl _ _ | refine Below.setCell ?_ (by simp) _ | refine Below.alloc ?_ (by simp) _)
theorem known_yes (id sz tm vt rl ld ti vs : Int) (lg : Value) (cm : Int) (nx mt : Value) (w : World) (h1 : 1 ≤ sz) (h7 : sz ≤ 7) (h0 : 0 ≤ id) (hi : id < sz) :
    Calls Try.prog 41 #[mem id sz tm vt rl ld ti vs lg cm nx mt] w fun e w' => e = .returned (.bool true) ∧ Below w.heap.size w w' := by
  go_enter Try.func41, Try.ntmps41
  go_wp2_with fail
  go_ret
  refine ⟨rfl, ?_⟩
  repeat' (first | exact Below.refl _ _ | refine Below.setCell ?_ (by simp) _ | refine Below.alloc ?_ (by simp) _)
end Go.Proofs.Ytfpgklhbghahoaa
