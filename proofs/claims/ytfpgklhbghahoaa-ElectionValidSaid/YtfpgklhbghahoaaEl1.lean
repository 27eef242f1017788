/- Election: small functions; copies of members without a log. -/
import Derived.Test.YtfpgklhbghahoaaRows
import Derived.WalkKit
import Derived.ProofKit
import Derived.Below
import Derived.Outline
import Derived.OwnWalk
import Derived.Laws.AppendOwn
import Derived.Laws.OwnMore
import Derived.Deep.Slices
import Derived.Lib.Hide
import Derived.IntWalk
import Derived.Deep.QuietTactic
import Derived.BigQuiet
import Derived.StillTailTactics
namespace Go.Proofs.Ytfpgklhbghahoaa
open Go.ChangeShapes Go.WideShapes Go.ChangeAt Go.RowKit Go.Deep
set_option linter.unusedVariables false
set_option linter.unusedSimpArgs false
theorem bcell {W w1 : World} (hb : Below W.heap.size W w1) : (∀ b o, b < W.heap.size → w1.cell? ⟨b, o, none⟩ = W.cell? ⟨b, o, none⟩) ∧ (∀ b o, b < W.heap.size → w1.frozen? ⟨b, o, none⟩ = W.frozen? ⟨b, o, none⟩) :=
  ⟨fun b o h => hb.cell (p := ⟨b, o, none⟩) h, fun b o h => hb.frozen (p := ⟨b, o, none⟩) h⟩
theorem calls_named {P : Program} {f : Nat} {args : Array Value} {K : Ending → World → Prop} {w : World} (F : World → Prop) (hF : F w) (h : ∀ W, F W → Calls P f args W K) : Calls P f args w K := h w hF
theorem wp_named {P : Program} {c : Code} {Q : Exit → Act → World → Prop} {a : Act} {w : World} (F : World → Prop) (hF : F w) (h : ∀ w', F w' → Code.wp P c Q a w') : Code.wp P c Q a w := h w hF
/-- a member as a value -/
abbrev mem (id sz tm vt rl ld ti vs : Int) (lg : Value) (cm : Int) (nx mt : Value) : Value := .agg #[.int .i64 id, .int .i64 sz, .int .i64 tm, .int .i64 vt, .int .i64 rl, .int .i64 ld, .int .i64 ti, .int .i64 vs, lg, .int .i64 cm, nx, mt]
abbrev nil : Value := .slice none 0 0
theorem usual_any (id : Int) (w : World) (h0 : 0 ≤ id) (h7 : id ≤ 7) : Calls Try.prog 27 #[.int .i64 id] w fun e w' => e = .returned (.int .i64 (10 + 3 * id)) ∧ w = w' := by
  go_enter Try.func27, Try.ntmps27
  go_wp2
  go_ret
  exact ⟨rfl, rfl⟩
theorem timer_any (id : Int) (w : World) (h0 : 0 ≤ id) (h7 : id ≤ 7) : Calls Try.prog 28 #[.int .i64 id] w fun e w' => e = .returned (.int .i64 (10 + 3 * id)) ∧ w = w' := by
  go_enter Try.func28, Try.ntmps28
  go_wp2
  go_ret
  exact ⟨rfl, rfl⟩
def maj (n : Int) : Int := if 1 ≤ n ∧ n ≤ 7 then n / 2 + 1 else 0
theorem maj_any (n : Int) (w : World) : Calls Try.prog 12 #[.int .i64 n] w fun e w' => e = .returned (.int .i64 (maj n)) ∧ w = w' := by
  by_cases h1 : n < 1
  · have HM : Hid (maj n = 0) := Lib.hid (by unfold maj; rw [if_neg (by omega)])
    go_enter Try.func12, Try.ntmps12
    go_wp2
    go_ret
    exact ⟨by rw [HM.out]; rfl, rfl⟩
  · by_cases h7 : 7 < n
    · have HM : Hid (maj n = 0) := Lib.hid (by unfold maj; rw [if_neg (by omega)])
      go_enter Try.func12, Try.ntmps12
      go_wp2
      go_ret
      exact ⟨by rw [HM.out]; rfl, rfl⟩
    · have HM : Hid (maj n = n / 2 + 1) := Lib.hid (by unfold maj; rw [if_pos (by omega)])
      have h0 : 0 ≤ n := by omega
      have h6 : n ≤ 7 := by omega
      go_enter Try.func12, Try.ntmps12
      go_wp2
      go_ret
      exact ⟨by rw [HM.out]; rfl, rfl⟩
theorem rmaj_any (n : Int) (w : World) : Calls Try.prog 13 #[.int .i64 n] w fun e w' => e = .returned (.int .i64 (maj n)) ∧ w = w' := by
  by_cases h1 : n < 1
  · have HM : Hid (maj n = 0) := Lib.hid (by unfold maj; rw [if_neg (by omega)])
    go_enter Try.func13, Try.ntmps13
    go_wp2
    go_ret
    exact ⟨by rw [HM.out]; rfl, rfl⟩
  · by_cases h7 : 7 < n
    · have HM : Hid (maj n = 0) := Lib.hid (by unfold maj; rw [if_neg (by omega)])
      go_enter Try.func13, Try.ntmps13
      go_wp2
      go_ret
      exact ⟨by rw [HM.out]; rfl, rfl⟩
    · have HM : Hid (maj n = n / 2 + 1) := Lib.hid (by unfold maj; rw [if_pos (by omega)])
      have h0 : 0 ≤ n := by omega
      have h6 : n ≤ 7 := by omega
      go_enter Try.func13, Try.ntmps13
      go_wp2
      go_ret
      exact ⟨by rw [HM.out]; rfl, rfl⟩
/-- what New returns -/
def newV (id sz : Int) : Value := if 1 ≤ sz ∧ sz ≤ 7 ∧ 0 ≤ id ∧ id < sz then .tuple #[mem id sz 0 (-1) 0 (-1) (10 + 3 * id) 0 nil 0 nil nil, .int .i64 0] else .tuple #[mem 0 0 0 0 0 0 0 0 nil 0 nil nil, .int .i64 1]
set_option maxRecDepth 100000 in
set_option maxHeartbeats 800000 in
theorem new_any (id sz : Int) (w : World) : Calls Try.prog 9 #[.int .i64 id, .int .i64 sz] w fun e w' => e = .returned (newV id sz) ∧ Below w.heap.size w w' := by
  have hcase : sz < 1 ∨ 7 < sz ∨ (1 ≤ sz ∧ sz ≤ 7 ∧ id < 0) ∨ (1 ≤ sz ∧ sz ≤ 7 ∧ 0 ≤ id ∧ sz ≤ id) ∨ (1 ≤ sz ∧ sz ≤ 7 ∧ 0 ≤ id ∧ id < sz) := by omega
  rcases hcase with h | h | ⟨h1, h2, h3⟩ | ⟨h1, h2, h3, h4⟩ | ⟨h1, h2, h3, h4⟩
  · have HV : Hid (newV id sz = .tuple #[mem 0 0 0 0 0 0 0 0 nil 0 nil nil, .int .i64 1]) := Lib.hid (by unfold newV; rw [if_neg (by omega)])
    go_enter Try.func9, Try.ntmps9
    go_wp2_with fail
    refine bodyPost_ret (v := .tuple #[mem 0 0 0 0 0 0 0 0 nil 0 nil nil, .int .i64 1]) (by simp [results, Try.results9, go_sem]) rfl ⟨by rw [HV.out], ?_⟩
    repeat' (first | exact Below.refl _ _ | refine Below.setCell ?_ (by simp) _ | refine Below.alloc ?_ (by simp) _)
  · have HV : Hid (newV id sz = .tuple #[mem 0 0 0 0 0 0 0 0 nil 0 nil nil, .int .i64 1]) := Lib.hid (by unfold newV; rw [if_neg (by omega)])
    go_enter Try.func9, Try.ntmps9
    go_wp2_with fail
    refine bodyPost_ret (v := .tuple #[mem 0 0 0 0 0 0 0 0 nil 0 nil nil, .int .i64 1]) (by simp [results, Try.results9, go_sem]) rfl ⟨by rw [HV.out], ?_⟩
    repeat' (first | exact Below.refl _ _ | refine Below.setCell ?_ (by simp) _ | refine Below.alloc ?_ (by simp) _)
  · have HV : Hid (newV id sz = .tuple #[mem 0 0 0 0 0 0 0 0 nil 0 nil nil, .int .i64 1]) := Lib.hid (by unfold newV; rw [if_neg (by omega)])
    go_enter Try.func9, Try.ntmps9
    go_wp2_with fail
    refine bodyPost_ret (v := .tuple #[mem 0 0 0 0 0 0 0 0 nil 0 nil nil, .int .i64 1]) (by simp [results, Try.results9, go_sem]) rfl ⟨by rw [HV.out], ?_⟩
    repeat' (first | exact Below.refl _ _ | refine Below.setCell ?_ (by simp) _ | refine Below.alloc ?_ (by simp) _)
  · have HV : Hid (newV id sz = .tuple #[mem 0 0 0 0 0 0 0 0 nil 0 nil nil, .int .i64 1]) := Lib.hid (by unfold newV; rw [if_neg (by omega)])
    go_enter Try.func9, Try.ntmps9
    go_wp2_with fail
    refine bodyPost_ret (v := .tuple #[mem 0 0 0 0 0 0 0 0 nil 0 nil nil, .int .i64 1]) (by simp [results, Try.results9, go_sem]) rfl ⟨by rw [HV.out], ?_⟩
    repeat' (first | exact Below.refl _ _ | refine Below.setCell ?_ (by simp) _ | refine Below.alloc ?_ (by simp) _)
  · have HV : Hid (newV id sz = .tuple #[mem id sz 0 (-1) 0 (-1) (10 + 3 * id) 0 nil 0 nil nil, .int .i64 0]) := Lib.hid (by unfold newV; rw [if_pos ⟨h1, h2, h3, h4⟩])
    go_enter Try.func9, Try.ntmps9
    go_wp2_with fail
    refine (usual_any id _ h3 (by omega)).mono ?_
    rintro e w1 ⟨rfl, rfl⟩
    go_wp2_with fail
    refine bodyPost_ret (v := .tuple #[mem id sz 0 (-1) 0 (-1) (10 + 3 * id) 0 nil 0 nil nil, .int .i64 0]) (by simp [results, Try.results9, go_sem]) rfl ⟨by rw [HV.out], ?_⟩
    repeat' (first | exact Below.refl _ _ | refine Below.setCell ?_ (by simp) _ | refine Below.alloc ?_ (by simp) _)
set_option maxRecDepth 100000 in
set_option maxHeartbeats 800000 in
theorem rnew_any (id sz : Int) (w : World) : Calls Try.prog 10 #[.int .i64 id, .int .i64 sz] w fun e w' => e = .returned (newV id sz) ∧ Below w.heap.size w w' := by
  have hcase : sz < 1 ∨ 7 < sz ∨ (1 ≤ sz ∧ sz ≤ 7 ∧ id < 0) ∨ (1 ≤ sz ∧ sz ≤ 7 ∧ 0 ≤ id ∧ sz ≤ id) ∨ (1 ≤ sz ∧ sz ≤ 7 ∧ 0 ≤ id ∧ id < sz) := by omega
  rcases hcase with h | h | ⟨h1, h2, h3⟩ | ⟨h1, h2, h3, h4⟩ | ⟨h1, h2, h3, h4⟩
  · have HV : Hid (newV id sz = .tuple #[mem 0 0 0 0 0 0 0 0 nil 0 nil nil, .int .i64 1]) := Lib.hid (by unfold newV; rw [if_neg (by omega)])
    go_enter Try.func10, Try.ntmps10
    go_wp2_with fail
    refine bodyPost_ret (v := .tuple #[mem 0 0 0 0 0 0 0 0 nil 0 nil nil, .int .i64 1]) (by simp [results, Try.results10, go_sem]) rfl ⟨by rw [HV.out], ?_⟩
    repeat' (first | exact Below.refl _ _ | refine Below.setCell ?_ (by simp) _ | refine Below.alloc ?_ (by simp) _)
  · have HV : Hid (newV id sz = .tuple #[mem 0 0 0 0 0 0 0 0 nil 0 nil nil, .int .i64 1]) := Lib.hid (by unfold newV; rw [if_neg (by omega)])
    go_enter Try.func10, Try.ntmps10
    go_wp2_with fail
    refine bodyPost_ret (v := .tuple #[mem 0 0 0 0 0 0 0 0 nil 0 nil nil, .int .i64 1]) (by simp [results, Try.results10, go_sem]) rfl ⟨by rw [HV.out], ?_⟩
    repeat' (first | exact Below.refl _ _ | refine Below.setCell ?_ (by simp) _ | refine Below.alloc ?_ (by simp) _)
  · have HV : Hid (newV id sz = .tuple #[mem 0 0 0 0 0 0 0 0 nil 0 nil nil, .int .i64 1]) := Lib.hid (by unfold newV; rw [if_neg (by omega)])
    go_enter Try.func10, Try.ntmps10
    go_wp2_with fail
    refine bodyPost_ret (v := .tuple #[mem 0 0 0 0 0 0 0 0 nil 0 nil nil, .int .i64 1]) (by simp [results, Try.results10, go_sem]) rfl ⟨by rw [HV.out], ?_⟩
    repeat' (first | exact Below.refl _ _ | refine Below.setCell ?_ (by simp) _ | refine Below.alloc ?_ (by simp) _)
  · have HV : Hid (newV id sz = .tuple #[mem 0 0 0 0 0 0 0 0 nil 0 nil nil, .int .i64 1]) := Lib.hid (by unfold newV; rw [if_neg (by omega)])
    go_enter Try.func10, Try.ntmps10
    go_wp2_with fail
    refine bodyPost_ret (v := .tuple #[mem 0 0 0 0 0 0 0 0 nil 0 nil nil, .int .i64 1]) (by simp [results, Try.results10, go_sem]) rfl ⟨by rw [HV.out], ?_⟩
    repeat' (first | exact Below.refl _ _ | refine Below.setCell ?_ (by simp) _ | refine Below.alloc ?_ (by simp) _)
  · have HV : Hid (newV id sz = .tuple #[mem id sz 0 (-1) 0 (-1) (10 + 3 * id) 0 nil 0 nil nil, .int .i64 0]) := Lib.hid (by unfold newV; rw [if_pos ⟨h1, h2, h3, h4⟩])
    go_enter Try.func10, Try.ntmps10
    go_wp2_with fail
    refine (timer_any id _ h3 (by omega)).mono ?_
    rintro e w1 ⟨rfl, rfl⟩
    go_wp2_with fail
    refine bodyPost_ret (v := .tuple #[mem id sz 0 (-1) 0 (-1) (10 + 3 * id) 0 nil 0 nil nil, .int .i64 0]) (by simp [results, Try.results10, go_sem]) rfl ⟨by rw [HV.out], ?_⟩
    repeat' (first | exact Below.refl _ _ | refine Below.setCell ?_ (by simp) _ | refine Below.alloc ?_ (by simp) _)
end Go.Proofs.Ytfpgklhbghahoaa
