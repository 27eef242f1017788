/- Balance: the reference's validity of orders and shard keys. -/
import Derived.Test.YtimhokilicogdaaBal27
import Derived.Test.YtimhokilicogdaaBal12
namespace Go.Proofs.Ytimhokilicogdaa
open Go.ChangeShapes Go.WideShapes Go.ChangeAt Go.RowKit Go.Deep
set_option linter.unusedVariables false
set_option linter.unusedSimpArgs false
structure Ord where
  p : Value
  ss : List ByteArray
  d : Bool
/-- orders of a slice that came in -/
def OrdIn (w : World) (v : Value) (os : List Ord) : Prop :=
  (os = [] ∧ ∃ a cap, v = .slice a 0 cap) ∨ ∃ (B o cap : Nat), v = .slice (some ⟨B, o, none⟩) os.length cap ∧ B < w.heap.size ∧ 0 < os.length ∧ os.length ≤ 9223372036854775807 ∧
    ∀ j (h : j < os.length), w.cell? ⟨B, o + j * 2, none⟩ = some os[j].p ∧ w.cell? ⟨B, o + j * 2 + 1, none⟩ = some (.bool os[j].d) ∧ StrIn w os[j].p os[j].ss
theorem OrdIn.below {w w' : World} {v : Value} {os : List Ord} (h : OrdIn w v os) (hb : Below w.heap.size w w') : OrdIn w' v os := by
  rcases h with h | ⟨B, o, cap, h1, h2, h3, h4, h5⟩
  · exact .inl h
  · exact .inr ⟨B, o, cap, h1, Nat.lt_of_lt_of_le h2 hb.size, h3, h4, fun j hj => by
      obtain ⟨a1, a2, a3⟩ := h5 j hj
      exact ⟨by rw [hb.cell (p := ⟨B, o + j * 2, none⟩) h2]; exact a1, by rw [hb.cell (p := ⟨B, o + j * 2 + 1, none⟩) h2]; exact a2, a3.below hb⟩⟩
theorem OrdIn.slice {w : World} {v : Value} {os : List Ord} (h : OrdIn w v os) : ∃ a cap, v = .slice a os.length cap := by
  rcases h with ⟨rfl, a, cap, rfl⟩ | ⟨B, o, cap, rfl, _⟩
  · exact ⟨_, _, rfl⟩
  · exact ⟨_, _, rfl⟩
theorem OrdIn.at {w : World} {a : Option Addr} {cap : Nat} {os : List Ord} (h : OrdIn w (.slice a os.length cap) os) (h0 : 0 < os.length) :
    ∃ B o, a = some ⟨B, o, none⟩ ∧ B < w.heap.size ∧ os.length ≤ 9223372036854775807 ∧ ∀ j (h : j < os.length), w.cell? ⟨B, o + j * 2, none⟩ = some os[j].p ∧ w.cell? ⟨B, o + j * 2 + 1, none⟩ = some (.bool os[j].d) ∧ StrIn w os[j].p os[j].ss := by
  rcases h with ⟨rfl, _⟩ | ⟨B, o, cap', e, h2, h3, h4, h5⟩
  · simp at h0
  · injection e with e1 e2 e3
    exact ⟨B, o, e1, h2, h4, h5⟩
def SomeEq (w : World) (e : Ending) (w' : World) : Prop := ∃ n : Int, e = .returned (.int .i64 n) ∧ ∃ k, w' = w.drewN k
def Dr (w W : World) : Prop := ∃ n, W = w.drewN n
theorem StrIn.dr {w W : World} {v : Value} {ss : List ByteArray} (h : StrIn w v ss) (hd : Dr w W) : StrIn W v ss := by
  obtain ⟨n, rfl⟩ := hd; exact h
theorem Dr.step {w W : World} (h : Dr w W) (n : Nat) : Dr w (W.drewN n) := by
  obtain ⟨m, rfl⟩ := h; exact ⟨m + n, by simp⟩
theorem Dr.drew {w W : World} (h : Dr w W) : Dr w W.drew := h.step 1
theorem same_dr (w : World) (v1 v2 : Value) (s1 s2 : List ByteArray) (W : World) (h1 : StrIn w v1 s1) (h2 : StrIn w v2 s2) {a1 a2 : Addr} {u1 u2 : Value} (c1 : W.cell? a1 = some u1) (c2 : W.cell? a2 = some u2) (hd : Dr w W) :
    Calls Try.prog 34 #[v1, v2] W fun e w' => (∃ b : Bool, e = .returned (.bool b)) ∧ w'.cell? a1 = some u1 ∧ w'.cell? a2 = some u2 ∧ Dr w w' :=
  (same_any v1 v2 s1 s2 W (h1.dr hd) (h2.dr hd)).mono fun e w' ⟨b, h, n, hw⟩ => ⟨⟨b, h⟩, by rw [hw]; exact c1, by rw [hw]; exact c2, by rw [hw]; exact hd.step n⟩
set_option maxHeartbeats 800000 in
theorem ords_any (v : Value) (os : List Ord) (w : World) (hv : OrdIn w v os) :
    Calls Try.prog 32 #[v] w (SomeEq w) := by
  obtain ⟨a, cap, rfl⟩ := hv.slice
  by_cases h8 : 8 < os.length
  · clear hv
    go_enter Try.func32, Try.ntmps32
    go_wp2
    go_ret
    exact ⟨2, rfl, 0, rfl⟩
  · by_cases h0 : os.length = 0
    · clear hv
      rw [h0]
      go_enter Try.func32, Try.ntmps32
      go_wp2
      go_loop [3] (fun i => i = .int .i64 0) (fun i => 0)
      case atStart => rfl
      case round =>
        obtain rfl := hrel
        go_wp2
        go_ret
        exact ⟨0, rfl, 0, rfl⟩
    · obtain ⟨B, o, rfl, hB, hl, hc⟩ := hv.at (by omega)
      have HC := Lib.hid hc
      clear hc hv
      go_enter Try.func32, Try.ntmps32
      go_wp2
      go_loopw [3] (fun i W => ∃ k n : Nat, k ≤ os.length ∧ i = .int .i64 k ∧ W = w.drewN n) (fun i _ => os.length - (intOf i).toNat)
      case atStart => exact ⟨0, 0, Nat.zero_le _, rfl, rfl⟩
      case round =>
        obtain ⟨k, n, hk, rfl, rfl⟩ := hrel
        by_cases hlt : k < os.length
        · obtain ⟨g1, _, g3⟩ := HC.out k hlt
          generalize os[k] = x at g1 g3
          have G3 := Lib.hid g3
          clear g3
          go_wp2_with fail
          refine (path_any x.p x.ss _ (G3.out.drewN n)).mono ?_
          rintro e w1 ⟨b, rfl, rfl⟩
          cases b
          · go_wp2_with fail
            go_ret
            exact ⟨10, rfl, n, rfl⟩
          · go_wp2_with fail
            go_loopw [4] (fun i W => ∃ m n : Nat, m ≤ k ∧ i = .int .i64 m ∧ W = w.drewN n) (fun i _ => k - (intOf i).toNat)
            case atStart => exact ⟨0, n, Nat.zero_le _, rfl, rfl⟩
            case round =>
              obtain ⟨m, n2, hm, rfl, rfl⟩ := hrel
              by_cases hlm : m < k
              · obtain ⟨f1, _, f3⟩ := HC.out m (by omega)
                generalize os[m]'(by omega) = y at f1 f3
                have F3 := Lib.hid f3
                clear f3
                have hk0 : (0 : Int) ≤ (k : Int) := by omega
                have hm0 : (0 : Int) ≤ (m : Int) := by omega
                have hkl : (k : Int) < (os.length : Int) := by omega
                have hml : (m : Int) < (os.length : Int) := by omega
                go_wp2_with fail
                refine wp_named (fun W => W.cell? ⟨B, o + k * 2, none⟩ = some x.p ∧ W.cell? ⟨B, o + m * 2, none⟩ = some y.p ∧ Dr w W) ⟨g1, f1, _, rfl⟩ ?_
                rintro W ⟨q1, q2, hW⟩
                have d1 : W.drew.cell? ⟨B, o + k * 2, none⟩ = some x.p := q1
                have d2 : W.drew.cell? ⟨B, o + m * 2, none⟩ = some y.p := q2
                have d3 : Dr w W.drew := hW.drew
                clear g1 f1
                go_region_held3 (fun W' => W'.cell? ⟨B, o + k * 2, none⟩ = some x.p ∧ W'.cell? ⟨B, o + m * 2, none⟩ = some y.p ∧ Dr w W') (refine ⟨?_, ?_, ?_⟩ <;> assumption) (first | (go_at_call 34; refine (same_dr w _ _ x.ss y.ss _ G3.out F3.out (a1 := ⟨B, o + k * 2, none⟩) (a2 := ⟨B, o + m * 2, none⟩) (u1 := x.p) (u2 := y.p) (by assumption) (by assumption) (by assumption)).mono ?_; rintro e w1 ⟨⟨b, rfl⟩, e1, e2, e3⟩))
                obtain ⟨n4, rfl⟩ := e3
                cases b
                · go_wp2_with fail
                  go_roundw
                  case rel => exact ⟨m + 1, n4, by omega, by go_num, rfl⟩
                  case measure => simp [intOf]; omega
                · go_wp2_with fail
                  go_ret
                  exact ⟨12, rfl, n4, rfl⟩
              · go_wp2_with fail
                go_roundw
                case rel => exact ⟨k + 1, n2, by omega, by go_num, rfl⟩
                case measure => simp [intOf]; omega
        · go_wp2_with fail
          go_ret
          exact ⟨0, rfl, n, rfl⟩
theorem Dr.below {w W : World} (h : Dr w W) {b : Nat} {w0 : World} (hb : Below b w0 w) : Below b w0 W := by
  obtain ⟨n, rfl⟩ := h
  induction n with
  | zero => exact hb
  | succ n ih => exact ih.drew
set_option maxHeartbeats 800000 in
theorem key_any (ks : Value) (hs : Bool) (os : List Ord) (w : World) (hv : OrdIn w ks os) :
    Calls Try.prog 27 #[.agg #[ks, .bool hs]] w (SomeE w) := by
  obtain ⟨a, cap, rfl⟩ := hv.slice
  have HV := Lib.hid hv
  clear hv
  go_enter Try.func27, Try.ntmps27
  go_wp2_with fail
  have hbw : Below w.heap.size w (w.alloc (.cells #[.slice a os.length cap, .bool hs] 24)) := (Below.refl _ _).alloc (Nat.le_refl _) _
  have c0 : (w.alloc (.cells #[.slice a os.length cap, .bool hs] 24)).cell? ⟨w.heap.size, 0, none⟩ = some (.slice a os.length cap) := by simp [go_sem]
  have c1 : (w.alloc (.cells #[.slice a os.length cap, .bool hs] 24)).cell? ⟨w.heap.size, 1, none⟩ = some (.bool hs) := by simp [go_sem]
  generalize w.alloc _ = W0 at hbw c0 c1 ⊢
  refine (ords_any _ os _ (HV.out.below hbw)).mono ?_
  rintro e w1 ⟨n, rfl, k, rfl⟩
  have HB := Lib.hid hbw
  clear hbw
  by_cases hn : n = 0
  · subst hn
    by_cases h0 : os.length = 0
    · rw [h0] at c0 ⊢
      go_wp2_with fail
      go_ret
      exact ⟨11, rfl, Dr.below ⟨_, rfl⟩ HB.out⟩
    · obtain ⟨B, o, rfl, hB, hl, hc⟩ := (HV.out.below HB.out).at (by omega)
      have HC := Lib.hid hc
      clear hc
      have hq0 : ((os.length : Int) == 0) = false := by rw [beq_eq_false_iff_ne]; omega
      by_cases h2 : hs = true ∧ 1 < os.length
      · obtain ⟨rfl, h2⟩ := h2
        go_wp2_with fail
        go_ret
        exact ⟨11, rfl, Dr.below ⟨_, rfl⟩ HB.out⟩
      · have key : ∃ b1 : Bool, True := ⟨true, trivial⟩
        cases hs
        all_goals (try have h3 : ¬ (1 : Int) < (os.length : Int) := by simp at h2; omega)
        all_goals
          clear h2 key
          go_wp2_with fail
          go_loop [4] (fun i => ∃ k : Nat, k ≤ os.length ∧ i = .int .i64 k) (fun i => os.length - (intOf i).toNat)
          case atStart => exact ⟨0, Nat.zero_le _, rfl⟩
          case round =>
            obtain ⟨m, hm, rfl⟩ := hrel
            by_cases hlt : m < os.length
            · obtain ⟨_, g2, _⟩ := HC.out m hlt
              generalize os[m].d = d at g2
              cases d
              · go_wp2_with fail
                go_round
                case rel => exact ⟨m + 1, by omega, by go_num⟩
                case measure => simp [intOf]; omega
              · go_wp2_with fail
                go_ret
                exact ⟨11, rfl, Dr.below ⟨_, rfl⟩ HB.out⟩
            · go_wp2_with fail
              go_ret
              exact ⟨0, rfl, Dr.below ⟨_, rfl⟩ HB.out⟩
  · have hn2 : (n == 0) = false := by simpa using hn
    go_wp2_with fail
    go_ret
    exact ⟨n, rfl, Dr.below ⟨_, rfl⟩ HB.out⟩
end Go.Proofs.Ytimhokilicogdaa
