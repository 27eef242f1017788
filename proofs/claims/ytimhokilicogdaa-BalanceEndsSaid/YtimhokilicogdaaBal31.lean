/- Balance: the reference's begin and Find. -/
import Derived.Test.YtimhokilicogdaaBal30
namespace Go.Proofs.Ytimhokilicogdaa
open Go.ChangeShapes Go.WideShapes Go.ChangeAt Go.RowKit Go.Deep
set_option linter.unusedVariables false
set_option linter.unusedSimpArgs false
theorem Good.asc {cs : List Ch} (h : Good cs) : ∀ j i (hi : i < cs.length) (hj : j < i), (cs[j]'(by omega)).lo.data.toList < cs[i].lo.data.toList := by
  intro j i
  induction i with
  | zero => intro _ hj; omega
  | succ i ih =>
    intro hi hj
    have h1 := (h.2.2 i hi).2
    by_cases e : j = i
    · subst e; exact h1
    · exact List.lt_trans (ih (by omega) (by omega)) h1
theorem Good.hi_at {cs : List Ch} (h : Good cs) (i : Nat) (hi : i < cs.length) : cs[i].hi = ⟨#[]⟩ ∨ cs[i].lo.data.toList < cs[i].hi.data.toList := by
  by_cases e : i + 1 < cs.length
  · obtain ⟨h1, h2⟩ := h.2.2 i e
    rw [h1] at h2
    exact .inr h2
  · exact .inl (h.2.1 i hi (by omega))
theorem less_ok {z x : ByteArray} (h : z.data.toList < x.data.toList) : Op.bytesLess z.toList x.toList = true := by
  rw [bytesLess_eq, Lib.toList_data, Lib.toList_data]; exact decide_eq_true h
theorem less_nok {z x : ByteArray} (h : ¬ z.data.toList < x.data.toList) : Op.bytesLess z.toList x.toList = false := by
  rw [bytesLess_eq, Lib.toList_data, Lib.toList_data]; exact decide_eq_false h
theorem not_lt_nil (l : List UInt8) : ¬ l < [] := by intro h; cases h
theorem Good.before {cs : List Ch} (h : Good cs) (j i : Nat) (hi : i < cs.length) (hj : j < i) : ¬ (cs[j]'(by omega)).hi = ⟨#[]⟩ ∧ ¬ cs[i].lo.data.toList < (cs[j]'(by omega)).hi.data.toList := by
  obtain ⟨h1, h2⟩ := h.2.2 j (by omega)
  rw [h1] at h2
  constructor
  · intro e
    rw [e] at h2
    exact not_lt_nil _ h2
  · by_cases e : j + 1 = i
    · subst e
      rw [h1]
      exact List.lt_irrefl _
    · have := h.asc (j + 1) i hi (by omega)
      rw [h1] at this
      exact List.lt_asymm this
theorem rangeAt5_below {w w' : World} {B x : Nat} {c : Ch} (h : w.rangeAt B x c.cells) (hb : Below w.heap.size w w') (hB : B < w.heap.size) : w'.rangeAt B x c.cells :=
  fun i u hu => by rw [hb.cell (p := ⟨B, x + i, none⟩) hB]; exact h i u hu
set_option maxRecDepth 100000 in
set_option maxHeartbeats 800000 in
theorem begin_at (sp : ByteArray) (ks : Value) (hs : Bool) (ep vr : Int) (ch : Value) (cs : List Ch) (lo : ByteArray) (i : Nat) (w : World) (hc : ChsIn w ch cs) (hi : i < cs.length) (hlo : cs[i].lo = lo) (hno : ∀ j (h : j < i), (cs[j]'(by omega)).lo ≠ lo) :
    Calls Try.prog 28 #[rts sp ks hs ep vr ch, .string lo] w fun e w' => e = .returned (.int .i64 (i : Nat)) ∧ Below w.heap.size w w' := by
  obtain ⟨a, cap, rfl⟩ := hc.slice
  obtain ⟨B, o, rfl, hB, hl, hcc⟩ := hc.at (by omega)
  have HC := Lib.hid hcc
  have HLO := Lib.hid hlo
  have HNO := Lib.hid hno
  clear hcc hc hlo hno
  go_enter Try.func28, Try.ntmps28
  go_wp2_with fail
  have hbw : Below w.heap.size w (w.alloc (.cells #[.string sp, ks, .bool hs, .int .i64 ep, .int .i64 vr, .slice (some ⟨B, o, none⟩) cs.length cap] 27)) := (Below.refl _ _).alloc (Nat.le_refl _) _
  have c5 : (w.alloc (.cells #[.string sp, ks, .bool hs, .int .i64 ep, .int .i64 vr, .slice (some ⟨B, o, none⟩) cs.length cap] 27)).cell? ⟨w.heap.size, 5, none⟩ = some (.slice (some ⟨B, o, none⟩) cs.length cap) := by simp [go_sem]
  generalize w.alloc _ = W0 at hbw c5 ⊢
  have HBW := Lib.hid hbw
  have HC0 : Hid (∀ j (h : j < cs.length), W0.rangeAt B (o + j * 5) cs[j].cells) := Lib.hid (fun j h => rangeAt5_below (HC.out j h) hbw hB)
  clear hbw HC
  go_loop [5] (fun v => ∃ k : Nat, k ≤ i ∧ v = .int .i64 k) (fun v => cs.length - (intOf v).toNat)
  case atStart => exact ⟨0, Nat.zero_le _, rfl⟩
  case round =>
    obtain ⟨k, hk, rfl⟩ := hrel
    have hlk : k < cs.length := by omega
    have g0 := (rangeAt5 (HC0.out k hlk)).1
    by_cases hki : k = i
    · subst hki
      rw [HLO.out] at g0
      go_wp2_with fail
      go_ret
      exact ⟨rfl, HBW.out⟩
    · have hne := HNO.out k (by omega)
      generalize cs[k].lo = x at g0 hne
      have hb := str_ne hne
      clear hne
      go_wp2_with fail
      go_round
      case rel => exact ⟨k + 1, by omega, by go_num⟩
      case measure => simp [intOf]; omega
set_option maxRecDepth 100000 in
set_option maxHeartbeats 800000 in
theorem find_at (sp : ByteArray) (ks : Value) (hs : Bool) (ep vr : Int) (ch : Value) (cs : List Ch) (lo : ByteArray) (i : Nat) (w : World) (hc : ChsIn w ch cs) (hi : i < cs.length) (hlo : cs[i].lo = lo) (hg : Good cs) :
    Calls Try.prog 16 #[rts sp ks hs ep vr ch, .string lo] w fun e w' => e = .returned (.int .i64 (i : Nat)) ∧ Below w.heap.size w w' := by
  obtain ⟨a, cap, rfl⟩ := hc.slice
  obtain ⟨B, o, rfl, hB, hl, hcc⟩ := hc.at (by omega)
  have HC := Lib.hid hcc
  have HLO := Lib.hid hlo
  have HG := Lib.hid hg
  clear hcc hc hlo hg
  go_enter Try.func16, Try.ntmps16
  go_wp2_with fail
  have hbw : Below w.heap.size w (w.alloc (.cells #[.string sp, ks, .bool hs, .int .i64 ep, .int .i64 vr, .slice (some ⟨B, o, none⟩) cs.length cap] 27)) := (Below.refl _ _).alloc (Nat.le_refl _) _
  have c5 : (w.alloc (.cells #[.string sp, ks, .bool hs, .int .i64 ep, .int .i64 vr, .slice (some ⟨B, o, none⟩) cs.length cap] 27)).cell? ⟨w.heap.size, 5, none⟩ = some (.slice (some ⟨B, o, none⟩) cs.length cap) := by simp [go_sem]
  generalize w.alloc _ = W0 at hbw c5 ⊢
  have HBW := Lib.hid hbw
  have HC0 : Hid (∀ j (h : j < cs.length), W0.rangeAt B (o + j * 5) cs[j].cells) := Lib.hid (fun j h => rangeAt5_below (HC.out j h) hbw hB)
  clear hbw HC
  go_loop [5] (fun v => ∃ k : Nat, k ≤ i ∧ v = .int .i64 k) (fun v => cs.length - (intOf v).toNat)
  case atStart => exact ⟨0, Nat.zero_le _, rfl⟩
  case round =>
    obtain ⟨k, hk, rfl⟩ := hrel
    have hlk : k < cs.length := by omega
    obtain ⟨g0, g1, _⟩ := rangeAt5 (HC0.out k hlk)
    by_cases hki : k = i
    · subst hki
      rw [HLO.out] at g0
      have hh := HG.out.hi_at k hi
      rw [HLO.out] at hh
      generalize cs[k].hi = y at g1 hh
      rcases hh with rfl | hh
      · go_wp2_with fail
        go_ret
        exact ⟨rfl, HBW.out⟩
      · have hb := less_ok hh
        have hb2 : ¬ y = ⟨#[]⟩ := by rintro rfl; exact not_lt_nil _ hh
        obtain ⟨hb3, hb4⟩ := str_ne0 hb2
        clear hb2
        go_wp2_with fail
        go_ret
        exact ⟨rfl, HBW.out⟩
    · have h1 := HG.out.asc k i hi (by omega)
      obtain ⟨h2, h3⟩ := HG.out.before k i hi (by omega)
      rw [HLO.out] at h1 h3
      generalize cs[k].lo = x at g0 h1
      generalize cs[k].hi = y at g1 h2 h3
      have q1 := less_ok h1
      obtain ⟨q2, q3⟩ := str_ne0 h2
      have q4 := less_nok h3
      clear h1 h2 h3
      go_wp2_with fail
      go_round
      case rel => exact ⟨k + 1, by omega, by go_num⟩
      case measure => simp [intOf]; omega
end Go.Proofs.Ytimhokilicogdaa
