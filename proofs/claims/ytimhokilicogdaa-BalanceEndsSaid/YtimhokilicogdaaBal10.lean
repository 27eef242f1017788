/- Balance: Load of the reference and of the law. -/
import Derived.Test.YtimhokilicogdaaBal9
import Derived.Outline
namespace Go.Proofs.Ytimhokilicogdaa
open Go.ChangeShapes Go.WideShapes Go.ChangeAt Go.RowKit
set_option linter.unusedVariables false
set_option linter.unusedSimpArgs false
/-- how many chunks of a shard can be moved -/
def loadOf (cs : List Ch) (s : Int) : Nat := (cs.filter fun c => decide (c.sh = s) && !c.jb).length
theorem loadOf_snoc (cs : List Ch) (c : Ch) (s : Int) : loadOf (cs ++ [c]) s = loadOf cs s + if c.sh = s ∧ c.jb = false then 1 else 0 := by
  unfold loadOf
  rw [List.filter_append, List.length_append]
  by_cases h : c.sh = s ∧ c.jb = false
  · obtain ⟨h1, h2⟩ := h
    simp [h1, h2]
  · rw [if_neg h]
    have : (decide (c.sh = s) && !c.jb) = false := by
      cases h1 : decide (c.sh = s) <;> cases h2 : c.jb <;> simp_all
    simp [List.filter_cons, this]
theorem loadOf_le (cs : List Ch) (s : Int) : loadOf cs s ≤ cs.length := List.length_filter_le _ _

set_option maxRecDepth 100000 in
set_option maxHeartbeats 800000 in
theorem rLoad_in (sp : ByteArray) (ks : Value) (hs : Bool) (ep vr : Int) (B o cap : Nat) (cs : List Ch) (s : Int) (w : World) (hl : cs.length ≤ 9223372036854775807) (hB : B < w.heap.size) (hc : ∀ j (h : j < cs.length), w.rangeAt B (o + j * 5) cs[j].cells) :
    Calls Try.prog 25 #[rts sp ks hs ep vr (.slice (some ⟨B, o, none⟩) cs.length cap), .int .i64 s] w fun e w' => e = .returned (.int .i64 (loadOf cs s : Nat)) ∧ Below w.heap.size w w' := by
  have HC := Lib.hid hc
  clear hc
  go_enter Try.func25, Try.ntmps25
  go_wp2_with fail
  have hbw : Below w.heap.size w (w.alloc (.cells #[.string sp, ks, .bool hs, .int .i64 ep, .int .i64 vr, .slice (some ⟨B, o, none⟩) cs.length cap] 27)) := (Below.refl _ _).alloc (Nat.le_refl _) _
  have c5 : (w.alloc (.cells #[.string sp, ks, .bool hs, .int .i64 ep, .int .i64 vr, .slice (some ⟨B, o, none⟩) cs.length cap] 27)).cell? ⟨w.heap.size, 5, none⟩ = some (.slice (some ⟨B, o, none⟩) cs.length cap) := by simp [go_sem]
  generalize w.alloc _ = W0 at hbw c5 ⊢
  have HBW := Lib.hid hbw
  have HC0 : Hid (∀ j (h : j < cs.length), W0.rangeAt B (o + j * 5) cs[j].cells) := Lib.hid (fun j h i u hu => (hbw.cell (p := ⟨B, o + j * 5 + i, none⟩) hB).trans (HC.out j h i u hu))
  clear hbw HC

  go_loop [5, 6] (fun t i => ∃ k : Nat, k ≤ cs.length ∧ i = .int .i64 k ∧ t = .int .i64 (loadOf (cs.take k) s : Nat)) (fun _ i => cs.length - (intOf i).toNat)
  case atStart => exact ⟨0, Nat.zero_le _, rfl, rfl⟩
  case round =>
    obtain ⟨k, hk, rfl, rfl⟩ := hrel
    by_cases hlk : k < cs.length
    · have g2 := HC0.out k hlk 2 _ rfl
      have g4 := HC0.out k hlk 4 _ rfl
      have HT : Hid (loadOf (cs.take (k + 1)) s = loadOf (cs.take k) s + if cs[k].sh = s ∧ cs[k].jb = false then 1 else 0) := Lib.hid (by rw [List.take_succ_eq_append_getElem hlk, loadOf_snoc])
      have hle := loadOf_le (cs.take k) s
      have htk : (cs.take k).length ≤ k := List.length_take_le _ _
      generalize cs[k] = c at g2 g4 HT
      obtain ⟨lo, hi, sh, vr2, jb⟩ := c
      by_cases hsh : sh = s
      · subst hsh
        cases jb
        · have HT2 : Hid (loadOf (cs.take (k + 1)) sh = loadOf (cs.take k) sh + 1) := Lib.hid (by rw [HT.out, if_pos ⟨rfl, rfl⟩])
          clear HT
          go_wp2_with fail
          go_round
          case rel => exact ⟨k + 1, by omega, by go_num, by rw [HT2.out]; go_num⟩
          case measure => simp [intOf]; omega
        · have HT2 : Hid (loadOf (cs.take (k + 1)) sh = loadOf (cs.take k) sh) := Lib.hid (by rw [HT.out, if_neg (by simp)]; rfl)
          clear HT
          go_wp2_with fail
          go_round
          case rel => exact ⟨k + 1, by omega, by go_num, by rw [HT2.out]⟩
          case measure => simp [intOf]; omega
      · have HT2 : Hid (loadOf (cs.take (k + 1)) s = loadOf (cs.take k) s) := Lib.hid (by rw [HT.out, if_neg (fun h => hsh h.1)]; rfl)
        have hne : (sh == s) = false := by simpa using hsh
        clear HT
        go_wp2_with fail
        go_round
        case rel => exact ⟨k + 1, by omega, by go_num, by rw [HT2.out]⟩
        case measure => simp [intOf]; omega
    · have HE : Hid (cs.take k = cs) := List.take_of_length_le (by omega)
      go_wp2_with fail
      go_ret
      exact ⟨by rw [HE.out]; rfl, HBW.out⟩

set_option maxRecDepth 100000 in
set_option maxHeartbeats 800000 in
theorem lload_in (sp : ByteArray) (ks : Value) (hs : Bool) (ep vr : Int) (B o cap : Nat) (cs : List Ch) (s : Int) (w : World) (hl : cs.length ≤ 9223372036854775807) (hB : B < w.heap.size) (hc : ∀ j (h : j < cs.length), w.rangeAt B (o + j * 5) cs[j].cells) :
    Calls Try.prog 17 #[rts sp ks hs ep vr (.slice (some ⟨B, o, none⟩) cs.length cap), .int .i64 s] w fun e w' => e = .returned (.int .i64 (loadOf cs s : Nat)) ∧ Below w.heap.size w w' := by
  have HC := Lib.hid hc
  clear hc
  go_enter Try.func17, Try.ntmps17
  go_wp2_with fail
  have hbw : Below w.heap.size w (w.alloc (.cells #[.string sp, ks, .bool hs, .int .i64 ep, .int .i64 vr, .slice (some ⟨B, o, none⟩) cs.length cap] 27)) := (Below.refl _ _).alloc (Nat.le_refl _) _
  have c5 : (w.alloc (.cells #[.string sp, ks, .bool hs, .int .i64 ep, .int .i64 vr, .slice (some ⟨B, o, none⟩) cs.length cap] 27)).cell? ⟨w.heap.size, 5, none⟩ = some (.slice (some ⟨B, o, none⟩) cs.length cap) := by simp [go_sem]
  generalize w.alloc _ = W0 at hbw c5 ⊢
  have HBW := Lib.hid hbw
  have HC0 : Hid (∀ j (h : j < cs.length), W0.rangeAt B (o + j * 5) cs[j].cells) := Lib.hid (fun j h i u hu => (hbw.cell (p := ⟨B, o + j * 5 + i, none⟩) hB).trans (HC.out j h i u hu))
  clear hbw HC

  go_loop [5, 6] (fun t i => ∃ k : Nat, k ≤ cs.length ∧ i = .int .i64 k ∧ t = .int .i64 (loadOf (cs.take k) s : Nat)) (fun _ i => cs.length - (intOf i).toNat)
  case atStart => exact ⟨0, Nat.zero_le _, rfl, rfl⟩
  case round =>
    obtain ⟨k, hk, rfl, rfl⟩ := hrel
    by_cases hlk : k < cs.length
    · have g2 := HC0.out k hlk 2 _ rfl
      have g4 := HC0.out k hlk 4 _ rfl
      have HT : Hid (loadOf (cs.take (k + 1)) s = loadOf (cs.take k) s + if cs[k].sh = s ∧ cs[k].jb = false then 1 else 0) := Lib.hid (by rw [List.take_succ_eq_append_getElem hlk, loadOf_snoc])
      have hle := loadOf_le (cs.take k) s
      have htk : (cs.take k).length ≤ k := List.length_take_le _ _
      generalize cs[k] = c at g2 g4 HT
      obtain ⟨lo, hi, sh, vr2, jb⟩ := c
      by_cases hsh : sh = s
      · subst hsh
        cases jb
        · have HT2 : Hid (loadOf (cs.take (k + 1)) sh = loadOf (cs.take k) sh + 1) := Lib.hid (by rw [HT.out, if_pos ⟨rfl, rfl⟩])
          clear HT
          go_wp2_with fail
          go_round
          case rel => exact ⟨k + 1, by omega, by go_num, by rw [HT2.out]; go_num⟩
          case measure => simp [intOf]; omega
        · have HT2 : Hid (loadOf (cs.take (k + 1)) sh = loadOf (cs.take k) sh) := Lib.hid (by rw [HT.out, if_neg (by simp)]; rfl)
          clear HT
          go_wp2_with fail
          go_round
          case rel => exact ⟨k + 1, by omega, by go_num, by rw [HT2.out]⟩
          case measure => simp [intOf]; omega
      · have HT2 : Hid (loadOf (cs.take (k + 1)) s = loadOf (cs.take k) s) := Lib.hid (by rw [HT.out, if_neg (fun h => hsh h.1)]; rfl)
        have hne : (sh == s) = false := by simpa using hsh
        clear HT
        go_wp2_with fail
        go_round
        case rel => exact ⟨k + 1, by omega, by go_num, by rw [HT2.out]⟩
        case measure => simp [intOf]; omega
    · have HE : Hid (cs.take k = cs) := List.take_of_length_le (by omega)
      go_wp2_with fail
      go_ret
      exact ⟨by rw [HE.out]; rfl, HBW.out⟩
end Go.Proofs.Ytimhokilicogdaa
