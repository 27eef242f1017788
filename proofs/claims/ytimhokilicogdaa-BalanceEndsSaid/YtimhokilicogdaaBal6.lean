/- Balance: the reference's Counts (under way). -/
import Derived.Test.YtimhokilicogdaaBal5
import Derived.OwnWalk
import Derived.Laws.AppendOwn
namespace Go.Proofs.Ytimhokilicogdaa
open Go.ChangeShapes Go.WideShapes Go.ChangeAt Go.RowKit
set_option linter.unusedVariables false
set_option linter.unusedSimpArgs false
def ints (l : List Int) : List Value := l.map (.int .i64 ·)
theorem own_ge {w : World} {base : Nat} {e : TypeId} {size : Nat} {v : Value} {n : Nat} {xs : List Value} (h : w.ownsRow base e size v n xs) : ∀ k, v.ownBlock = some k → base ≤ k := by
  intro k hk
  rcases h.2 with ⟨rfl, _⟩ | ⟨g, cap, cur, rfl, hb, _⟩
  · simp [Value.ownBlock] at hk
  · simp [Value.ownBlock] at hk
    omega
set_option maxRecDepth 100000 in
set_option maxHeartbeats 1600000 in
theorem rCounts_in (sp : ByteArray) (ks : Value) (hs : Bool) (ep vr : Int) (B o cap : Nat) (cs : List Ch) (n : Nat) (w : World) (h1 : 1 ≤ n) (h8 : n ≤ 8) (hl : cs.length ≤ 9223372036854775807) (hB : B < w.heap.size) (hc : ∀ j (h : j < cs.length), w.rangeAt B (o + j * 5) cs[j].cells) :
    Calls Try.prog 10 #[rts sp ks hs ep vr (.slice (some ⟨B, o, none⟩) cs.length cap), .int .i64 n] w fun e w' => (∃ v, e = .returned v ∧ w'.ownsRow (w.heap.size + 1) 3 1 v n (ints (counts cs true n))) ∧ Below w.heap.size w w' := by
  have HC := Lib.hid hc
  clear hc
  obtain ⟨i3, hi3, hz0, hz1, hz2⟩ := info_parts info3
  go_enter Try.func10, Try.ntmps10
  go_wp2_with fail
  have hbw : Below w.heap.size w (w.alloc (.cells #[.string sp, ks, .bool hs, .int .i64 ep, .int .i64 vr, .slice (some ⟨B, o, none⟩) cs.length cap] 27)) := (Below.refl _ _).alloc (Nat.le_refl _) _
  have c5 : (w.alloc (.cells #[.string sp, ks, .bool hs, .int .i64 ep, .int .i64 vr, .slice (some ⟨B, o, none⟩) cs.length cap] 27)).cell? ⟨w.heap.size, 5, none⟩ = some (.slice (some ⟨B, o, none⟩) cs.length cap) := by simp [go_sem]
  have hsz : (w.alloc (.cells #[.string sp, ks, .bool hs, .int .i64 ep, .int .i64 vr, .slice (some ⟨B, o, none⟩) cs.length cap] 27)).heap.size = w.heap.size + 1 := by simp
  generalize w.alloc _ = W0 at hbw c5 hsz ⊢
  have HBW := Lib.hid hbw
  have HC0 : Hid (∀ j (h : j < cs.length), W0.rangeAt B (o + j * 5) cs[j].cells) := Lib.hid (fun j h i u hu => (hbw.cell (p := ⟨B, o + j * 5 + i, none⟩) hB).trans (HC.out j h i u hu))
  clear hbw HC
  go_loopw [5, 6] (fun v s W => ∃ q : Nat, q ≤ n ∧ s = .int .i64 q ∧ W.ownsRow (w.heap.size + 1) 3 1 v q (ints ((counts cs true n).take q)) ∧ Below (w.heap.size + 1) W0 W) (fun _ s _ => n - (intOf s).toNat)
  case atStart => exact ⟨0, Nat.zero_le _, rfl, ⟨rfl, .inl ⟨rfl, rfl⟩⟩, Below.refl _ _⟩
  case round =>
    obtain ⟨q, hq, rfl, hown, hBk⟩ := hrel
    have hBk' : Below (w.heap.size + 1) W0 wr := hBk
    have d5 : wr.cell? ⟨w.heap.size, 5, none⟩ = some (.slice (some ⟨B, o, none⟩) cs.length cap) := (hBk.cell (p := ⟨w.heap.size, 5, none⟩) (by simp)).trans c5
    have HBK := Lib.hid hBk
    have HOWN := Lib.hid hown
    have hws : w.heap.size + 1 ≤ wr.heap.size := by have := hBk.size; omega
    clear hown hBk hBk'
    by_cases hlt : q < n
    · go_wp2_with fail
      go_loop [7, 8] (fun t i => ∃ k : Nat, k ≤ cs.length ∧ i = .int .i64 k ∧ t = .int .i64 (cntOf (cs.take k) true q : Nat)) (fun _ i => cs.length - (intOf i).toNat)
      case atStart => exact ⟨0, Nat.zero_le _, rfl, rfl⟩
      case round =>
        obtain ⟨k, hk, rfl, rfl⟩ := hrel
        by_cases hlk : k < cs.length
        · have g2 : wr.cell? ⟨B, o + k * 5 + 2, none⟩ = some (.int .i64 cs[k].sh) := (HBK.out.cell (p := ⟨B, o + k * 5 + 2, none⟩) (show B < w.heap.size + 1 by omega)).trans (HC0.out k hlk 2 _ rfl)
          have HT : Hid (cntOf (cs.take (k + 1)) true q = cntOf (cs.take k) true q + if cs[k].sh = (q : Int) ∧ (true || !cs[k].jb) = true then 1 else 0) := Lib.hid (by rw [List.take_succ_eq_append_getElem hlk, cntOf_snoc])
          have hle := cntOf_le (cs.take k) true q
          have htk : (cs.take k).length ≤ k := List.length_take_le _ _
          generalize cs[k] = c at g2 HT
          obtain ⟨lo, hi, sh, vr2, jb⟩ := c
          by_cases hsh : sh = (q : Int)
          · subst hsh
            have HT2 : Hid (cntOf (cs.take (k + 1)) true q = cntOf (cs.take k) true q + 1) := Lib.hid (by rw [HT.out, if_pos ⟨rfl, rfl⟩])
            clear HT
            go_wp2_with fail
            go_round
            case rel => exact ⟨k + 1, by omega, by go_num, by rw [HT2.out]; go_num⟩
            case measure => simp [intOf]; omega
          · have HT2 : Hid (cntOf (cs.take (k + 1)) true q = cntOf (cs.take k) true q) := Lib.hid (by rw [HT.out, if_neg (fun h => hsh h.1)]; rfl)
            have hne : (sh == (q : Int)) = false := by simpa using hsh
            clear HT
            go_wp2_with fail
            go_round
            case rel => exact ⟨k + 1, by omega, by go_num, by rw [HT2.out]⟩
            case measure => simp [intOf]; omega
        · have HE : Hid (cs.take k = cs) := List.take_of_length_le (by omega)
          rw [HE.out]
          go_wp2_with (at_builtin; refine wpList_append_own _ rfl _ _ 30 rfl (w.heap.size + 1) 3 i3 (.int .i64 0) 1 8 Try.underlying30 hi3 hz0 hz1 hz2 rfl (by decide) _ _ _ rfl (HOWN.out.alloc _) ⟨wr.heap.size, 0, none⟩ 1 1 [.int .i64 (cntOf cs true q : Nat)] rfl rfl ?c1 ?c2 ?c3 ?c4 ?c5 ?_)
          case c2 => first | rfl | (intro u hu; simp only [List.mem_singleton] at hu; subst hu; rfl)
          case c3 => unfold maxLen; omega
          case c4 => omega
          case c5 => first | omega | (simp; omega)
          intro v' w2 hown2 hgrow _
          have hb2 : Below (w.heap.size + 1) W0 w2 := (HBK.out.alloc hws _).grown hgrow (by simp; omega) (own_ge HOWN.out)
          have hown3 : w2.ownsRow (w.heap.size + 1) 3 1 v' (q + 1) (ints ((counts cs true n).take (q + 1))) := by
            rw [List.take_succ_eq_append_getElem (by rw [counts_len]; exact hlt)]
            have : (counts cs true n)[q]'(by rw [counts_len]; exact hlt) = (cntOf cs true q : Int) := by simp [counts]
            rw [this]
            simpa [ints] using hown2
          have HB2 := Lib.hid hb2
          have HO3 := Lib.hid hown3
          clear hown2 hgrow hb2 hown3
          go_wp2_with fail
          go_roundw
          case rel => exact ⟨q + 1, by omega, by go_num, HO3.out, HB2.out⟩
          case measure => simp [intOf]; omega
    · have hqn : q = n := by omega
      subst hqn
      have HE : Hid ((counts cs true q).take q = counts cs true q) := Lib.hid (List.take_of_length_le (by rw [counts_len]; omega))
      go_wp2_with fail
      go_ret
      exact ⟨⟨_, rfl, by rw [← HE.out]; exact HOWN.out⟩, HBW.out.trans (HBK.out.mono (by omega))⟩
end Go.Proofs.Ytimhokilicogdaa
