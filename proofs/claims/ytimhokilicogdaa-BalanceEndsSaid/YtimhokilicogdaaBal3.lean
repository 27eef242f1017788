/- Balance: count (under way). -/
import Derived.Test.YtimhokilicogdaaBal2
namespace Go.Proofs.Ytimhokilicogdaa
open Go.ChangeShapes Go.WideShapes Go.ChangeAt Go.RowKit
set_option linter.unusedVariables false
set_option linter.unusedSimpArgs false
/-- how many chunks of shard s, with or without the jumbo ones -/
def cntOf (cs : List Ch) (j : Bool) (s : Nat) : Nat := (cs.filter fun c => decide (c.sh = (s : Int)) && (j || !c.jb)).length
def counts (cs : List Ch) (j : Bool) (n : Nat) : List Int := (List.range n).map fun s => (cntOf cs j s : Int)
theorem counts_len (cs : List Ch) (j : Bool) (n : Nat) : (counts cs j n).length = n := by simp [counts]
theorem counts_nil (j : Bool) (n : Nat) : counts [] j n = List.replicate n 0 := by
  apply List.ext_getElem
  · simp [counts]
  · intro i h1 h2
    simp [counts, cntOf]
theorem cntOf_snoc (cs : List Ch) (c : Ch) (j : Bool) (s : Nat) : cntOf (cs ++ [c]) j s = cntOf cs j s + if c.sh = (s : Int) ∧ (j || !c.jb) = true then 1 else 0 := by
  unfold cntOf
  rw [List.filter_append, List.length_append]
  by_cases h : c.sh = (s : Int) ∧ (j || !c.jb) = true
  · obtain ⟨h1, h2⟩ := h
    simp [h1, h2]
  · rw [if_neg h]
    have : (decide (c.sh = (s : Int)) && (j || !c.jb)) = false := by
      cases h1 : decide (c.sh = (s : Int)) <;> cases h2 : (j || !c.jb) <;> simp_all
    simp [List.filter_cons, this]
theorem cntOf_le (cs : List Ch) (j : Bool) (s : Nat) : cntOf cs j s ≤ cs.length := List.length_filter_le _ _
theorem counts_out (cs : List Ch) (c : Ch) (j : Bool) (n : Nat) (h : ¬ (0 ≤ c.sh ∧ c.sh < n ∧ (j || !c.jb) = true)) : counts (cs ++ [c]) j n = counts cs j n := by
  apply List.ext_getElem
  · simp [counts]
  · intro i h1 h2
    simp only [counts, List.getElem_map, List.getElem_range, cntOf_snoc]
    rw [if_neg]
    · simp
    · rintro ⟨e1, e2⟩
      have : i < n := by simpa [counts] using h1
      exact h ⟨by omega, by omega, e2⟩
theorem counts_in (cs : List Ch) (c : Ch) (j : Bool) (n m : Nat) (hm : c.sh = (m : Int)) (hn : m < n) (hj : (j || !c.jb) = true) : counts (cs ++ [c]) j n = (counts cs j n).set m ((cntOf cs j m : Int) + 1) := by
  apply List.ext_getElem
  · simp [counts]
  · intro i h1 h2
    simp only [counts, List.getElem_map, List.getElem_range, cntOf_snoc, List.getElem_set]
    by_cases e : m = i
    · subst e
      rw [if_pos ⟨hm, hj⟩, if_pos rfl]
      omega
    · rw [if_neg (by rintro ⟨e1, _⟩; omega), if_neg e]
      simp
set_option maxRecDepth 100000 in
set_option maxHeartbeats 1600000 in
theorem count_in (sp : ByteArray) (ks : Value) (hs : Bool) (ep vr : Int) (B o cap : Nat) (cs : List Ch) (n : Nat) (j : Bool) (w : World) (h1 : 1 ≤ n) (h8 : n ≤ 8) (hl : cs.length ≤ 9223372036854775807) (hB : B < w.heap.size) (hc : ∀ j (h : j < cs.length), w.rangeAt B (o + j * 5) cs[j].cells) :
    Calls Try.prog 19 #[rts sp ks hs ep vr (.slice (some ⟨B, o, none⟩) cs.length cap), .int .i64 n, .bool j] w fun e w' => e = .returned (.slice (some ⟨w.heap.size + 1, 0, none⟩) n n) ∧ NumsAt w' (w.heap.size + 1) (counts cs j n) ∧ w.heap.size + 1 < w'.heap.size ∧ Below w.heap.size w w' := by
  have HC := Lib.hid hc
  clear hc
  have hn : n ≤ 100000000 := by omega
  go_enter Try.func19, Try.ntmps19
  go_wp2_with (with_reducible refine wpList_mkInts _ n _ _ _ _ _ hn rfl ?_)
  rintro w2 hN hb2 hs2
  have e0 : (w.alloc (.cells #[.string sp, ks, .bool hs, .int .i64 ep, .int .i64 vr, .slice (some ⟨B, o, none⟩) cs.length cap] 27)).heap.size = w.heap.size + 1 := by simp
  rw [e0] at hN hs2
  have c5 : w2.cell? ⟨w.heap.size, 5, none⟩ = some (.slice (some ⟨B, o, none⟩) cs.length cap) := by rw [(bcell hb2).1 _ _ (by simp)]; simp [go_sem]
  have hB2 : Below w.heap.size w w2 := ((Below.refl _ _).alloc (Nat.le_refl _) _).trans (hb2.mono (by simp))
  have HB2 := Lib.hid hB2
  have HN := Lib.hid hN
  clear hb2 e0 hB2 hN
  go_wp2_with fail
  go_loopw [9, 21] (fun p i W => ∃ k : Nat, k ≤ cs.length ∧ i = .int .i64 k ∧ NumsAt W (w.heap.size + 1) (counts (cs.take k) j n) ∧ w.heap.size + 1 < W.heap.size ∧ Below w.heap.size w W) (fun _ i _ => cs.length - (intOf i).toNat)
  case atStart => exact ⟨0, Nat.zero_le _, rfl, by rw [List.take_zero, counts_nil]; exact HN.out, by omega, HB2.out⟩
  case round =>
    obtain ⟨k, hk, rfl, hnum, hz, hBk⟩ := hrel
    have HNUM := Lib.hid hnum
    have HBK := Lib.hid hBk
    have hsz : w.heap.size < wr.heap.size := by omega
    by_cases hlt : k < cs.length
    · have HR := Lib.hid (fun i v hv => (hBk.cell (p := ⟨B, o + k * 5 + i, none⟩) hB).trans (HC.out k hlt i v hv))
      have HT : Hid (cs.take (k + 1) = cs.take k ++ [cs[k]]) := Lib.hid (List.take_succ_eq_append_getElem hlt)
      have hle := fun s => cntOf_le (cs.take k) j s
      have htk : (cs.take k).length ≤ k := List.length_take_le _ _
      clear hnum hBk
      generalize cs[k] = c at HR HT
      obtain ⟨lo, hi, sh, vr2, jb⟩ := c
      have g0 := HR.out 0 _ rfl
      have g1 := HR.out 1 _ rfl
      have g2 := HR.out 2 _ rfl
      have g3 := HR.out 3 _ rfl
      have g4 := HR.out 4 _ rfl
      simp only [Nat.add_zero] at g0
      clear HR
      by_cases hin : 0 ≤ sh ∧ sh < n
      · obtain ⟨m, hm⟩ := Int.eq_ofNat_of_zero_le hin.1
        have hmn : m < n := by omega
        subst hm
        have HCELL := Lib.hid (HNUM.out.cell m (by rw [counts_len]; exact hmn))
        have hcell : wr.cell? ⟨w.heap.size + 1, m, none⟩ = some (.int .i64 (cntOf (cs.take k) j m : Nat)) := by rw [HCELL.out]; simp [counts]
        have hfree : wr.frozen? ⟨w.heap.size + 1, m, none⟩ = false := HNUM.out.free m (by rw [counts_len]; exact hmn)
        have hlem := hle m
        have hmI : (m : Int) < (n : Int) := by omega
        clear HCELL hle hin
        cases j
        · cases jb
          · have HE : Hid (counts (cs.take (k + 1)) false n = (counts (cs.take k) false n).set m ((cntOf (cs.take k) false m : Int) + 1)) := Lib.hid (by rw [HT.out]; exact counts_in _ _ _ _ _ rfl hmn rfl)
            clear HT
            go_wp2_with fail
            all_goals go_roundw
            all_goals first
              | exact ⟨k + 1, by omega, by go_num, by rw [HE.out]; exact (HNUM.out.set m _ (by rw [counts_len]; exact hmn)).below (B' := wr.heap.size) ((Below.refl _ _).alloc (by simp) _) hz, by simp; omega, (HBK.out.setCell (by simp) _).alloc (by simp; omega) _⟩
              | (simp [intOf]; omega)
          · have HE : Hid (counts (cs.take (k + 1)) false n = counts (cs.take k) false n) := Lib.hid (by rw [HT.out]; exact counts_out _ _ _ _ (by simp))
            clear HT
            go_wp2_with fail
            all_goals go_roundw
            all_goals first
              | exact ⟨k + 1, by omega, by go_num, by rw [HE.out]; exact HNUM.out.below (B' := wr.heap.size) ((Below.refl _ _).alloc (Nat.le_refl _) _) hz, by simp; omega, HBK.out.alloc (by omega) _⟩
              | (simp [intOf]; omega)
        · have HE : Hid (counts (cs.take (k + 1)) true n = (counts (cs.take k) true n).set m ((cntOf (cs.take k) true m : Int) + 1)) := Lib.hid (by rw [HT.out]; exact counts_in _ _ _ _ _ rfl hmn rfl)
          clear HT
          go_wp2_with fail
          all_goals go_roundw
          all_goals first
            | exact ⟨k + 1, by omega, by go_num, by rw [HE.out]; exact (HNUM.out.set m _ (by rw [counts_len]; exact hmn)).below (B' := wr.heap.size) ((Below.refl _ _).alloc (by simp) _) hz, by simp; omega, (HBK.out.setCell (by simp) _).alloc (by simp; omega) _⟩
            | (simp [intOf]; omega)
      · have HE : Hid (counts (cs.take (k + 1)) j n = counts (cs.take k) j n) := Lib.hid (by rw [HT.out]; exact counts_out _ _ _ _ (fun h => hin ⟨h.1, h.2.1⟩))
        clear hle HT
        go_wp2_with fail
        all_goals go_roundw
        all_goals first
          | exact ⟨k + 1, by omega, by go_num, by rw [HE.out]; exact HNUM.out.below (B' := wr.heap.size) ((Below.refl _ _).alloc (Nat.le_refl _) _) hz, by simp; omega, HBK.out.alloc (by omega) _⟩
          | (simp [intOf]; omega)
    · have HE : Hid (cs.take k = cs) := List.take_of_length_le (by omega)
      go_wp2_with fail
      go_ret
      exact ⟨rfl, by rw [← HE.out]; exact HNUM.out, hz, HBK.out⟩
end Go.Proofs.Ytimhokilicogdaa
