/- Balance: the closure of Next, and IndexFunc with it. -/
import Derived.Test.YtimhokilicogdaaBal12
import Derived.Outline
namespace Go.Proofs.Ytimhokilicogdaa
open Go.ChangeShapes Go.WideShapes Go.ChangeAt Go.RowKit
set_option linter.unusedVariables false
set_option linter.unusedSimpArgs false
/-- the chunk can be moved from shard s -/
def fit (s : Int) (c : Ch) : Bool := decide (c.sh = s) && !c.jb
theorem fn1_any (lo hi : ByteArray) (sh v2 : Int) (jb : Bool) (D : Nat) (s : Int) (w : World) (hD : D < w.heap.size) (hs : w.cell? ⟨D, 0, none⟩ = some (.int .i64 s)) :
    Calls Try.prog 22 #[.agg #[.string lo, .string hi, .int .i64 sh, .int .i64 v2, .bool jb], .pointer (some ⟨D, 0, none⟩)] w fun e w' => e = .returned (.bool (fit s ⟨lo, hi, sh, v2, jb⟩)) ∧ Below w.heap.size w w' := by
  have hbw : Below w.heap.size w (w.alloc (.cells #[.string lo, .string hi, .int .i64 sh, .int .i64 v2, .bool jb] 47)) := (Below.refl _ _).alloc (Nat.le_refl _) _
  by_cases h : sh = s
  · subst h
    cases jb
    · go_enter Try.func22, Try.ntmps22
      go_wp2_with fail
      go_ret
      exact ⟨by simp [fit], hbw⟩
    · go_enter Try.func22, Try.ntmps22
      go_wp2_with fail
      go_ret
      exact ⟨by simp [fit], hbw⟩
  · have hne : (sh == s) = false := by simpa using h
    go_enter Try.func22, Try.ntmps22
    go_wp2_with fail
    go_ret
    exact ⟨by simp [fit, h], hbw⟩
theorem findIdx_take (p : Ch → Bool) (cs : List Ch) (k : Nat) (hk : k < cs.length) (hno : ∀ c ∈ cs.take k, p c = false) (hp : p cs[k] = true) : cs.findIdx p = k := by
  rw [List.findIdx_eq hk]
  refine ⟨hp, fun j hj => ?_⟩
  have := hno (cs[j]'(by omega)) (by rw [List.mem_take_iff_getElem]; exact ⟨j, by omega, rfl⟩)
  simpa using this
set_option maxRecDepth 100000 in
set_option maxHeartbeats 800000 in
theorem idxf_in (B o cap : Nat) (cs : List Ch) (D : Nat) (s : Int) (w : World) (hl : cs.length ≤ 9223372036854775807) (hB : B < w.heap.size) (hc : ∀ j (h : j < cs.length), w.rangeAt B (o + j * 5) cs[j].cells) (hD : D < w.heap.size) (hs : w.cell? ⟨D, 0, none⟩ = some (.int .i64 s)) (hex : ∃ c ∈ cs, fit s c = true) :
    Calls Try.prog 21 #[.slice (some ⟨B, o, none⟩) cs.length cap, .func (.func 22) #[] #[.pointer (some ⟨D, 0, none⟩)]] w fun e w' => e = .returned (.int .i64 (cs.findIdx (fit s) : Nat)) ∧ Below w.heap.size w w' := by
  have HC := Lib.hid hc
  have HX := Lib.hid hex
  clear hc hex
  have HS := Lib.hid hs
  clear hs
  go_enter Try.func21, Try.ntmps21
  go_wp2_with fail
  go_loopw [8] (fun i W => ∃ k : Nat, k ≤ cs.length ∧ i = .int .i64 k ∧ (∀ c ∈ cs.take k, fit s c = false) ∧ Below w.heap.size w W) (fun i _ => cs.length - (intOf i).toNat)
  case atStart => exact ⟨0, Nat.zero_le _, rfl, by simp, Below.refl _ _⟩
  case round =>
    obtain ⟨k, hk, rfl, hno, hBk⟩ := hrel
    have HNO := Lib.hid hno
    have HBK := Lib.hid hBk
    by_cases hlt : k < cs.length
    · have HR := Lib.hid (fun i v hv => (hBk.cell (p := ⟨B, o + k * 5 + i, none⟩) hB).trans (HC.out k hlt i v hv))
      have HF : Hid (fit s cs[k] = true → cs.findIdx (fit s) = k) := Lib.hid (findIdx_take _ _ _ hlt hno)
      have HN : Hid (fit s cs[k] = false → ∀ c ∈ cs.take (k + 1), fit s c = false) := Lib.hid (fun hf c hm => by
        rw [List.take_succ_eq_append_getElem hlt, List.mem_append, List.mem_singleton] at hm
        rcases hm with hm | rfl
        · exact hno c hm
        · exact hf)
      have HS2 := Lib.hid ((hBk.cell (p := ⟨D, 0, none⟩) hD).trans HS.out)
      have hD2 : D < wr.heap.size := Nat.lt_of_lt_of_le hD hBk.size
      clear hno hBk
      generalize cs[k] = c at HR HF HN
      obtain ⟨lo, hi, sh, vr2, jb⟩ := c
      have g0 := HR.out 0 _ rfl
      have g1 := HR.out 1 _ rfl
      have g2 := HR.out 2 _ rfl
      have g3 := HR.out 3 _ rfl
      have g4 := HR.out 4 _ rfl
      simp only [Nat.add_zero] at g0
      clear HR
      cases hf : fit s ⟨lo, hi, sh, vr2, jb⟩
      · go_wp2_with (go_at_call 22; refine (fn1_any lo hi sh vr2 jb D s _ hD2 HS2.out).mono ?_; rintro e w2 ⟨he2, hb2⟩; rw [hf] at he2; subst he2)
        all_goals go_roundw
        all_goals first
          | exact ⟨k + 1, by omega, by go_num, HN.out (by assumption), HBK.out.trans ((by assumption : Below wr.heap.size wr _).mono HBK.out.size)⟩
          | (simp [intOf]; omega)
      · go_wp2_with (go_at_call 22; refine (fn1_any lo hi sh vr2 jb D s _ hD2 HS2.out).mono ?_; rintro e w2 ⟨he2, hb2⟩; rw [hf] at he2; subst he2)
        go_ret
        exact ⟨by rw [HF.out (by assumption)]; rfl, HBK.out.trans ((by assumption : Below wr.heap.size wr _).mono HBK.out.size)⟩
    · exfalso
      obtain ⟨c, hm, hc⟩ := HX.out
      have HE : cs.take k = cs := List.take_of_length_le (by omega)
      have := hno c (by rw [HE]; exact hm)
      rw [hc] at this
      exact absurd this (by simp)
end Go.Proofs.Ytimhokilicogdaa
