/- Balance: the reference's validity of routes. -/
import Derived.Test.YtimhokilicogdaaBal29
import Derived.Test.YtimhokilicogdaaBalPlain
import Derived.Outline
import Derived.Sort.Walk0
import Derived.IntWalk
import Derived.Laws.Cover1
namespace Go.Proofs.Ytimhokilicogdaa
open Go.ChangeShapes Go.WideShapes Go.ChangeAt Go.RowKit Go.Deep
set_option linter.unusedVariables false
set_option linter.unusedSimpArgs false
/-- the chunks cover the keys, in order -/
def Good (cs : List Ch) : Prop := cs ≠ [] ∧ (∀ i (h : i < cs.length), i + 1 = cs.length → cs[i].hi = ⟨#[]⟩) ∧ ∀ i (h : i + 1 < cs.length), cs[i + 1].lo = cs[i].hi ∧ cs[i].lo.data.toList < cs[i + 1].lo.data.toList
def ValidOut (cs : List Ch) (vr : Int) (w : World) (e : Ending) (w' : World) : Prop := ∃ n : Int, e = .returned (.int .i64 n) ∧ (n = 0 → Good cs ∧ 1 ≤ vr) ∧ Below w.heap.size w w'
theorem valid_bad {cs : List Ch} {vr : Int} {w : World} {n : Int} {w' : World} (h : n ≠ 0) (hb : Below w.heap.size w w') : ValidOut cs vr w (.returned (.int .i64 n)) w' := ⟨n, rfl, fun e => absurd e h, hb⟩
theorem str_ne0 {x : ByteArray} (h : ¬ x = ⟨#[]⟩) : ¬ x.toList = [] ∧ x.toList.isEmpty = false := by
  have h1 : ¬ x.toList = [] := by
    rw [Lib.toList_data]
    intro e
    apply h
    cases x
    simp at e
    rw [e]
  exact ⟨h1, by rw [List.isEmpty_eq_false_iff]; exact h1⟩
theorem less_no {z x : ByteArray} (h : z.data.toList < x.data.toList) : Op.bytesLess x.toList z.toList = false ∧ (x.toList == z.toList) = false := by
  rw [bytesLess_eq, Lib.toList_data, Lib.toList_data]
  constructor
  · rw [decide_eq_false_iff_not]; intro h2; exact List.lt_asymm h h2
  · rw [beq_eq_false_iff_ne]; intro e; rw [e] at h; exact List.lt_irrefl _ h
theorem less_yes {z x : ByteArray} (h : ¬ z.data.toList < x.data.toList) : (Op.bytesLess x.toList z.toList || x.toList == z.toList) = true := by
  rw [bytesLess_eq, Lib.toList_data, Lib.toList_data]
  by_cases e : x.data.toList = z.data.toList
  · simp [e]
  · have : x.data.toList < z.data.toList := by
      apply Classical.byContradiction
      intro h2
      exact e (List.le_antisymm (List.not_lt.1 h) (List.not_lt.1 h2))
    simp [this]
theorem rangeAt5 {w : World} {B x : Nat} {c : Ch} (h : w.rangeAt B x c.cells) : w.cell? ⟨B, x, none⟩ = some (.string c.lo) ∧ w.cell? ⟨B, x + 1, none⟩ = some (.string c.hi) ∧ w.cell? ⟨B, x + 2, none⟩ = some (.int .i64 c.sh) ∧ w.cell? ⟨B, x + 3, none⟩ = some (.int .i64 c.vr) ∧ w.cell? ⟨B, x + 4, none⟩ = some (.bool c.jb) :=
  ⟨h 0 _ rfl, h 1 _ rfl, h 2 _ rfl, h 3 _ rfl, h 4 _ rfl⟩
theorem ChsIn.at {w : World} {a : Option Addr} {cap : Nat} {cs : List Ch} (h : ChsIn w (.slice a cs.length cap) cs) (h0 : 0 < cs.length) :
    ∃ B o, a = some ⟨B, o, none⟩ ∧ B < w.heap.size ∧ cs.length ≤ 9223372036854775807 ∧ ∀ j (h : j < cs.length), w.rangeAt B (o + j * 5) cs[j].cells := by
  rcases h with ⟨rfl, _⟩ | ⟨B, o, cap', e, h2, h3, h4, h5⟩
  · simp at h0
  · injection e with e1 e2 e3
    exact ⟨B, o, e1, h2, h4, h5⟩
set_option maxRecDepth 100000 in
set_option maxHeartbeats 2000000 in
theorem valid_any (sp : ByteArray) (ks : Value) (hs : Bool) (ep vr : Int) (ch : Value) (cs : List Ch) (os : List Ord) (w : World) (hsp : sp.size ≤ maxLen) (hc : ChsIn w ch cs) (hk : OrdIn w ks os) :
    Calls Try.prog 14 #[rts sp ks hs ep vr ch] w (ValidOut cs vr w) := by
  obtain ⟨a, cap, rfl⟩ := hc.slice
  have HC := Lib.hid hc
  have HK := Lib.hid hk
  clear hc hk
  have HS := Lib.hid (RB.start w sp ks hs ep vr (.slice a cs.length cap))
  go_enter Try.func14, Try.ntmps14
  go_wp2_with fail
  refine (HS.out.next ((rName_any sp _ hsp).mono fun e w' ⟨h1, h2⟩ => ⟨h1, by rw [← h2]; exact Below.refl _ _⟩)).mono ?_
  rintro e w1 ⟨rfl, hR1⟩
  clear HS
  obtain ⟨a0, a1, a2, a3, a4, a5, hz1, hb1⟩ := hR1
  cases Nm.nameB sp.data.toList
  · go_wp2_with fail
    go_ret
    exact valid_bad (by decide) hb1
  · have HB1 := Lib.hid hb1
    clear hb1
    go_wp2_with fail
    refine ((RB.next (w := w) (F := fun e => ∃ n : Int, e = .returned (.int .i64 n)) ⟨a0, a1, a2, a3, a4, a5, hz1, HB1.out⟩ ((key_any ks hs os _ (HK.out.below HB1.out)).mono fun e w' ⟨n, h1, h2⟩ => ⟨⟨n, h1⟩, h2⟩))).mono ?_
    rintro e w2 ⟨⟨n, rfl⟩, hR2⟩
    clear a0 a1 a2 a3 a4 a5 hz1 HB1
    obtain ⟨a0, a1, a2, a3, a4, a5, hz1, hb1⟩ := hR2
    have HB1 := Lib.hid hb1
    clear hb1
    by_cases hn : n = 0
    · subst hn
      by_cases h64 : (64 : Int) < (cs.length : Int)
      · go_wp2_with fail
        go_ret
        exact valid_bad (by decide) HB1.out
      · by_cases hev : 1 ≤ ep ∧ 1 ≤ vr
        · obtain ⟨hep, hvr⟩ := hev
          go_wp2_with fail
          go_loopw [4] (fun i W => ∃ k : Nat, k ≤ cs.length ∧ i = .int .i64 k ∧ RB w sp ks hs ep vr (.slice a cs.length cap) W) (fun i _ => cs.length - (intOf i).toNat)
          case atStart => exact ⟨0, Nat.zero_le _, rfl, a0, a1, a2, a3, a4, a5, hz1, HB1.out⟩
          case round =>
            clear a0 a1 a2 a3 a4 a5 hz1 HB1
            obtain ⟨k, hk, rfl, hR⟩ := hrel
            have HR := Lib.hid hR
            obtain ⟨a0, a1, a2, a3, a4, a5, hz1, hb1⟩ := hR
            have HB := Lib.hid hb1
            clear hb1
            by_cases hlt : k < cs.length
            · obtain ⟨B, o, rfl, hB, hl, hcc⟩ := (HC.out.below HB.out).at (by omega)
              obtain ⟨g0, g1, g2, g3, g4⟩ := rangeAt5 (hcc k hlt)
              clear hcc
              generalize cs[k] = c at g0 g1 g2 g3 g4
              obtain ⟨lo, hi, sh, v2, jb⟩ := c
              dsimp only at g0 g1 g2 g3 g4
              by_cases h1 : sh < 0
              · go_wp2_with fail
                go_ret
                exact valid_bad (by decide) (by repeat' (first | exact HB.out | refine Below.drew ?_ | refine Below.setCell ?_ (by first | exact Nat.le_refl _ | omega | (simp; omega) | simp) _ | refine Below.alloc ?_ (by first | exact Nat.le_refl _ | omega | (simp; omega) | simp) _))
              · by_cases h2 : 8 ≤ sh
                · go_wp2_with fail
                  go_ret
                  exact valid_bad (by decide) (by repeat' (first | exact HB.out | refine Below.drew ?_ | refine Below.setCell ?_ (by first | exact Nat.le_refl _ | omega | (simp; omega) | simp) _ | refine Below.alloc ?_ (by first | exact Nat.le_refl _ | omega | (simp; omega) | simp) _))
                · by_cases h3 : v2 < 1
                  · go_wp2_with fail
                    go_ret
                    exact valid_bad (by decide) (by repeat' (first | exact HB.out | refine Below.drew ?_ | refine Below.setCell ?_ (by first | exact Nat.le_refl _ | omega | (simp; omega) | simp) _ | refine Below.alloc ?_ (by first | exact Nat.le_refl _ | omega | (simp; omega) | simp) _))
                  · by_cases h4 : vr < v2
                    · go_wp2_with fail
                      go_ret
                      exact valid_bad (by decide) (by repeat' (first | exact HB.out | refine Below.drew ?_ | refine Below.setCell ?_ (by first | exact Nat.le_refl _ | omega | (simp; omega) | simp) _ | refine Below.alloc ?_ (by first | exact Nat.le_refl _ | omega | (simp; omega) | simp) _))
                    · go_wp2_with fail
                      go_roundw
                      case rel => exact ⟨k + 1, by omega, by go_num, HR.out.keep (by repeat' (first | exact Below.refl _ _ | refine Below.drew ?_ | refine Below.setCell ?_ (by first | exact Nat.le_refl _ | omega | (simp; omega) | simp) _ | refine Below.alloc ?_ (by first | exact Nat.le_refl _ | omega | (simp; omega) | simp) _))⟩
                      case measure => simp [intOf]; omega
            · by_cases h0 : cs.length = 0
              · rw [h0] at a5
                go_wp2_with fail
                go_ret
                exact valid_bad (by decide) HB.out
              · obtain ⟨B, o, rfl, hB, hl, hcc⟩ := (HC.out.below HB.out).at (by omega)
                have HCC := Lib.hid hcc
                have f0 := (rangeAt5 (hcc 0 (by omega))).1
                have fl := (rangeAt5 (hcc (cs.length - 1) (by omega))).2.1
                have HLA : Hid (cs[cs.length - 1].hi = ⟨#[]⟩ → ∀ i (h : i < cs.length), i + 1 = cs.length → cs[i].hi = ⟨#[]⟩) := Lib.hid fun h i hi hl => by
                  obtain rfl : i = cs.length - 1 := by omega
                  exact h
                clear hcc
                simp only [Nat.zero_mul, Nat.add_zero] at f0
                generalize cs[0].lo = x0 at f0
                generalize cs[cs.length - 1].hi = y0 at fl HLA
                have hq0 : ((cs.length : Int) == 0) = false := by rw [beq_eq_false_iff_ne]; omega
                by_cases hx : x0 = ⟨#[]⟩
                · by_cases hy : y0 = ⟨#[]⟩
                  · subst hx hy
                    have HLB : Hid (∀ i (h : i < cs.length), i + 1 = cs.length → cs[i].hi = ⟨#[]⟩) := Lib.hid (HLA.out rfl)
                    clear HLA
                    go_wp2_with fail
                    clear f0 fl
                    go_loopw [6] (fun i W => ∃ k : Nat, k + 1 ≤ cs.length ∧ i = .int .i64 ((k : Int) + 1) ∧ (∀ i (h : i + 1 < cs.length), i < k → cs[i + 1].lo = cs[i].hi ∧ cs[i].lo.data.toList < cs[i + 1].lo.data.toList) ∧ W.cell? ⟨w.heap.size, 5, none⟩ = some (.slice (some ⟨B, o, none⟩) cs.length cap) ∧ (∀ j (h : j < cs.length), W.rangeAt B (o + j * 5) cs[j].cells) ∧ Below w.heap.size w W) (fun i _ => cs.length - (intOf i).toNat)
                    case atStart => exact ⟨0, by omega, rfl, fun i _ h => absurd h (by omega), a5, HCC.out, HB.out⟩
                    case round =>
                      clear a0 a1 a2 a3 a4 a5 hz1 HR HB hB HCC
                      obtain ⟨m, hm, rfl, hch, a5, hcc, hbb⟩ := hrel
                      have HCH := Lib.hid hch
                      have HCC := Lib.hid hcc
                      have HBB := Lib.hid hbb
                      clear hch hcc hbb
                      by_cases hlm : m + 1 < cs.length
                      · have f0 := (rangeAt5 (HCC.out (m + 1) hlm)).1
                        have e0 := (rangeAt5 (HCC.out m (by omega))).1
                        have e1 := (rangeAt5 (HCC.out m (by omega))).2.1
                        have HN : Hid (cs[m + 1].lo = cs[m].hi ∧ cs[m].lo.data.toList < cs[m + 1].lo.data.toList → ∀ i (h : i + 1 < cs.length), i < m + 1 → cs[i + 1].lo = cs[i].hi ∧ cs[i].lo.data.toList < cs[i + 1].lo.data.toList) := Lib.hid fun hh i hi him => by
                          by_cases e : i < m
                          · exact HCH.out i hi e
                          · obtain rfl : m = i := by omega
                            exact hh
                        generalize cs[m + 1].lo = x at f0 HN
                        generalize cs[m].hi = y at e1 HN
                        generalize cs[m].lo = z at e0 HN
                        have hm0 : (0 : Int) ≤ (m : Int) + 1 := by omega
                        have hm1 : (m : Int) + 1 < (cs.length : Int) := by omega
                        have hm2 : ((m : Int) + 1).toNat = m + 1 := by omega
                        have hs1 : IntKind.i64.wrap (m : Int) = (m : Int) := IntWalk.i64_in _ (by omega)
                        have hs3 : (m : Int) < (cs.length : Int) := by omega
                        by_cases hxy : x = y
                        · subst hxy
                          by_cases hzx : z.data.toList < x.data.toList
                          · obtain ⟨q1, q2⟩ := less_no hzx
                            go_wp2_with fail
                            go_quiet (fail)
                            go_wp2_with fail
                            go_roundw
                            case rel => exact ⟨m + 1, by omega, by go_num, HN.out ⟨by first | rfl | trivial, hzx⟩, a5, HCC.out, Dr.below ⟨_, rfl⟩ HBB.out⟩
                            case measure => simp [intOf]; omega
                          · have q1 := less_yes hzx
                            go_wp2_with fail
                            go_quiet (fail)
                            go_wp2_with fail
                            go_ret
                            exact valid_bad (by decide) (Dr.below ⟨_, rfl⟩ HBB.out)
                        · have q1 := str_ne hxy
                          go_wp2_with fail
                          go_quiet (fail)
                          go_wp2_with fail
                          go_ret
                          exact valid_bad (by decide) (Dr.below ⟨_, rfl⟩ HBB.out)
                      · have hge : ¬ ((m : Int) + 1 < (cs.length : Int)) := by omega
                        go_wp2_with fail
                        go_ret
                        exact ⟨0, rfl, fun _ => ⟨⟨fun e => by rw [e] at h0; exact h0 rfl, HLB.out, fun i hi => HCH.out i hi (by omega)⟩, hvr⟩, HBB.out⟩
                  · obtain ⟨hy1, hy2⟩ := str_ne0 hy
                    subst hx
                    go_wp2_with fail
                    go_ret
                    exact valid_bad (by decide) HB.out
                · obtain ⟨hx1, hx2⟩ := str_ne0 hx
                  go_wp2_with fail
                  go_ret
                  exact valid_bad (by decide) HB.out
        · by_cases hep : ep < 1
          · go_wp2_with fail
            go_ret
            exact valid_bad (by decide) HB1.out
          · have hvr : vr < 1 := by omega
            clear hev
            go_wp2_with fail
            go_ret
            exact valid_bad (by decide) HB1.out
    · have hn2 : (n == 0) = false := by simpa using hn
      go_wp2_with fail
      go_ret
      exact valid_bad hn HB1.out
end Go.Proofs.Ytimhokilicogdaa
