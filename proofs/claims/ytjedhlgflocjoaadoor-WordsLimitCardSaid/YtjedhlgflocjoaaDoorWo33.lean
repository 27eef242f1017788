/- Words: the law Limit. -/
import Derived.Test.YtjedhlgflocjoaaDoorWo32
import Derived.Test.YtjedhlgflocjoaaDoorWo31
import Derived.Test.YtjedhlgflocjoaaDoorWo27
import Derived.Deep.RegionHeld3
namespace Go.Proofs.YtjedhlgflocjoaaDoor
open Go.ChangeShapes Go.WideShapes Go.ChangeAt Go.RowKit Go.Sort
set_option linter.unusedVariables false
set_option linter.unusedSimpArgs false
theorem conv2 (W : World) (a b : UInt8) (T : TypeId) (x y : Int) (hx : (a.toNat : Int) = x) (hy : (b.toNat : Int) = y) :
    (convert 33 9 (.slice (some ⟨W.heap.size, 0, none⟩) 2 2)).run Tryd.prog (W.alloc (.cells #[.int .u8 x, .int .u8 y] T)) = .ok (.string (Wd.bs [a, b])) (W.alloc (.cells #[.int .u8 x, .int .u8 y] T)) := by
  subst hx
  subst hy
  refine conv_bytes (l := [a, b]) 2 ⟨fun j hj => ?_, fun j hj => ?_⟩
  · have : j = 0 ∨ j = 1 := by have : j < 2 := by simpa using hj
                               omega
    rcases this with rfl | rfl <;> simp [go_sem]
  · simp [go_sem]
theorem limit_step (k : Nat) : Wd.bs (Wd.lt k) ++ ((⟨#[32, 120]⟩ : ByteArray) ++ Wd.bs [UInt8.ofNat (97 + k / 16), UInt8.ofNat (97 + k % 16)] ++ (⟨#[113]⟩ : ByteArray)) = Wd.bs (Wd.lt (k + 1)) := by
  rw [show (⟨#[32, 120]⟩ : ByteArray) = Wd.bs [32, 120] from rfl, show (⟨#[113]⟩ : ByteArray) = Wd.bs [113] from rfl, add_bs, add_bs, add_bs]
  rfl
set_option maxHeartbeats 2000000 in
theorem limit_any (n : Int) (w : World) (hw : EnvB w) (h0 : 0 ≤ n) (h1 : n ≤ 255) : Calls Tryd.prog 8 #[.int .u8 n] w fun e w' => e = .returned (.bool true) ∧ Below w.heap.size w w' := by
  obtain ⟨N, rfl⟩ : ∃ N : Nat, n = N := ⟨n.toNat, by omega⟩
  have HW := Lib.hid hw
  clear hw
  have hN : N ≤ 255 := by omega
  go_enter Tryd.func8, Tryd.ntmps8
  go_wp2_with fail
  go_loopw [3, 8] (fun s i wr => ∃ k : Nat, k ≤ N ∧ i = .int .i64 k ∧ s = .string (Wd.bs (Wd.lt k)) ∧ Below w.heap.size w wr) (fun _ i _ => N - (intOf i).toNat)
  case atStart => exact ⟨0, Nat.zero_le _, rfl, rfl, Below.refl _ _⟩
  case round =>
    obtain ⟨k, hk, rfl, rfl, hbk⟩ := hrel
    have HBK := Lib.hid hbk
    clear hbk
    by_cases hlt : k < N
    · obtain ⟨q, m, hq16, hm16, hkq⟩ : ∃ q m : Nat, q < 16 ∧ m < 16 ∧ k = 16 * q + m := ⟨k / 16, k % 16, by omega, by omega, by omega⟩
      have hdq : Int.tdiv (k : Int) 16 = (q : Int) := by rw [Int.tdiv_eq_ediv_of_nonneg (by omega)]; omega
      have hdm : Int.tmod (k : Int) 16 = (m : Int) := by rw [Int.tmod_eq_emod_of_nonneg (by omega)]; omega
      have hk1 : k / 16 = q := by omega
      have hk2 : k % 16 = m := by omega
      have HSN0 := limit_step k
      rw [hk1, hk2] at HSN0
      have HSN := Lib.hid HSN0
      clear HSN0 hk1 hk2 hkq
      have hz : (Wd.bs (Wd.lt k)).size ≤ 1300 := by rw [Wd.bs_size, Wd.lt_len]; omega
      have hcv := fun W T => conv2 W (UInt8.ofNat (97 + q)) (UInt8.ofNat (97 + m)) T (97 + (q : Int)) (97 + (m : Int)) (by rw [UInt8.toNat_ofNat']; omega) (by rw [UInt8.toNat_ofNat']; omega)
      have hzz : (Wd.bs [UInt8.ofNat (97 + q), UInt8.ofNat (97 + m)]).size ≤ 2 := Nat.le_refl _
      generalize Wd.bs [UInt8.ofNat (97 + q), UInt8.ofNat (97 + m)] = z at *
      generalize hb : Wd.bs (Wd.lt k) = r at *
      clear hb
      have f1 : 2 + z.size ≤ 9223372036854775807 := by omega
      have f1' : ¬ (9223372036854775807 < 2 + z.size) := by omega
      have f2 : 2 + z.size + 1 ≤ 9223372036854775807 := by omega
      have f2' : ¬ (9223372036854775807 < 2 + z.size + 1) := by omega
      have f3 : r.size + (2 + z.size + 1) ≤ 9223372036854775807 := by omega
      have f3' : ¬ (9223372036854775807 < r.size + (2 + z.size + 1)) := by omega
      go_wp2_with fail
      go_roundw
      case rel => exact ⟨k + 1, by omega, by go_num, by rw [HSN.out], below_all HBK.out ((Below.refl _ _).alloc (Nat.le_refl _) _)⟩
      case measure => simp [intOf] <;> omega
    · obtain rfl : k = N := by omega
      have HIX : Hid (∀ W, Calls Tryd.prog 16 #[.string (Wd.bs (Wd.lt k))] W fun e w' => ∃ v, e = .returned v ∧ StrsAt w' v ((Wd.lws k).take 128) ∧ Below W.heap.size W w') := Lib.hid (fun W => by
        have h := index_any (Wd.bs (Wd.lt k)) W (by rw [Wd.bs_size, Wd.lt_len]; omega)
        have e1 : (Wd.bs (Wd.lt k)).data.toList = Wd.lt k := rfl
        rw [e1, Wd.index_lt k (by omega)] at h
        refine Calls.mono h ?_
        rintro e w' ⟨v, rfl, hs⟩
        exact ⟨v, rfl, hs.reads, hs.below⟩)
      have hlen := Wd.limit_len k
      have HF1 : Hid (0 < k → ∀ h' : 0 < ((Wd.lws k).take 128).length, ((Wd.lws k).take 128)[0] = [120, 97, 97, 113]) := Lib.hid (fun h h' => Wd.limit_first k h h')
      have HAS := Lib.hid (Wd.limit_asc k (by omega))
      generalize (Wd.lws k).take 128 = l at *
      generalize Wd.bs (Wd.lt k) = r at *
      have hlm : min (k : Int) 128 = (l.length : Int) := by rw [hlen]; omega
      have hlm2 : ((l.length : Int) == min (k : Int) 128) = true := by rw [hlm]; exact beq_self_eq_true _
      have hl128 : l.length ≤ 128 := by omega
      have hkl : l.length ≤ k ∧ (l.length = 0 → k = 0) := by omega
      have HLN := Lib.hid hlen
      clear hlen
      go_wp2_with fail
      refine (HIX.out _).mono ?_
      rintro e w2 ⟨v, rfl, hv, hb⟩
      have HB2 := Lib.hid (below_all HBK.out hb)
      have HV := Lib.hid hv
      obtain ⟨xv, cv, rfl⟩ := strs_shape hv
      clear hv hb HIX HBK
      by_cases hk0 : l.length = 0
      · obtain rfl : l = [] := List.length_eq_zero_iff.1 hk0
        obtain rfl : k = 0 := hkl.2 rfl
        clear hkl hlm hlm2 hl128 HF1
        have hq1 : ((0 : Int) == min (0 : Int) 128) = true := rfl
        set_option maxRecDepth 4000 in go_wp2_with fail
        refine (sorted_any _ [] _ HV.out (by simp) List.Pairwise.nil).mono ?_
        rintro e w3 ⟨rfl, hb⟩
        have HB3 := Lib.hid (below_all HB2.out hb)
        clear hb
        go_wp2_with fail
        refine (awake_any _ (HW.out.keep HB3.out)).mono ?_
        rintro e w9 ⟨rfl, hb9⟩
        have HB9 := Lib.hid (below_all HB3.out hb9)
        clear hb9
        go_wp2_with fail
        go_ret
        exact ⟨rfl, HB9.out⟩
      · obtain ⟨g, rfl, _, hc⟩ := strs_at HV.out 0 (by omega)
        have h0l : 0 < l.length := by omega
        rw [HF1.out (by omega) h0l] at hc
        have hbl : (Wd.bs [120, 97, 97, 113]).toList = [120, 97, 97, 113] := by decide +kernel
        have hn0 : ((l.length : Int) == 0) = false := by rw [beq_eq_false_iff_ne]; omega
        have hpos : (0 : Int) < (l.length : Int) := by omega
        clear hkl
        go_wp2_with fail
        refine (sorted_any _ l _ HV.out (by omega) HAS.out).mono ?_
        rintro e w3 ⟨rfl, hb⟩
        have HB3 := Lib.hid (below_all HB2.out hb)
        clear hb
        go_wp2_with fail
        refine (awake_any _ (HW.out.keep HB3.out)).mono ?_
        rintro e w9 ⟨rfl, hb9⟩
        have HB9 := Lib.hid (below_all HB3.out hb9)
        clear hb9
        go_wp2_with fail
        go_ret
        exact ⟨rfl, HB9.out⟩
theorem law_limit (n : Int) (g : (Lit.int .u8 n).wf = true) (w : World) (hw : EnvB w) : Calls Tryd.prog 8 #[.int .u8 n] w fun e w' => e = .returned (.bool true) ∧ Below w.heap.size w w' := by
  simp [Lit.wf, IntKind.min, IntKind.max, IntKind.signed, IntKind.bits] at g
  exact limit_any n w hw (by omega) (by omega)
end Go.Proofs.YtjedhlgflocjoaaDoor
