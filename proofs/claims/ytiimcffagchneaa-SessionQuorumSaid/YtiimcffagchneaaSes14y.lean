/- Members: the reference's 'Valid', by cases. -/
import Derived.Test.YtiimcffagchneaaSes15
import Derived.StillTailTactics
namespace Go.Proofs.Ytiimcffagchneaa
open Go.ChangeShapes Go.WideShapes Go.ChangeAt Go.RowKit
set_option linter.unusedVariables false
set_option linter.unusedSimpArgs false
set_option maxRecDepth 100000 in
set_option maxHeartbeats 8000000 in
theorem rvalid_yes (id sz tm vt rl ld ti vs : Int) (lg : Value) (cm : Int) (nx mt : Value) (es : List (List Value)) (w : World) (hl : es.length ≤ 100) (he : EntArg w lg es) (hn : IntArg w nx) (hm : IntArg w mt)
    (a1 : 1 ≤ sz) (a2 : sz ≤ 7) (a3 : 0 ≤ id) (a4 : id < sz) (a5 : 0 ≤ tm) (a6 : -1 ≤ vt) (a7 : vt < sz) (a8 : -1 ≤ ld) (a9 : ld < sz) (b1 : ¬ rl < 0) (b2 : ¬ 2 < rl) (b3 : ¬ ti < 0) (b4 : ¬ vs < 0) (b5 : ¬ IntKind.i64.wrap (2 ^ sz.toNat) ≤ vs)  :
    Calls Try.prog 26 #[mem id sz tm vt rl ld ti vs lg cm nx mt] w fun e w' => Says (1 ≤ sz ∧ sz ≤ 7 ∧ 0 ≤ cm ∧ cm ≤ es.length) e ∧ Below w.heap.size w w' := by
  have HE := Lib.hid he
  have HN := Lib.hid hn
  have HM := Lib.hid hm
  obtain ⟨ga, gc, rfl⟩ := he.len
  obtain ⟨an, ln, cn, rfl, hln⟩ := hn.len
  obtain ⟨am, lm, cm2, rfl, hlm⟩ := hm.len
  clear he hn hm
  have f1 : decide (sz < 1) = false := by simp; omega
  have f2 : decide (7 < sz) = false := by simp; omega
  have f3 : decide (id < 0) = false := by simp; omega
  have f4 : decide (sz ≤ id) = false := by simp; omega
  have f5 : decide (tm < 0) = false := by simp; omega
  have f6 : decide (vt < -1) = false := by simp; omega
  have f7 : decide (sz ≤ vt) = false := by simp; omega
  have f8 : decide (ld < -1) = false := by simp; omega
  have f9 : decide (sz ≤ ld) = false := by simp; omega
  go_enter Try.func26, Try.ntmps26
  go_wp2_with fail
  refine wp_named (MB w id sz tm vt rl ld ti vs (.slice ga es.length gc) cm (.slice an ln cn) (.slice am lm cm2)) (MB.start w id sz tm vt rl ld ti vs (.slice ga es.length gc) cm (.slice an ln cn) (.slice am lm cm2)) ?_
  rintro W ⟨c0, c1, c2, c3, c4, c5, c6, c7, c8, c9, c10, c11, hz, hB⟩
  have e1 : decide (rl < 0) = false := by simpa using b1
  have e2 : decide (2 < rl) = false := by simpa using b2
  have e3 : decide (ti < 0) = false := by simpa using b3
  have e4 : decide (vs < 0) = false := by simpa using b4
  have e5 : decide (IntKind.i64.wrap (2 ^ sz.toNat) ≤ vs) = false := by simpa using b5
  go_still_tail 28, (by kernel_rfl)
  change wpList _ _ _ _ _ W.drew
  refine wpList_named (MB w id sz tm vt rl ld ti vs (.slice ga es.length gc) cm (.slice an ln cn) (.slice am lm cm2)) ⟨c0, c1, c2, c3, c4, c5, c6, c7, c8, c9, c10, c11, hz, hB.drew⟩ ?_
  clear c0 c1 c2 c3 c4 c5 c6 c7 c8 c9 c10 c11 hz hB
  intro W1 hMB
  have HMB := Lib.hid hMB
  go_wp2_with fail
  refine (MB.next HMB.out (logged_any _ _ _ _ _ _ _ _ _ es _ _ _ _ hl (HE.out.below HMB.out.2.2.2.2.2.2.2.2.2.2.2.2.2))).mono ?_
  rintro e W2 ⟨⟨lb, hee, hF⟩, d0, d1, d2, d3, d4, d5, d6, d7, d8, d9, d10, d11, dz, dB⟩
  subst hee
  have HF := Lib.hid hF
  clear hF hMB HMB
  cases lb
  · go_wp2_with fail
    go_ret
    exact ⟨⟨_, rfl, fun h => by cases h⟩, dB⟩
  · have HT : Hid (0 ≤ cm ∧ cm ≤ es.length) := Lib.hid (HF.out rfl)
    clear HF
    rcases (show rl = 0 ∨ rl = 1 ∨ rl = 2 by omega) with rfl | rfl | rfl
    · go_wp2_with fail
      have hBd := dB.drew
      go_region_held3 (fun W => W.cell? ⟨w.heap.size, 0, none⟩ = some (.int .i64 id) ∧ W.cell? ⟨w.heap.size, 1, none⟩ = some (.int .i64 sz) ∧ W.cell? ⟨w.heap.size, 2, none⟩ = some (.int .i64 tm) ∧ W.cell? ⟨w.heap.size, 3, none⟩ = some (.int .i64 vt) ∧ W.cell? ⟨w.heap.size, 4, none⟩ = some (.int .i64 0) ∧ W.cell? ⟨w.heap.size, 5, none⟩ = some (.int .i64 ld) ∧ W.cell? ⟨w.heap.size, 6, none⟩ = some (.int .i64 ti) ∧ W.cell? ⟨w.heap.size, 7, none⟩ = some (.int .i64 vs) ∧ W.cell? ⟨w.heap.size, 8, none⟩ = some (.slice ga es.length gc) ∧ W.cell? ⟨w.heap.size, 9, none⟩ = some (.int .i64 cm) ∧ W.cell? ⟨w.heap.size, 10, none⟩ = some (.slice an ln cn) ∧ W.cell? ⟨w.heap.size, 11, none⟩ = some (.slice am lm cm2) ∧ w.heap.size < W.heap.size ∧ Below w.heap.size w W) (refine ⟨?_, ?_, ?_, ?_, ?_, ?_, ?_, ?_, ?_, ?_, ?_, ?_, ?_, ?_⟩ <;> assumption) (first | (go_at_call 32; refine (votes_any _ _ _ a1 a2).mono ?_; rintro e wq ⟨⟨nv, hev⟩, rfl⟩; subst hev) | (go_at_call 28; refine (rmaj_any _ _ a1 a2).mono ?_; rintro e wq ⟨hev, rfl⟩; subst hev))
      go_wp2_with (first | (go_at_call 33; refine (places_any _ _ _ ((by first | exact HN.out.below (by assumption) | exact HM.out.below (by assumption)))).mono ?_; rintro e wq ⟨⟨pb, hev, _⟩, rfl⟩; subst hev))
      all_goals (go_ret; exact ⟨⟨_, rfl, fun _ => by first | exact ⟨a1, a2, HT.out⟩ | exact HT.out⟩, by assumption⟩)
    · by_cases t1 : tm < 1
      · go_wp2_with fail
        go_ret
        exact ⟨⟨_, rfl, fun _ => by first | exact ⟨a1, a2, HT.out⟩ | exact HT.out⟩, by assumption⟩
      · by_cases t2 : vt = id
        · cases t3 : ((vs / 2 ^ id.toNat).tmod 2 == 0)
          · go_wp2_with fail
            have hBd := dB.drew
            go_region_held3 (fun W => W.cell? ⟨w.heap.size, 0, none⟩ = some (.int .i64 id) ∧ W.cell? ⟨w.heap.size, 1, none⟩ = some (.int .i64 sz) ∧ W.cell? ⟨w.heap.size, 2, none⟩ = some (.int .i64 tm) ∧ W.cell? ⟨w.heap.size, 3, none⟩ = some (.int .i64 vt) ∧ W.cell? ⟨w.heap.size, 4, none⟩ = some (.int .i64 1) ∧ W.cell? ⟨w.heap.size, 5, none⟩ = some (.int .i64 ld) ∧ W.cell? ⟨w.heap.size, 6, none⟩ = some (.int .i64 ti) ∧ W.cell? ⟨w.heap.size, 7, none⟩ = some (.int .i64 vs) ∧ W.cell? ⟨w.heap.size, 8, none⟩ = some (.slice ga es.length gc) ∧ W.cell? ⟨w.heap.size, 9, none⟩ = some (.int .i64 cm) ∧ W.cell? ⟨w.heap.size, 10, none⟩ = some (.slice an ln cn) ∧ W.cell? ⟨w.heap.size, 11, none⟩ = some (.slice am lm cm2) ∧ w.heap.size < W.heap.size ∧ Below w.heap.size w W) (refine ⟨?_, ?_, ?_, ?_, ?_, ?_, ?_, ?_, ?_, ?_, ?_, ?_, ?_, ?_⟩ <;> assumption) (first | (go_at_call 32; refine (votes_any _ _ _ a1 a2).mono ?_; rintro e wq ⟨⟨nv, hev⟩, rfl⟩; subst hev) | (go_at_call 28; refine (rmaj_any _ _ a1 a2).mono ?_; rintro e wq ⟨hev, rfl⟩; subst hev))
            go_wp2_with (first | (go_at_call 33; refine (places_any _ _ _ ((by first | exact HN.out.below (by assumption) | exact HM.out.below (by assumption)))).mono ?_; rintro e wq ⟨⟨pb, hev, _⟩, rfl⟩; subst hev))
            all_goals (go_ret; exact ⟨⟨_, rfl, fun _ => by first | exact ⟨a1, a2, HT.out⟩ | exact HT.out⟩, by assumption⟩)
          · go_wp2_with fail
            go_ret
            exact ⟨⟨_, rfl, fun _ => by first | exact ⟨a1, a2, HT.out⟩ | exact HT.out⟩, by assumption⟩
        · go_wp2_with fail
          go_ret
          exact ⟨⟨_, rfl, fun _ => by first | exact ⟨a1, a2, HT.out⟩ | exact HT.out⟩, by assumption⟩
    · by_cases t1 : tm < 1
      · go_wp2_with fail
        go_ret
        exact ⟨⟨_, rfl, fun _ => by first | exact ⟨a1, a2, HT.out⟩ | exact HT.out⟩, by assumption⟩
      · by_cases t2 : vt = id
        · cases t3 : ((vs / 2 ^ id.toNat).tmod 2 == 0)
          · go_wp2_with fail
            have hBd := dB.drew
            go_region_held3 (fun W => W.cell? ⟨w.heap.size, 0, none⟩ = some (.int .i64 id) ∧ W.cell? ⟨w.heap.size, 1, none⟩ = some (.int .i64 sz) ∧ W.cell? ⟨w.heap.size, 2, none⟩ = some (.int .i64 tm) ∧ W.cell? ⟨w.heap.size, 3, none⟩ = some (.int .i64 vt) ∧ W.cell? ⟨w.heap.size, 4, none⟩ = some (.int .i64 2) ∧ W.cell? ⟨w.heap.size, 5, none⟩ = some (.int .i64 ld) ∧ W.cell? ⟨w.heap.size, 6, none⟩ = some (.int .i64 ti) ∧ W.cell? ⟨w.heap.size, 7, none⟩ = some (.int .i64 vs) ∧ W.cell? ⟨w.heap.size, 8, none⟩ = some (.slice ga es.length gc) ∧ W.cell? ⟨w.heap.size, 9, none⟩ = some (.int .i64 cm) ∧ W.cell? ⟨w.heap.size, 10, none⟩ = some (.slice an ln cn) ∧ W.cell? ⟨w.heap.size, 11, none⟩ = some (.slice am lm cm2) ∧ w.heap.size < W.heap.size ∧ Below w.heap.size w W) (refine ⟨?_, ?_, ?_, ?_, ?_, ?_, ?_, ?_, ?_, ?_, ?_, ?_, ?_, ?_⟩ <;> assumption) (first | (go_at_call 32; refine (votes_any _ _ _ a1 a2).mono ?_; rintro e wq ⟨⟨nv, hev⟩, rfl⟩; subst hev) | (go_at_call 28; refine (rmaj_any _ _ a1 a2).mono ?_; rintro e wq ⟨hev, rfl⟩; subst hev))
            go_wp2_with (first | (go_at_call 33; refine (places_any _ _ _ ((by first | exact HN.out.below (by assumption) | exact HM.out.below (by assumption)))).mono ?_; rintro e wq ⟨⟨pb, hev, _⟩, rfl⟩; subst hev))
            all_goals (go_ret; exact ⟨⟨_, rfl, fun _ => by first | exact ⟨a1, a2, HT.out⟩ | exact HT.out⟩, by assumption⟩)
          · go_wp2_with fail
            go_ret
            exact ⟨⟨_, rfl, fun _ => by first | exact ⟨a1, a2, HT.out⟩ | exact HT.out⟩, by assumption⟩
        · go_wp2_with fail
          go_ret
          exact ⟨⟨_, rfl, fun _ => by first | exact ⟨a1, a2, HT.out⟩ | exact HT.out⟩, by assumption⟩
end Go.Proofs.Ytiimcffagchneaa
