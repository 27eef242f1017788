/- Engine: the law of the nil engine. -/
import Derived.Test.YtpcjmceakelilaaEn17
namespace Go.Proofs.Ytpcjmceakelilaa
open Go.ChangeShapes Go.WideShapes Go.ChangeAt Go.RowKit Go.Deep Go.ChangeMaps Go.Shelf Go.Sort
set_option linter.unusedVariables false
set_option linter.unusedSimpArgs false
attribute [local go_sem] Oper.semAt_some
attribute [local go_sem, local simp] wide_fn
attribute [local go_sem] eql69
theorem nil_checkpoint (s : Int) (W : World) : Calls Try.prog 16 #[.pointer none, .int .i64 s] W fun e W' => e = .returned (.int .i64 3) ∧ Below W.heap.size W W' := by
  go_enter Try.func16, Try.ntmps16
  go_wp2_with fail
  refine bodyPost_ret (v := .int .i64 3) (by simp [results, Try.results16, go_sem]) rfl ⟨rfl, ?_⟩
  exact (Below.refl _ W).alloc (Nat.le_refl _) _
theorem eseekP (p : Option Addr) (tb lo hi : Bs) (t : Int) (back : Bool) (w : World) :
    Calls Try.prog 20 #[.pointer p, .string tb, .string lo, .string hi, .int .i64 t, .bool back] w fun e w' => e = .returned (.func (.func 32) #[] #[.pointer (some ⟨w.heap.size, 0, none⟩), .pointer (some ⟨w.heap.size + 1, 0, none⟩), .pointer (some ⟨w.heap.size + 2, 0, none⟩), .pointer (some ⟨w.heap.size + 3, 0, none⟩), .pointer (some ⟨w.heap.size + 4, 0, none⟩), .pointer (some ⟨w.heap.size + 5, 0, none⟩)]) ∧ EBox w' w.heap.size (.pointer p) tb lo hi t back ∧ w'.heap.size = w.heap.size + 6 ∧ Below w.heap.size w w' := by
  go_enter Try.func20, Try.ntmps20
  go_wp2_with fail
  go_ret
  have b0 := Boxed.new w 27 (.pointer p)
  have b1 := Boxed.new (w.alloc (.cells #[.pointer p] 27)) 9 (.string tb)
  have b2 := Boxed.new ((w.alloc (.cells #[.pointer p] 27)).alloc (.cells #[.string tb] 9)) 9 (.string lo)
  have b3 := Boxed.new (((w.alloc (.cells #[.pointer p] 27)).alloc (.cells #[.string tb] 9)).alloc (.cells #[.string lo] 9)) 9 (.string hi)
  have b4 := Boxed.new ((((w.alloc (.cells #[.pointer p] 27)).alloc (.cells #[.string tb] 9)).alloc (.cells #[.string lo] 9)).alloc (.cells #[.string hi] 9)) 3 (.int .i64 t)
  have b5 := Boxed.new (((((w.alloc (.cells #[.pointer p] 27)).alloc (.cells #[.string tb] 9)).alloc (.cells #[.string lo] 9)).alloc (.cells #[.string hi] 9)).alloc (.cells #[.int .i64 t] 3)) 4 (.bool back)
  simp only [World.size_alloc] at b1 b2 b3 b4 b5
  refine ⟨rfl, ⟨(((((b0.alloc _).alloc _).alloc _).alloc _).alloc _).cell, ((((b1.alloc _).alloc _).alloc _).alloc _).cell, (((b2.alloc _).alloc _).alloc _).cell, ((b3.alloc _).alloc _).cell, (b4.alloc _).cell, b5.cell⟩, by simp, ?_⟩
  exact ((((((Below.refl _ w).alloc (Nat.le_refl _) _).alloc (by simp) _).alloc (by simp; omega) _).alloc (by simp; omega) _).alloc (by simp; omega) _).alloc (by simp; omega) _
def YesOut (W : World) (e : Ending) (W' : World) : Prop := e = .returned (.bool true) ∧ Below W.heap.size W W'
set_option maxRecDepth 100000 in
set_option maxHeartbeats 3200000 in
theorem law_nil_in (n : Nat) (w : World) (h1 : 1 ≤ n) : CallsIn Fence.wide n Try.prog 5 #[] w (YesOut w) := by
  refine callsIn_of_wp_marks Try.func5 rfl trivial ?_ rfl
  simp only [Try.ntmps5, List.size_toArray, List.length_cons, List.length_nil, Nat.reduceAdd, Nat.reduceSub, Array.replicate_succ, Array.replicate_zero, List.push_toArray, List.append_toArray, List.nil_append, List.cons_append]
  gi_wp2_with (first
    | (gi_at_call 18; refine (callsIn_wide.2 (nil_sync w)).mono ?_; rintro e w1 ⟨rfl, hw⟩; obtain rfl := hw.symm)
    | (gi_at_call 19; refine (callsIn_wide.2 (nil_get _ _ _ w)).mono ?_; rintro e w1 ⟨rfl, hw⟩; obtain rfl := hw.symm)
    | (gi_at_call 20; refine (callsIn_wide.2 (eseekP _ _ _ _ _ _ w)).mono ?_; rintro e w2 ⟨rfl, hbx, hsz, hb2⟩; have H2 := Lib.hid (And.intro hbx (And.intro hsz hb2)); clear hbx hsz hb2))
  have H3 := Lib.hid (And.intro (Boxed.new w2 3 (.int .i64 0)) (show Below w.heap.size w (w2.alloc (.cells #[.int .i64 0] 3)) from H2.out.2.2.alloc H2.out.2.2.size _))
  have hz2 : w2.heap.size = w.heap.size + 6 := H2.out.2.1
  have hex : (w2.alloc (.cells #[.int .i64 0] 3)).cell? ⟨w.heap.size, 0, none⟩ = some (.pointer none) := ca (by omega) H2.out.1.c0
  refine rangeO h1 (gf := 32) (lb := #[.pointer (some ⟨w.heap.size, 0, none⟩), .pointer (some ⟨w.heap.size + 1, 0, none⟩), .pointer (some ⟨w.heap.size + 2, 0, none⟩), .pointer (some ⟨w.heap.size + 3, 0, none⟩), .pointer (some ⟨w.heap.size + 4, 0, none⟩), .pointer (some ⟨w.heap.size + 5, 0, none⟩)]) rfl (enters_of Try.func32 (by kernel_rfl) rfl)
    (encs := encP) (Kp := fun _ _ => True) (S := fun xs => xs = []) (N := 0) (w0 := w2.alloc (.cells #[.int .i64 0] 3)) ?seq (Below.refl _ _) (fun _ _ => trivial) (fun _ _ _ _ _ _ => trivial) (fun _ => rfl)
    (fun pre W => Boxed W w2.heap.size 3 (.int .i64 0) ∧ Below w.heap.size w W) (OwnFrom.and (Own.from (boxed_own (β := List (Bs × Bs)) w2.heap.size 3 (fun _ => .int .i64 0)) _) (ownFrom_below (Nat.le_refl _) (by rw [World.size_alloc]; omega))) ⟨H3.out.1, H3.out.2⟩ (fun _ => { tmps := #[], defers := [] })
    (fun l pre x W K hl _ => absurd hl (Nat.not_lt_zero _)) (fun l pre x W hi hl => absurd hl (Nat.not_lt_zero _)) ?done
  case seq =>
    intro l J W1 hW hz hJ hY h0
    exact enil_any (n - 1) l w.heap.size _ _ _ _ _ J W1 hJ ((hW.cell (p := ⟨w.heap.size, 0, none⟩) (by simp; omega)).trans hex) (Nat.lt_of_lt_of_le (show w.heap.size < (w2.alloc (.cells #[.int .i64 0] 3)).heap.size by simp; omega) hW.size) h0
  case done =>
    rintro D xs W hD rfl ⟨hbx, hbl⟩ hK
    have c5 := hbx.cell
    have HB := Lib.hid hbl
    have HD := Lib.hid (show w.heap.size ≤ D by have := hD; simp only [World.size_alloc] at this; omega)
    clear hbx hbl H3 hex H2 hz2 hD
    gi_wp2_with (first
    | (gi_at_call 12; refine (callsIn_wide.2 (nil_commit _ _ _)).mono ?_; rintro e w1 ⟨rfl, rfl⟩)
    | (gi_at_call 21; refine (callsIn_wide.2 (nil_rollback _ _)).mono ?_; rintro e w1 ⟨rfl, rfl⟩)
    | (gi_at_call 16; refine (callsIn_wide.2 (nil_checkpoint _ _)).mono ?_; rintro e w1 ⟨rfl, hb1⟩)
    | (gi_at_call 10; refine (callsIn_wide.2 (nil_stamp _)).mono ?_; rintro e w5 ⟨rfl, rfl⟩)
    | (gi_at_call 9; refine (callsIn_wide.2 (nil_disk _)).mono ?_; rintro e w6 ⟨rfl, rfl⟩)
    | (gi_at_call 17; refine (callsIn_wide.2 (nil_synced _)).mono ?_; rintro e w7 ⟨rfl, rfl⟩)
    | (gi_at_call 14; refine (callsIn_wide.2 (awake_any _)).mono ?_; rintro e w8 ⟨rfl, hb8⟩))
    have hK7 := (hb1.block D (Array.getElem?_eq_some_iff.1 hK).1).trans hK
    have hK8 := (hb8.block D (Array.getElem?_eq_some_iff.1 hK7).1).trans hK7
    have hfin : Below w.heap.size w w8 := (HB.out.trans (hb1.mono HB.out.size)).trans (hb8.mono (Nat.le_trans HB.out.size hb1.size))
    refine ⟨by simp, .inl ⟨_, _, rfl, run_takeDeferred hK8, ?_⟩⟩
    exact ⟨_, results_tmp rfl _ _ _, rfl, hfin.trans (belowK_b (w := w) (Nat.le_refl _) w8 D _ _ HD.out hK8 rfl rfl)⟩
theorem law_nil (W : World) : Calls Try.prog 5 #[] W (YesOut W) := callsIn_wide.1 (law_nil_in 1 W (Nat.le_refl _))
end Go.Proofs.Ytpcjmceakelilaa
