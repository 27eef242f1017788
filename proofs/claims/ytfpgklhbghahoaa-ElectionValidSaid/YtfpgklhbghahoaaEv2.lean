/- Election: what a log must be; the reference's 'logged' decides it. -/
import Derived.Test.YtfpgklhbghahoaaEv1
namespace Go.Proofs.Ytfpgklhbghahoaa
open Go.ChangeShapes Go.WideShapes Go.ChangeAt Go.RowKit
set_option linter.unusedVariables false
set_option linter.unusedSimpArgs false
theorem ret_b {a b : Bool} (h : b = a) : Ending.returned (.bool a) = Ending.returned (.bool b) := by rw [h]
def trm : List Value → Int
  | .int _ t :: _ => t
  | _ => 0
/-- the terms do not fall, and the times ascend -/
def logB (tm : Int) : Int → Int → List (List Value) → Bool
  | _, _, [] => true
  | t, s, e :: r => if trm e < t ∨ tm < trm e ∨ stp e ≤ s ∨ 1099511627776 < stp e then false else logB tm (trm e) (stp e) r
def lgB (tm cm : Int) (es : List (List Value)) : Bool := logB tm 0 0 es && decide (0 ≤ cm ∧ cm ≤ es.length)
theorem lg_no {tm : Int} {es : List (List Value)} (cm : Int) (h : logB tm 0 0 es = false) : lgB tm cm es = false := by unfold lgB; rw [h]; rfl
theorem lg_at {tm : Int} {es : List (List Value)} (cm : Int) (h : logB tm 0 0 es = true) : lgB tm cm es = decide (0 ≤ cm ∧ cm ≤ es.length) := by unfold lgB; rw [h]; rfl
theorem lg_out {tm cm : Int} {es : List (List Value)} (h : ¬ (0 ≤ cm ∧ cm ≤ es.length)) : lgB tm cm es = false := by unfold lgB; rw [decide_eq_false h, Bool.and_false]
theorem log_step {tm tz sz t0 s0 : Int} {k : Nat} {es : List (List Value)} {r0 : List Value} (hk : k < es.length) (h : logB tm tz sz (es.drop k) = logB tm 0 0 es) (hes : es[k] = .int .i64 t0 :: .int .i64 s0 :: r0) :
    ((t0 < tz ∨ tm < t0 ∨ s0 ≤ sz ∨ 1099511627776 < s0) → logB tm 0 0 es = false) ∧ (¬ (t0 < tz ∨ tm < t0 ∨ s0 ≤ sz ∨ 1099511627776 < s0) → logB tm t0 s0 (es.drop (k + 1)) = logB tm 0 0 es) := by
  rw [List.drop_eq_getElem_cons hk, hes] at h
  have e : logB tm tz sz ((.int .i64 t0 :: .int .i64 s0 :: r0) :: es.drop (k + 1)) = if t0 < tz ∨ tm < t0 ∨ s0 ≤ sz ∨ 1099511627776 < s0 then false else logB tm t0 s0 (es.drop (k + 1)) := rfl
  rw [e] at h
  refine ⟨fun h2 => ?_, fun h2 => ?_⟩
  · rw [if_pos h2] at h; exact h.symm
  · rw [if_neg h2] at h; exact h
noncomputable def z74 : Array Value := ((Try.prog.info? 73).bind (fun i => i.zero.map (fun z => z.cells))).getD #[]
theorem z74_size : z74.size = 82 := by kernel_rfl
theorem info74 : (Try.prog.info? 73).map (·.size) = some 82 := by kernel_rfl
theorem exec_alloc74 (d : Option Nat) (pos : String) (af) (a : Act) (w : World) :
    (execOp a.eval { dst := d, op := Op.alloc 73, type := 0, pos := pos, after := af, guard := none }).run Try.prog w = .ok (.value (.pointer (some ⟨w.heap.size, 0, none⟩))) (w.alloc (.cells z74 73)) := by kernel_rfl
theorem wpList_alloc74 {ops : Array Oper} {rest : List Oper} {Q : Exit → Act → World → Prop} (d : Option Nat) (pos : String) (af) (a : Act) (w : World) (h : wpList Try.prog ops Q rest (a.put d (.pointer (some ⟨w.heap.size, 0, none⟩))) (w.alloc (.cells z74 73))) :
    wpList Try.prog ops Q ({ dst := d, op := Op.alloc 73, type := 0, pos := pos, after := af, guard := none } :: rest) a w :=
  wpList_val rfl (exec_alloc74 _ _ _ _ _) h
theorem wpList_load74 {ops : Array Oper} {rest : List Oper} {Q : Exit → Act → World → Prop} (x : Nat) (B O : Nat) (cs : List Value) (d : Option Nat) (pos : String) (af) (a : Act) (w : World) (hx : a.eval (.tmp x) = .pointer (some ⟨B, O, none⟩)) (hr : w.rangeAt B O cs) (hE : Ent cs)
    (h : wpList Try.prog ops Q rest (a.put d (.agg cs.toArray)) w) :
    wpList Try.prog ops Q ({ dst := d, op := Op.load 73 (Operand.tmp x), type := 73, pos := pos, after := af, guard := none } :: rest) a w :=
  wpList_load_mid rfl _ _ rfl B O hx cs _ hr Try.underlying73 rfl (by rw [hE.1]; exact info74) h
theorem there_new (w : World) : (w.alloc (.cells z74 73)).there w.heap.size 0 82 := fun j hj => by
  rw [Nat.zero_add]
  refine ⟨?_, by simp [go_sem]⟩
  rw [World.cell?_alloc_new, Array.getElem?_eq_getElem (by rw [z74_size]; exact hj)]
  rfl
theorem Below.setCells {a : World} {B : Nat} (b : Nat) (hb : B ≤ b) : ∀ (vs : List Value) (o : Nat) (w : World), Below B a w → Below B a (w.setCells b o vs)
  | [], _, _, h => h
  | v :: r, o, w, h => Below.setCells b hb r (o + 1) _ (h.setCell hb v)
theorem setCells_size (b : Nat) : ∀ (vs : List Value) (o : Nat) (w : World), (w.setCells b o vs).heap.size = w.heap.size
  | [], _, _ => rfl
  | v :: r, o, w => by rw [World.setCells, setCells_size b r (o + 1)]; simp
theorem wpList_store74 {ops : Array Oper} {rest : List Oper} {Q : Exit → Act → World → Prop} (x y : Nat) (cs : List Value) (d : Option Nat) (pos : String) (af) (a : Act) (w : World) (hx : a.eval (.tmp x) = .pointer (some ⟨w.heap.size, 0, none⟩)) (hy : a.eval (.tmp y) = .agg cs.toArray) (hE : Ent cs)
    (h : ∀ w', w'.rangeAt w.heap.size 0 cs → Below w.heap.size w w' → w.heap.size < w'.heap.size → wpList Try.prog ops Q rest (a.put d undef) w') :
    wpList Try.prog ops Q ({ dst := d, op := Op.store 73 (Operand.tmp x) (Operand.tmp y), type := 0, pos := pos, after := af, guard := none } :: rest) a (w.alloc (.cells z74 73)) := by
  have hz : cs.toArray.size = 82 := by simpa using hE.1
  refine wpList_store_mid rfl _ _ _ rfl w.heap.size 0 cs.toArray hx hy (by rw [hz]; exact there_new w) (by rw [hz]; exact info74) (all_oneCell_toArray hE.2.1) ?_
  refine h _ ?_ ?_ ?_
  · exact World.rangeAt_setCells_same _ _ _ _ (by have := there_new w; rw [hE.1]; exact this)
  · exact Below.setCells _ (Nat.le_refl _) _ _ _ ((Below.refl _ _).alloc (Nat.le_refl _) _)
  · rw [setCells_size]; simp

set_option maxRecDepth 100000 in
set_option maxHeartbeats 800000 in
theorem logged_in (id sz tm vt rl ld ti vs : Int) (B o cap : Nat) (es : List (List Value)) (cm : Int) (nx mt : Value) (w : World) (hl : es.length ≤ 100) (hB : B < w.heap.size) (he : ∀ j (h : j < es.length), w.rangeAt B (o + j * 82) es[j] ∧ Ent es[j]) :
    Calls Try.prog 33 #[mem id sz tm vt rl ld ti vs (.slice (some ⟨B, o, none⟩) es.length cap) cm nx mt] w fun e w' => e = .returned (.bool (lgB tm cm es)) ∧ Below w.heap.size w w' := by
  have HE := Lib.hid he
  clear he
  go_enter Try.func33, Try.ntmps33
  go_wp2_with fail
  go_loopw [3, 4, 5, 6] (fun t s i p W => ∃ (k : Nat) (tz sz : Int), k ≤ es.length ∧ t = .int .i64 tz ∧ s = .int .i64 sz ∧ i = .int .i64 k ∧ W.cell? ⟨w.heap.size, 2, none⟩ = some (.int .i64 tm) ∧ W.cell? ⟨w.heap.size, 8, none⟩ = some (.slice (some ⟨B, o, none⟩) es.length cap) ∧ W.cell? ⟨w.heap.size, 9, none⟩ = some (.int .i64 cm) ∧ w.heap.size < W.heap.size ∧ Below w.heap.size w W ∧ Hid (logB tm tz sz (es.drop k) = logB tm 0 0 es)) (fun _ _ i _ _ => es.length - (intOf i).toNat)
  case atStart => exact ⟨0, 0, 0, Nat.zero_le _, rfl, rfl, rfl, by simp [go_sem], by simp [go_sem], by simp [go_sem], by simp, (Below.refl _ _).alloc (Nat.le_refl _) _, Lib.hid rfl⟩
  case round =>
    obtain ⟨k, tz, sz', hk, rfl, rfl, rfl, c2, c8, c9, hz, hB0, HI⟩ := hrel
    by_cases hlt : k < es.length
    · have HR : Hid (wr.rangeAt B (o + k * 82) es[k]) := Lib.hid (fun j v hv => (hB0.cell (p := ⟨B, o + k * 82 + j, none⟩) hB).trans ((HE.out k hlt).1 j v hv))
      have HN : Hid (Ent es[k]) := Lib.hid (HE.out k hlt).2
      obtain ⟨t0, s0, r0, hes⟩ := HN.out.2.2
      have HST := Lib.hid (log_step hlt HI.out hes)
      clear HI
      have HES := Lib.hid hes
      clear hes
      generalize es[k] = cs at HR HN HES
      go_wp2_with (first | (with_reducible refine wpList_load74 _ _ _ cs _ _ _ _ _ rfl HR.out HN.out ?_) | (with_reducible refine wpList_alloc74 _ _ _ _ _ ?_) | (with_reducible refine wpList_store74 _ _ cs _ _ _ _ _ rfl rfl HN.out ?_))
      rintro w2 hr2 hb2 hs2
      have g0 : w2.cell? ⟨wr.heap.size, 0, none⟩ = some (.int .i64 t0) := hr2 0 _ (by rw [HES.out]; rfl)
      have g1 : w2.cell? ⟨wr.heap.size, 1, none⟩ = some (.int .i64 s0) := hr2 1 _ (by rw [HES.out]; rfl)
      clear hr2
      obtain ⟨hc, _⟩ := bcell hb2
      have d2 : w2.cell? ⟨w.heap.size, 2, none⟩ = some (.int .i64 tm) := (hc _ _ hz).trans c2
      have d8 : w2.cell? ⟨w.heap.size, 8, none⟩ = some (.slice (some ⟨B, o, none⟩) es.length cap) := (hc _ _ hz).trans c8
      have d9 : w2.cell? ⟨w.heap.size, 9, none⟩ = some (.int .i64 cm) := (hc _ _ hz).trans c9
      have HBN : Hid (Below w.heap.size w w2) := Lib.hid (hB0.trans (hb2.mono (Nat.le_of_lt hz)))
      have hz2 : w.heap.size < w2.heap.size := by omega
      clear hc c2 c8 c9 hB0 hb2 HR HN HES
      go_wp2_with fail
      all_goals first
        | (go_ret; exact ⟨ret_b (lg_no cm (HST.out.1 (by omega))), HBN.out⟩)
        | (go_roundw
           case rel => exact ⟨k + 1, t0, s0, by omega, rfl, rfl, by go_num, d2, d8, d9, hz2, HBN.out, Lib.hid (HST.out.2 (by omega))⟩
           case measure => simp [intOf]; omega)
    · have HT : Hid (logB tm 0 0 es = true) := Lib.hid (by rw [← HI.out, List.drop_eq_nil_of_le (by omega)]; rfl)
      clear HI
      by_cases hc0 : 0 ≤ cm
      · have q0 : decide (0 ≤ cm) = true := decide_eq_true hc0
        by_cases hc1 : cm ≤ es.length
        · have q1 : decide (cm ≤ (es.length : Int)) = true := decide_eq_true hc1
          go_wp2_with fail
          go_ret
          exact ⟨ret_b ((lg_at cm HT.out).trans (decide_eq_true (by omega))), hB0⟩
        · have q1 : decide (cm ≤ (es.length : Int)) = false := decide_eq_false hc1
          go_wp2_with fail
          go_ret
          exact ⟨ret_b (lg_out (by omega)), hB0⟩
      · have q0 : decide (0 ≤ cm) = false := decide_eq_false hc0
        go_wp2_with fail
        go_ret
        exact ⟨ret_b (lg_out (by omega)), hB0⟩
set_option maxHeartbeats 400000 in
theorem logged_0 (id sz tm vt rl ld ti vs : Int) (a : Option Addr) (cap : Nat) (cm : Int) (nx mt : Value) (w : World) :
    Calls Try.prog 33 #[mem id sz tm vt rl ld ti vs (.slice a 0 cap) cm nx mt] w fun e w' => e = .returned (.bool (lgB tm cm [])) ∧ Below w.heap.size w w' := by
  go_enter Try.func33, Try.ntmps33
  go_wp2_with fail
  have hbw : Below w.heap.size w (w.alloc (.cells #[.int .i64 id, .int .i64 sz, .int .i64 tm, .int .i64 vt, .int .i64 rl, .int .i64 ld, .int .i64 ti, .int .i64 vs, .slice a 0 cap, .int .i64 cm, nx, mt] 25)) := (Below.refl _ _).alloc (Nat.le_refl _) _
  have c8 : (w.alloc (.cells #[.int .i64 id, .int .i64 sz, .int .i64 tm, .int .i64 vt, .int .i64 rl, .int .i64 ld, .int .i64 ti, .int .i64 vs, .slice a 0 cap, .int .i64 cm, nx, mt] 25)).cell? ⟨w.heap.size, 8, none⟩ = some (.slice a 0 cap) := by simp [go_sem]
  have c9 : (w.alloc (.cells #[.int .i64 id, .int .i64 sz, .int .i64 tm, .int .i64 vt, .int .i64 rl, .int .i64 ld, .int .i64 ti, .int .i64 vs, .slice a 0 cap, .int .i64 cm, nx, mt] 25)).cell? ⟨w.heap.size, 9, none⟩ = some (.int .i64 cm) := by simp [go_sem]
  generalize w.alloc _ = W0 at hbw c8 c9 ⊢
  go_loop [5] (fun i => i = .int .i64 0) (fun _ => 0)
  case atStart => rfl
  case round =>
    subst hrel
    by_cases hc0 : 0 ≤ cm
    · have q0 : decide (0 ≤ cm) = true := decide_eq_true hc0
      by_cases hc1 : cm ≤ 0
      · have q1 : decide (cm ≤ 0) = true := decide_eq_true hc1
        go_wp2_with fail
        go_ret
        exact ⟨ret_b ((lg_at cm rfl).trans (decide_eq_true (by simp only [List.length_nil]; omega))), hbw⟩
      · have q1 : decide (cm ≤ 0) = false := decide_eq_false hc1
        go_wp2_with fail
        go_ret
        exact ⟨ret_b (lg_out (by simp only [List.length_nil]; omega)), hbw⟩
    · have q0 : decide (0 ≤ cm) = false := decide_eq_false hc0
      go_wp2_with fail
      go_ret
      exact ⟨ret_b (lg_out (by omega)), hbw⟩
theorem logged_any (id sz tm vt rl ld ti vs : Int) (lg : Value) (es : List (List Value)) (cm : Int) (nx mt : Value) (w : World) (hl : es.length ≤ 100) (he : EntArg w lg es) :
    Calls Try.prog 33 #[mem id sz tm vt rl ld ti vs lg cm nx mt] w fun e w' => e = .returned (.bool (lgB tm cm es)) ∧ Below w.heap.size w w' := by
  rcases he with ⟨rfl, a, cap, rfl⟩ | ⟨B, o, cap, rfl, hB, h0, _, hc⟩
  · exact logged_0 id sz tm vt rl ld ti vs a cap cm nx mt w
  · exact logged_in id sz tm vt rl ld ti vs B o cap es cm nx mt w hl hB hc
end Go.Proofs.Ytfpgklhbghahoaa
