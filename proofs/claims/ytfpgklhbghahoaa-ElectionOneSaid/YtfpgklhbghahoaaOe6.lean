/- Merged texts: Ev2, Ev3, Ev4, Ev5, Ev6, Ev7, Ev8, Ev9, Ev10. -/
import Derived.Test.YtfpgklhbghahoaaOe5
import Derived.Outline
import Derived.Deep.RegionHeld3
import Derived.StillTailTactics
/- Election: what a log must be; the reference's 'logged' decides it. -/
namespace Go.Proofs.Ytfpgklhbghahoaa
open Go.ChangeShapes Go.WideShapes Go.ChangeAt Go.RowKit
set_option linter.unusedVariables false
set_option linter.unusedSimpArgs false
theorem ret_b {a b : Bool} (h : b = a) : Ending.returned (.bool a) = Ending.returned (.bool b) := by rw [h]
def trm : List Value → Int
  | .int _ t :: _ => t
  | _ => 0
/-- the terms do not fall, and the times ascend -/
def logB (tm : Int) : Int → Int → List (List Value) → Bool
  | _, _, [] => true
  | t, s, e :: r => if trm e < t ∨ tm < trm e ∨ stp e ≤ s ∨ 1099511627776 < stp e then false else logB tm (trm e) (stp e) r
def lgB (tm cm : Int) (es : List (List Value)) : Bool := logB tm 0 0 es && decide (0 ≤ cm ∧ cm ≤ es.length)
theorem lg_no {tm : Int} {es : List (List Value)} (cm : Int) (h : logB tm 0 0 es = false) : lgB tm cm es = false := by unfold lgB; rw [h]; rfl
theorem lg_at {tm : Int} {es : List (List Value)} (cm : Int) (h : logB tm 0 0 es = true) : lgB tm cm es = decide (0 ≤ cm ∧ cm ≤ es.length) := by unfold lgB; rw [h]; rfl
theorem lg_out {tm cm : Int} {es : List (List Value)} (h : ¬ (0 ≤ cm ∧ cm ≤ es.length)) : lgB tm cm es = false := by unfold lgB; rw [decide_eq_false h, Bool.and_false]
theorem log_step {tm tz sz t0 s0 : Int} {k : Nat} {es : List (List Value)} {r0 : List Value} (hk : k < es.length) (h : logB tm tz sz (es.drop k) = logB tm 0 0 es) (hes : es[k] = .int .i64 t0 :: .int .i64 s0 :: r0) :
    ((t0 < tz ∨ tm < t0 ∨ s0 ≤ sz ∨ 1099511627776 < s0) → logB tm 0 0 es = false) ∧ (¬ (t0 < tz ∨ tm < t0 ∨ s0 ≤ sz ∨ 1099511627776 < s0) → logB tm t0 s0 (es.drop (k + 1)) = logB tm 0 0 es) := by
  rw [List.drop_eq_getElem_cons hk, hes] at h
  have e : logB tm tz sz ((.int .i64 t0 :: .int .i64 s0 :: r0) :: es.drop (k + 1)) = if t0 < tz ∨ tm < t0 ∨ s0 ≤ sz ∨ 1099511627776 < s0 then false else logB tm t0 s0 (es.drop (k + 1)) := rfl
  rw [e] at h
  refine ⟨fun h2 => ?_, fun h2 => ?_⟩
  · rw [if_pos h2] at h; exact h.symm
  · rw [if_neg h2] at h; exact h
noncomputable def z74 : Array Value := ((Try.prog.info? 73).bind (fun i => i.zero.map (fun z => z.cells))).getD #[]
theorem z74_size : z74.size = 82 := by kernel_rfl
theorem info74 : (Try.prog.info? 73).map (·.size) = some 82 := by kernel_rfl
theorem exec_alloc74 (d : Option Nat) (pos : String) (af) (a : Act) (w : World) :
    (execOp a.eval { dst := d, op := Op.alloc 73, type := 0, pos := pos, after := af, guard := none }).run Try.prog w = .ok (.value (.pointer (some ⟨w.heap.size, 0, none⟩))) (w.alloc (.cells z74 73)) := by kernel_rfl
theorem wpList_alloc74 {ops : Array Oper} {rest : List Oper} {Q : Exit → Act → World → Prop} (d : Option Nat) (pos : String) (af) (a : Act) (w : World) (h : wpList Try.prog ops Q rest (a.put d (.pointer (some ⟨w.heap.size, 0, none⟩))) (w.alloc (.cells z74 73))) :
    wpList Try.prog ops Q ({ dst := d, op := Op.alloc 73, type := 0, pos := pos, after := af, guard := none } :: rest) a w :=
  wpList_val rfl (exec_alloc74 _ _ _ _ _) h
theorem wpList_load74 {ops : Array Oper} {rest : List Oper} {Q : Exit → Act → World → Prop} (x : Nat) (B O : Nat) (cs : List Value) (d : Option Nat) (pos : String) (af) (a : Act) (w : World) (hx : a.eval (.tmp x) = .pointer (some ⟨B, O, none⟩)) (hr : w.rangeAt B O cs) (hE : Ent cs)
    (h : wpList Try.prog ops Q rest (a.put d (.agg cs.toArray)) w) :
    wpList Try.prog ops Q ({ dst := d, op := Op.load 73 (Operand.tmp x), type := 73, pos := pos, after := af, guard := none } :: rest) a w :=
  wpList_load_mid rfl _ _ rfl B O hx cs _ hr Try.underlying73 rfl (by rw [hE.1]; exact info74) h
theorem there_new (w : World) : (w.alloc (.cells z74 73)).there w.heap.size 0 82 := fun j hj => by
  rw [Nat.zero_add]
  refine ⟨?_, by simp [go_sem]⟩
  rw [World.cell?_alloc_new, Array.getElem?_eq_getElem (by rw [z74_size]; exact hj)]
  rfl
theorem Below.setCells {a : World} {B : Nat} (b : Nat) (hb : B ≤ b) : ∀ (vs : List Value) (o : Nat) (w : World), Below B a w → Below B a (w.setCells b o vs)
  | [], _, _, h => h
  | v :: r, o, w, h => Below.setCells b hb r (o + 1) _ (h.setCell hb v)
theorem setCells_size (b : Nat) : ∀ (vs : List Value) (o : Nat) (w : World), (w.setCells b o vs).heap.size = w.heap.size
  | [], _, _ => rfl
  | v :: r, o, w => by rw [World.setCells, setCells_size b r (o + 1)]; simp
theorem wpList_store74 {ops : Array Oper} {rest : List Oper} {Q : Exit → Act → World → Prop} (x y : Nat) (cs : List Value) (d : Option Nat) (pos : String) (af) (a : Act) (w : World) (hx : a.eval (.tmp x) = .pointer (some ⟨w.heap.size, 0, none⟩)) (hy : a.eval (.tmp y) = .agg cs.toArray) (hE : Ent cs)
    (h : ∀ w', w'.rangeAt w.heap.size 0 cs → Below w.heap.size w w' → w.heap.size < w'.heap.size → wpList Try.prog ops Q rest (a.put d undef) w') :
    wpList Try.prog ops Q ({ dst := d, op := Op.store 73 (Operand.tmp x) (Operand.tmp y), type := 0, pos := pos, after := af, guard := none } :: rest) a (w.alloc (.cells z74 73)) := by
  have hz : cs.toArray.size = 82 := by simpa using hE.1
  refine wpList_store_mid rfl _ _ _ rfl w.heap.size 0 cs.toArray hx hy (by rw [hz]; exact there_new w) (by rw [hz]; exact info74) (all_oneCell_toArray hE.2.1) ?_
  refine h _ ?_ ?_ ?_
  · exact World.rangeAt_setCells_same _ _ _ _ (by have := there_new w; rw [hE.1]; exact this)
  · exact Below.setCells _ (Nat.le_refl _) _ _ _ ((Below.refl _ _).alloc (Nat.le_refl _) _)
  · rw [setCells_size]; simp

set_option maxRecDepth 100000 in
set_option maxHeartbeats 800000 in
theorem logged_in (id sz tm vt rl ld ti vs : Int) (B o cap : Nat) (es : List (List Value)) (cm : Int) (nx mt : Value) (w : World) (hl : es.length ≤ 100) (hB : B < w.heap.size) (he : ∀ j (h : j < es.length), w.rangeAt B (o + j * 82) es[j] ∧ Ent es[j]) :
    Calls Try.prog 33 #[mem id sz tm vt rl ld ti vs (.slice (some ⟨B, o, none⟩) es.length cap) cm nx mt] w fun e w' => e = .returned (.bool (lgB tm cm es)) ∧ Below w.heap.size w w' := by
  have HE := Lib.hid he
  clear he
  go_enter Try.func33, Try.ntmps33
  go_wp2_with fail
  go_loopw [3, 4, 5, 6] (fun t s i p W => ∃ (k : Nat) (tz sz : Int), k ≤ es.length ∧ t = .int .i64 tz ∧ s = .int .i64 sz ∧ i = .int .i64 k ∧ W.cell? ⟨w.heap.size, 2, none⟩ = some (.int .i64 tm) ∧ W.cell? ⟨w.heap.size, 8, none⟩ = some (.slice (some ⟨B, o, none⟩) es.length cap) ∧ W.cell? ⟨w.heap.size, 9, none⟩ = some (.int .i64 cm) ∧ w.heap.size < W.heap.size ∧ Below w.heap.size w W ∧ Hid (logB tm tz sz (es.drop k) = logB tm 0 0 es)) (fun _ _ i _ _ => es.length - (intOf i).toNat)
  case atStart => exact ⟨0, 0, 0, Nat.zero_le _, rfl, rfl, rfl, by simp [go_sem], by simp [go_sem], by simp [go_sem], by simp, (Below.refl _ _).alloc (Nat.le_refl _) _, Lib.hid rfl⟩
  case round =>
    obtain ⟨k, tz, sz', hk, rfl, rfl, rfl, c2, c8, c9, hz, hB0, HI⟩ := hrel
    by_cases hlt : k < es.length
    · have HR : Hid (wr.rangeAt B (o + k * 82) es[k]) := Lib.hid (fun j v hv => (hB0.cell (p := ⟨B, o + k * 82 + j, none⟩) hB).trans ((HE.out k hlt).1 j v hv))
      have HN : Hid (Ent es[k]) := Lib.hid (HE.out k hlt).2
      obtain ⟨t0, s0, r0, hes⟩ := HN.out.2.2
      have HST := Lib.hid (log_step hlt HI.out hes)
      clear HI
      have HES := Lib.hid hes
      clear hes
      generalize es[k] = cs at HR HN HES
      go_wp2_with (first | (with_reducible refine wpList_load74 _ _ _ cs _ _ _ _ _ rfl HR.out HN.out ?_) | (with_reducible refine wpList_alloc74 _ _ _ _ _ ?_) | (with_reducible refine wpList_store74 _ _ cs _ _ _ _ _ rfl rfl HN.out ?_))
      rintro w2 hr2 hb2 hs2
      have g0 : w2.cell? ⟨wr.heap.size, 0, none⟩ = some (.int .i64 t0) := hr2 0 _ (by rw [HES.out]; rfl)
      have g1 : w2.cell? ⟨wr.heap.size, 1, none⟩ = some (.int .i64 s0) := hr2 1 _ (by rw [HES.out]; rfl)
      clear hr2
      obtain ⟨hc, _⟩ := bcell hb2
      have d2 : w2.cell? ⟨w.heap.size, 2, none⟩ = some (.int .i64 tm) := (hc _ _ hz).trans c2
      have d8 : w2.cell? ⟨w.heap.size, 8, none⟩ = some (.slice (some ⟨B, o, none⟩) es.length cap) := (hc _ _ hz).trans c8
      have d9 : w2.cell? ⟨w.heap.size, 9, none⟩ = some (.int .i64 cm) := (hc _ _ hz).trans c9
      have HBN : Hid (Below w.heap.size w w2) := Lib.hid (hB0.trans (hb2.mono (Nat.le_of_lt hz)))
      have hz2 : w.heap.size < w2.heap.size := by omega
      clear hc c2 c8 c9 hB0 hb2 HR HN HES
      go_wp2_with fail
      all_goals first
        | (go_ret; exact ⟨ret_b (lg_no cm (HST.out.1 (by omega))), HBN.out⟩)
        | (go_roundw
           case rel => exact ⟨k + 1, t0, s0, by omega, rfl, rfl, by go_num, d2, d8, d9, hz2, HBN.out, Lib.hid (HST.out.2 (by omega))⟩
           case measure => simp [intOf]; omega)
    · have HT : Hid (logB tm 0 0 es = true) := Lib.hid (by rw [← HI.out, List.drop_eq_nil_of_le (by omega)]; rfl)
      clear HI
      by_cases hc0 : 0 ≤ cm
      · have q0 : decide (0 ≤ cm) = true := decide_eq_true hc0
        by_cases hc1 : cm ≤ es.length
        · have q1 : decide (cm ≤ (es.length : Int)) = true := decide_eq_true hc1
          go_wp2_with fail
          go_ret
          exact ⟨ret_b ((lg_at cm HT.out).trans (decide_eq_true (by omega))), hB0⟩
        · have q1 : decide (cm ≤ (es.length : Int)) = false := decide_eq_false hc1
          go_wp2_with fail
          go_ret
          exact ⟨ret_b (lg_out (by omega)), hB0⟩
      · have q0 : decide (0 ≤ cm) = false := decide_eq_false hc0
        go_wp2_with fail
        go_ret
        exact ⟨ret_b (lg_out (by omega)), hB0⟩
set_option maxHeartbeats 400000 in
theorem logged_0 (id sz tm vt rl ld ti vs : Int) (a : Option Addr) (cap : Nat) (cm : Int) (nx mt : Value) (w : World) :
    Calls Try.prog 33 #[mem id sz tm vt rl ld ti vs (.slice a 0 cap) cm nx mt] w fun e w' => e = .returned (.bool (lgB tm cm [])) ∧ Below w.heap.size w w' := by
  go_enter Try.func33, Try.ntmps33
  go_wp2_with fail
  have hbw : Below w.heap.size w (w.alloc (.cells #[.int .i64 id, .int .i64 sz, .int .i64 tm, .int .i64 vt, .int .i64 rl, .int .i64 ld, .int .i64 ti, .int .i64 vs, .slice a 0 cap, .int .i64 cm, nx, mt] 25)) := (Below.refl _ _).alloc (Nat.le_refl _) _
  have c8 : (w.alloc (.cells #[.int .i64 id, .int .i64 sz, .int .i64 tm, .int .i64 vt, .int .i64 rl, .int .i64 ld, .int .i64 ti, .int .i64 vs, .slice a 0 cap, .int .i64 cm, nx, mt] 25)).cell? ⟨w.heap.size, 8, none⟩ = some (.slice a 0 cap) := by simp [go_sem]
  have c9 : (w.alloc (.cells #[.int .i64 id, .int .i64 sz, .int .i64 tm, .int .i64 vt, .int .i64 rl, .int .i64 ld, .int .i64 ti, .int .i64 vs, .slice a 0 cap, .int .i64 cm, nx, mt] 25)).cell? ⟨w.heap.size, 9, none⟩ = some (.int .i64 cm) := by simp [go_sem]
  generalize w.alloc _ = W0 at hbw c8 c9 ⊢
  go_loop [5] (fun i => i = .int .i64 0) (fun _ => 0)
  case atStart => rfl
  case round =>
    subst hrel
    by_cases hc0 : 0 ≤ cm
    · have q0 : decide (0 ≤ cm) = true := decide_eq_true hc0
      by_cases hc1 : cm ≤ 0
      · have q1 : decide (cm ≤ 0) = true := decide_eq_true hc1
        go_wp2_with fail
        go_ret
        exact ⟨ret_b ((lg_at cm rfl).trans (decide_eq_true (by simp only [List.length_nil]; omega))), hbw⟩
      · have q1 : decide (cm ≤ 0) = false := decide_eq_false hc1
        go_wp2_with fail
        go_ret
        exact ⟨ret_b (lg_out (by simp only [List.length_nil]; omega)), hbw⟩
    · have q0 : decide (0 ≤ cm) = false := decide_eq_false hc0
      go_wp2_with fail
      go_ret
      exact ⟨ret_b (lg_out (by omega)), hbw⟩
theorem logged_any (id sz tm vt rl ld ti vs : Int) (lg : Value) (es : List (List Value)) (cm : Int) (nx mt : Value) (w : World) (hl : es.length ≤ 100) (he : EntArg w lg es) :
    Calls Try.prog 33 #[mem id sz tm vt rl ld ti vs lg cm nx mt] w fun e w' => e = .returned (.bool (lgB tm cm es)) ∧ Below w.heap.size w w' := by
  rcases he with ⟨rfl, a, cap, rfl⟩ | ⟨B, o, cap, rfl, hB, h0, _, hc⟩
  · exact logged_0 id sz tm vt rl ld ti vs a cap cm nx mt w
  · exact logged_in id sz tm vt rl ld ti vs B o cap es cm nx mt w hl hB hc
end Go.Proofs.Ytfpgklhbghahoaa
/- Election: the numbers of votes and the places, exactly. -/
namespace Go.Proofs.Ytfpgklhbghahoaa
open Go.ChangeShapes Go.WideShapes Go.ChangeAt Go.RowKit
set_option linter.unusedVariables false
set_option linter.unusedSimpArgs false
/-- how many of the first k bits stand -/
def cntB (vs : Int) : Nat → Int
  | 0 => 0
  | k + 1 => cntB vs k + (vs / 2 ^ k).tmod 2
theorem bit_le (vs : Int) (h0 : 0 ≤ vs) (k : Nat) : 0 ≤ (vs / 2 ^ k).tmod 2 ∧ (vs / 2 ^ k).tmod 2 ≤ 1 := by
  have h : 0 ≤ vs / 2 ^ k := Int.ediv_nonneg h0 (Int.le_of_lt (Int.pow_pos (by decide)))
  have h1 := Int.tmod_nonneg 2 h
  have h2 := Int.tmod_lt_of_pos (vs / 2 ^ k) (show (0 : Int) < 2 by decide)
  omega
theorem cntB_le (vs : Int) (h0 : 0 ≤ vs) : ∀ k, 0 ≤ cntB vs k ∧ cntB vs k ≤ k
  | 0 => ⟨Int.le_refl _, Int.le_refl _⟩
  | k + 1 => by
    have h := cntB_le vs h0 k
    have h2 := bit_le vs h0 k
    show 0 ≤ cntB vs k + (vs / 2 ^ k).tmod 2 ∧ cntB vs k + (vs / 2 ^ k).tmod 2 ≤ ((k + 1 : Nat) : Int)
    omega
set_option maxRecDepth 100000 in
theorem votes_at (vs sz : Int) (w : World) (h0 : 0 ≤ vs) (h1 : 1 ≤ sz) (h7 : sz ≤ 7) :
    Calls Try.prog 34 #[.int .i64 vs, .int .i64 sz] w fun e w' => e = .returned (.int .i64 (cntB vs sz.toNat)) ∧ w = w' := by
  go_enter Try.func34, Try.ntmps34
  go_wp2_with fail
  go_loop [5, 6] (fun n i => ∃ (k : Nat), (k : Int) ≤ sz ∧ n = .int .i64 (cntB vs k) ∧ i = .int .i64 k) (fun _ i => sz.toNat - (intOf i).toNat)
  case atStart => exact ⟨0, by omega, rfl, rfl⟩
  case round =>
    obtain ⟨k, hk, rfl, rfl⟩ := hrel
    by_cases hlt : (k : Int) < sz
    · have hb := bit_le vs h0 k
      have hc := cntB_le vs h0 k
      have HN : Hid (cntB vs (k + 1) = cntB vs k + (vs / 2 ^ k).tmod 2) := Lib.hid rfl
      have hk7 : k ≤ 7 := by omega
      generalize cntB vs k = c at *
      go_wp2_with fail
      go_round
      case rel => exact ⟨k + 1, by omega, by (try rw [HN.out]) <;> (try go_num), by go_num⟩
      case measure => simp [intOf]; omega
    · obtain rfl : sz = k := by omega
      go_wp2_with fail
      go_ret
      exact ⟨rfl, rfl⟩
set_option maxRecDepth 100000 in
theorem ones64 (vs : Int) (w : World) (h0 : 0 ≤ vs) (h1 : vs < 128) : Calls Try.prog 51 #[.int .u64 vs] w fun e w' => e = .returned (.int .i64 (cntB vs 7)) ∧ w = w' := by
  obtain ⟨n, rfl⟩ : ∃ n : Nat, vs = n := ⟨vs.toNat, by omega⟩
  have hn : n < 128 := by omega
  clear h0 h1
  go_enter Try.func51, Try.ntmps51
  go_wp2_with fail
  go_ret
  refine ⟨congrArg (fun x => Ending.returned (.int .i64 x)) ?_, rfl⟩
  clear w
  revert hn
  revert n
  decide +kernel
set_option maxRecDepth 100000 in
theorem ones_at (vs : Int) (w : World) (h0 : 0 ≤ vs) (h1 : vs < 128) : Calls Try.prog 42 #[.int .u64 vs] w fun e w' => e = .returned (.int .i64 (cntB vs 7)) ∧ w = w' := by
  have H := Lib.hid (ones64 vs w h0 h1)
  go_enter Try.func42, Try.ntmps42
  go_wp2_with fail
  refine H.out.mono ?_
  rintro e w1 ⟨rfl, rfl⟩
  have := cntB_le vs h0 7
  go_wp2_with fail
  go_ret
  exact ⟨rfl, rfl⟩
theorem cntB_small : ∀ sz < 8, ∀ vs < 128, vs < 2 ^ sz → cntB (vs : Nat) 7 = cntB (vs : Nat) sz := by decide +kernel
theorem cntB_all (vs sz : Int) (h0 : 0 ≤ vs) (h1 : 1 ≤ sz) (h7 : sz ≤ 7) (h : vs < 2 ^ sz.toNat) : cntB vs 7 = cntB vs sz.toNat := by
  obtain ⟨n, rfl⟩ : ∃ n : Nat, vs = n := ⟨vs.toNat, by omega⟩
  have h2 : n < 2 ^ sz.toNat := by exact_mod_cast h
  have h3 : 2 ^ sz.toNat ≤ 2 ^ 7 := Nat.pow_le_pow_right (by decide) (by omega)
  exact cntB_small sz.toNat (by omega) n (by omega) h2
/-- all numbers are from 0 to most -/
def inB (most : Int) (xs : List Int) : Bool := xs.all (fun x => decide (0 ≤ x ∧ x ≤ most))
theorem inB_no {most : Int} {xs : List Int} {k : Nat} (hk : k < xs.length) (h : ¬ (0 ≤ xs[k] ∧ xs[k] ≤ most)) : inB most xs = false := by
  unfold inB
  rw [List.all_eq_false]
  exact ⟨xs[k], List.getElem_mem hk, by simp; omega⟩
theorem inB_take {most : Int} {xs : List Int} {k : Nat} (hk : k < xs.length) (h0 : inB most (xs.take k) = true) (h : 0 ≤ xs[k] ∧ xs[k] ≤ most) : inB most (xs.take (k + 1)) = true := by
  unfold inB at *
  rw [List.take_succ_eq_append_getElem hk, List.all_append, h0]
  simp [h]
set_option maxRecDepth 100000 in
theorem rplaces_in (B o cap : Nat) (xs : List Int) (m : Int) (w : World) (hl : xs.length ≤ 9223372036854775807)
    (hc : ∀ j (h : j < xs.length), w.cell? ⟨B, o + j, none⟩ = some (.int .i64 xs[j])) :
    Calls Try.prog 35 #[.slice (some ⟨B, o, none⟩) xs.length cap, .int .i64 m] w fun e w' => e = .returned (.bool (inB m xs)) ∧ w = w' := by
  have HC := Lib.hid hc
  clear hc
  go_enter Try.func35, Try.ntmps35
  go_wp2_with fail
  go_loop [5] (fun i => ∃ (k : Nat), k ≤ xs.length ∧ i = .int .i64 k ∧ Hid (inB m (xs.take k) = true)) (fun i => xs.length - (intOf i).toNat)
  case atStart => exact ⟨0, Nat.zero_le _, rfl, Lib.hid rfl⟩
  case round =>
    obtain ⟨k, hk, rfl, HI⟩ := hrel
    by_cases hlt : k < xs.length
    · have hcell := HC.out k hlt
      have HNO := Lib.hid (fun h => inB_no (most := m) hlt h)
      have HYES := Lib.hid (fun h => inB_take hlt HI.out h)
      generalize xs[k] = x at *
      by_cases h0 : x < 0
      · go_wp2_with fail
        go_ret
        exact ⟨ret_b (HNO.out (by omega)), rfl⟩
      · by_cases h1 : m < x
        · go_wp2_with fail
          go_ret
          exact ⟨ret_b (HNO.out (by omega)), rfl⟩
        · go_wp2_with fail
          go_round
          case rel => exact ⟨k + 1, by omega, by go_num, Lib.hid (HYES.out (by omega))⟩
          case measure => simp [intOf]; omega
    · have HT : Hid (inB m xs = true) := Lib.hid (by rw [← HI.out, List.take_of_length_le (by omega)])
      go_wp2_with fail
      go_ret
      exact ⟨ret_b HT.out, rfl⟩
set_option maxRecDepth 100000 in
theorem rplaces_0 (a : Option Addr) (cap : Nat) (m : Int) (w : World) :
    Calls Try.prog 35 #[.slice a 0 cap, .int .i64 m] w fun e w' => e = .returned (.bool (inB m [])) ∧ w = w' := by
  go_enter Try.func35, Try.ntmps35
  go_wp2_with fail
  go_loop [5] (fun i => i = .int .i64 0) (fun i => 0)
  case atStart => rfl
  case round =>
    subst hrel
    go_wp2_with fail
    go_ret
    exact ⟨rfl, rfl⟩
theorem rplaces_at (v : Value) (xs : List Int) (m : Int) (w : World) (hv : IntsIn w v xs) :
    Calls Try.prog 35 #[v, .int .i64 m] w fun e w' => e = .returned (.bool (inB m xs)) ∧ w = w' := by
  rcases hv with ⟨rfl, a, cap, rfl⟩ | ⟨B, o, cap, rfl, hB, h0, hl, hc⟩
  · exact rplaces_0 a cap m w
  · exact rplaces_in B o cap xs m w hl hc
set_option maxRecDepth 100000 in
set_option maxHeartbeats 400000 in
theorem vplaces_in (id sz tm vt rl ld ti vs : Int) (ga : Option Addr) (gl gc : Nat) (cm : Int) (nx mt : Value) (B o cap : Nat) (xs : List Int) (w : World) (hg : gl ≤ 100) (hB : B < w.heap.size) (hl : xs.length ≤ 9223372036854775807)
    (hc : ∀ j (h : j < xs.length), w.cell? ⟨B, o + j, none⟩ = some (.int .i64 xs[j])) :
    Calls Try.prog 46 #[mem id sz tm vt rl ld ti vs (.slice ga gl gc) cm nx mt, .slice (some ⟨B, o, none⟩) xs.length cap] w fun e w' => e = .returned (.bool (inB gl xs && decide ((xs.length : Int) = sz))) ∧ Below w.heap.size w w' := by
  have HC := Lib.hid hc
  clear hc
  have hB0 : BoxN 12 (w.alloc (.cells (memL id sz tm vt rl ld ti vs (.slice ga gl gc) cm nx mt).toArray 25)) w.heap.size (memL id sz tm vt rl ld ti vs (.slice ga gl gc) cm nx mt) := BoxN.new w _ 12 _ rfl
  have hb0 : Below w.heap.size w (w.alloc (.cells (memL id sz tm vt rl ld ti vs (.slice ga gl gc) cm nx mt).toArray 25)) := (Below.refl _ _).alloc (Nat.le_refl _) _
  go_enter Try.func46, Try.ntmps46
  go_wp2_with fail
  refine wp_named (fun W => BoxN 12 W w.heap.size (memL id sz tm vt rl ld ti vs (.slice ga gl gc) cm nx mt) ∧ Below w.heap.size w W) ⟨hB0, hb0⟩ ?_
  clear hB0 hb0
  rintro w1 ⟨hBx, hb⟩
  have a8 : w1.cell? ⟨w.heap.size, 8, none⟩ = some (.slice ga gl gc) := hBx.cell 8 _ rfl
  have a1 : w1.cell? ⟨w.heap.size, 1, none⟩ = some (.int .i64 sz) := hBx.cell 1 _ rfl
  clear hBx
  have HC1 : Hid (∀ j (h : j < xs.length), w1.cell? ⟨B, o + j, none⟩ = some (.int .i64 xs[j])) := Lib.hid (fun j h => (hb.cell (p := ⟨B, o + j, none⟩) hB).trans (HC.out j h))
  have HB := Lib.hid hb
  clear HC hb
  go_loop [9] (fun i => ∃ k : Nat, k ≤ xs.length ∧ i = .int .i64 k ∧ Hid (inB gl (xs.take k) = true)) (fun i => xs.length - (intOf i).toNat)
  case atStart => exact ⟨0, Nat.zero_le _, rfl, Lib.hid rfl⟩
  case round =>
    obtain ⟨k, hk, rfl, HI⟩ := hrel
    by_cases hlt : k < xs.length
    · have hcell := HC1.out k hlt
      have HNO := Lib.hid (fun h => inB_no (most := gl) hlt h)
      have HYES := Lib.hid (fun h => inB_take hlt HI.out h)
      generalize xs[k] = x at *
      by_cases h0 : x < 0
      · go_wp2_with fail
        go_ret
        exact ⟨ret_b (by rw [HNO.out (by omega)]; rfl), HB.out⟩
      · by_cases h1 : (gl : Int) < x
        · go_wp2_with fail
          go_ret
          exact ⟨ret_b (by rw [HNO.out (by omega)]; rfl), HB.out⟩
        · go_wp2_with fail
          go_round
          case rel => exact ⟨k + 1, by omega, by go_num, Lib.hid (HYES.out (by omega))⟩
          case measure => simp [intOf]; omega
    · have HT : Hid (inB gl xs = true) := Lib.hid (by rw [← HI.out, List.take_of_length_le (by omega)])
      by_cases hsz : (xs.length : Int) = sz
      · have q : ((xs.length : Int) == sz) = true := by simpa using hsz
        go_wp2_with fail
        go_ret
        exact ⟨ret_b (by first | rfl | exact HT.out | (rw [HT.out, decide_eq_true (by omega)]; rfl)), HB.out⟩
      · have q : ((xs.length : Int) == sz) = false := by simpa using hsz
        go_wp2_with fail
        go_ret
        exact ⟨ret_b (by first | rfl | (rw [HT.out, decide_eq_false (by omega)]; rfl)), HB.out⟩
set_option maxRecDepth 100000 in
set_option maxHeartbeats 400000 in
theorem vplaces_0 (id sz tm vt rl ld ti vs : Int) (lg : Value) (gl : Nat) (cm : Int) (nx mt : Value) (a : Option Addr) (cap : Nat) (w : World) (h1 : 1 ≤ sz) :
    Calls Try.prog 46 #[mem id sz tm vt rl ld ti vs lg cm nx mt, .slice a 0 cap] w fun e w' => e = .returned (.bool (inB gl [] && decide ((([] : List Int).length : Int) = sz))) ∧ Below w.heap.size w w' := by
  have q : ((0 : Int) == sz) = false := by rw [beq_eq_false_iff_ne]; omega
  have q2 : (sz == (0 : Int)) = false := by rw [beq_eq_false_iff_ne]; omega
  have HD : Hid (decide ((([] : List Int).length : Int) = sz) = false) := Lib.hid (decide_eq_false (by simp; omega))
  go_enter Try.func46, Try.ntmps46
  go_wp2_with fail
  go_loop [9] (fun i => i = .int .i64 0) (fun i => 0)
  case atStart => rfl
  case round =>
    subst hrel
    go_wp2_with fail
    go_ret
    exact ⟨ret_b (by first | (rw [HD.out]; rfl) | (rw [decide_eq_false (by omega), Bool.and_false]) | (simp; omega)), (Below.refl _ _).alloc (Nat.le_refl _) _⟩
theorem vplaces_at (id sz tm vt rl ld ti vs : Int) (ga : Option Addr) (gl gc : Nat) (cm : Int) (nx mt : Value) (v : Value) (xs : List Int) (w : World) (hg : gl ≤ 100) (h1 : 1 ≤ sz) (hv : IntsIn w v xs) :
    Calls Try.prog 46 #[mem id sz tm vt rl ld ti vs (.slice ga gl gc) cm nx mt, v] w fun e w' => e = .returned (.bool (inB gl xs && decide ((xs.length : Int) = sz))) ∧ Below w.heap.size w w' := by
  rcases hv with ⟨rfl, a, cap, rfl⟩ | ⟨B, o, cap, rfl, hB, h0, hl, hc⟩
  · exact vplaces_0 id sz tm vt rl ld ti vs (.slice ga gl gc) gl cm nx mt a cap w h1
  · exact vplaces_in id sz tm vt rl ld ti vs ga gl gc cm nx mt B o cap xs w hg hB hl hc
end Go.Proofs.Ytfpgklhbghahoaa
/- Election: validLog decides what a log must be. -/
namespace Go.Proofs.Ytfpgklhbghahoaa
open Go.ChangeShapes Go.WideShapes Go.ChangeAt Go.RowKit
set_option linter.unusedVariables false
set_option linter.unusedSimpArgs false
theorem below_drewN' {w W : World} (h : Below w.heap.size w W) (n : Nat) : Below w.heap.size w (W.drewN n) := ⟨h.os, h.tape, h.output, h.size, h.block⟩
set_option maxRecDepth 100000 in
set_option maxHeartbeats 1600000 in
theorem vlog_in (id sz tm vt rl ld ti vs : Int) (B o cap : Nat) (es : List (List Value)) (cm : Int) (nx mt : Value) (w : World) (hl : es.length ≤ 100) (hB : B < w.heap.size) (he : ∀ j (h : j < es.length), w.rangeAt B (o + j * 82) es[j] ∧ Ent es[j]) (hcm : 0 ≤ cm ∧ cm ≤ es.length) :
    Calls Try.prog 31 #[mem id sz tm vt rl ld ti vs (.slice (some ⟨B, o, none⟩) es.length cap) cm nx mt] w fun e w' => e = .returned (.bool (lgB tm cm es)) ∧ Below w.heap.size w w' := by
  have HE := Lib.hid he
  clear he
  obtain ⟨hc0, hc1⟩ := hcm
  have q0 : decide (cm < 0) = false := decide_eq_false (by omega)
  have q1 : decide ((es.length : Int) < cm) = false := decide_eq_false (by omega)
  have q2 : decide ((16384 : Int) < (es.length : Int)) = false := decide_eq_false (by omega)
  go_enter Try.func31, Try.ntmps31
  go_wp2_with fail
  go_loopw [3, 4, 27] (fun t s i W => ∃ (k : Nat) (tz sz : Int), k ≤ es.length ∧ t = .int .i64 tz ∧ s = .int .i64 sz ∧ i = .int .i64 k ∧ W.cell? ⟨w.heap.size, 2, none⟩ = some (.int .i64 tm) ∧ W.cell? ⟨w.heap.size, 8, none⟩ = some (.slice (some ⟨B, o, none⟩) es.length cap) ∧ w.heap.size < W.heap.size ∧ Below w.heap.size w W ∧ Hid (logB tm tz sz (es.drop k) = logB tm 0 0 es)) (fun _ _ i _ => es.length - (intOf i).toNat)
  case atStart => exact ⟨0, 0, 0, Nat.zero_le _, rfl, rfl, rfl, by simp [go_sem], by simp [go_sem], by simp, (Below.refl _ _).alloc (Nat.le_refl _) _, Lib.hid rfl⟩
  case round =>
    obtain ⟨k, tz, sz', hk, rfl, rfl, rfl, c2, c8, hz, hB0, HI⟩ := hrel
    by_cases hlt : k < es.length
    · have HR : Hid (wr.rangeAt B (o + k * 82) es[k]) := Lib.hid (fun j v hv => (hB0.cell (p := ⟨B, o + k * 82 + j, none⟩) hB).trans ((HE.out k hlt).1 j v hv))
      obtain ⟨t0, s0, r0, hes⟩ := (HE.out k hlt).2.2.2
      have HST := Lib.hid (log_step hlt HI.out hes)
      have g0 : wr.cell? ⟨B, o + k * 82, none⟩ = some (.int .i64 t0) := HR.out 0 _ (by rw [hes]; rfl)
      have g1 : wr.cell? ⟨B, o + k * 82 + 1, none⟩ = some (.int .i64 s0) := HR.out 1 _ (by rw [hes]; rfl)
      have HB := Lib.hid hB0
      clear HI hes HR hB0 HE q0 q1 q2 hc0 hc1
      by_cases h1 : t0 < tz
      · have p1 : decide (t0 < tz) = true := decide_eq_true h1
        go_wp2_with fail
        go_quiet (fail)
        go_wp2_with fail
        go_ret
        exact ⟨ret_b (lg_no cm (HST.out.1 (by omega))), below_drewN' HB.out _⟩
      have p1 : decide (t0 < tz) = false := decide_eq_false h1
      by_cases h2 : tm < t0
      · have p2 : decide (tm < t0) = true := decide_eq_true h2
        go_wp2_with fail
        go_quiet (fail)
        go_wp2_with fail
        go_ret
        exact ⟨ret_b (lg_no cm (HST.out.1 (by omega))), below_drewN' HB.out _⟩
      have p2 : decide (tm < t0) = false := decide_eq_false h2
      by_cases h3 : s0 ≤ sz'
      · have p3 : decide (s0 ≤ sz') = true := decide_eq_true h3
        go_wp2_with fail
        go_quiet (fail)
        go_wp2_with fail
        go_ret
        exact ⟨ret_b (lg_no cm (HST.out.1 (by omega))), below_drewN' HB.out _⟩
      have p3 : decide (s0 ≤ sz') = false := decide_eq_false h3
      by_cases h4 : 1099511627776 < s0
      · have p4 : decide (1099511627776 < s0) = true := decide_eq_true h4
        go_wp2_with fail
        go_quiet (fail)
        go_wp2_with fail
        go_ret
        exact ⟨ret_b (lg_no cm (HST.out.1 (by omega))), below_drewN' HB.out _⟩
      · have p4 : decide (1099511627776 < s0) = false := decide_eq_false h4
        go_wp2_with fail
        go_quiet (fail)
        go_wp2_with fail
        go_quiet (fail)
        go_wp2_with fail
        go_roundw
        case rel => exact ⟨k + 1, t0, s0, by omega, rfl, rfl, by go_num, c2, c8, hz, below_drewN' HB.out _, Lib.hid (HST.out.2 (by omega))⟩
        case measure => simp [intOf]; omega
    · have HT : Hid (logB tm 0 0 es = true) := Lib.hid (by rw [← HI.out, List.drop_eq_nil_of_le (by omega)]; rfl)
      clear HI
      go_wp2_with fail
      go_ret
      exact ⟨ret_b ((lg_at cm HT.out).trans (decide_eq_true (by omega))), hB0⟩
set_option maxRecDepth 100000 in
set_option maxHeartbeats 400000 in
theorem vlog_0 (id sz tm vt rl ld ti vs : Int) (a : Option Addr) (cap : Nat) (cm : Int) (nx mt : Value) (w : World) (hcm : cm = 0) :
    Calls Try.prog 31 #[mem id sz tm vt rl ld ti vs (.slice a 0 cap) cm nx mt] w fun e w' => e = .returned (.bool (lgB tm cm [])) ∧ Below w.heap.size w w' := by
  subst hcm
  go_enter Try.func31, Try.ntmps31
  go_wp2_with fail
  go_loop [27] (fun i => i = .int .i64 0) (fun i => 0)
  case atStart => rfl
  case round =>
    obtain rfl := hrel
    go_wp2_with fail
    go_ret
    exact ⟨rfl, (Below.refl _ _).alloc (Nat.le_refl _) _⟩
set_option maxRecDepth 100000 in
set_option maxHeartbeats 400000 in
theorem vlog_no (id sz tm vt rl ld ti vs : Int) (a : Option Addr) (cap : Nat) (es : List (List Value)) (cm : Int) (nx mt : Value) (w : World) (hl : es.length ≤ 100) (hcm : ¬ (0 ≤ cm ∧ cm ≤ es.length)) :
    Calls Try.prog 31 #[mem id sz tm vt rl ld ti vs (.slice a es.length cap) cm nx mt] w fun e w' => e = .returned (.bool (lgB tm cm es)) ∧ Below w.heap.size w w' := by
  have HL := Lib.hid (lg_out (tm := tm) hcm)
  have q2 : decide ((16384 : Int) < (es.length : Int)) = false := decide_eq_false (by omega)
  by_cases h0 : cm < 0
  · have q0 : decide (cm < 0) = true := decide_eq_true h0
    go_enter Try.func31, Try.ntmps31
    go_wp2_with fail
    go_ret
    exact ⟨ret_b HL.out, (Below.refl _ _).alloc (Nat.le_refl _) _⟩
  · have q0 : decide (cm < 0) = false := decide_eq_false h0
    have q1 : decide ((es.length : Int) < cm) = true := decide_eq_true (by omega)
    go_enter Try.func31, Try.ntmps31
    go_wp2_with fail
    go_ret
    exact ⟨ret_b HL.out, (Below.refl _ _).alloc (Nat.le_refl _) _⟩
theorem vlog_at (id sz tm vt rl ld ti vs : Int) (lg : Value) (es : List (List Value)) (cm : Int) (nx mt : Value) (w : World) (hl : es.length ≤ 100) (he : EntArg w lg es) :
    Calls Try.prog 31 #[mem id sz tm vt rl ld ti vs lg cm nx mt] w fun e w' => e = .returned (.bool (lgB tm cm es)) ∧ Below w.heap.size w w' := by
  by_cases hcm : 0 ≤ cm ∧ cm ≤ es.length
  · rcases he with ⟨rfl, a, cap, rfl⟩ | ⟨B, o, cap, rfl, hB, h0, _, hc⟩
    · exact vlog_0 id sz tm vt rl ld ti vs a cap cm nx mt w (by simp at hcm; omega)
    · exact vlog_in id sz tm vt rl ld ti vs B o cap es cm nx mt w hl hB hc hcm
  · obtain ⟨a, cap, rfl⟩ := he.len
    exact vlog_no id sz tm vt rl ld ti vs a cap es cm nx mt w hl hcm
end Go.Proofs.Ytfpgklhbghahoaa
/- Election: validRole decides what depends on the role. -/
namespace Go.Proofs.Ytfpgklhbghahoaa
open Go.ChangeShapes Go.WideShapes Go.ChangeAt Go.RowKit Go.Deep
set_option linter.unusedVariables false
set_option linter.unusedSimpArgs false
/-- the bit of a member -/
def bitB (vs id : Int) : Bool := !((vs / 2 ^ id.toNat).tmod 2 == 0)
theorem bit_small : ∀ i < 7, ∀ n < 128, (bits .and .i64 ((n : Nat) : Int) (IntKind.i64.wrap (2 ^ i)) == 0) = (((n : Int) / 2 ^ i).tmod 2 == 0) := by decide +kernel
theorem bit_at (vs id : Int) (h0 : 0 ≤ vs) (h1 : vs < 128) (i0 : 0 ≤ id) (i1 : id < 7) : (bits .and .i64 vs (IntKind.i64.wrap (2 ^ id.toNat)) == 0) = !(bitB vs id) := by
  obtain ⟨n, rfl⟩ : ∃ n : Nat, vs = n := ⟨vs.toNat, by omega⟩
  rw [bit_small id.toNat (by omega) n (by omega)]
  unfold bitB
  rw [Bool.not_not]
def firstB (id tm vt vs : Int) : Bool := decide (1 ≤ tm) && decide (vt = id) && bitB vs id
/-- what depends on the role; ln and lm: how many places; bn, bm: they are places of the log -/
def roleB (id sz tm vt rl ld vs : Int) (ln lm : Int) (bn bm : Bool) : Bool :=
  if rl = 0 then decide (ln = 0) && decide (lm = 0)
  else if rl = 1 then firstB id tm vt vs && decide (ld = -1) && decide (cntB vs sz.toNat < maj sz) && (decide (ln = 0) && decide (lm = 0))
  else firstB id tm vt vs && decide (ld = id) && decide (maj sz ≤ cntB vs sz.toNat) && (decide (ln = sz) && decide (lm = sz)) && (bn && bm)
theorem maj_le (sz : Int) (h1 : 1 ≤ sz) (h7 : sz ≤ 7) : 1 ≤ maj sz ∧ maj sz ≤ 4 := by
  unfold maj
  rw [if_pos ⟨h1, h7⟩]
  omega
set_option maxRecDepth 100000 in
set_option maxHeartbeats 1600000 in
theorem role_0 (id sz tm vt ld ti vs : Int) (ga : Option Addr) (gl gc : Nat) (cm : Int) (an : Option Addr) (cn : Nat) (am : Option Addr) (cc : Nat) (xs ys : List Int) (bn bm : Bool) (w : World)
    (h1 : 1 ≤ sz) (h7 : sz ≤ 7) (i0 : 0 ≤ id) (i1 : id < sz) (v0 : 0 ≤ vs) (v1 : vs < 2 ^ sz.toNat) (v2 : vs < 128) (hx : xs.length ≤ 9223372036854775807) (hy : ys.length ≤ 9223372036854775807) :
    Calls Try.prog 32 #[mem id sz tm vt 0 ld ti vs (.slice ga gl gc) cm (.slice an xs.length cn) (.slice am ys.length cc)] w fun e w' => e = .returned (.bool (roleB id sz tm vt 0 ld vs xs.length ys.length bn bm)) ∧ Below w.heap.size w w' := by
  have HR : Hid (roleB id sz tm vt 0 ld vs xs.length ys.length bn bm = (decide ((xs.length : Int) = 0) && decide ((ys.length : Int) = 0))) := Lib.hid rfl
  have hB0 : BoxN 12 (w.alloc (.cells (memL id sz tm vt 0 ld ti vs (.slice ga gl gc) cm (.slice an xs.length cn) (.slice am ys.length cc)).toArray 25)) w.heap.size (memL id sz tm vt 0 ld ti vs (.slice ga gl gc) cm (.slice an xs.length cn) (.slice am ys.length cc)) := BoxN.new w _ 12 _ rfl
  have hb0 : Below w.heap.size w (w.alloc (.cells (memL id sz tm vt 0 ld ti vs (.slice ga gl gc) cm (.slice an xs.length cn) (.slice am ys.length cc)).toArray 25)) := (Below.refl _ _).alloc (Nat.le_refl _) _
  go_enter Try.func32, Try.ntmps32
  go_wp2_with fail
  refine calls_named (fun W => BoxN 12 W w.heap.size (memL id sz tm vt 0 ld ti vs (.slice ga gl gc) cm (.slice an xs.length cn) (.slice am ys.length cc)) ∧ Below w.heap.size w W) ⟨hB0, hb0⟩ ?_
  clear hB0 hb0
  rintro w1 ⟨hB, hb⟩
  have a4 : w1.cell? ⟨w.heap.size, 4, none⟩ = some (.int .i64 0) := hB.cell 4 _ rfl
  have a10 : w1.cell? ⟨w.heap.size, 10, none⟩ = some (.slice an xs.length cn) := hB.cell 10 _ rfl
  have a11 : w1.cell? ⟨w.heap.size, 11, none⟩ = some (.slice am ys.length cc) := hB.cell 11 _ rfl
  refine (ones_at vs _ v0 v2).mono ?_
  rintro e w2 ⟨rfl, rfl⟩
  have HB := Lib.hid hb
  clear hB hb
  generalize cntB vs 7 = c
  by_cases hn : (xs.length : Int) = 0
  · have pn : ((xs.length : Int) == 0) = true := by rw [hn]; rfl
    by_cases hm : (ys.length : Int) = 0
    · have pm : ((ys.length : Int) == 0) = true := by rw [hm]; rfl
      have HV : Hid (roleB id sz tm vt 0 ld vs xs.length ys.length bn bm = true) := Lib.hid (by rw [HR.out, decide_eq_true hn, decide_eq_true hm]; rfl)
      clear HR hn hm
      go_wp2_with fail
      go_quiet (fail)
      go_wp2_with fail
      go_ret
      exact ⟨ret_b HV.out, below_drewN' HB.out _⟩
    · have pm : ((ys.length : Int) == 0) = false := beq_eq_false_iff_ne.2 hm
      have HV : Hid (roleB id sz tm vt 0 ld vs xs.length ys.length bn bm = false) := Lib.hid (by rw [HR.out, decide_eq_false hm, Bool.and_false])
      clear HR hn hm
      go_wp2_with fail
      go_quiet (fail)
      go_wp2_with fail
      go_ret
      exact ⟨ret_b HV.out, below_drewN' HB.out _⟩
  · have pn : ((xs.length : Int) == 0) = false := beq_eq_false_iff_ne.2 hn
    have HV : Hid (roleB id sz tm vt 0 ld vs xs.length ys.length bn bm = false) := Lib.hid (by rw [HR.out, decide_eq_false hn, Bool.false_and])
    clear HR hn
    go_wp2_with fail
    go_quiet (fail)
    go_wp2_with fail
    go_ret
    exact ⟨ret_b HV.out, below_drewN' HB.out _⟩
end Go.Proofs.Ytfpgklhbghahoaa
/- Election: validRole for candidates and primaries. -/
namespace Go.Proofs.Ytfpgklhbghahoaa
open Go.ChangeShapes Go.WideShapes Go.ChangeAt Go.RowKit Go.Deep
set_option linter.unusedVariables false
set_option linter.unusedSimpArgs false
set_option maxRecDepth 100000 in
set_option maxHeartbeats 3200000 in
theorem role_1 (id sz tm vt ld ti vs : Int) (ga : Option Addr) (gl gc : Nat) (cm : Int) (an : Option Addr) (cn : Nat) (am : Option Addr) (cc : Nat) (xs ys : List Int) (w : World)
    (h1 : 1 ≤ sz) (h7 : sz ≤ 7) (i0 : 0 ≤ id) (i1 : id < sz) (v0 : 0 ≤ vs) (v1 : vs < 2 ^ sz.toNat) (v2 : vs < 128) (hx : xs.length ≤ 9223372036854775807) (hy : ys.length ≤ 9223372036854775807) (hg : gl ≤ 100) :
    Calls Try.prog 32 #[mem id sz tm vt 1 ld ti vs (.slice ga gl gc) cm (.slice an xs.length cn) (.slice am ys.length cc)] w fun e w' => e = .returned (.bool (roleB id sz tm vt 1 ld vs xs.length ys.length (inB gl xs) (inB gl ys))) ∧ Below w.heap.size w w' := by
  have hc := cntB_le vs v0 sz.toNat
  have hm := maj_le sz h1 h7
  have hbit := bit_at vs id v0 v2 i0 (by omega)
  have HA := cntB_all vs sz v0 h1 h7 v1
  have HR : Hid (roleB id sz tm vt 1 ld vs xs.length ys.length (inB gl xs) (inB gl ys) = (firstB id tm vt vs && decide (ld = -1) && decide (cntB vs sz.toNat < maj sz) && (decide ((xs.length : Int) = 0) && decide ((ys.length : Int) = 0)))) := Lib.hid rfl
  have HF : Hid (firstB id tm vt vs = (decide (1 ≤ tm) && decide (vt = id) && bitB vs id)) := Lib.hid rfl
  have hB0 : BoxN 12 (w.alloc (.cells (memL id sz tm vt 1 ld ti vs (.slice ga gl gc) cm (.slice an xs.length cn) (.slice am ys.length cc)).toArray 25)) w.heap.size (memL id sz tm vt 1 ld ti vs (.slice ga gl gc) cm (.slice an xs.length cn) (.slice am ys.length cc)) := BoxN.new w _ 12 _ rfl
  have hb0 : Below w.heap.size w (w.alloc (.cells (memL id sz tm vt 1 ld ti vs (.slice ga gl gc) cm (.slice an xs.length cn) (.slice am ys.length cc)).toArray 25)) := (Below.refl _ _).alloc (Nat.le_refl _) _
  have HM := Lib.hid (fun W => maj_any sz W)
  have HO := Lib.hid (fun W => ones_at vs W v0 v2)
  rw [HA] at HO
  generalize roleB id sz tm vt 1 ld vs xs.length ys.length (inB gl xs) (inB gl ys) = R at *
  generalize firstB id tm vt vs = F at *
  generalize bitB vs id = bt at *
  generalize cntB vs sz.toNat = c at *
  generalize maj sz = mj at *
  clear HA v1
  have hc7 : c ≤ 7 := by omega
  clear hc
  go_enter Try.func32, Try.ntmps32
  go_wp2_with fail
  refine calls_named (fun W => BoxN 12 W w.heap.size (memL id sz tm vt 1 ld ti vs (.slice ga gl gc) cm (.slice an xs.length cn) (.slice am ys.length cc)) ∧ Below w.heap.size w W) ⟨hB0, hb0⟩ ?_
  clear hB0 hb0
  rintro w1 ⟨hB, hb⟩
  have a0 : w1.cell? ⟨w.heap.size, 0, none⟩ = some (.int .i64 id) := hB.cell 0 _ rfl
  have a1 : w1.cell? ⟨w.heap.size, 1, none⟩ = some (.int .i64 sz) := hB.cell 1 _ rfl
  have a2 : w1.cell? ⟨w.heap.size, 2, none⟩ = some (.int .i64 tm) := hB.cell 2 _ rfl
  have a3 : w1.cell? ⟨w.heap.size, 3, none⟩ = some (.int .i64 vt) := hB.cell 3 _ rfl
  have a4 : w1.cell? ⟨w.heap.size, 4, none⟩ = some (.int .i64 1) := hB.cell 4 _ rfl
  have a5 : w1.cell? ⟨w.heap.size, 5, none⟩ = some (.int .i64 ld) := hB.cell 5 _ rfl
  have a7 : w1.cell? ⟨w.heap.size, 7, none⟩ = some (.int .i64 vs) := hB.cell 7 _ rfl
  have a10 : w1.cell? ⟨w.heap.size, 10, none⟩ = some (.slice an xs.length cn) := hB.cell 10 _ rfl
  have a11 : w1.cell? ⟨w.heap.size, 11, none⟩ = some (.slice am ys.length cc) := hB.cell 11 _ rfl
  refine (HO.out _).mono ?_
  rintro e w2 ⟨rfl, rfl⟩
  have HV0 := Lib.hid (⟨hB, hb⟩ : VM w (memL id sz tm vt 1 ld ti vs (.slice ga gl gc) cm (.slice an xs.length cn) (.slice am ys.length cc)) w1)
  clear hB hb HO
  by_cases t1 : tm < 1
  · have p1 : decide (tm < 1) = true := decide_eq_true t1
    have HV : Hid (R = false) := Lib.hid (by rw [HR.out, HF.out, decide_eq_false (by omega)]; simp)
    clear HR HF
    go_wp2_with fail
    go_quiet (fail)
    go_wp2_with fail
    go_ret
    exact ⟨ret_b HV.out, below_drewN' HV0.out.2 _⟩
  have p1 : decide (tm < 1) = false := decide_eq_false t1
  have k1 : decide (1 ≤ tm) = true := decide_eq_true (by omega)
  by_cases t2 : vt = id
  rotate_left
  · have p2 : (vt == id) = false := beq_eq_false_iff_ne.2 t2
    have p2' : (vt != id) = true := by rw [bne, p2]; rfl
    have HV : Hid (R = false) := Lib.hid (by rw [HR.out, HF.out, decide_eq_false t2]; simp)
    clear HR HF
    go_wp2_with fail
    go_quiet (fail)
    go_wp2_with fail
    go_ret
    exact ⟨ret_b HV.out, below_drewN' HV0.out.2 _⟩
  have k2 : decide (vt = id) = true := decide_eq_true t2
  have p2 : (vt == id) = true := beq_iff_eq.2 t2
  have p2' : (vt != id) = false := by rw [bne, p2]; rfl
  cases bt
  · have hbit' : (bits .and .i64 vs (wrap64 (2 ^ id.toNat)) == 0) = true := by rw [← IntWalk.i64_left]; exact hbit
    have HV : Hid (R = false) := Lib.hid (by rw [HR.out, HF.out]; simp)
    clear HR HF
    go_wp2_with fail
    go_quiet (fail)
    go_wp2_with fail
    go_ret
    exact ⟨ret_b HV.out, below_drewN' HV0.out.2 _⟩
  have hbit' : (bits .and .i64 vs (wrap64 (2 ^ id.toNat)) == 0) = false := by rw [← IntWalk.i64_left]; exact hbit
  have HF2 : Hid (F = true) := Lib.hid (by rw [HF.out, k1, k2]; rfl)
  clear HF k1 k2 t1 t2 hbit
  by_cases t3 : ld = -1
  rotate_left
  · have p3 : (ld == -1) = false := beq_eq_false_iff_ne.2 t3
    have p3' : (ld != -1) = true := by rw [bne, p3]; rfl
    have HF := HF2
    have HV : Hid (R = false) := Lib.hid (by rw [HR.out, decide_eq_false t3]; simp)
    clear HR HF
    go_wp2_with fail
    go_quiet (fail)
    go_wp2_with fail
    go_ret
    exact ⟨ret_b HV.out, below_drewN' HV0.out.2 _⟩
  have p3 : (ld == -1) = true := beq_iff_eq.2 t3
  have p3' : (ld != -1) = false := by rw [bne, p3]; rfl
  by_cases t4 : mj ≤ c
  · have p4 : decide (mj ≤ c) = true := decide_eq_true t4
    have HV : Hid (R = false) := Lib.hid (by rw [HR.out, decide_eq_false (show ¬ c < mj by omega)]; simp)
    clear HR HF2 t3
    go_wp2_with fail
    go_quiet (fail)
    go_wp2_with fail
    refine (HM.out _).mono ?_
    rintro e w3 ⟨rfl, rfl⟩
    go_wp2_with fail
    go_ret
    exact ⟨ret_b HV.out, below_drewN' HV0.out.2 _⟩
  have p4 : decide (mj ≤ c) = false := decide_eq_false t4
  have HR2 : Hid (R = (decide ((xs.length : Int) = 0) && decide ((ys.length : Int) = 0))) := Lib.hid (by rw [HR.out, HF2.out, decide_eq_true t3, decide_eq_true (show c < mj by omega)]; rfl)
  clear HR HF2 t3
  by_cases hn : (xs.length : Int) = 0
  rotate_left
  · have pn : ((xs.length : Int) == 0) = false := beq_eq_false_iff_ne.2 hn
    have HV : Hid (R = false) := Lib.hid (by rw [HR2.out, decide_eq_false hn, Bool.false_and])
    clear HR2
    go_wp2_with fail
    go_quiet (fail)
    go_wp2_with fail
    refine (HM.out _).mono ?_
    rintro e w3 ⟨rfl, rfl⟩
    go_wp2_with fail
    go_ret
    exact ⟨ret_b HV.out, below_drewN' HV0.out.2 _⟩
  have pn : ((xs.length : Int) == 0) = true := beq_iff_eq.2 hn
  by_cases hm2 : (ys.length : Int) = 0
  · have pm : ((ys.length : Int) == 0) = true := beq_iff_eq.2 hm2
    have HV : Hid (R = true) := Lib.hid (by rw [HR2.out, decide_eq_true hn, decide_eq_true hm2]; rfl)
    clear HR2
    go_wp2_with fail
    go_quiet (fail)
    go_wp2_with fail
    refine (HM.out _).mono ?_
    rintro e w3 ⟨rfl, rfl⟩
    go_wp2_with fail
    go_ret
    exact ⟨ret_b HV.out, below_drewN' HV0.out.2 _⟩
  · have pm : ((ys.length : Int) == 0) = false := beq_eq_false_iff_ne.2 hm2
    have HV : Hid (R = false) := Lib.hid (by rw [HR2.out, decide_eq_false hm2, Bool.and_false])
    clear HR2
    go_wp2_with fail
    go_quiet (fail)
    go_wp2_with fail
    refine (HM.out _).mono ?_
    rintro e w3 ⟨rfl, rfl⟩
    go_wp2_with fail
    go_ret
    exact ⟨ret_b HV.out, below_drewN' HV0.out.2 _⟩
end Go.Proofs.Ytfpgklhbghahoaa
/- Election: validRole for primaries. -/
namespace Go.Proofs.Ytfpgklhbghahoaa
open Go.ChangeShapes Go.WideShapes Go.ChangeAt Go.RowKit Go.Deep
set_option linter.unusedVariables false
set_option linter.unusedSimpArgs false
set_option maxRecDepth 100000 in
set_option maxHeartbeats 3200000 in
theorem role_2 (id sz tm vt ld ti vs : Int) (ga : Option Addr) (gl gc : Nat) (cm : Int) (an : Option Addr) (cn : Nat) (am : Option Addr) (cc : Nat) (xs ys : List Int) (w : World)
    (h1 : 1 ≤ sz) (h7 : sz ≤ 7) (i0 : 0 ≤ id) (i1 : id < sz) (v0 : 0 ≤ vs) (v1 : vs < 2 ^ sz.toNat) (v2 : vs < 128) (hx : xs.length ≤ 9223372036854775807) (hy : ys.length ≤ 9223372036854775807) (hg : gl ≤ 100) (hX : IntsIn w (.slice an xs.length cn) xs) (hY : IntsIn w (.slice am ys.length cc) ys) :
    Calls Try.prog 32 #[mem id sz tm vt 2 ld ti vs (.slice ga gl gc) cm (.slice an xs.length cn) (.slice am ys.length cc)] w fun e w' => e = .returned (.bool (roleB id sz tm vt 2 ld vs xs.length ys.length (inB gl xs) (inB gl ys))) ∧ Below w.heap.size w w' := by
  have HX := Lib.hid hX
  have HY := Lib.hid hY
  clear hX hY
  have hc := cntB_le vs v0 sz.toNat
  have hm := maj_le sz h1 h7
  have hbit := bit_at vs id v0 v2 i0 (by omega)
  have HA := cntB_all vs sz v0 h1 h7 v1
  have HR : Hid (roleB id sz tm vt 2 ld vs xs.length ys.length (inB gl xs) (inB gl ys) = (firstB id tm vt vs && decide (ld = id) && decide (maj sz ≤ cntB vs sz.toNat) && (decide ((xs.length : Int) = sz) && decide ((ys.length : Int) = sz)) && (inB gl xs && inB gl ys))) := Lib.hid rfl
  have HF : Hid (firstB id tm vt vs = (decide (1 ≤ tm) && decide (vt = id) && bitB vs id)) := Lib.hid rfl
  have hB0 : BoxN 12 (w.alloc (.cells (memL id sz tm vt 2 ld ti vs (.slice ga gl gc) cm (.slice an xs.length cn) (.slice am ys.length cc)).toArray 25)) w.heap.size (memL id sz tm vt 2 ld ti vs (.slice ga gl gc) cm (.slice an xs.length cn) (.slice am ys.length cc)) := BoxN.new w _ 12 _ rfl
  have hb0 : Below w.heap.size w (w.alloc (.cells (memL id sz tm vt 2 ld ti vs (.slice ga gl gc) cm (.slice an xs.length cn) (.slice am ys.length cc)).toArray 25)) := (Below.refl _ _).alloc (Nat.le_refl _) _
  have HM := Lib.hid (fun W => maj_any sz W)
  have HO := Lib.hid (fun W => ones_at vs W v0 v2)
  rw [HA] at HO
  generalize roleB id sz tm vt 2 ld vs xs.length ys.length (inB gl xs) (inB gl ys) = R at *
  generalize firstB id tm vt vs = F at *
  generalize bitB vs id = bt at *
  generalize cntB vs sz.toNat = c at *
  generalize maj sz = mj at *
  clear HA v1
  have hc7 : c ≤ 7 := by omega
  clear hc
  go_enter Try.func32, Try.ntmps32
  go_wp2_with fail
  refine calls_named (fun W => BoxN 12 W w.heap.size (memL id sz tm vt 2 ld ti vs (.slice ga gl gc) cm (.slice an xs.length cn) (.slice am ys.length cc)) ∧ Below w.heap.size w W) ⟨hB0, hb0⟩ ?_
  clear hB0 hb0
  rintro w1 ⟨hB, hb⟩
  have a0 : w1.cell? ⟨w.heap.size, 0, none⟩ = some (.int .i64 id) := hB.cell 0 _ rfl
  have a1 : w1.cell? ⟨w.heap.size, 1, none⟩ = some (.int .i64 sz) := hB.cell 1 _ rfl
  have a2 : w1.cell? ⟨w.heap.size, 2, none⟩ = some (.int .i64 tm) := hB.cell 2 _ rfl
  have a3 : w1.cell? ⟨w.heap.size, 3, none⟩ = some (.int .i64 vt) := hB.cell 3 _ rfl
  have a4 : w1.cell? ⟨w.heap.size, 4, none⟩ = some (.int .i64 2) := hB.cell 4 _ rfl
  have a5 : w1.cell? ⟨w.heap.size, 5, none⟩ = some (.int .i64 ld) := hB.cell 5 _ rfl
  have a7 : w1.cell? ⟨w.heap.size, 7, none⟩ = some (.int .i64 vs) := hB.cell 7 _ rfl
  have a10 : w1.cell? ⟨w.heap.size, 10, none⟩ = some (.slice an xs.length cn) := hB.cell 10 _ rfl
  have a11 : w1.cell? ⟨w.heap.size, 11, none⟩ = some (.slice am ys.length cc) := hB.cell 11 _ rfl
  refine (HO.out _).mono ?_
  rintro e w2 ⟨rfl, rfl⟩
  have HV0 := Lib.hid (⟨hB, hb⟩ : VM w (memL id sz tm vt 2 ld ti vs (.slice ga gl gc) cm (.slice an xs.length cn) (.slice am ys.length cc)) w1)
  clear hB hb HO
  by_cases t1 : tm < 1
  · have p1 : decide (tm < 1) = true := decide_eq_true t1
    have HV : Hid (R = false) := Lib.hid (by rw [HR.out, HF.out, decide_eq_false (by omega)]; simp)
    clear HR HF
    go_wp2_with fail
    go_quiet (fail)
    go_wp2_with fail
    go_ret
    exact ⟨ret_b HV.out, below_drewN' HV0.out.2 _⟩
  have p1 : decide (tm < 1) = false := decide_eq_false t1
  have k1 : decide (1 ≤ tm) = true := decide_eq_true (by omega)
  by_cases t2 : vt = id
  rotate_left
  · have p2 : (vt == id) = false := beq_eq_false_iff_ne.2 t2
    have p2' : (vt != id) = true := by rw [bne, p2]; rfl
    have HV : Hid (R = false) := Lib.hid (by rw [HR.out, HF.out, decide_eq_false t2]; simp)
    clear HR HF
    go_wp2_with fail
    go_quiet (fail)
    go_wp2_with fail
    go_ret
    exact ⟨ret_b HV.out, below_drewN' HV0.out.2 _⟩
  have k2 : decide (vt = id) = true := decide_eq_true t2
  have p2 : (vt == id) = true := beq_iff_eq.2 t2
  have p2' : (vt != id) = false := by rw [bne, p2]; rfl
  cases bt
  · have hbit' : (bits .and .i64 vs (wrap64 (2 ^ id.toNat)) == 0) = true := by rw [← IntWalk.i64_left]; exact hbit
    have HV : Hid (R = false) := Lib.hid (by rw [HR.out, HF.out]; simp)
    clear HR HF
    go_wp2_with fail
    go_quiet (fail)
    go_wp2_with fail
    go_ret
    exact ⟨ret_b HV.out, below_drewN' HV0.out.2 _⟩
  have hbit' : (bits .and .i64 vs (wrap64 (2 ^ id.toNat)) == 0) = false := by rw [← IntWalk.i64_left]; exact hbit
  have HF2 : Hid (F = true) := Lib.hid (by rw [HF.out, k1, k2]; rfl)
  clear HF k1 k2 t1 t2 hbit
  by_cases t3 : ld = id
  rotate_left
  · have p3 : (ld == id) = false := beq_eq_false_iff_ne.2 t3
    have HF := HF2
    have HV : Hid (R = false) := Lib.hid (by rw [HR.out, decide_eq_false t3]; simp)
    clear HR HF
    go_wp2_with fail
    go_quiet (fail)
    go_wp2_with fail
    go_ret
    exact ⟨ret_b HV.out, below_drewN' HV0.out.2 _⟩
  have p3 : (ld == id) = true := beq_iff_eq.2 t3
  by_cases t4 : mj ≤ c
  rotate_left
  · have p4 : decide (mj ≤ c) = false := decide_eq_false t4
    have HV : Hid (R = false) := Lib.hid (by rw [HR.out, decide_eq_false t4]; simp)
    clear HR HF2 t3
    go_wp2_with fail
    go_quiet (fail)
    go_wp2_with fail
    refine (HM.out _).mono ?_
    rintro e w3 ⟨rfl, rfl⟩
    go_wp2_with fail
    go_ret
    exact ⟨ret_b HV.out, below_drewN' HV0.out.2 _⟩
  have p4 : decide (mj ≤ c) = true := decide_eq_true t4
  have HR2 : Hid (R = ((decide ((xs.length : Int) = sz) && decide ((ys.length : Int) = sz)) && (inB gl xs && inB gl ys))) := Lib.hid (by rw [HR.out, HF2.out, decide_eq_true t3, decide_eq_true t4]; rfl)
  clear HR HF2 t3
  go_wp2_with fail
  go_quiet (fail)
  go_wp2_with fail
  refine (HM.out _).mono ?_
  rintro e w3 ⟨rfl, rfl⟩
  have HM1 := Lib.hid (VM.drewN HV0.out nq)
  clear a0 a1 a2 a3 a4 a5 a7 a10 a11 hbit' HV0 HM
  have hA := HM1.out.1
  have a10 : (w1.drewN nq).cell? ⟨w.heap.size, 10, none⟩ = some (.slice an xs.length cn) := hA.cell 10 _ rfl
  go_wp2_with (with_reducible refine wpList_box_load_g 25 1 w.heap.size (memL id sz tm vt 2 ld ti vs (.slice ga gl gc) cm (.slice an xs.length cn) (.slice am ys.length cc)) _ _ _ _ _ _ _ ?_ hA wideMem ?_ ?_)
  · rfl
  go_wp2_with fail
  refine (vplaces_at id sz tm vt 2 ld ti vs ga gl gc cm _ _ _ xs _ hg h1 (HX.out.below HM1.out.2)).mono ?_
  rintro e w5 ⟨rfl, hb5⟩
  have HM5 := Lib.hid (HM1.out.keep hb5)
  clear hb5 hA a10 HM1
  generalize hv1 : (inB gl xs && decide ((xs.length : Int) = sz)) = b1
  have HV1 := Lib.hid hv1
  clear hv1
  cases b1
  · have HV : Hid (R = false) := Lib.hid (by rw [HR2.out]; have h := HV1.out; revert h; cases decide ((xs.length : Int) = sz) <;> cases inB gl xs <;> simp)
    go_wp2_with fail
    go_ret
    exact ⟨ret_b HV.out, HM5.out.2⟩
  have hA := HM5.out.1
  have a11 : w5.cell? ⟨w.heap.size, 11, none⟩ = some (.slice am ys.length cc) := hA.cell 11 _ rfl
  go_wp2_with (with_reducible refine wpList_box_load_g 25 1 w.heap.size (memL id sz tm vt 2 ld ti vs (.slice ga gl gc) cm (.slice an xs.length cn) (.slice am ys.length cc)) _ _ _ _ _ _ _ ?_ hA wideMem ?_ ?_)
  · rfl
  go_wp2_with fail
  refine (vplaces_at id sz tm vt 2 ld ti vs ga gl gc cm _ _ _ ys _ hg h1 (HY.out.below HM5.out.2)).mono ?_
  rintro e w6 ⟨rfl, hb6⟩
  have HM6 := Lib.hid (HM5.out.keep hb6)
  clear hb6 hA a11 HM5
  have HV : Hid (R = (inB gl ys && decide ((ys.length : Int) = sz))) := Lib.hid (by rw [HR2.out]; have h := HV1.out; revert h; cases decide ((xs.length : Int) = sz) <;> cases inB gl xs <;> cases decide ((ys.length : Int) = sz) <;> cases inB gl ys <;> simp)
  generalize (inB gl ys && decide ((ys.length : Int) = sz)) = b2 at *
  clear HR2 HV1
  cases b2
  all_goals
    go_wp2_with fail
    go_ret
    exact ⟨ret_b HV.out, HM6.out.2⟩
end Go.Proofs.Ytfpgklhbghahoaa
/- Election: Valid decides what a member must be. -/
namespace Go.Proofs.Ytfpgklhbghahoaa
open Go.ChangeShapes Go.WideShapes Go.ChangeAt Go.RowKit Go.Deep
set_option linter.unusedVariables false
set_option linter.unusedSimpArgs false
abbrev G0 (id sz tm vt ld : Int) : Prop := 1 ≤ sz ∧ sz ≤ 7 ∧ 0 ≤ id ∧ id < sz ∧ 0 ≤ tm ∧ -1 ≤ vt ∧ vt < sz ∧ -1 ≤ ld ∧ ld < sz
abbrev G1 (sz rl ti vs : Int) : Prop := 0 ≤ rl ∧ rl ≤ 2 ∧ 0 ≤ ti ∧ 0 ≤ vs ∧ vs < 2 ^ sz.toNat
def restB (id sz tm vt rl ld vs cm : Int) (es : List (List Value)) (xs ys : List Int) : Bool := lgB tm cm es && roleB id sz tm vt rl ld vs xs.length ys.length (inB es.length xs) (inB es.length ys)
/-- a member's state is possible -/
def validB (id sz tm vt rl ld ti vs cm : Int) (es : List (List Value)) (xs ys : List Int) : Bool :=
  decide (G0 id sz tm vt ld) && decide (G1 sz rl ti vs) && restB id sz tm vt rl ld vs cm es xs ys
theorem validB_no (id sz tm vt rl ld ti vs cm : Int) (es : List (List Value)) (xs ys : List Int) (h : ¬ (G0 id sz tm vt ld ∧ G1 sz rl ti vs)) : validB id sz tm vt rl ld ti vs cm es xs ys = false := by
  unfold validB
  by_cases h0 : G0 id sz tm vt ld
  · rw [decide_eq_false (fun h1 => h ⟨h0, h1⟩ : ¬ G1 sz rl ti vs), Bool.and_false, Bool.false_and]
  · rw [decide_eq_false h0, Bool.false_and, Bool.false_and]
theorem validB_yes (id sz tm vt rl ld ti vs cm : Int) (es : List (List Value)) (xs ys : List Int) (h0 : G0 id sz tm vt ld) (h1 : G1 sz rl ti vs) : validB id sz tm vt rl ld ti vs cm es xs ys = restB id sz tm vt rl ld vs cm es xs ys := by
  unfold validB
  rw [decide_eq_true h0, decide_eq_true h1, Bool.true_and, Bool.true_and]
theorem pow_le (sz : Int) (h1 : 1 ≤ sz) (h7 : sz ≤ 7) : (2 : Int) ≤ 2 ^ sz.toNat ∧ (2 : Int) ^ sz.toNat ≤ 128 := by
  have h : sz.toNat = 1 ∨ sz.toNat = 2 ∨ sz.toNat = 3 ∨ sz.toNat = 4 ∨ sz.toNat = 5 ∨ sz.toNat = 6 ∨ sz.toNat = 7 := by omega
  rcases h with h | h | h | h | h | h | h <;> rw [h] <;> decide
theorem pow_wrap (sz : Int) (h1 : 1 ≤ sz) (h7 : sz ≤ 7) : wrap64 (2 ^ sz.toNat) = 2 ^ sz.toNat := by
  have := pow_le sz h1 h7
  exact IntWalk.wrap64_in _ (by omega)
set_option maxRecDepth 100000 in
set_option maxHeartbeats 1600000 in
theorem valid_n0 (id sz tm vt rl ld ti vs : Int) (lg : Value) (cm : Int) (nx mt : Value) (w : World) (hG : ¬ (G0 id sz tm vt ld ∧ 0 ≤ rl ∧ rl ≤ 2 ∧ 0 ≤ ti)) :
    Calls Try.prog 16 #[mem id sz tm vt rl ld ti vs lg cm nx mt] w fun e w' => e = .returned (.bool false) ∧ Below w.heap.size w w' := by
  have HG := Lib.hid hG
  clear hG
  have hbw : Below w.heap.size w (w.alloc (.cells #[.int .i64 id, .int .i64 sz, .int .i64 tm, .int .i64 vt, .int .i64 rl, .int .i64 ld, .int .i64 ti, .int .i64 vs, lg, .int .i64 cm, nx, mt] 25)) := (Below.refl _ _).alloc (Nat.le_refl _) _
  have HB := Lib.hid hbw
  clear hbw
  go_enter Try.func16, Try.ntmps16
  go_wp2_with fail
  all_goals first
    | (go_ret; exact ⟨rfl, HB.out⟩)
    | exact absurd ⟨⟨by omega, by omega, by omega, by omega, by omega, by omega, by omega, by omega, by omega⟩, by omega, by omega, by omega⟩ HG.out
set_option maxRecDepth 100000 in
set_option maxHeartbeats 1600000 in
theorem valid_n1 (id sz tm vt rl ld ti vs : Int) (lg : Value) (cm : Int) (nx mt : Value) (w : World) (a1 : 1 ≤ sz) (a2 : sz ≤ 7) (a3 : 0 ≤ id) (a4 : id < sz) (a5 : 0 ≤ tm) (a6 : -1 ≤ vt) (a7 : vt < sz) (a8 : -1 ≤ ld) (a9 : ld < sz) (b1 : 0 ≤ rl) (b2 : rl ≤ 2) (b3 : 0 ≤ ti) (hV : vs < 0 ∨ 2 ^ sz.toNat ≤ vs) :
    Calls Try.prog 16 #[mem id sz tm vt rl ld ti vs lg cm nx mt] w fun e w' => e = .returned (.bool false) ∧ Below w.heap.size w w' := by
  have f1 : decide (sz < 1) = false := decide_eq_false (by omega)
  have f2 : decide (7 < sz) = false := decide_eq_false (by omega)
  have f3 : decide (id < 0) = false := decide_eq_false (by omega)
  have f4 : decide (sz ≤ id) = false := decide_eq_false (by omega)
  have f5 : decide (tm < 0) = false := decide_eq_false (by omega)
  have f6 : decide (vt < -1) = false := decide_eq_false (by omega)
  have f7 : decide (sz ≤ vt) = false := decide_eq_false (by omega)
  have f8 : decide (ld < -1) = false := decide_eq_false (by omega)
  have f9 : decide (sz ≤ ld) = false := decide_eq_false (by omega)
  have e1 : decide (rl < 0) = false := decide_eq_false (by omega)
  have e2 : decide (2 < rl) = false := decide_eq_false (by omega)
  have e3 : decide (ti < 0) = false := decide_eq_false (by omega)
  have HW := pow_wrap sz a1 a2
  have hbw : Below w.heap.size w (w.alloc (.cells #[.int .i64 id, .int .i64 sz, .int .i64 tm, .int .i64 vt, .int .i64 rl, .int .i64 ld, .int .i64 ti, .int .i64 vs, lg, .int .i64 cm, nx, mt] 25)) := (Below.refl _ _).alloc (Nat.le_refl _) _
  have HB := Lib.hid hbw
  clear hbw
  by_cases h0 : vs < 0
  · have e4 : decide (vs < 0) = true := decide_eq_true h0
    clear hV HW
    go_enter Try.func16, Try.ntmps16
    go_wp2_with fail
    go_quiet (fail)
    go_wp2_with fail
    go_ret
    exact ⟨rfl, below_drewN' HB.out _⟩
  · have e4 : decide (vs < 0) = false := decide_eq_false h0
    have e5 : decide (wrap64 (2 ^ sz.toNat) ≤ vs) = true := decide_eq_true (by rw [HW]; omega)
    clear hV HW
    go_enter Try.func16, Try.ntmps16
    go_wp2_with fail
    go_quiet (fail)
    go_wp2_with fail
    go_ret
    exact ⟨rfl, below_drewN' HB.out _⟩
set_option maxRecDepth 100000 in
set_option maxHeartbeats 1600000 in
theorem valid_y (id sz tm vt rl ld ti vs : Int) (lg : Value) (es : List (List Value)) (cm : Int) (nx mt : Value) (xs ys : List Int) (w : World) (h0 : G0 id sz tm vt ld) (h1 : G1 sz rl ti vs) (hl : es.length ≤ 100) (he : EntArg w lg es) (hX : IntsIn w nx xs) (hY : IntsIn w mt ys) (hxl : xs.length ≤ 9223372036854775807) (hyl : ys.length ≤ 9223372036854775807) :
    Calls Try.prog 16 #[mem id sz tm vt rl ld ti vs lg cm nx mt] w fun e w' => e = .returned (.bool (restB id sz tm vt rl ld vs cm es xs ys)) ∧ Below w.heap.size w w' := by
  obtain ⟨ga, gc, rfl⟩ := he.len
  obtain ⟨an, cn, rfl⟩ : ∃ a c, nx = .slice a xs.length c := by
    rcases hX with ⟨rfl, a, cap, rfl⟩ | ⟨B, o, cap, rfl, _⟩ <;> exact ⟨_, _, rfl⟩
  obtain ⟨am, cc, rfl⟩ : ∃ a c, mt = .slice a ys.length c := by
    rcases hY with ⟨rfl, a, cap, rfl⟩ | ⟨B, o, cap, rfl, _⟩ <;> exact ⟨_, _, rfl⟩
  obtain ⟨a1, a2, a3, a4, a5, a6, a7, a8, a9⟩ := h0
  obtain ⟨b1, b2, b3, b4, b5⟩ := h1
  have HP := Lib.hid (pow_le sz a1 a2)
  have HE := Lib.hid he
  have HX := Lib.hid hX
  have HY := Lib.hid hY
  have HL : Hid (∀ W, EntArg W (.slice ga es.length gc) es → Calls Try.prog 31 #[mem id sz tm vt rl ld ti vs (.slice ga es.length gc) cm (.slice an xs.length cn) (.slice am ys.length cc)] W fun e w' => e = .returned (.bool (lgB tm cm es)) ∧ Below W.heap.size W w') :=
    Lib.hid (fun W hW => vlog_at id sz tm vt rl ld ti vs _ es cm _ _ W hl hW)
  have HRo : Hid (∀ W, IntsIn W (.slice an xs.length cn) xs → IntsIn W (.slice am ys.length cc) ys → Calls Try.prog 32 #[mem id sz tm vt rl ld ti vs (.slice ga es.length gc) cm (.slice an xs.length cn) (.slice am ys.length cc)] W fun e w' => e = .returned (.bool (roleB id sz tm vt rl ld vs xs.length ys.length (inB es.length xs) (inB es.length ys))) ∧ Below W.heap.size W w') :=
    Lib.hid (fun W hx hy => by
      have hp := HP.out
      have v2 : vs < 128 := by omega
      rcases (show rl = 0 ∨ rl = 1 ∨ rl = 2 by omega) with rfl | rfl | rfl
      · exact role_0 id sz tm vt ld ti vs ga es.length gc cm an cn am cc xs ys _ _ W a1 a2 a3 a4 b4 b5 v2 hxl hyl
      · exact role_1 id sz tm vt ld ti vs ga es.length gc cm an cn am cc xs ys W a1 a2 a3 a4 b4 b5 v2 hxl hyl hl
      · exact role_2 id sz tm vt ld ti vs ga es.length gc cm an cn am cc xs ys W a1 a2 a3 a4 b4 b5 v2 hxl hyl hl hx hy)
  have HV : Hid (restB id sz tm vt rl ld vs cm es xs ys = (lgB tm cm es && roleB id sz tm vt rl ld vs xs.length ys.length (inB es.length xs) (inB es.length ys))) := Lib.hid rfl
  generalize restB id sz tm vt rl ld vs cm es xs ys = R at *
  generalize roleB id sz tm vt rl ld vs xs.length ys.length (inB es.length xs) (inB es.length ys) = ro at *
  generalize lgB tm cm es = lb at *
  clear he hX hY
  have f1 : decide (sz < 1) = false := decide_eq_false (by omega)
  have f2 : decide (7 < sz) = false := decide_eq_false (by omega)
  have f3 : decide (id < 0) = false := decide_eq_false (by omega)
  have f4 : decide (sz ≤ id) = false := decide_eq_false (by omega)
  have f5 : decide (tm < 0) = false := decide_eq_false (by omega)
  have f6 : decide (vt < -1) = false := decide_eq_false (by omega)
  have f7 : decide (sz ≤ vt) = false := decide_eq_false (by omega)
  have f8 : decide (ld < -1) = false := decide_eq_false (by omega)
  have f9 : decide (sz ≤ ld) = false := decide_eq_false (by omega)
  have e1 : decide (rl < 0) = false := decide_eq_false (by omega)
  have e2 : decide (2 < rl) = false := decide_eq_false (by omega)
  have e3 : decide (ti < 0) = false := decide_eq_false (by omega)
  have e4 : decide (vs < 0) = false := decide_eq_false (by omega)
  have e5 : decide (wrap64 (2 ^ sz.toNat) ≤ vs) = false := decide_eq_false (by rw [pow_wrap sz a1 a2]; omega)
  clear b5
  have HM0 := Lib.hid (VM.start w (memL id sz tm vt rl ld ti vs (.slice ga es.length gc) cm (.slice an xs.length cn) (.slice am ys.length cc)) 25 rfl)
  go_enter Try.func16, Try.ntmps16
  go_wp2_with fail
  go_quiet (fail)
  have HM1 := Lib.hid (HM0.out.drewN nq)
  clear HM0 f1 f2 f3 f4 f5 f6 f7 f8 f9 e1 e2 e3 e4 e5
  have hA := HM1.out.1
  go_wp2_with (with_reducible refine wpList_box_load 25 1 w.heap.size (memL id sz tm vt rl ld ti vs (.slice ga es.length gc) cm (.slice an xs.length cn) (.slice am ys.length cc)) _ _ _ _ _ _ ?_ hA wideMem ?_)
  · rfl
  go_wp2_with fail
  refine (HL.out _ (HE.out.below HM1.out.2)).mono ?_
  rintro e w2 ⟨rfl, hb2⟩
  have HM2 := Lib.hid (HM1.out.keep hb2)
  clear hb2 hA HM1
  cases lb
  · go_wp2_with fail
    go_ret
    exact ⟨ret_b (by rw [HV.out]; rfl), HM2.out.2⟩
  have hA := HM2.out.1
  go_wp2_with (with_reducible refine wpList_box_load_g 25 1 w.heap.size (memL id sz tm vt rl ld ti vs (.slice ga es.length gc) cm (.slice an xs.length cn) (.slice am ys.length cc)) _ _ _ _ _ _ _ ?_ hA wideMem ?_ ?_)
  · rfl
  go_wp2_with fail
  refine (HRo.out _ (HX.out.below HM2.out.2) (HY.out.below HM2.out.2)).mono ?_
  rintro e w3 ⟨rfl, hb3⟩
  have HM3 := Lib.hid (HM2.out.keep hb3)
  clear hb3 hA
  have HV2 : Hid (R = ro) := Lib.hid (by rw [HV.out, Bool.true_and])
  cases ro
  all_goals
    go_wp2_with fail
    go_ret
    exact ⟨ret_b HV2.out, HM3.out.2⟩
theorem IntsIn.le {w : World} {v : Value} {xs : List Int} (h : IntsIn w v xs) : xs.length ≤ 9223372036854775807 := by
  rcases h with ⟨rfl, _⟩ | ⟨_, _, _, _, _, _, h, _⟩
  · simp
  · exact h
theorem valid_at (id sz tm vt rl ld ti vs : Int) (lg : Value) (es : List (List Value)) (cm : Int) (nx mt : Value) (xs ys : List Int) (w : World) (hl : es.length ≤ 100) (he : EntArg w lg es) (hX : IntsIn w nx xs) (hY : IntsIn w mt ys) :
    Calls Try.prog 16 #[mem id sz tm vt rl ld ti vs lg cm nx mt] w fun e w' => e = .returned (.bool (validB id sz tm vt rl ld ti vs cm es xs ys)) ∧ Below w.heap.size w w' := by
  by_cases h : G0 id sz tm vt ld ∧ 0 ≤ rl ∧ rl ≤ 2 ∧ 0 ≤ ti
  · obtain ⟨h0, b1, b2, b3⟩ := h
    by_cases h1 : G1 sz rl ti vs
    · rw [validB_yes _ _ _ _ _ _ _ _ _ _ _ _ h0 h1]
      exact valid_y id sz tm vt rl ld ti vs lg es cm nx mt xs ys w h0 h1 hl he hX hY hX.le hY.le
    · rw [validB_no _ _ _ _ _ _ _ _ _ _ _ _ (fun h => h1 h.2)]
      obtain ⟨a1, a2, a3, a4, a5, a6, a7, a8, a9⟩ := h0
      refine valid_n1 id sz tm vt rl ld ti vs lg cm nx mt w a1 a2 a3 a4 a5 a6 a7 a8 a9 b1 b2 b3 ?_
      by_cases hv : vs < 0
      · exact .inl hv
      · exact .inr (by
          rcases Int.lt_or_le vs (2 ^ sz.toNat) with h2 | h2
          · exact absurd ⟨b1, b2, b3, by omega, h2⟩ h1
          · exact h2)
  · rw [validB_no _ _ _ _ _ _ _ _ _ _ _ _ (fun h2 => h ⟨h2.1, h2.2.1, h2.2.2.1, h2.2.2.2.1⟩)]
    exact valid_n0 id sz tm vt rl ld ti vs lg cm nx mt w h
end Go.Proofs.Ytfpgklhbghahoaa
/- Election: the reference's Valid where it fails early. -/
namespace Go.Proofs.Ytfpgklhbghahoaa
open Go.ChangeShapes Go.WideShapes Go.ChangeAt Go.RowKit Go.Deep
set_option linter.unusedVariables false
set_option linter.unusedSimpArgs false
set_option maxRecDepth 100000 in
set_option maxHeartbeats 1600000 in
theorem rvalid_n0 (id sz tm vt rl ld ti vs : Int) (lg : Value) (cm : Int) (nx mt : Value) (w : World) (hG : ¬ G0 id sz tm vt ld) :
    Calls Try.prog 17 #[mem id sz tm vt rl ld ti vs lg cm nx mt] w fun e w' => e = .returned (.bool false) ∧ Below w.heap.size w w' := by
  have HG := Lib.hid hG
  clear hG
  have hbw : Below w.heap.size w (w.alloc (.cells #[.int .i64 id, .int .i64 sz, .int .i64 tm, .int .i64 vt, .int .i64 rl, .int .i64 ld, .int .i64 ti, .int .i64 vs, lg, .int .i64 cm, nx, mt] 25)) := (Below.refl _ _).alloc (Nat.le_refl _) _
  have HB := Lib.hid hbw
  clear hbw
  go_enter Try.func17, Try.ntmps17
  go_wp2_with fail
  all_goals first
    | (go_ret; exact ⟨rfl, HB.out⟩)
    | exact absurd ⟨by omega, by omega, by omega, by omega, by omega, by omega, by omega, by omega, by omega⟩ HG.out
set_option maxRecDepth 100000 in
set_option maxHeartbeats 1600000 in
theorem rvalid_m1 (id sz tm vt rl ld ti vs : Int) (lg : Value) (cm : Int) (nx mt : Value) (w : World) (a1 : 1 ≤ sz) (a2 : sz ≤ 7) (a3 : 0 ≤ id) (a4 : id < sz) (a5 : 0 ≤ tm) (a6 : -1 ≤ vt) (a7 : vt < sz) (a8 : -1 ≤ ld) (a9 : ld < sz)  (b1 : rl < 0) :
    Calls Try.prog 17 #[mem id sz tm vt rl ld ti vs lg cm nx mt] w fun e w' => e = .returned (.bool false) ∧ Below w.heap.size w w' := by
  have f1 : decide (sz < 1) = false := decide_eq_false (by omega)
  have f2 : decide (7 < sz) = false := decide_eq_false (by omega)
  have f3 : decide (id < 0) = false := decide_eq_false (by omega)
  have f4 : decide (sz ≤ id) = false := decide_eq_false (by omega)
  have f5 : decide (tm < 0) = false := decide_eq_false (by omega)
  have f6 : decide (vt < -1) = false := decide_eq_false (by omega)
  have f7 : decide (sz ≤ vt) = false := decide_eq_false (by omega)
  have f8 : decide (ld < -1) = false := decide_eq_false (by omega)
  have f9 : decide (sz ≤ ld) = false := decide_eq_false (by omega)
  have e1 : decide (rl < 0) = true := decide_eq_true b1
  have hbw : Below w.heap.size w (w.alloc (.cells #[.int .i64 id, .int .i64 sz, .int .i64 tm, .int .i64 vt, .int .i64 rl, .int .i64 ld, .int .i64 ti, .int .i64 vs, lg, .int .i64 cm, nx, mt] 25)) := (Below.refl _ _).alloc (Nat.le_refl _) _
  have HB := Lib.hid hbw
  clear hbw
  go_enter Try.func17, Try.ntmps17
  go_wp2_with fail
  go_quiet (fail)
  go_wp2_with fail
  go_ret
  exact ⟨rfl, below_drewN' HB.out _⟩
set_option maxRecDepth 100000 in
set_option maxHeartbeats 1600000 in
theorem rvalid_m2 (id sz tm vt rl ld ti vs : Int) (lg : Value) (cm : Int) (nx mt : Value) (w : World) (a1 : 1 ≤ sz) (a2 : sz ≤ 7) (a3 : 0 ≤ id) (a4 : id < sz) (a5 : 0 ≤ tm) (a6 : -1 ≤ vt) (a7 : vt < sz) (a8 : -1 ≤ ld) (a9 : ld < sz) (b1 : ¬ rl < 0) (b2 : 2 < rl) :
    Calls Try.prog 17 #[mem id sz tm vt rl ld ti vs lg cm nx mt] w fun e w' => e = .returned (.bool false) ∧ Below w.heap.size w w' := by
  have f1 : decide (sz < 1) = false := decide_eq_false (by omega)
  have f2 : decide (7 < sz) = false := decide_eq_false (by omega)
  have f3 : decide (id < 0) = false := decide_eq_false (by omega)
  have f4 : decide (sz ≤ id) = false := decide_eq_false (by omega)
  have f5 : decide (tm < 0) = false := decide_eq_false (by omega)
  have f6 : decide (vt < -1) = false := decide_eq_false (by omega)
  have f7 : decide (sz ≤ vt) = false := decide_eq_false (by omega)
  have f8 : decide (ld < -1) = false := decide_eq_false (by omega)
  have f9 : decide (sz ≤ ld) = false := decide_eq_false (by omega)
  have e1 : decide (rl < 0) = false := decide_eq_false b1
  have e2 : decide (2 < rl) = true := decide_eq_true b2
  have hbw : Below w.heap.size w (w.alloc (.cells #[.int .i64 id, .int .i64 sz, .int .i64 tm, .int .i64 vt, .int .i64 rl, .int .i64 ld, .int .i64 ti, .int .i64 vs, lg, .int .i64 cm, nx, mt] 25)) := (Below.refl _ _).alloc (Nat.le_refl _) _
  have HB := Lib.hid hbw
  clear hbw
  go_enter Try.func17, Try.ntmps17
  go_wp2_with fail
  go_quiet (fail)
  go_wp2_with fail
  go_ret
  exact ⟨rfl, below_drewN' HB.out _⟩
set_option maxRecDepth 100000 in
set_option maxHeartbeats 1600000 in
theorem rvalid_m3 (id sz tm vt rl ld ti vs : Int) (lg : Value) (cm : Int) (nx mt : Value) (w : World) (a1 : 1 ≤ sz) (a2 : sz ≤ 7) (a3 : 0 ≤ id) (a4 : id < sz) (a5 : 0 ≤ tm) (a6 : -1 ≤ vt) (a7 : vt < sz) (a8 : -1 ≤ ld) (a9 : ld < sz) (b1 : ¬ rl < 0) (b2 : ¬ 2 < rl) (b3 : ti < 0) :
    Calls Try.prog 17 #[mem id sz tm vt rl ld ti vs lg cm nx mt] w fun e w' => e = .returned (.bool false) ∧ Below w.heap.size w w' := by
  have f1 : decide (sz < 1) = false := decide_eq_false (by omega)
  have f2 : decide (7 < sz) = false := decide_eq_false (by omega)
  have f3 : decide (id < 0) = false := decide_eq_false (by omega)
  have f4 : decide (sz ≤ id) = false := decide_eq_false (by omega)
  have f5 : decide (tm < 0) = false := decide_eq_false (by omega)
  have f6 : decide (vt < -1) = false := decide_eq_false (by omega)
  have f7 : decide (sz ≤ vt) = false := decide_eq_false (by omega)
  have f8 : decide (ld < -1) = false := decide_eq_false (by omega)
  have f9 : decide (sz ≤ ld) = false := decide_eq_false (by omega)
  have e1 : decide (rl < 0) = false := decide_eq_false b1
  have e2 : decide (2 < rl) = false := decide_eq_false b2
  have e3 : decide (ti < 0) = true := decide_eq_true b3
  have hbw : Below w.heap.size w (w.alloc (.cells #[.int .i64 id, .int .i64 sz, .int .i64 tm, .int .i64 vt, .int .i64 rl, .int .i64 ld, .int .i64 ti, .int .i64 vs, lg, .int .i64 cm, nx, mt] 25)) := (Below.refl _ _).alloc (Nat.le_refl _) _
  have HB := Lib.hid hbw
  clear hbw
  go_enter Try.func17, Try.ntmps17
  go_wp2_with fail
  go_quiet (fail)
  go_wp2_with fail
  go_ret
  exact ⟨rfl, below_drewN' HB.out _⟩
set_option maxRecDepth 100000 in
set_option maxHeartbeats 1600000 in
theorem rvalid_m4 (id sz tm vt rl ld ti vs : Int) (lg : Value) (cm : Int) (nx mt : Value) (w : World) (a1 : 1 ≤ sz) (a2 : sz ≤ 7) (a3 : 0 ≤ id) (a4 : id < sz) (a5 : 0 ≤ tm) (a6 : -1 ≤ vt) (a7 : vt < sz) (a8 : -1 ≤ ld) (a9 : ld < sz) (b1 : ¬ rl < 0) (b2 : ¬ 2 < rl) (b3 : ¬ ti < 0) (b4 : vs < 0) :
    Calls Try.prog 17 #[mem id sz tm vt rl ld ti vs lg cm nx mt] w fun e w' => e = .returned (.bool false) ∧ Below w.heap.size w w' := by
  have f1 : decide (sz < 1) = false := decide_eq_false (by omega)
  have f2 : decide (7 < sz) = false := decide_eq_false (by omega)
  have f3 : decide (id < 0) = false := decide_eq_false (by omega)
  have f4 : decide (sz ≤ id) = false := decide_eq_false (by omega)
  have f5 : decide (tm < 0) = false := decide_eq_false (by omega)
  have f6 : decide (vt < -1) = false := decide_eq_false (by omega)
  have f7 : decide (sz ≤ vt) = false := decide_eq_false (by omega)
  have f8 : decide (ld < -1) = false := decide_eq_false (by omega)
  have f9 : decide (sz ≤ ld) = false := decide_eq_false (by omega)
  have e1 : decide (rl < 0) = false := decide_eq_false b1
  have e2 : decide (2 < rl) = false := decide_eq_false b2
  have e3 : decide (ti < 0) = false := decide_eq_false b3
  have e4 : decide (vs < 0) = true := decide_eq_true b4
  have hbw : Below w.heap.size w (w.alloc (.cells #[.int .i64 id, .int .i64 sz, .int .i64 tm, .int .i64 vt, .int .i64 rl, .int .i64 ld, .int .i64 ti, .int .i64 vs, lg, .int .i64 cm, nx, mt] 25)) := (Below.refl _ _).alloc (Nat.le_refl _) _
  have HB := Lib.hid hbw
  clear hbw
  go_enter Try.func17, Try.ntmps17
  go_wp2_with fail
  go_quiet (fail)
  go_wp2_with fail
  go_ret
  exact ⟨rfl, below_drewN' HB.out _⟩
set_option maxRecDepth 100000 in
set_option maxHeartbeats 1600000 in
theorem rvalid_m5 (id sz tm vt rl ld ti vs : Int) (lg : Value) (cm : Int) (nx mt : Value) (w : World) (a1 : 1 ≤ sz) (a2 : sz ≤ 7) (a3 : 0 ≤ id) (a4 : id < sz) (a5 : 0 ≤ tm) (a6 : -1 ≤ vt) (a7 : vt < sz) (a8 : -1 ≤ ld) (a9 : ld < sz) (b1 : ¬ rl < 0) (b2 : ¬ 2 < rl) (b3 : ¬ ti < 0) (b4 : ¬ vs < 0) (b5 : wrap64 (2 ^ sz.toNat) ≤ vs) :
    Calls Try.prog 17 #[mem id sz tm vt rl ld ti vs lg cm nx mt] w fun e w' => e = .returned (.bool false) ∧ Below w.heap.size w w' := by
  have f1 : decide (sz < 1) = false := decide_eq_false (by omega)
  have f2 : decide (7 < sz) = false := decide_eq_false (by omega)
  have f3 : decide (id < 0) = false := decide_eq_false (by omega)
  have f4 : decide (sz ≤ id) = false := decide_eq_false (by omega)
  have f5 : decide (tm < 0) = false := decide_eq_false (by omega)
  have f6 : decide (vt < -1) = false := decide_eq_false (by omega)
  have f7 : decide (sz ≤ vt) = false := decide_eq_false (by omega)
  have f8 : decide (ld < -1) = false := decide_eq_false (by omega)
  have f9 : decide (sz ≤ ld) = false := decide_eq_false (by omega)
  have e1 : decide (rl < 0) = false := decide_eq_false b1
  have e2 : decide (2 < rl) = false := decide_eq_false b2
  have e3 : decide (ti < 0) = false := decide_eq_false b3
  have e4 : decide (vs < 0) = false := decide_eq_false b4
  have e5 : decide (wrap64 (2 ^ sz.toNat) ≤ vs) = true := decide_eq_true b5
  have hbw : Below w.heap.size w (w.alloc (.cells #[.int .i64 id, .int .i64 sz, .int .i64 tm, .int .i64 vt, .int .i64 rl, .int .i64 ld, .int .i64 ti, .int .i64 vs, lg, .int .i64 cm, nx, mt] 25)) := (Below.refl _ _).alloc (Nat.le_refl _) _
  have HB := Lib.hid hbw
  clear hbw
  go_enter Try.func17, Try.ntmps17
  go_wp2_with fail
  go_quiet (fail)
  go_wp2_with fail
  go_ret
  exact ⟨rfl, below_drewN' HB.out _⟩
end Go.Proofs.Ytfpgklhbghahoaa
/- Election: the reference's Valid for a member of role 0. -/
namespace Go.Proofs.Ytfpgklhbghahoaa
open Go.ChangeShapes Go.WideShapes Go.ChangeAt Go.RowKit Go.Deep
set_option linter.unusedVariables false
set_option linter.unusedSimpArgs false
set_option maxRecDepth 100000 in
set_option maxHeartbeats 8000000 in
theorem rvalid_y0 (id sz tm vt rl ld ti vs : Int) (hrl : rl = 0) (ga : Option Addr) (gc : Nat) (es : List (List Value)) (cm : Int) (an : Option Addr) (cn : Nat) (am : Option Addr) (cc : Nat) (xs ys : List Int) (w : World) (a1 : 1 ≤ sz) (a2 : sz ≤ 7) (a3 : 0 ≤ id) (a4 : id < sz) (a5 : 0 ≤ tm) (a6 : -1 ≤ vt) (a7 : vt < sz) (a8 : -1 ≤ ld) (a9 : ld < sz) (b3 : ¬ ti < 0) (b4 : ¬ vs < 0) (b5 : vs < 2 ^ sz.toNat) (hl : es.length ≤ 100) (he : EntArg w (.slice ga es.length gc) es) (hX : IntsIn w (.slice an xs.length cn) xs) (hY : IntsIn w (.slice am ys.length cc) ys) (hxl : xs.length ≤ 9223372036854775807) (hyl : ys.length ≤ 9223372036854775807) :
    Calls Try.prog 17 #[mem id sz tm vt rl ld ti vs (.slice ga es.length gc) cm (.slice an xs.length cn) (.slice am ys.length cc)] w fun e w' => e = .returned (.bool (restB id sz tm vt rl ld vs cm es xs ys)) ∧ Below w.heap.size w w' := by
  have HE := Lib.hid he
  have HX := Lib.hid hX
  have HY := Lib.hid hY
  have v0 : 0 ≤ vs := by omega
  have hc := cntB_le vs v0 sz.toNat
  have hm := maj_le sz a1 a2
  have HL : Hid (∀ W, EntArg W (.slice ga es.length gc) es → Calls Try.prog 33 #[mem id sz tm vt rl ld ti vs (.slice ga es.length gc) cm (.slice an xs.length cn) (.slice am ys.length cc)] W fun e w' => e = .returned (.bool (lgB tm cm es)) ∧ Below W.heap.size W w') := Lib.hid (fun W hW => logged_any id sz tm vt rl ld ti vs _ es cm _ _ W hl hW)
  have HVo := Lib.hid (fun W => votes_at vs sz W v0 a1 a2)
  have HMa := Lib.hid (fun W => rmaj_any sz W)
  have HPx := Lib.hid (fun W (h : IntsIn W (.slice an xs.length cn) xs) => rplaces_at _ xs es.length W h)
  have HPy := Lib.hid (fun W (h : IntsIn W (.slice am ys.length cc) ys) => rplaces_at _ ys es.length W h)
  have HR : Hid (restB id sz tm vt rl ld vs cm es xs ys = (lgB tm cm es && (decide ((xs.length : Int) = 0) && decide ((ys.length : Int) = 0)))) := Lib.hid (by subst hrl; rfl)
  have HF : Hid (firstB id tm vt vs = (decide (1 ≤ tm) && decide (vt = id) && !((vs / 2 ^ id.toNat).tmod 2 == 0))) := Lib.hid rfl
  generalize restB id sz tm vt rl ld vs cm es xs ys = R at *
  generalize firstB id tm vt vs = FB at *
  generalize cntB vs sz.toNat = c at *
  generalize maj sz = mj at *
  generalize lgB tm cm es = lb at *
  generalize inB es.length xs = bx at *
  generalize inB es.length ys = by' at *
  have hc7 : c ≤ 7 := by omega
  have hc0 : 0 ≤ c := hc.1
  clear hc he hX hY
  have f1 : decide (sz < 1) = false := decide_eq_false (by omega)
  have f2 : decide (7 < sz) = false := decide_eq_false (by omega)
  have f3 : decide (id < 0) = false := decide_eq_false (by omega)
  have f4 : decide (sz ≤ id) = false := decide_eq_false (by omega)
  have f5 : decide (tm < 0) = false := decide_eq_false (by omega)
  have f6 : decide (vt < -1) = false := decide_eq_false (by omega)
  have f7 : decide (sz ≤ vt) = false := decide_eq_false (by omega)
  have f8 : decide (ld < -1) = false := decide_eq_false (by omega)
  have f9 : decide (sz ≤ ld) = false := decide_eq_false (by omega)
  have e4 : decide (vs < 0) = false := decide_eq_false b4
  have e3 : decide (ti < 0) = false := decide_eq_false b3
  have e5 : decide (wrap64 (2 ^ sz.toNat) ≤ vs) = false := decide_eq_false (by rw [pow_wrap sz a1 a2]; omega)
  have e6 : decide (IntKind.i64.wrap (2 ^ sz.toNat) ≤ vs) = false := decide_eq_false (by rw [IntWalk.i64_left, pow_wrap sz a1 a2]; omega)
  have e1 : decide (rl < 0) = false := decide_eq_false (by omega)
  have e2 : decide (2 < rl) = false := decide_eq_false (by omega)
  have b1 : 0 ≤ rl := by omega
  have b2 : rl ≤ 2 := by omega
  have HRL := Lib.hid hrl
  clear hrl
  clear b5
  have HM0 := Lib.hid (VM.start w (memL id sz tm vt rl ld ti vs (.slice ga es.length gc) cm (.slice an xs.length cn) (.slice am ys.length cc)) 25 rfl)
  go_enter Try.func17, Try.ntmps17
  go_wp2_with fail
  refine wp_named (fun W => VM w (memL id sz tm vt rl ld ti vs (.slice ga es.length gc) cm (.slice an xs.length cn) (.slice am ys.length cc)) W) HM0.out ?_
  rintro W hVM
  have c1 : W.cell? ⟨w.heap.size, 1, none⟩ = some (.int .i64 sz) := hVM.1.cell 1 _ rfl
  have c4 : W.cell? ⟨w.heap.size, 4, none⟩ = some (.int .i64 rl) := hVM.1.cell 4 _ rfl
  have c6 : W.cell? ⟨w.heap.size, 6, none⟩ = some (.int .i64 ti) := hVM.1.cell 6 _ rfl
  have c7 : W.cell? ⟨w.heap.size, 7, none⟩ = some (.int .i64 vs) := hVM.1.cell 7 _ rfl
  have HM1 := Lib.hid hVM
  clear hVM HM0
  go_still_tail 27, (by kernel_rfl)
  change wpList _ _ _ _ _ W.drew
  have HM2 : Hid (VM w (memL id sz tm vt rl ld ti vs (.slice ga es.length gc) cm (.slice an xs.length cn) (.slice am ys.length cc)) W.drew) := Lib.hid ⟨⟨HM1.out.1.1.drew, HM1.out.1.2⟩, HM1.out.2.drew⟩
  clear HM1 c1 c4 c6 c7
  have hA := HM2.out.1
  go_wp2_with (with_reducible refine wpList_box_load_g 25 1 w.heap.size (memL id sz tm vt rl ld ti vs (.slice ga es.length gc) cm (.slice an xs.length cn) (.slice am ys.length cc)) _ _ _ _ _ _ _ ?_ hA wideMem ?_ ?_)
  · rfl
  go_wp2_with fail
  refine (HL.out _ (HE.out.below HM2.out.2)).mono ?_
  rintro e W2 ⟨rfl, hb2⟩
  have HM3 := Lib.hid (HM2.out.keep hb2)
  clear hb2 hA HM2
  obtain rfl := HRL.out
  cases lb
  · go_wp2_with fail
    go_ret
    exact ⟨ret_b (by rw [HR.out]; rfl), HM3.out.2⟩
  have d0 : W2.cell? ⟨w.heap.size, 0, none⟩ = some (.int .i64 id) := HM3.out.1.cell 0 _ rfl
  have d1 : W2.cell? ⟨w.heap.size, 1, none⟩ = some (.int .i64 sz) := HM3.out.1.cell 1 _ rfl
  have d2 : W2.cell? ⟨w.heap.size, 2, none⟩ = some (.int .i64 tm) := HM3.out.1.cell 2 _ rfl
  have d3 : W2.cell? ⟨w.heap.size, 3, none⟩ = some (.int .i64 vt) := HM3.out.1.cell 3 _ rfl
  have d4 : W2.cell? ⟨w.heap.size, 4, none⟩ = some (.int .i64 0) := HM3.out.1.cell 4 _ rfl
  have d5 : W2.cell? ⟨w.heap.size, 5, none⟩ = some (.int .i64 ld) := HM3.out.1.cell 5 _ rfl
  have d7 : W2.cell? ⟨w.heap.size, 7, none⟩ = some (.int .i64 vs) := HM3.out.1.cell 7 _ rfl
  have d8 : W2.cell? ⟨w.heap.size, 8, none⟩ = some (.slice ga es.length gc) := HM3.out.1.cell 8 _ rfl
  have d10 : W2.cell? ⟨w.heap.size, 10, none⟩ = some (.slice an xs.length cn) := HM3.out.1.cell 10 _ rfl
  have d11 : W2.cell? ⟨w.heap.size, 11, none⟩ = some (.slice am ys.length cc) := HM3.out.1.cell 11 _ rfl
  by_cases hn : (xs.length : Int) = 0
  · have pn : ((xs.length : Int) == 0) = true := beq_iff_eq.2 hn
    by_cases hm2 : (ys.length : Int) = 0
    · have pm : ((ys.length : Int) == 0) = true := beq_iff_eq.2 hm2
      have HV : Hid (R = true) := Lib.hid (by rw [HR.out, Bool.true_and, decide_eq_true hn, decide_eq_true hm2]; rfl)
      clear hn hm2
      go_wp2_with fail
      have hz := HM3.out.1.1.lt
      have hBd := HM3.out.2
      have hBd' := hBd.drew
      go_region_held3 (fun W => W.cell? ⟨w.heap.size, 0, none⟩ = some (.int .i64 id) ∧ W.cell? ⟨w.heap.size, 1, none⟩ = some (.int .i64 sz) ∧ W.cell? ⟨w.heap.size, 4, none⟩ = some (.int .i64 0) ∧ W.cell? ⟨w.heap.size, 5, none⟩ = some (.int .i64 ld) ∧ W.cell? ⟨w.heap.size, 7, none⟩ = some (.int .i64 vs) ∧ W.cell? ⟨w.heap.size, 8, none⟩ = some (.slice ga es.length gc) ∧ W.cell? ⟨w.heap.size, 10, none⟩ = some (.slice an xs.length cn) ∧ W.cell? ⟨w.heap.size, 11, none⟩ = some (.slice am ys.length cc) ∧ w.heap.size < W.heap.size ∧ Below w.heap.size w W) (refine ⟨?_, ?_, ?_, ?_, ?_, ?_, ?_, ?_, ?_, ?_⟩ <;> assumption) (first | (go_at_call 34; refine (HVo.out _).mono ?_; rintro e wq ⟨rfl, rfl⟩) | (go_at_call 13; refine (HMa.out _).mono ?_; rintro e wq ⟨rfl, rfl⟩))
      all_goals (go_wp2_with fail; go_ret; exact ⟨ret_b HV.out, by assumption⟩)
    · have pm : ((ys.length : Int) == 0) = false := beq_eq_false_iff_ne.2 hm2
      have HV : Hid (R = false) := Lib.hid (by rw [HR.out, Bool.true_and, decide_eq_false hm2, Bool.and_false])
      clear hn hm2
      go_wp2_with fail
      have hz := HM3.out.1.1.lt
      have hBd := HM3.out.2
      have hBd' := hBd.drew
      go_region_held3 (fun W => W.cell? ⟨w.heap.size, 0, none⟩ = some (.int .i64 id) ∧ W.cell? ⟨w.heap.size, 1, none⟩ = some (.int .i64 sz) ∧ W.cell? ⟨w.heap.size, 4, none⟩ = some (.int .i64 0) ∧ W.cell? ⟨w.heap.size, 5, none⟩ = some (.int .i64 ld) ∧ W.cell? ⟨w.heap.size, 7, none⟩ = some (.int .i64 vs) ∧ W.cell? ⟨w.heap.size, 8, none⟩ = some (.slice ga es.length gc) ∧ W.cell? ⟨w.heap.size, 10, none⟩ = some (.slice an xs.length cn) ∧ W.cell? ⟨w.heap.size, 11, none⟩ = some (.slice am ys.length cc) ∧ w.heap.size < W.heap.size ∧ Below w.heap.size w W) (refine ⟨?_, ?_, ?_, ?_, ?_, ?_, ?_, ?_, ?_, ?_⟩ <;> assumption) (first | (go_at_call 34; refine (HVo.out _).mono ?_; rintro e wq ⟨rfl, rfl⟩) | (go_at_call 13; refine (HMa.out _).mono ?_; rintro e wq ⟨rfl, rfl⟩))
      all_goals (go_wp2_with fail; go_ret; exact ⟨ret_b HV.out, by assumption⟩)
  · have pn : ((xs.length : Int) == 0) = false := beq_eq_false_iff_ne.2 hn
    have HV : Hid (R = false) := Lib.hid (by rw [HR.out, Bool.true_and, decide_eq_false hn, Bool.false_and])
    clear hn
    go_wp2_with fail
    have hz := HM3.out.1.1.lt
    have hBd := HM3.out.2
    have hBd' := hBd.drew
    go_region_held3 (fun W => W.cell? ⟨w.heap.size, 0, none⟩ = some (.int .i64 id) ∧ W.cell? ⟨w.heap.size, 1, none⟩ = some (.int .i64 sz) ∧ W.cell? ⟨w.heap.size, 4, none⟩ = some (.int .i64 0) ∧ W.cell? ⟨w.heap.size, 5, none⟩ = some (.int .i64 ld) ∧ W.cell? ⟨w.heap.size, 7, none⟩ = some (.int .i64 vs) ∧ W.cell? ⟨w.heap.size, 8, none⟩ = some (.slice ga es.length gc) ∧ W.cell? ⟨w.heap.size, 10, none⟩ = some (.slice an xs.length cn) ∧ W.cell? ⟨w.heap.size, 11, none⟩ = some (.slice am ys.length cc) ∧ w.heap.size < W.heap.size ∧ Below w.heap.size w W) (refine ⟨?_, ?_, ?_, ?_, ?_, ?_, ?_, ?_, ?_, ?_⟩ <;> assumption) (first | (go_at_call 34; refine (HVo.out _).mono ?_; rintro e wq ⟨rfl, rfl⟩) | (go_at_call 13; refine (HMa.out _).mono ?_; rintro e wq ⟨rfl, rfl⟩))
    all_goals (go_wp2_with fail; go_ret; exact ⟨ret_b HV.out, by assumption⟩)
end Go.Proofs.Ytfpgklhbghahoaa
