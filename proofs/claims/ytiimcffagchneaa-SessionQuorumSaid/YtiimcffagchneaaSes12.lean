/- Members: the reference's 'logged'. -/
import Derived.Test.YtiimcffagchneaaSes11
namespace Go.Proofs.Ytiimcffagchneaa
open Go.ChangeShapes Go.WideShapes Go.ChangeAt Go.RowKit
set_option linter.unusedVariables false
set_option linter.unusedSimpArgs false
noncomputable def z74 : Array Value := ((Try.prog.info? 74).bind (fun i => i.zero.map (fun z => z.cells))).getD #[]
theorem z74_size : z74.size = 82 := by kernel_rfl
theorem info74 : (Try.prog.info? 74).map (·.size) = some 82 := by kernel_rfl
theorem exec_alloc74 (d : Option Nat) (pos : String) (af) (a : Act) (w : World) :
    (execOp a.eval { dst := d, op := Op.alloc 74, type := 0, pos := pos, after := af, guard := none }).run Try.prog w = .ok (.value (.pointer (some ⟨w.heap.size, 0, none⟩))) (w.alloc (.cells z74 74)) := by kernel_rfl
theorem wpList_alloc74 {ops : Array Oper} {rest : List Oper} {Q : Exit → Act → World → Prop} (d : Option Nat) (pos : String) (af) (a : Act) (w : World) (h : wpList Try.prog ops Q rest (a.put d (.pointer (some ⟨w.heap.size, 0, none⟩))) (w.alloc (.cells z74 74))) :
    wpList Try.prog ops Q ({ dst := d, op := Op.alloc 74, type := 0, pos := pos, after := af, guard := none } :: rest) a w :=
  wpList_val rfl (exec_alloc74 _ _ _ _ _) h
theorem wpList_load74 {ops : Array Oper} {rest : List Oper} {Q : Exit → Act → World → Prop} (x : Nat) (B O : Nat) (cs : List Value) (d : Option Nat) (pos : String) (af) (a : Act) (w : World) (hx : a.eval (.tmp x) = .pointer (some ⟨B, O, none⟩)) (hr : w.rangeAt B O cs) (hE : Ent cs)
    (h : wpList Try.prog ops Q rest (a.put d (.agg cs.toArray)) w) :
    wpList Try.prog ops Q ({ dst := d, op := Op.load 74 (Operand.tmp x), type := 74, pos := pos, after := af, guard := none } :: rest) a w :=
  wpList_load_mid rfl _ _ rfl B O hx cs _ hr Try.underlying74 rfl (by rw [hE.1]; exact info74) h
theorem there_new (w : World) : (w.alloc (.cells z74 74)).there w.heap.size 0 82 := fun j hj => by
  rw [Nat.zero_add]
  refine ⟨?_, by simp [go_sem]⟩
  rw [World.cell?_alloc_new, Array.getElem?_eq_getElem (by rw [z74_size]; exact hj)]
  rfl
theorem Below.setCells {a : World} {B : Nat} (b : Nat) (hb : B ≤ b) : ∀ (vs : List Value) (o : Nat) (w : World), Below B a w → Below B a (w.setCells b o vs)
  | [], _, _, h => h
  | v :: r, o, w, h => Below.setCells b hb r (o + 1) _ (h.setCell hb v)
theorem setCells_size (b : Nat) : ∀ (vs : List Value) (o : Nat) (w : World), (w.setCells b o vs).heap.size = w.heap.size
  | [], _, _ => rfl
  | v :: r, o, w => by rw [World.setCells, setCells_size b r (o + 1)]; simp
theorem wpList_store74 {ops : Array Oper} {rest : List Oper} {Q : Exit → Act → World → Prop} (x y : Nat) (cs : List Value) (d : Option Nat) (pos : String) (af) (a : Act) (w : World) (hx : a.eval (.tmp x) = .pointer (some ⟨w.heap.size, 0, none⟩)) (hy : a.eval (.tmp y) = .agg cs.toArray) (hE : Ent cs)
    (h : ∀ w', w'.rangeAt w.heap.size 0 cs → Below w.heap.size w w' → w.heap.size < w'.heap.size → wpList Try.prog ops Q rest (a.put d undef) w') :
    wpList Try.prog ops Q ({ dst := d, op := Op.store 74 (Operand.tmp x) (Operand.tmp y), type := 0, pos := pos, after := af, guard := none } :: rest) a (w.alloc (.cells z74 74)) := by
  have hz : cs.toArray.size = 82 := by simpa using hE.1
  refine wpList_store_mid rfl _ _ _ rfl w.heap.size 0 cs.toArray hx hy (by rw [hz]; exact there_new w) (by rw [hz]; exact info74) (all_oneCell_toArray hE.2.1) ?_
  refine h _ ?_ ?_ ?_
  · exact World.rangeAt_setCells_same _ _ _ _ (by have := there_new w; rw [hE.1]; exact this)
  · exact Below.setCells _ (Nat.le_refl _) _ _ _ ((Below.refl _ _).alloc (Nat.le_refl _) _)
  · rw [setCells_size]; simp

/-- a Boolean came back; if it is true, F holds -/
def Says (F : Prop) (e : Ending) : Prop := ∃ b : Bool, e = .returned (.bool b) ∧ (b = true → F)
set_option maxRecDepth 100000 in
set_option maxHeartbeats 800000 in
theorem logged_in (id sz tm vt rl ld ti vs : Int) (B o cap : Nat) (es : List (List Value)) (cm : Int) (nx mt : Value) (w : World) (hl : es.length ≤ 100) (hB : B < w.heap.size) (he : ∀ j (h : j < es.length), w.rangeAt B (o + j * 82) es[j] ∧ Ent es[j]) :
    Calls Try.prog 31 #[mem id sz tm vt rl ld ti vs (.slice (some ⟨B, o, none⟩) es.length cap) cm nx mt] w fun e w' => Says (0 ≤ cm ∧ cm ≤ es.length) e ∧ Below w.heap.size w w' := by
  have HE := Lib.hid he
  clear he
  go_enter Try.func31, Try.ntmps31
  go_wp2_with fail
  go_loopw [3, 4, 5, 6] (fun t s i p W => ∃ (k : Nat) (tz sz : Int), k ≤ es.length ∧ t = .int .i64 tz ∧ s = .int .i64 sz ∧ i = .int .i64 k ∧ W.cell? ⟨w.heap.size, 2, none⟩ = some (.int .i64 tm) ∧ W.cell? ⟨w.heap.size, 8, none⟩ = some (.slice (some ⟨B, o, none⟩) es.length cap) ∧ W.cell? ⟨w.heap.size, 9, none⟩ = some (.int .i64 cm) ∧ w.heap.size < W.heap.size ∧ Below w.heap.size w W) (fun _ _ i _ _ => es.length - (intOf i).toNat)
  case atStart => exact ⟨0, 0, 0, Nat.zero_le _, rfl, rfl, rfl, by simp [go_sem], by simp [go_sem], by simp [go_sem], by simp, (Below.refl _ _).alloc (Nat.le_refl _) _⟩
  case round =>
    obtain ⟨k, tz, sz', hk, rfl, rfl, rfl, c2, c8, c9, hz, hB0⟩ := hrel
    by_cases hlt : k < es.length
    · have HR : Hid (wr.rangeAt B (o + k * 82) es[k]) := Lib.hid (fun j v hv => (hB0.cell (p := ⟨B, o + k * 82 + j, none⟩) hB).trans ((HE.out k hlt).1 j v hv))
      have HN : Hid (Ent es[k]) := Lib.hid (HE.out k hlt).2
      obtain ⟨t0, s0, r0, hes⟩ := HN.out.2.2
      have HES := Lib.hid hes
      clear hes
      generalize es[k] = cs at HR HN HES
      go_wp2_with (first | (with_reducible refine wpList_load74 _ _ _ cs _ _ _ _ _ rfl HR.out HN.out ?_) | (with_reducible refine wpList_alloc74 _ _ _ _ _ ?_) | (with_reducible refine wpList_store74 _ _ cs _ _ _ _ _ rfl rfl HN.out ?_))
      rintro w2 hr2 hb2 hs2
      have g0 : w2.cell? ⟨wr.heap.size, 0, none⟩ = some (.int .i64 t0) := hr2 0 _ (by rw [HES.out]; rfl)
      have g1 : w2.cell? ⟨wr.heap.size, 1, none⟩ = some (.int .i64 s0) := hr2 1 _ (by rw [HES.out]; rfl)
      clear hr2
      obtain ⟨hc, _⟩ := bcell hb2
      have d2 : w2.cell? ⟨w.heap.size, 2, none⟩ = some (.int .i64 tm) := (hc _ _ hz).trans c2
      have d8 : w2.cell? ⟨w.heap.size, 8, none⟩ = some (.slice (some ⟨B, o, none⟩) es.length cap) := (hc _ _ hz).trans c8
      have d9 : w2.cell? ⟨w.heap.size, 9, none⟩ = some (.int .i64 cm) := (hc _ _ hz).trans c9
      have HBN : Hid (Below w.heap.size w w2) := Lib.hid (hB0.trans (hb2.mono (Nat.le_of_lt hz)))
      have hz2 : w.heap.size < w2.heap.size := by omega
      clear hc c2 c8 c9 hB0 hb2 HR HN HES
      go_wp2_with fail
      all_goals first
        | (go_ret; exact ⟨⟨_, rfl, fun h => by first | (simp at h; done) | (simp at h; omega)⟩, HBN.out⟩)
        | (go_roundw
           case rel => exact ⟨k + 1, t0, s0, by omega, rfl, rfl, by go_num, d2, d8, d9, hz2, HBN.out⟩
           case measure => simp [intOf]; omega)
    · go_wp2_with fail
      all_goals (go_ret; exact ⟨⟨_, rfl, fun h => by first | (simp at h; done) | (simp at h; omega)⟩, hB0⟩)
set_option maxHeartbeats 400000 in
theorem logged_0 (id sz tm vt rl ld ti vs : Int) (a : Option Addr) (cap : Nat) (cm : Int) (nx mt : Value) (w : World) :
    Calls Try.prog 31 #[mem id sz tm vt rl ld ti vs (.slice a 0 cap) cm nx mt] w fun e w' => Says (0 ≤ cm ∧ cm ≤ (0 : Nat)) e ∧ Below w.heap.size w w' := by
  go_enter Try.func31, Try.ntmps31
  go_wp2_with fail
  have hbw : Below w.heap.size w (w.alloc (.cells #[.int .i64 id, .int .i64 sz, .int .i64 tm, .int .i64 vt, .int .i64 rl, .int .i64 ld, .int .i64 ti, .int .i64 vs, .slice a 0 cap, .int .i64 cm, nx, mt] 37)) := (Below.refl _ _).alloc (Nat.le_refl _) _
  have c8 : (w.alloc (.cells #[.int .i64 id, .int .i64 sz, .int .i64 tm, .int .i64 vt, .int .i64 rl, .int .i64 ld, .int .i64 ti, .int .i64 vs, .slice a 0 cap, .int .i64 cm, nx, mt] 37)).cell? ⟨w.heap.size, 8, none⟩ = some (.slice a 0 cap) := by simp [go_sem]
  have c9 : (w.alloc (.cells #[.int .i64 id, .int .i64 sz, .int .i64 tm, .int .i64 vt, .int .i64 rl, .int .i64 ld, .int .i64 ti, .int .i64 vs, .slice a 0 cap, .int .i64 cm, nx, mt] 37)).cell? ⟨w.heap.size, 9, none⟩ = some (.int .i64 cm) := by simp [go_sem]
  generalize w.alloc _ = W0 at hbw c8 c9 ⊢
  go_loop [5] (fun i => i = .int .i64 0) (fun _ => 0)
  case atStart => rfl
  case round =>
    subst hrel
    go_wp2_with fail
    all_goals (go_ret; exact ⟨⟨_, rfl, fun h => by first | (simp at h; done) | (simp at h; omega)⟩, hbw⟩)
theorem logged_any (id sz tm vt rl ld ti vs : Int) (lg : Value) (es : List (List Value)) (cm : Int) (nx mt : Value) (w : World) (hl : es.length ≤ 100) (he : EntArg w lg es) :
    Calls Try.prog 31 #[mem id sz tm vt rl ld ti vs lg cm nx mt] w fun e w' => Says (0 ≤ cm ∧ cm ≤ es.length) e ∧ Below w.heap.size w w' := by
  rcases he with ⟨rfl, a, cap, rfl⟩ | ⟨B, o, cap, rfl, hB, h0, _, hc⟩
  · exact logged_0 id sz tm vt rl ld ti vs a cap cm nx mt w
  · exact logged_in id sz tm vt rl ld ti vs B o cap es cm nx mt w hl hB hc
end Go.Proofs.Ytiimcffagchneaa
