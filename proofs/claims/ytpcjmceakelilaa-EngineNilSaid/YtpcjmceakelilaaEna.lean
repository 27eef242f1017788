/- Mvcc: All, apart from a law. -/
import Derived.Test.YtpcjmceakelilaaMv15
namespace Go.Proofs.Ytpcjmceakelilaa
open Go.ChangeShapes Go.WideShapes Go.ChangeAt Go.RowKit Go.Deep Go.ChangeMaps Go.Shelf Go.Sort
set_option linter.unusedVariables false
set_option linter.unusedSimpArgs false
attribute [local go_sem] Oper.semAt_some
attribute [local go_sem, local simp] wide_fn
theorem yieldAt_any {m m' : Nat} {P : Program} {l : Nat} {args : Array Value} {W : World} {R : Ending → World → Prop} (h : YieldAt Fence.wide m P l args W R) : YieldAt Fence.wide m' P l args W R := by
  obtain ⟨fn, tmps, assign, body, hy, hR⟩ := h
  exact ⟨fn, tmps, assign, body, hy, hR.1, fun c cs _ => hR.2 c cs (room_wide _)⟩
theorem abides_below {β : Type} {B : Nat} {J : β → World → Prop} (h : AbidesFrom B J) (s : β) (W W' : World) (hj : J s W) (hb : Below W.heap.size W W') : J s W' :=
  h s W _ none hj ⟨hb.os, hb.tape, hb.output, hb.size, fun k hk _ => hb.block k hk⟩ (fun r e => by cases e)
/-- an append to one's own row, stored in one's own box, keeps what an iterator asks -/
theorem kps_app {n₀ b c B : Nat} {t e : TypeId} {size k : Nat} {v u : Value} {xs : List Value} {W w1 : World} {tmp : Obj} (hv : Boxed W B t v) (hrow : W.ownsRow c e size v k xs) (hg : (W.alloc tmp).grownBy w1 v.ownBlock) (hB : B < b) (ht : t ≠ 9) (he : e ≠ 9) (hn : n₀ ≤ B) (hnc : n₀ ≤ c) :
    KpS n₀ b c W (w1.setCell ⟨B, 0, none⟩ u) := by
  have hlt := hv.lt
  have hal : ∀ i, i < W.heap.size → (W.alloc tmp).heap[i]? = W.heap[i]? := fun i hi => heap_alloc_old W tmp hi
  have hown := hrow.lt
  have key : ∀ i, i < W.heap.size → i ≠ B → v.ownBlock ≠ some i → (w1.setCell ⟨B, 0, none⟩ u).heap[i]? = W.heap[i]? := fun i hi hiB hio => by
    show (w1.heap.modify B _)[i]? = _
    rw [Array.getElem?_modify, if_neg (fun e => hiB e.symm)]
    exact (hg.block i (by rw [World.size_alloc]; omega) (fun e => hio e.symm)).trans (hal i hi)
  have hsz : W.heap.size ≤ w1.heap.size := Nat.le_trans (by rw [World.size_alloc]; omega) hg.size
  refine ⟨⟨hg.os, hg.tape, hg.output, by show W.heap.size ≤ (w1.heap.modify B _).size; rw [Array.size_modify]; exact hsz, fun i hi => key i (by omega) (by omega) (fun e => by have := (hown i e).1; omega)⟩, fun i cs fr hi => ?_, fun i h1 h2 h3 => key i h3 (by omega) (fun e => by have := (hown i e).1; omega)⟩
  have hil := (Array.getElem?_eq_some_iff.1 hi).1
  rw [key i hil (fun e2 => ?_) (fun e2 => ?_)]
  · exact hi
  · rw [e2, show W.heap[B]? = _ from hv] at hi
    cases hi
    exact ht rfl
  · rcases hrow.2 with ⟨rfl, _⟩ | ⟨g, cap, cur, rfl, _, hb2, _⟩
    · simp [Value.ownBlock] at e2
    · have : g = i := by simpa [Value.ownBlock] using e2
      subst this
      rw [hb2] at hi
      cases hi
      exact he rfl
theorem all_in (n : Nat) (S : Nat) (w : World) :
    CallsIn Fence.wide n Try.prog 30 #[.pointer (some ⟨S, 0, none⟩)] w fun e w' => e = .returned (.func (.func 48) #[] #[.pointer (some ⟨w.heap.size, 0, none⟩)]) ∧ w'.cell? ⟨w.heap.size, 0, none⟩ = some (.pointer (some ⟨S, 0, none⟩)) ∧ w'.heap.size = w.heap.size + 1 ∧ Below w.heap.size w w' ∧ KeepsOthers w w' := by
  refine callsIn_of_wp Try.func30 rfl trivial ?_ rfl
  simp only [Try.ntmps30, List.size_toArray, List.length_cons, List.length_nil, Nat.reduceAdd, Nat.reduceSub, Array.replicate_succ, Array.replicate_zero, List.push_toArray, List.append_toArray, List.nil_append, List.cons_append]
  gi_wp2
  go_ret
  have b0 := Boxed.new w 65 (.pointer (some ⟨S, 0, none⟩))
  exact ⟨rfl, b0.cell, by simp, (Below.refl _ w).alloc (Nat.le_refl _) _, KeepsOthers.alloc _ _⟩
theorem und72 : (Try.prog.underlying 69).map (fun d => match d with | .func _ _ _ => true | _ => false) = some true := by kernel_rfl
theorem equalIn_nilFunc {P : Program} (w : World) (d : Nat) (t : TypeId) (f : Fn) (a b : Array Value) (p r : Array TypeId) (v : Bool) (h : P.underlying t = some (.func p r v)) : (Op.equalIn (d + 1) t (.func f a b) .nilFunc).run P w = .ok false w := by
  simp [Op.equalIn, run_underlying h]
theorem equal_nilFunc {P : Program} (w : World) (t : TypeId) (f : Fn) (a b : Array Value) (p r : Array TypeId) (v : Bool) (h : P.underlying t = some (.func p r v)) : (Op.equal t (.func f a b) .nilFunc).run P w = .ok false w := equalIn_nilFunc w 9999 t f a b p r v h
theorem eql_nilFunc {t : TypeId} (h0 : (Try.prog.underlying t).map (fun d => match d with | .func _ _ _ => true | _ => false) = some true) (f : Fn) (a b : Array Value) (w : World) : (binOp .eql t (.func f a b) .nilFunc).run Try.prog w = .ok (.bool false) w := by
  obtain ⟨p, r, v, h⟩ : ∃ p r v, Try.prog.underlying t = some (.func p r v) := by
    cases hu : Try.prog.underlying t with
    | none => rw [hu] at h0; simp at h0
    | some d =>
      rw [hu] at h0
      cases d <;> first | (simp at h0; done) | exact ⟨_, _, _, rfl⟩
  simp only [binOp]
  simp [equal_nilFunc w t f a b p r v h]
theorem eql72 (f : Fn) (a b : Array Value) (w : World) : (binOp .eql 69 (.func f a b) .nilFunc).run Try.prog w = .ok (.bool false) w := eql_nilFunc und72 f a b w
attribute [local go_sem] eql72
theorem own_base {B B' : Nat} {W : World} {T : TypeId} {z n : Nat} {v : Value} {xs : List Value} (h : W.ownsRow B' T z v n xs) (hb : B ≤ B') : W.ownsRow B T z v n xs := by
  refine ⟨h.1, ?_⟩
  rcases h.2 with h1 | ⟨g, c, cur, rfl, h1, h2⟩
  · exact .inl h1
  · exact .inr ⟨g, c, cur, rfl, Nat.le_trans hb h1, h2⟩
theorem stops_all (n n₀ B S mp clock b : Nat) (E : List En) (W : World) (h : Sto B W S mp E clock) (hfoot : ∀ k, Foot S mp E k → k < n₀) (hn0 : n₀ ≤ W.heap.size) (hT : E.length ≤ 100000) (c1 : W.cell? ⟨b, 0, none⟩ = some (.pointer (some ⟨S, 0, none⟩))) (hbl : b < W.heap.size) :
    SeqStopsK Fence.wide n Try.prog 48 #[.pointer (some ⟨b, 0, none⟩)] encA (KpS n₀ b (b + 1)) (fun xs => xs = allK E (ordE E)) (fun pre => pre <+: allK E (ordE E)) (allK E (ordE E)).length W := fun l J Jx W1 hW hJ _ hY h0 =>
  all1_any n l n₀ (b + 1) _ b B S mp clock E J Jx (fun m pre x W hj hl => yieldAt_any (hY pre x W hj hl)) (fun pre W W' hj hb => abides_below hJ pre W W' hj hb) (by omega) W1 (h.below hW) hfoot (Nat.le_trans hn0 hW.size) hT ((hW.cell (p := ⟨b, 0, none⟩) hbl).trans c1) (Nat.lt_of_lt_of_le hbl hW.size) h0 (Nat.le_refl _)
theorem kpS_b {n₀ b c : Nat} {w : World} (hn : n₀ ≤ w.heap.size) (hc : c ≤ w.heap.size) (W : World) (l : Nat) (o o' : Obj) (hl : w.heap.size ≤ l) (h : W.heap[l]? = some o) (ho : o.isCells = false) (hw : o.isWalk = false) : KpS n₀ b c W (W.putObj l o') := by
  refine ⟨belowK_b (w := w) hn W l o o' hl h ho hw, fun k cs fr hk => ?_, fun k h1 h2 h3 => World.putObj_heap_other (by omega)⟩
  rw [World.putObj_heap_other (fun e => by rw [e, h] at hk; cases hk; cases ho)]
  exact hk
theorem four_cells_new (W : World) (a b c d : Value) (t : TypeId) : ∀ j z, [a, b, c, d][j]? = some z → (W.alloc (.cells #[a, b, c, d] t)).cell? ((⟨W.heap.size, 0, none⟩ : Addr).add j) = some z := fun j z hz => by
  rw [addr_add', Nat.zero_add]
  exact (Box.new W [a, b, c, d] t).cell j z hz
end Go.Proofs.Ytpcjmceakelilaa
