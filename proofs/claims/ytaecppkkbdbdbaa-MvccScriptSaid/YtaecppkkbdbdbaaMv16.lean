/- Mvcc: All, and what the law's 'all' returns. -/
import Derived.Test.YtaecppkkbdbdbaaMv15
namespace Go.Proofs.Ytaecppkkbdbdbaa
open Go.ChangeShapes Go.WideShapes Go.ChangeAt Go.RowKit Go.Deep Go.ChangeMaps Go.Shelf Go.Sort
set_option linter.unusedVariables false
set_option linter.unusedSimpArgs false
attribute [local go_sem] Oper.semAt_some
attribute [local go_sem, local simp] wide_fn
theorem yieldAt_any {m m' : Nat} {P : Program} {l : Nat} {args : Array Value} {W : World} {R : Ending → World → Prop} (h : YieldAt Fence.wide m P l args W R) : YieldAt Fence.wide m' P l args W R := by
  obtain ⟨fn, tmps, assign, body, hy, hR⟩ := h
  exact ⟨fn, tmps, assign, body, hy, hR.1, fun c cs _ => hR.2 c cs (room_wide _)⟩
theorem abides_below {β : Type} {B : Nat} {J : β → World → Prop} (h : AbidesFrom B J) (s : β) (W W' : World) (hj : J s W) (hb : Below W.heap.size W W') : J s W' :=
  h s W _ none hj ⟨hb.os, hb.tape, hb.output, hb.size, fun k hk _ => hb.block k hk⟩ (fun r e => by cases e)
/-- an append to one's own row, stored in one's own box, keeps what an iterator asks -/
theorem kps_app {n₀ b c B : Nat} {t e : TypeId} {size k : Nat} {v u : Value} {xs : List Value} {W w1 : World} {tmp : Obj} (hv : Boxed W B t v) (hrow : W.ownsRow c e size v k xs) (hg : (W.alloc tmp).grownBy w1 v.ownBlock) (hB : B < b) (ht : t ≠ 9) (he : e ≠ 9) (hn : n₀ ≤ B) (hnc : n₀ ≤ c) :
    KpS n₀ b c W (w1.setCell ⟨B, 0, none⟩ u) := by
  have hlt := hv.lt
  have hal : ∀ i, i < W.heap.size → (W.alloc tmp).heap[i]? = W.heap[i]? := fun i hi => heap_alloc_old W tmp hi
  have hown := hrow.lt
  have key : ∀ i, i < W.heap.size → i ≠ B → v.ownBlock ≠ some i → (w1.setCell ⟨B, 0, none⟩ u).heap[i]? = W.heap[i]? := fun i hi hiB hio => by
    show (w1.heap.modify B _)[i]? = _
    rw [Array.getElem?_modify, if_neg (fun e => hiB e.symm)]
    exact (hg.block i (by rw [World.size_alloc]; omega) (fun e => hio e.symm)).trans (hal i hi)
  have hsz : W.heap.size ≤ w1.heap.size := Nat.le_trans (by rw [World.size_alloc]; omega) hg.size
  refine ⟨⟨hg.os, hg.tape, hg.output, by show W.heap.size ≤ (w1.heap.modify B _).size; rw [Array.size_modify]; exact hsz, fun i hi => key i (by omega) (by omega) (fun e => by have := (hown i e).1; omega)⟩, fun i cs fr hi => ?_, fun i h1 h2 h3 => key i h3 (by omega) (fun e => by have := (hown i e).1; omega)⟩
  have hil := (Array.getElem?_eq_some_iff.1 hi).1
  rw [key i hil (fun e2 => ?_) (fun e2 => ?_)]
  · exact hi
  · rw [e2, show W.heap[B]? = _ from hv] at hi
    cases hi
    exact ht rfl
  · rcases hrow.2 with ⟨rfl, _⟩ | ⟨g, cap, cur, rfl, _, hb2, _⟩
    · simp [Value.ownBlock] at e2
    · have : g = i := by simpa [Value.ownBlock] using e2
      subst this
      rw [hb2] at hi
      cases hi
      exact he rfl
def prA (L : List (Bs × Ver)) : List Value := L.flatMap fun x => [.string x.1, .int .i64 x.2.1, .string x.2.2.1, .bool x.2.2.2]
theorem prA_snoc (L : List (Bs × Ver)) (x : Bs × Ver) : prA (L ++ [x]) = prA L ++ [.string x.1, .int .i64 x.2.1, .string x.2.2.1, .bool x.2.2.2] := by simp [prA]
theorem infoP : (Try.prog.info? 56).map (fun i => (i.zero, i.size, i.bytes)) = some (some (.agg #[.string ⟨#[]⟩, .int .i64 0, .string ⟨#[]⟩, .bool false]), 4, 48) := by kernel_rfl
theorem all_in (n : Nat) (S : Nat) (w : World) :
    CallsIn Fence.wide n Try.prog 37 #[.pointer (some ⟨S, 0, none⟩)] w fun e w' => e = .returned (.func (.func 54) #[] #[.pointer (some ⟨w.heap.size, 0, none⟩)]) ∧ w'.cell? ⟨w.heap.size, 0, none⟩ = some (.pointer (some ⟨S, 0, none⟩)) ∧ w'.heap.size = w.heap.size + 1 ∧ Below w.heap.size w w' ∧ KeepsOthers w w' := by
  refine callsIn_of_wp Try.func37 rfl trivial ?_ rfl
  simp only [Try.ntmps37, List.size_toArray, List.length_cons, List.length_nil, Nat.reduceAdd, Nat.reduceSub, Array.replicate_succ, Array.replicate_zero, List.push_toArray, List.append_toArray, List.nil_append, List.cons_append]
  gi_wp2
  go_ret
  have b0 := Boxed.new w 24 (.pointer (some ⟨S, 0, none⟩))
  exact ⟨rfl, b0.cell, by simp, (Below.refl _ w).alloc (Nat.le_refl _) _, KeepsOthers.alloc _ _⟩
theorem und72 : (Try.prog.underlying 72).map (fun d => match d with | .func _ _ _ => true | _ => false) = some true := by kernel_rfl
theorem equalIn_nilFunc {P : Program} (w : World) (d : Nat) (t : TypeId) (f : Fn) (a b : Array Value) (p r : Array TypeId) (v : Bool) (h : P.underlying t = some (.func p r v)) : (Op.equalIn (d + 1) t (.func f a b) .nilFunc).run P w = .ok false w := by
  simp [Op.equalIn, run_underlying h]
theorem equal_nilFunc {P : Program} (w : World) (t : TypeId) (f : Fn) (a b : Array Value) (p r : Array TypeId) (v : Bool) (h : P.underlying t = some (.func p r v)) : (Op.equal t (.func f a b) .nilFunc).run P w = .ok false w := equalIn_nilFunc w 9999 t f a b p r v h
theorem eql_nilFunc {t : TypeId} (h0 : (Try.prog.underlying t).map (fun d => match d with | .func _ _ _ => true | _ => false) = some true) (f : Fn) (a b : Array Value) (w : World) : (binOp .eql t (.func f a b) .nilFunc).run Try.prog w = .ok (.bool false) w := by
  obtain ⟨p, r, v, h⟩ : ∃ p r v, Try.prog.underlying t = some (.func p r v) := by
    cases hu : Try.prog.underlying t with
    | none => rw [hu] at h0; simp at h0
    | some d =>
      rw [hu] at h0
      cases d <;> first | (simp at h0; done) | exact ⟨_, _, _, rfl⟩
  simp only [binOp]
  simp [equal_nilFunc w t f a b p r v h]
theorem eql72 (f : Fn) (a b : Array Value) (w : World) : (binOp .eql 72 (.func f a b) .nilFunc).run Try.prog w = .ok (.bool false) w := eql_nilFunc und72 f a b w
attribute [local go_sem] eql72
theorem own_base {B B' : Nat} {W : World} {T : TypeId} {z n : Nat} {v : Value} {xs : List Value} (h : W.ownsRow B' T z v n xs) (hb : B ≤ B') : W.ownsRow B T z v n xs := by
  refine ⟨h.1, ?_⟩
  rcases h.2 with h1 | ⟨g, c, cur, rfl, h1, h2⟩
  · exact .inl h1
  · exact .inr ⟨g, c, cur, rfl, Nat.le_trans hb h1, h2⟩
theorem stops_all (n n₀ B S mp clock b : Nat) (E : List En) (W : World) (h : Sto B W S mp E clock) (hfoot : ∀ k, Foot S mp E k → k < n₀) (hn0 : n₀ ≤ W.heap.size) (hT : E.length ≤ 100000) (c1 : W.cell? ⟨b, 0, none⟩ = some (.pointer (some ⟨S, 0, none⟩))) (hbl : b < W.heap.size) :
    SeqStopsK Fence.wide n Try.prog 54 #[.pointer (some ⟨b, 0, none⟩)] encA (KpS n₀ b (b + 1)) (fun xs => xs = allK E (ordE E)) (fun pre => pre <+: allK E (ordE E)) (allK E (ordE E)).length W := fun l J Jx W1 hW hJ _ hY h0 =>
  all1_any n l n₀ (b + 1) _ b B S mp clock E J Jx (fun m pre x W hj hl => yieldAt_any (hY pre x W hj hl)) (fun pre W W' hj hb => abides_below hJ pre W W' hj hb) (by omega) W1 (h.below hW) hfoot (Nat.le_trans hn0 hW.size) hT ((hW.cell (p := ⟨b, 0, none⟩) hbl).trans c1) (Nat.lt_of_lt_of_le hbl hW.size) h0 (Nat.le_refl _)
theorem kpS_b {n₀ b c : Nat} {w : World} (hn : n₀ ≤ w.heap.size) (hc : c ≤ w.heap.size) (W : World) (l : Nat) (o o' : Obj) (hl : w.heap.size ≤ l) (h : W.heap[l]? = some o) (ho : o.isCells = false) (hw : o.isWalk = false) : KpS n₀ b c W (W.putObj l o') := by
  refine ⟨belowK_b (w := w) hn W l o o' hl h ho hw, fun k cs fr hk => ?_, fun k h1 h2 h3 => World.putObj_heap_other (by omega)⟩
  rw [World.putObj_heap_other (fun e => by rw [e, h] at hk; cases hk; cases ho)]
  exact hk
theorem four_cells_new (W : World) (a b c d : Value) (t : TypeId) : ∀ j z, [a, b, c, d][j]? = some z → (W.alloc (.cells #[a, b, c, d] t)).cell? ((⟨W.heap.size, 0, none⟩ : Addr).add j) = some z := fun j z hz => by
  rw [addr_add', Nat.zero_add]
  exact (Box.new W [a, b, c, d] t).cell j z hz
def AllOut (L : List (Bs × Ver)) (w : World) (e : Ending) (W' : World) : Prop :=
  ∃ v, e = .returned v ∧ W'.ownsRow w.heap.size 56 4 v L.length (prA L) ∧ Below w.heap.size w W'
set_option maxRecDepth 100000 in
set_option maxHeartbeats 3200000 in
theorem all_law_in (n B S mp clock : Nat) (E : List En) (w : World) (h : Sto B w S mp E clock) (hT : E.length ≤ 100000) (hL : (allK E (ordE E)).length ≤ 100000) (h1 : 1 ≤ n) :
    CallsIn Fence.wide n Try.prog 28 #[.pointer (some ⟨S, 0, none⟩)] w (AllOut (allK E (ordE E)) w) := by
  have HH := Lib.hid h
  have hro : Fence.wide.round = none := rfl
  obtain ⟨i0, hi0, hz0, hz1, hz2⟩ := info_parts infoP
  clear h
  refine callsIn_of_wp_marks Try.func28 rfl trivial ?_ rfl
  simp only [Try.ntmps28, List.size_toArray, List.length_cons, List.length_nil, Nat.reduceAdd, Nat.reduceSub, Array.replicate_succ, Array.replicate_zero, List.push_toArray, List.append_toArray, List.nil_append, List.cons_append]
  gi_wp2_with (gi_at_call 37; refine (all_in (n - 1) S _).mono ?_; rintro e w' ⟨rfl, hcb, hsz, hbl, hko⟩)
  have hsz2 : w'.heap.size = w.heap.size + 2 := by rw [hsz]; simp
  have hbl0 : Below w.heap.size w w' := ((Below.refl _ w).alloc (Nat.le_refl _) _).trans (hbl.mono (by simp))
  have bO : Boxed w' w.heap.size 52 (.slice none 0 0) := (hbl.block _ (by simp)).trans (Boxed.new w 52 (.slice none 0 0))
  have hcb2 : w'.cell? ⟨w.heap.size + 1, 0, none⟩ = some (.pointer (some ⟨S, 0, none⟩)) := by simpa using hcb
  have hst := stops_all (n - 1) w.heap.size B S mp clock (w.heap.size + 1) E w' (HH.out.below hbl0) (fun k hk => (HH.out.foot hk).2) hbl0.size hT hcb2 (by omega)
  clear hcb hsz hbl hko hcb2
  refine wpIn_rangeFunc_ownH hro h1 (gf := 54) (lb := #[.pointer (some ⟨w.heap.size + 1, 0, none⟩)]) rfl trivial (enters_of Try.func54 (by kernel_rfl) rfl)
    hst (fun h k => h.t k) (kpS_b (by omega) (by omega)) (Below.refl _ _) (fun _ => rfl)
    (fun pre W => (∃ v, Boxed W w.heap.size 52 v ∧ W.ownsRow (w.heap.size + 2) 56 4 v pre.length (prA pre) ∧ True) ∧ Below w.heap.size w' W)
    (fun _ _ _ => False)
    (OwnFrom.and (Own.from (holdsRow_own (β := List (Bs × Ver)) (w.heap.size + 2) w.heap.size 52 56 4 (fun pre => pre.length) prA (fun _ _ => True)) _) (ownFrom_below (by omega) (by omega)))
    (fun _ _ _ _ _ hs _ _ => hs)
    ⟨⟨_, bO, World.ownsRow_nil _ _ _ _, trivial⟩, Below.refl _ _⟩
    (fun x a' W => ∃ b6, W.heap[b6]? = some (Obj.cells (verc x.2).toArray 87 (0, 0)) ∧ a' = { tmps := #[.pointer (some ⟨S, 0, none⟩), undef, .slice none 0 0, .pointer (some ⟨w.heap.size, 0, none⟩), .func (.func 54) #[] #[.pointer (some ⟨w.heap.size + 1, 0, none⟩)], .string x.1, .pointer (some ⟨b6, 0, none⟩), .pointer (some ⟨S, 0, none⟩), .func (.func 54) #[] #[.pointer (some ⟨w.heap.size + 1, 0, none⟩)], .func (.func 54) #[] #[.pointer (some ⟨w.heap.size + 1, 0, none⟩)], .bool false, undef, undef, .func (.func 54) #[] #[.pointer (some ⟨w.heap.size + 1, 0, none⟩)], .string x.1, .agg #[.int .i64 x.2.1, .string x.2.2.1, .bool x.2.2.2], undef, undef, undef, undef, undef, undef, undef], defers := [] })
    (fun x a' _ W W' row hs hg hr => by
      obtain ⟨b6, h6, h8⟩ := hs
      refine ⟨b6, (hg.block b6 (Array.getElem?_eq_some_iff.1 h6).1 (fun e => ?_)).trans h6, h8⟩
      obtain ⟨_, o, ho, hc⟩ := hr b6 e.symm
      rw [h6] at ho
      cases ho
      cases hc) ?assign ?body ?done ?stop
  case assign =>
    rintro l pre ⟨k, s, vl, dl⟩ W K ⟨⟨v, hv, hrow, _⟩, hB⟩ hK
    unfold encA
    gi_wp2
    refine hK _ _ ((KeepsOthers.alloc W _).from _) (KpS.below ((Below.refl _ W).alloc (Nat.le_refl _) _) (by have := hB.size; omega)) ⟨⟨v, hv.alloc _, World.ownsRow.alloc hrow _, trivial⟩, hB.alloc (by have := hB.size; omega) _⟩ ⟨W.heap.size, heap_alloc_new W _, rfl⟩
  case body =>
    rintro l pre ⟨k, s, vl, dl⟩ a' W hl _ ⟨⟨v, hv, hrow, _⟩, hB⟩ ⟨b6, h6, rfl⟩ hlt
    have hc := hv.cell
    have c0 : W.cell? ⟨b6, 0, none⟩ = some (.int .i64 s) := by simp [World.cell?, h6, verc]
    have c1 : W.cell? ⟨b6, 1, none⟩ = some (.string vl) := by simp [World.cell?, h6, verc]
    have c2 : W.cell? ⟨b6, 2, none⟩ = some (.bool dl) := by simp [World.cell?, h6, verc]
    have hl63 : pre.length ≤ 100000 := by omega
    obtain ⟨va, vc, rfl⟩ : ∃ a c, v = .slice a pre.length c := by
      rcases hrow.2 with ⟨rfl, h0⟩ | ⟨g, cap, cur, rfl, _⟩
      · exact ⟨none, 0, by rw [h0]⟩
      · exact ⟨_, _, rfl⟩
    have hrow0 := own_base hrow (show w.heap.size ≤ w.heap.size + 2 by omega)
    gi_wp2_with (gi_at_builtin; refine wpListIn_append_own _ rfl _ _ 52 rfl (w.heap.size + 2) 56 i0 (.agg #[.string ⟨#[]⟩, .int .i64 0, .string ⟨#[]⟩, .bool false]) 4 48 Try.underlying52 hi0 hz0 hz1 hz2 rfl (by decide) _ _ _ rfl (World.ownsRow.alloc hrow _) ⟨W.heap.size, 0, none⟩ 1 1 [.string k, .int .i64 s, .string vl, .bool dl] rfl rfl (four_cells_new _ _ _ _ _ _) (by simp [Value.oneCell']) (by unfold maxLen; omega) (by omega) (by have := hB.size; have := (Array.getElem?_eq_some_iff.1 h6).1; simp; omega) ?_; intro v' w1 hown' hgrow _; obtain ⟨g', cap', rfl⟩ := ownsRow_succ hown'; obtain ⟨hv1, hv2, hr2, hk2, hb2⟩ := hv.appended (by decide) hrow0 (by have := hB.size; omega) (Nat.le_refl _) (own_base hown' (show w.heap.size ≤ w.heap.size + 2 by omega)) hgrow; have hc1 := hv1.cell; have hf1 := hv1.frozen)
    have hkp := kps_app (n₀ := w.heap.size) (b := w.heap.size + 1) (c := w.heap.size + 2) (u := .slice (some ⟨g', 0, none⟩) (pre.length + 1) cap') hv hrow hgrow (by omega) (by decide) (by decide) (Nat.le_refl _) (by omega)
    refine ⟨hk2.from _, hkp, ⟨⟨_, hv2, ?_⟩, hB.trans hb2⟩⟩
    rw [prA_snoc, List.length_append]
    exact hown'.kept (grownBy_setCell' w1 w.heap.size _) (.inr (hv1.not_row (by decide) hown').symm)
  case done =>
    rintro D ys W hD rfl ⟨⟨v, hv, hrow, _⟩, hB⟩ hK
    have hc := hv.cell
    gi_wp2
    refine ⟨by simp, .inl ⟨_, _, rfl, run_takeDeferred hK, ?_⟩⟩
    exact ⟨_, results_tmp rfl _ _ _, v, rfl, ownsRow_putObj (own_base hrow (show w.heap.size ≤ w.heap.size + 2 by omega)) _ hK rfl, hbl0.trans (hB.trans (belowK_b (w := w) (Nat.le_refl _) W D _ _ (by omega) hK rfl rfl))⟩
  case stop =>
    rintro D c pre W _ _ h _
    exact h.elim
end Go.Proofs.Ytaecppkkbdbdbaa
