/- Btree: Len and Get on any tree; what a scan yields (plain). -/
import Derived.Test.YtegljepgncicjaaBu15
namespace Go.Proofs.Ytegljepgncicjaa
open Go.ChangeShapes Go.WideShapes Go.ChangeAt Go.RowKit Go.Deep Go.Shelf
set_option linter.unusedVariables false
set_option linter.unusedSimpArgs false
theorem Len_T (W : World) (T o : Nat) (L : List Pr) (Y : Nat → Prop) (h : Tr W T o L Y) :
    Calls Try.prog 13 #[.pointer (some ⟨T, 0, none⟩)] W fun e W' => e = .returned (.int .i64 L.length) ∧ W' = W := by
  obtain ⟨r, σ, fv, own, h⟩ := h
  have a1 : W.cell? ⟨T, 1, none⟩ = some (.int .i64 L.length) := h.box.cell 1 _ rfl
  clear h
  go_enter Try.func13, Try.ntmps13
  go_wp2_with fail
  go_ret
  exact ⟨rfl, rfl⟩
set_option maxRecDepth 100000 in
theorem get_none (W : World) (T : Nat) (o sz : Int) (key : Bs) (hb : Box W T [.int .i64 o, .int .i64 sz, .pointer none]) :
    Calls Try.prog 34 #[.pointer (some ⟨T, 0, none⟩), .string key] W (GetOut key [] W) := by
  have a2 : W.cell? ⟨T, 2, none⟩ = some (.pointer none) := hb.cell 2 _ rfl
  clear hb
  go_enter Try.func34, Try.ntmps34
  go_wp2_with fail
  refine wp_loop_rounds 1 ?_
  rw [rounds_succ]
  go_wp2_with fail
  go_ret2
  exact ⟨rfl, 0, rfl⟩
theorem Get_T (W : World) (T o : Nat) (L : List Pr) (Y : Nat → Prop) (key : Bs) (h : Tr W T o L Y) :
    Calls Try.prog 24 #[.pointer (some ⟨T, 0, none⟩), .string key] W (GetOut key L W) := by
  have H : Calls Try.prog 34 #[.pointer (some ⟨T, 0, none⟩), .string key] W (GetOut key L W) := by
    obtain ⟨r, σ, ht, hr, hR, hY, hs, h4, h6⟩ := h.open
    cases r with
    | none =>
      have hL : L = [] := hR
      subst hL
      exact get_none W T o _ key ht.box
    | some N =>
      obtain ⟨hh, S, hT⟩ := hR
      exact get_any 0 T N o hh 1 o L.length σ L S key W ht.hp ht.box hT hs h6 h6
  have H := Lib.hid H
  clear h
  go_enter Try.func24, Try.ntmps24
  go_wp2_with fail
  refine H.out.mono ?_
  rintro e W1 ⟨rfl, q, rfl⟩
  go_wp2_with fail
  go_ret2
  exact ⟨rfl, q, rfl⟩
/-- a store whose blocks all lie below n₀ -/
def Hq (n₀ : Nat) (W : World) (σ : Sig) : Prop := ∃ fv own, HpW 0 W σ fv own ∧ FrW W σ own ∧ (∀ k, Takes σ fv k → k < n₀) ∧ ∀ k b, σ.F k = some b → k < n₀
theorem Hq.hp {n₀ : Nat} {W : World} {σ : Sig} (h : Hq n₀ W σ) : Hp 0 W σ := by
  obtain ⟨fv, own, h1, h2, _⟩ := h
  exact ⟨fv, own, h1, h2⟩
theorem Hq.below {n₀ : Nat} {W W' : World} {σ : Sig} (h : Hq n₀ W σ) (hb : Below n₀ W W') : Hq n₀ W' σ := by
  obtain ⟨fv, own, h1, h2, h3, h4⟩ := h
  have hk : Kept (fun k => n₀ ≤ k) W W' := ⟨hb.os, hb.tape, hb.output, hb.size, fun k hk hs => hb.block k (by omega)⟩
  refine ⟨fv, own, h1.kept hk (fun k hk => Nat.not_le.2 (h3 k hk)), fun k b hb' => ?_, h3, h4⟩
  exact ⟨(h2 k b hb').1, (hk.block k (h2.lt hb') (Nat.not_le.2 (h4 k b hb'))).trans (h2 k b hb').2⟩
theorem Hq.drewN {n₀ : Nat} {W : World} {σ : Sig} (h : Hq n₀ W σ) (q : Nat) : Hq n₀ (W.drewN q) σ := h.below ⟨rfl, rfl, rfl, Nat.le_refl _, fun _ _ => rfl⟩
theorem Tr.hq {W : World} {T o : Nat} {L : List Pr} {Y : Nat → Prop} (h : Tr W T o L Y) : ∃ r σ, Box W T [.int .i64 o, .int .i64 L.length, rp r] ∧ Hq W.heap.size W σ ∧ RootT σ o L r ∧ Srt L ∧ 4 ≤ o ∧ o ≤ 256 := by
  obtain ⟨r, σ, fv, own, h⟩ := h
  have hF : FrW W ⟨σ.f, fun _ => none⟩ own := fun k b hb => (by cases hb)
  refine ⟨r, ⟨σ.f, fun _ => none⟩, h.box, ⟨fv, own, h.hp, hF, fun k hk => ?_, fun k b hb => (by cases hb)⟩, h.root.congr (fun _ => rfl), h.srt, h.o4, h.o256⟩
  obtain ⟨N, nd, hN, hk⟩ := hk
  exact (takes_lt h.hp ⟨N, nd, hN, hk⟩).2
/-- which pairs are yielded, which end a scan -/
def inU (lo hi : Bs) (bd : Bool) (p : Pr) : Bool := !lB p.1 lo && (!bd || lB p.1 hi)
def ovU (lo hi : Bs) (bd : Bool) (p : Pr) : Bool := !lB p.1 lo && (bd && !lB p.1 hi)
def ovD (lo hi : Bs) (bd : Bool) (p : Pr) : Bool := (!bd || lB p.1 hi) && lB p.1 lo
/-- what ends a scan leaves nothing behind it -/
def Mono (f g : Pr → Bool) (V : List Pr) : Prop := V.Pairwise fun x y => g x = true → f y = false
theorem Mono.left {f g : Pr → Bool} {A B : List Pr} (h : Mono f g (A ++ B)) : Mono f g A := (List.pairwise_append.1 h).1
theorem Mono.right {f g : Pr → Bool} {A B : List Pr} (h : Mono f g (A ++ B)) : Mono f g B := (List.pairwise_append.1 h).2.1
theorem Mono.cut {f g : Pr → Bool} {A B : List Pr} (h : Mono f g (A ++ B)) (hA : A.any g = true) : B.filter f = [] := by
  obtain ⟨x, hx, hg⟩ := List.any_eq_true.1 hA
  refine List.filter_eq_nil_iff.2 fun y hy => ?_
  rw [(List.pairwise_append.1 h).2.2 x hx y hy hg]
  simp
theorem mono_up {lo hi : Bs} {bd : Bool} {L : List Pr} (h : Srt L) : Mono (inU lo hi bd) (ovU lo hi bd) L := by
  refine List.Pairwise.imp (fun {x y} hxy hx => ?_) h
  unfold ovU at hx
  unfold inU
  simp only [Bool.and_eq_true, Bool.not_eq_true', Bool.and_eq_false_iff, Bool.or_eq_false_iff, Bool.not_eq_false'] at hx ⊢
  refine .inr ⟨hx.2.1, ?_⟩
  cases hy : lB y.1 hi with
  | false => rfl
  | true => have := lB_trans hxy hy; rw [hx.2.2] at this; cases this
theorem mono_down {lo hi : Bs} {bd : Bool} {L : List Pr} (h : Srt L) : Mono (inU lo hi bd) (ovD lo hi bd) L.reverse := by
  refine List.pairwise_reverse.2 (List.Pairwise.imp (fun {x y} hxy hy => ?_) h)
  unfold ovD at hy
  unfold inU
  simp only [Bool.and_eq_true, Bool.and_eq_false_iff, Bool.not_eq_false'] at hy ⊢
  exact .inl (lB_trans hxy hy.2)
/-- what comes out of a scan of Y, stopped or not -/
def SOut (n₀ : Nat) (J Jx : List Pr → World → Prop) (acc Y : List Pr) (stop : Bool) (W : World) (e : Ending) (W' : World) : Prop :=
  (stop = false ∧ e = .returned (.bool true) ∧ J (acc ++ Y) W' ∧ Below n₀ W W') ∨ (stop = true ∧ e = .returned (.bool false) ∧ J (acc ++ Y) W' ∧ Below n₀ W W') ∨
  (e = .returned (.bool false) ∧ ∃ pre, pre <+: acc ++ Y ∧ Jx pre W')
/-- the caller's round -/
def Yields (l n₀ K : Nat) (J Jx : List Pr → World → Prop) : Prop :=
  (∀ m pre (x : Pr) W, J pre W → pre.length < K → YieldAt Fence.wide m Try.prog l (encP x) W fun e W' =>
      (e = .returned (.bool true) ∧ J (pre ++ [x]) W' ∧ Below n₀ W W') ∨ (e = .returned (.bool false) ∧ Jx (pre ++ [x]) W')) ∧
  ∀ pre W q, J pre W → J pre (W.drewN q)
/-- where a scan stands: V is still to come -/
structure Sc (f g : Pr → Bool) (n₀ K : Nat) (J : List Pr → World → Prop) (acc0 V0 : List Pr) (W0 : World) (acc V : List Pr) (W : World) : Prop where
  j : J acc W
  b : Below n₀ W0 W
  eq : acc ++ V.filter f = acc0 ++ V0.filter f
  an : V.any g = V0.any g
  mo : Mono f g V
  k : acc.length + (V.filter f).length ≤ K
section
variable {f g : Pr → Bool} {n₀ K : Nat} {J Jx : List Pr → World → Prop} {acc0 V0 acc V C : List Pr} {W0 W W' : World} {p : Pr}
theorem Sc.skip (h : Sc f g n₀ K J acc0 V0 W0 acc (C ++ V) W) (h1 : ∀ x ∈ C, f x = false) (h2 : ∀ x ∈ C, g x = false) : Sc f g n₀ K J acc0 V0 W0 acc V W := by
  have e : (C ++ V).filter f = V.filter f := by
    rw [List.filter_append, List.filter_eq_nil_iff.2 (fun x hx => by rw [h1 x hx]; simp), List.nil_append]
  have e2 : (C ++ V).any g = V.any g := by
    rw [List.any_append, List.any_eq_false.2 (fun x hx => by rw [h2 x hx]; simp), Bool.false_or]
  exact ⟨h.j, h.b, by rw [← e]; exact h.eq, by rw [← e2]; exact h.an, h.mo.right, by rw [← e]; exact h.k⟩
/-- a part has been scanned, and did not end the scan -/
theorem Sc.part (h : Sc f g n₀ K J acc0 V0 W0 acc (C ++ V) W) (hC : C.any g = false) (hj : J (acc ++ C.filter f) W') (hb : Below n₀ W W') : Sc f g n₀ K J acc0 V0 W0 (acc ++ C.filter f) V W' := by
  have e := h.eq
  have k := h.k
  have an := h.an
  rw [List.filter_append] at e k
  rw [List.length_append] at k
  rw [List.any_append, hC, Bool.false_or] at an
  exact ⟨hj, h.b.trans hb, by rw [List.append_assoc]; exact e, an, h.mo.right, by rw [List.length_append]; omega⟩
/-- a part has been scanned, and ended the scan -/
theorem Sc.stopped (h : Sc f g n₀ K J acc0 V0 W0 acc (C ++ V) W) (hC : C.any g = true) (hj : J (acc ++ C.filter f) W') (hb : Below n₀ W W') : SOut n₀ J Jx acc0 (V0.filter f) (V0.any g) W0 (.returned (.bool false)) W' := by
  have e := h.eq
  rw [List.filter_append, h.mo.cut hC, List.append_nil] at e
  refine .inr (.inl ⟨?_, rfl, ?_, h.b.trans hb⟩)
  · rw [← h.an, List.any_append, hC, Bool.true_or]
  · rw [← e]; exact hj
theorem Sc.done (h : Sc f g n₀ K J acc0 V0 W0 acc [] W) : SOut n₀ J Jx acc0 (V0.filter f) (V0.any g) W0 (.returned (.bool true)) W := by
  have e := h.eq
  rw [List.filter_nil, List.append_nil] at e
  exact .inl ⟨h.an.symm, rfl, by rw [← e]; exact h.j, h.b⟩
theorem Sc.left (h : Sc f g n₀ K J acc0 V0 W0 acc (C ++ V) W) {pre : List Pr} (hp : pre <+: acc ++ C.filter f) (hx : Jx pre W') : SOut n₀ J Jx acc0 (V0.filter f) (V0.any g) W0 (.returned (.bool false)) W' := by
  have e := h.eq
  rw [List.filter_append, ← List.append_assoc] at e
  exact .inr (.inr ⟨rfl, pre, by rw [← e]; exact hp.trans (List.prefix_append _ _), hx⟩)
end
end Go.Proofs.Ytegljepgncicjaa
