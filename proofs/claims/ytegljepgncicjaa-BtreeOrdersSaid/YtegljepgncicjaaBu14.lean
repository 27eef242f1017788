/- Btree: tree.put on any tree. -/
import Derived.Test.YtegljepgncicjaaBu13
namespace Go.Proofs.Ytegljepgncicjaa
open Go.ChangeShapes Go.WideShapes Go.ChangeAt Go.RowKit Go.Deep
set_option linter.unusedVariables false
set_option linter.unusedSimpArgs false
def setF (σ : Sig) (T : Nat) (b : Option Obj) : Sig := ⟨σ.f, fun k => if k = T then b else σ.F k⟩
theorem setF_k (σ : Sig) (T : Nat) (b : Option Obj) (k : Nat) : setF σ T b k = σ k := rfl
/-- the box of a tree, left alone by what is done to nodes -/
structure TB (W : World) (T : Nat) (vs : List Value) (σ : Sig) : Prop where
  box : Box W T vs
  hp : Hp 0 W σ
  fr : σ.F T = W.heap[T]?
theorem Box.heap {W W' : World} {T : Nat} {vs : List Value} (h : Box W T vs) (e : W'.heap[T]? = W.heap[T]?) (hs : W.heap.size ≤ W'.heap.size) : Box W' T vs :=
  ⟨fun j v hv => (World.cell?_of_block (a := ⟨T, 0 + j, none⟩) e).trans (h.rng j v hv), fun j => (World.frozen?_of_block (a := ⟨T, j, none⟩) e).trans (h.free j), Nat.lt_of_lt_of_le h.lt hs⟩
theorem heap_some {W : World} {T : Nat} (h : T < W.heap.size) : ∃ b, W.heap[T]? = some b := ⟨_, Array.getElem?_eq_getElem h⟩
theorem TB.call {W W' : World} {T : Nat} {vs : List Value} {σ σ' : Sig} (h : TB W T vs σ) (hp : Hp 0 W' σ') (hF : σ'.F = σ.F) (hs : W.heap.size ≤ W'.heap.size) : TB W' T vs σ' := by
  obtain ⟨b, hb⟩ := heap_some h.box.lt
  have h2 := hp
  obtain ⟨fv, own, _, hfr⟩ := h2
  have e : W'.heap[T]? = W.heap[T]? := by
    rw [hb]
    refine (hfr T b ?_).2
    rw [hF, h.fr, hb]
  exact ⟨h.box.heap e hs, hp, by rw [hF, h.fr, e]⟩
theorem TB.drewN {W : World} {T : Nat} {vs : List Value} {σ : Sig} (h : TB W T vs σ) (q : Nat) : TB (W.drewN q) T vs σ := h.call (h.hp.drewN q) rfl (Nat.le_refl _)
theorem TB.set {W : World} {T : Nat} {vs : List Value} {σ : Sig} (h : TB W T vs σ) (j : Nat) (v : Value) (hj : j < vs.length) : TB (W.setCell ⟨T, j, none⟩ v) T (vs.set j v) (setF σ T (W.setCell ⟨T, j, none⟩ v).heap[T]?) := by
  have hset : Kept (fun k => k = T) W (W.setCell ⟨T, j, none⟩ v) := (Kept.refl _ W).setCells T j [v] (.inl rfl)
  obtain ⟨b, hb⟩ := heap_some h.box.lt
  refine ⟨h.box.setCell j v hj, ?_, if_pos rfl⟩
  obtain ⟨fv, own, hw, hfr⟩ := h.hp
  have hT : own T = (T, 9) := (hfr T b (by rw [h.fr, hb])).1
  refine ⟨fv, own, fun N nd hN => (hw.kept hset (fun k hk e => ?_)) N nd hN, fun k b' hb' => ?_⟩
  · subst e
    obtain ⟨N, nd, hN, hk⟩ := hk
    obtain ⟨_, _, h3, h4⟩ := hw N nd hN
    rcases hk with rfl | ⟨i, hi, e⟩
    · rw [h3] at hT; simp at hT
    · have := (h4 i hi).2 k e
      rw [this] at hT
      simp at hT
      omega
  · by_cases hk : k = T
    · subst hk
      have : (if k = k then (W.setCell ⟨k, j, none⟩ v).heap[k]? else σ.F k) = some b' := hb'
      rw [if_pos rfl] at this
      exact ⟨hT, this⟩
    · have : (if k = T then (W.setCell ⟨T, j, none⟩ v).heap[T]? else σ.F k) = some b' := hb'
      rw [if_neg hk] at this
      obtain ⟨h1, h2⟩ := hfr k b' this
      exact ⟨h1, (hset.block k (hfr.lt this) hk).trans h2⟩
/-- what lies outside of Y is left alone -/
def Rest (W0 : World) (T : Nat) (Y : Nat → Prop) (σ : Sig) : Prop := ∀ k, k ≠ T → k < W0.heap.size → ¬ Y k → σ.F k = W0.heap[k]?
def GrowY (Y : Nat → Prop) (W W' : World) (k : Nat) : Prop := Y k ∨ (W.heap.size ≤ k ∧ k < W'.heap.size)
def RootT (σ : Sig) (o : Nat) (L : List Pr) : Option Nat → Prop
  | none => L = []
  | some N => ∃ h S, IsT σ o h 1 o N L S
def rp (r : Option Nat) : Value := .pointer (r.map fun N => ⟨N, 0, none⟩)
/-- the tree at T has order o and holds L; its blocks lie in Y -/
structure TrS (W : World) (T o : Nat) (L : List Pr) (Y : Nat → Prop) (r : Option Nat) (σ : Sig) (fv : Nat → Nat → Value) (own : Nat → Nat × Nat) : Prop where
  box : Box W T [.int .i64 o, .int .i64 L.length, rp r]
  hp : HpW 0 W σ fv own
  tk : ∀ k, Takes σ fv k → Y k ∧ k ≠ T
  yT : Y T
  yl : ∀ k, Y k → k < W.heap.size
  srt : Srt L
  root : RootT σ o L r
  o4 : 4 ≤ o
  o256 : o ≤ 256
def Tr (W : World) (T o : Nat) (L : List Pr) (Y : Nat → Prop) : Prop := ∃ r σ fv own, TrS W T o L Y r σ fv own
theorem RootT.congr {σ σ' : Sig} {o : Nat} {L : List Pr} {r : Option Nat} (h : RootT σ o L r) (e : ∀ k, σ' k = σ k) : RootT σ' o L r := by
  cases r with
  | none => exact h
  | some N =>
    obtain ⟨hh, S, hT⟩ := h
    exact ⟨hh, S, hT.congr (fun k _ => e k)⟩
open Classical in
theorem Tr.open {W : World} {T o : Nat} {L : List Pr} {Y : Nat → Prop} (h : Tr W T o L Y) : ∃ r σ, TB W T [.int .i64 o, .int .i64 L.length, rp r] σ ∧ Rest W T Y σ ∧ RootT σ o L r ∧ Y T ∧ Srt L ∧ 4 ≤ o ∧ o ≤ 256 := by
  obtain ⟨r, σ, fv, own, h⟩ := h
  let σ2 : Sig := ⟨σ.f, fun k => if (k = T ∨ ¬ Y k) then W.heap[k]? else none⟩
  refine ⟨r, σ2, ⟨h.box, ⟨fv, fun k => if (k = T ∨ ¬ Y k) then (k, 9) else own k, ?_, ?_⟩, if_pos (.inl rfl)⟩, fun k _ _ hy => if_pos (.inr hy), h.root.congr (fun _ => rfl), h.yT, h.srt, h.o4, h.o256⟩
  · intro N nd hN
    obtain ⟨h1, h2, h3, h4⟩ := h.hp N nd hN
    have hNt := h.tk N ⟨N, nd, hN, .inl rfl⟩
    refine ⟨h1, h2, ?_, fun j hj => ⟨(h4 j hj).1, fun g e => ?_⟩⟩
    · show (if (N = T ∨ ¬ Y N) then (N, 9) else own N) = (N, 0)
      rw [if_neg (fun e => e.elim hNt.2 (fun e => e hNt.1))]
      exact h3
    · have hgt := h.tk g ⟨N, nd, hN, .inr ⟨j, hj, e⟩⟩
      show (if (g = T ∨ ¬ Y g) then (g, 9) else own g) = (N, j + 1)
      rw [if_neg (fun e => e.elim hgt.2 (fun e => e hgt.1))]
      exact (h4 j hj).2 g e
  · intro k b hb
    have hb' : (if (k = T ∨ ¬ Y k) then W.heap[k]? else none) = some b := hb
    by_cases hk : k = T ∨ ¬ Y k
    · rw [if_pos hk] at hb'
      exact ⟨if_pos hk, hb'⟩
    · rw [if_neg hk] at hb'; cases hb'
theorem Tr.close {W0 W : World} {T o : Nat} {L : List Pr} {Y : Nat → Prop} {r : Option Nat} {σ : Sig} (hb : TB W T [.int .i64 o, .int .i64 L.length, rp r] σ) (hr : Rest W0 T Y σ) (hR : RootT σ o L r) (hY : Y T) (hT : T < W0.heap.size) (hs : Srt L) (h4 : 4 ≤ o) (h6 : o ≤ 256) (hB : Below 0 W0 W)
    (hYl : ∀ k, Y k → k < W0.heap.size) : Tr W T o L (GrowY Y W0 W) ∧ Kept Y W0 W := by
  obtain ⟨hbox, ⟨fv, own, hw, hfr⟩, hF⟩ := hb
  obtain ⟨b, hb⟩ := heap_some hbox.lt
  have hT9 : own T = (T, 9) := (hfr T b (by rw [hF, hb])).1
  have h9 : ∀ k, Takes σ fv k → own k ≠ (k, 9) := fun k hk e => by
    obtain ⟨N, nd, hN, hk⟩ := hk
    obtain ⟨_, _, h3, h4⟩ := hw N nd hN
    rcases hk with rfl | ⟨i, hi, e2⟩
    · rw [h3] at e; simp at e
    · have := (h4 i hi).2 k e2
      rw [this] at e
      simp at e
      omega
  have hold : ∀ k, k ≠ T → k < W0.heap.size → ¬ Y k → own k = (k, 9) ∧ W.heap[k]? = W0.heap[k]? := fun k hkT hk hy => by
    obtain ⟨b, hb⟩ := heap_some hk
    have := hfr k b (by rw [hr k hkT hk hy, hb])
    rw [hb]
    exact this
  refine ⟨⟨r, σ, fv, own, ⟨hbox, hw, fun k hk => ⟨?_, fun e => h9 k hk (by rw [e]; exact hT9)⟩, .inl hY, fun k hk => ?_, hs, hR, h4, h6⟩⟩, ⟨hB.os, hB.tape, hB.output, hB.size, fun k hk hy => (hold k (fun e => hy (by rw [e]; exact hY)) hk hy).2⟩⟩
  · by_cases hy : Y k
    · exact .inl hy
    · refine .inr ⟨?_, (takes_lt hw hk).2⟩
      rcases Nat.lt_or_ge k W0.heap.size with h | h
      · by_cases hkT : k = T
        · exact absurd (by rw [hkT]; exact hT9) (h9 k hk)
        · exact absurd (hold k hkT h hy).1 (h9 k hk)
      · exact h
  · rcases hk with hk | hk
    · have := hB.size; have := hYl k hk; omega
    · exact hk.2
theorem Tr.yl {W : World} {T o : Nat} {L : List Pr} {Y : Nat → Prop} (h : Tr W T o L Y) : ∀ k, Y k → k < W.heap.size := by
  obtain ⟨r, σ, fv, own, h⟩ := h
  exact h.yl
theorem Tr.kept {W W' : World} {T o : Nat} {L : List Pr} {Y S : Nat → Prop} (h : Tr W T o L Y) (hk : Kept S W W') (hS : ∀ k, Y k → ¬ S k) : Tr W' T o L Y := by
  obtain ⟨r, σ, fv, own, h⟩ := h
  exact ⟨r, σ, fv, own, ⟨h.box.kept hk (hS T h.yT), h.hp.kept hk (fun k hk => hS k (h.tk k hk).1), h.tk, h.yT, fun k hy => Nat.lt_of_lt_of_le (h.yl k hy) hk.size, h.srt, h.root, h.o4, h.o256⟩⟩
theorem putL_len (L : List Pr) (k v : Bs) : (putL L k v).length = L.length + (if (getL L k).isNone then 1 else 0) := by
  induction L with
  | nil => rfl
  | cons a L ih =>
    obtain ⟨a, b⟩ := a
    unfold putL getL
    split
    · simp [ih]; omega
    · split <;> simp
theorem putL_mem {L : List Pr} {k v : Bs} {x : Pr} (h : x ∈ putL L k v) : x ∈ L ∨ x = (k, v) := by
  induction L with
  | nil => exact .inr (by simpa [putL] using h)
  | cons a L ih =>
    obtain ⟨a, b⟩ := a
    unfold putL at h
    split at h
    · rcases List.mem_cons.1 h with rfl | h
      · exact .inl (by simp)
      · rcases ih h with h | h
        · exact .inl (by simp [h])
        · exact .inr h
    · split at h
      · rcases List.mem_cons.1 h with rfl | h
        · exact .inr rfl
        · exact .inl (by simp [h])
      · rcases List.mem_cons.1 h with rfl | h
        · exact .inr rfl
        · exact .inl h
theorem putL_srt {L : List Pr} {k v : Bs} (h : Srt L) : Srt (putL L k v) := by
  induction L with
  | nil => simp [putL, Srt]
  | cons a L ih =>
    obtain ⟨a, b⟩ := a
    obtain ⟨h1, h2⟩ := List.pairwise_cons.1 h
    unfold putL
    split
    · rename_i hlt
      refine List.pairwise_cons.2 ⟨fun x hx => ?_, ih h2⟩
      rcases putL_mem hx with hx | rfl
      · exact h1 x hx
      · exact hlt
    · split
      · rename_i e
        subst e
        exact List.pairwise_cons.2 ⟨h1, h2⟩
      · rename_i h3 h4
        have h5 : lB k a = true := by
          cases h6 : lB k a with
          | true => rfl
          | false => exact absurd (lB_tri (by simpa using h3) h6) h4
        refine List.pairwise_cons.2 ⟨fun x hx => ?_, h⟩
        rcases List.mem_cons.1 hx with rfl | hx
        · exact h5
        · exact lB_trans h5 (h1 x hx)
theorem isT_one {σ : Sig} {o hi N : Nat} {p : Pr} {S : Nat → Prop} (h : IsT σ o 0 0 hi N [p] S) : IsT σ o 0 1 hi N [p] S := by
  obtain ⟨ks, vs, h1, h2, h3, h4, h5, h6, h7⟩ := h
  refine ⟨ks, vs, h1, h2, ?_, h4, h5, h6, h7⟩
  cases ks with
  | nil => simp at h5
  | cons a ks => simp
/-- a new root above N -/
theorem root_split {σ1 σ2 σ' : Sig} {o h lo hi N M R : Nat} {L : List Pr} {S : Nat → Prop} {lk lv : List Bs} {ln : List Nat} (hT : IsT σ1 o h lo hi N L S) (hl : σ1 N = some ⟨lk, lv, ln⟩) (hlen : lk.length = o + 1) (ho : 4 ≤ o) (hM : σ1 M = none) (hR : σ2 R = none) (hRM : R ≠ M) (hRN : R ≠ N)
    (e2 : ∀ k, σ2 k = upd σ1 M ⟨[], [], [N]⟩ k)
    (e : ∀ k, σ' k = upd (upd (upd σ2 R ⟨lk.drop (lk.length / 2 + 1), lv.drop (lk.length / 2 + 1), ln.drop (lk.length / 2 + 1)⟩) M ⟨([] : List Bs).take 0 ++ sx lk (lk.length / 2) :: ([] : List Bs).drop 0, ([] : List Bs).take 0 ++ sx lv (lk.length / 2) :: ([] : List Bs).drop 0, [N].take (0 + 1) ++ R :: [N].drop (0 + 1)⟩)
      N ⟨lk.take (lk.length / 2), lv.take (lk.length / 2), ln.take (lk.length / 2 + 1)⟩ k) : IsT σ' o (h + 1) 1 1 M L (fun k => (S k ∨ k = M) ∨ k = R) := by
  obtain ⟨hSN, hdom⟩ := hT.dom
  have hMN : M ≠ N := fun e => by rw [e, hl] at hM; cases hM
  have hMS : ¬ S M := fun h => hdom M h hM
  have hT2 : IsT σ2 o h lo hi N L S := hT.congr (fun k hk => by rw [e2, upd_other _ _ (fun e => hMS (by rw [← e]; exact hk))])
  have hI : Inn σ2 (IsT σ2 o h) M [] [] ([] ++ (⟨N, L, S, lo, hi⟩ : Kid) :: []) L (fun k => S k ∨ k = M) := by
    refine ⟨by rw [e2, upd_same]; rfl, rfl, rfl, by simp [inter, interR], .inr rfl, fun k hk => ?_, fun c hc => ?_, by simp⟩
    · rcases hk with hk | rfl
      · rw [e2]; exact upd_ne (hdom k hk)
      · rw [e2, upd_same]; simp
    · have : c = ⟨N, L, S, lo, hi⟩ := by simpa using hc
      subst this
      exact ⟨hT2, fun k hk => ⟨.inl hk, fun e => hMS (by rw [← e]; exact hk)⟩⟩
  refine inn_split (m := lk.length / 2) (i := 0) (R := R) (lk := lk) (lv := lv) (ln := ln) hI rfl (fun c hc => by simp at hc) (by rw [e2]; exact (upd_other _ _ hMN.symm).trans hl) hlen ho rfl hR ?_ ?_ ?_ (fun k h1 h2 h3 => ?_) (fun k => Iff.rfl)
  · rw [e, upd_same]
  · rw [e, upd_other _ _ hRN, upd_other _ _ hRM, upd_same]
  · rw [e, upd_other _ _ hMN, upd_same]; rfl
  · rw [e, upd_other _ _ h1, upd_other _ _ h3, upd_other _ _ h2]
def PutO (W : World) (T o : Nat) (L : List Pr) (Y : Nat → Prop) (key val : Bs) (e : Ending) (W' : World) : Prop :=
  e = .returned (.bool (getL L key).isNone) ∧ Tr W' T o (putL L key val) (GrowY Y W W') ∧ Kept Y W W'
end Go.Proofs.Ytegljepgncicjaa
