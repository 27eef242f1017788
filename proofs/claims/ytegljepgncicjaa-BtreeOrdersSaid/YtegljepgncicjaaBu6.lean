/- Btree: sorted lists of pairs; trees (IsT) over the ghost store. -/
import Derived.Test.YtegljepgncicjaaBu5
namespace Go.Proofs.Ytegljepgncicjaa
open Go.ChangeShapes Go.WideShapes Go.ChangeAt Go.RowKit Go.Deep
set_option linter.unusedVariables false
set_option linter.unusedSimpArgs false
abbrev Pr := Bs × Bs
def lB (a b : Bs) : Bool := Op.bytesLess a.toList b.toList
theorem less_irrefl : ∀ x : List UInt8, Op.bytesLess x x = false
  | [] => rfl
  | a :: x => by simp [Op.bytesLess, less_irrefl x]
theorem less_trans : ∀ x y z : List UInt8, Op.bytesLess x y = true → Op.bytesLess y z = true → Op.bytesLess x z = true
  | _, [], _, h, _ => by simp [Op.bytesLess] at h
  | [], _ :: _, [], _, h => by simp [Op.bytesLess] at h
  | [], _ :: _, _ :: _, _, _ => rfl
  | _ :: _, _ :: _, [], _, h => by simp [Op.bytesLess] at h
  | a :: x, b :: y, c :: z, h1, h2 => by
    simp only [Op.bytesLess, Bool.or_eq_true, decide_eq_true_eq, Bool.and_eq_true, beq_iff_eq] at *
    rcases h1 with h1 | ⟨rfl, h1⟩
    · rcases h2 with h2 | ⟨rfl, h2⟩
      · exact .inl (UInt8.lt_trans h1 h2)
      · exact .inl h1
    · rcases h2 with h2 | ⟨rfl, h2⟩
      · exact .inl h2
      · exact .inr ⟨rfl, less_trans x y z h1 h2⟩
theorem less_tri : ∀ x y : List UInt8, Op.bytesLess x y = false → Op.bytesLess y x = false → x = y
  | [], [], _, _ => rfl
  | [], _ :: _, h, _ => by simp [Op.bytesLess] at h
  | _ :: _, [], _, h => by simp [Op.bytesLess] at h
  | a :: x, b :: y, h1, h2 => by
    simp only [Op.bytesLess, Bool.or_eq_false_iff, decide_eq_false_iff_not, Bool.and_eq_false_iff, beq_eq_false_iff_ne] at *
    have hab : a = b := UInt8.le_antisymm (UInt8.not_lt.1 h2.1) (UInt8.not_lt.1 h1.1)
    subst hab
    rw [less_tri x y (h1.2.resolve_left (fun h => h rfl)) (h2.2.resolve_left (fun h => h rfl))]
theorem lB_irrefl (a : Bs) : lB a a = false := less_irrefl _
theorem lB_trans {a b c : Bs} (h1 : lB a b = true) (h2 : lB b c = true) : lB a c = true := less_trans _ _ _ h1 h2
theorem lB_tri {a b : Bs} (h1 : lB a b = false) (h2 : lB b a = false) : a = b := by
  have := less_tri _ _ h1 h2
  rw [ByteArray.toList_eq, ByteArray.toList_eq] at this
  cases a; cases b
  simp at this
  exact congrArg _ this
theorem lB_asymm {a b : Bs} (h : lB a b = true) : lB b a = false := by
  cases h2 : lB b a with
  | false => rfl
  | true => have := lB_trans h h2; rw [lB_irrefl] at this; cases this
theorem lB_ne {a b : Bs} (h : lB a b = true) : a ≠ b := fun e => by rw [e, lB_irrefl] at h; cases h
/-- what calls make of the list of pairs -/
def putL : List Pr → Bs → Bs → List Pr
  | [], k, v => [(k, v)]
  | (a, b) :: r, k, v => if lB a k = true then (a, b) :: putL r k v else if a = k then (k, v) :: r else (k, v) :: (a, b) :: r
def delL : List Pr → Bs → List Pr
  | [], _ => []
  | (a, b) :: r, k => if lB a k = true then (a, b) :: delL r k else if a = k then r else (a, b) :: r
def getL : List Pr → Bs → Option Bs
  | [], _ => none
  | (a, b) :: r, k => if lB a k = true then getL r k else if a = k then some b else none
def Srt (L : List Pr) : Prop := L.Pairwise fun x y => lB x.1 y.1 = true
theorem putL_left {A M : List Pr} {k v : Bs} (h : ∀ x ∈ A, lB x.1 k = true) : putL (A ++ M) k v = A ++ putL M k v := by
  induction A with
  | nil => rfl
  | cons a A ih =>
    obtain ⟨a, b⟩ := a
    rw [List.cons_append, putL, if_pos (h (a, b) (by simp)), ih (fun x hx => h x (by simp [hx]))]
    rfl
theorem delL_left {A M : List Pr} {k : Bs} (h : ∀ x ∈ A, lB x.1 k = true) : delL (A ++ M) k = A ++ delL M k := by
  induction A with
  | nil => rfl
  | cons a A ih =>
    obtain ⟨a, b⟩ := a
    rw [List.cons_append, delL, if_pos (h (a, b) (by simp)), ih (fun x hx => h x (by simp [hx]))]
    rfl
theorem getL_left {A M : List Pr} {k : Bs} (h : ∀ x ∈ A, lB x.1 k = true) : getL (A ++ M) k = getL M k := by
  induction A with
  | nil => rfl
  | cons a A ih =>
    obtain ⟨a, b⟩ := a
    rw [List.cons_append, getL, if_pos (h (a, b) (by simp)), ih (fun x hx => h x (by simp [hx]))]
theorem putL_right {M C : List Pr} {k v : Bs} (h : ∀ x ∈ C, lB k x.1 = true) : putL (M ++ C) k v = putL M k v ++ C := by
  induction M with
  | nil =>
    cases C with
    | nil => rfl
    | cons c C =>
      obtain ⟨a, b⟩ := c
      have h1 : lB k a = true := h (a, b) (by simp)
      show putL ((a, b) :: C) k v = (k, v) :: (a, b) :: C
      rw [putL, if_neg (by rw [lB_asymm h1]; simp), if_neg (lB_ne h1).symm]
  | cons a M ih =>
    obtain ⟨a, b⟩ := a
    rw [List.cons_append, putL, putL]
    split
    · rw [ih]; rfl
    · split <;> rfl
theorem delL_right {M C : List Pr} {k : Bs} (h : ∀ x ∈ C, lB k x.1 = true) : delL (M ++ C) k = delL M k ++ C := by
  induction M with
  | nil =>
    cases C with
    | nil => rfl
    | cons c C =>
      obtain ⟨a, b⟩ := c
      have h1 : lB k a = true := h (a, b) (by simp)
      show delL ((a, b) :: C) k = (a, b) :: C
      rw [delL, if_neg (by rw [lB_asymm h1]; simp), if_neg (lB_ne h1).symm]
  | cons a M ih =>
    obtain ⟨a, b⟩ := a
    rw [List.cons_append, delL, delL]
    split
    · rw [ih]; rfl
    · split <;> rfl
theorem getL_right {M C : List Pr} {k : Bs} (h : ∀ x ∈ C, lB k x.1 = true) : getL (M ++ C) k = getL M k := by
  induction M with
  | nil =>
    cases C with
    | nil => rfl
    | cons c C =>
      obtain ⟨a, b⟩ := c
      have h1 : lB k a = true := h (a, b) (by simp)
      show getL ((a, b) :: C) k = none
      rw [getL, if_neg (by rw [lB_asymm h1]; simp), if_neg (lB_ne h1).symm]
  | cons a M ih =>
    obtain ⟨a, b⟩ := a
    rw [List.cons_append, getL, getL]
    split
    · rw [ih]
    · split <;> rfl
/-- in order: a kid, a key, a kid, .. -/
def interR : List Pr → List (List Pr) → List Pr
  | k :: ks, c :: cs => k :: (c ++ interR ks cs)
  | _, _ => []
def inter (ks : List Pr) : List (List Pr) → List Pr
  | [] => []
  | c :: cs => c ++ interR ks cs
def interL : List (List Pr) → List Pr → List Pr
  | a :: A, k :: K => a ++ k :: interL A K
  | _, _ => []
theorem inter_mid : ∀ (A : List (List Pr)) (KA : List Pr) (x : List Pr) (C : List (List Pr)) (KC : List Pr), A.length = KA.length → inter (KA ++ KC) (A ++ x :: C) = interL A KA ++ (x ++ interR KC C)
  | [], [], x, C, KC, _ => rfl
  | a :: A, k :: KA, x, C, KC, h => by
    have ih := inter_mid A KA x C KC (by simpa using h)
    cases hA : A ++ x :: C with
    | nil => simp at hA
    | cons c cs =>
      rw [hA] at ih
      rw [List.cons_append, List.cons_append, hA]
      show a ++ interR (k :: (KA ++ KC)) (c :: cs) = a ++ k :: interL A KA ++ _
      rw [interR, List.append_assoc, List.cons_append]
      exact congrArg (fun t => a ++ k :: t) ih
  | [], _ :: _, _, _, _, h => by simp at h
  | _ :: _, [], _, _, _, h => by simp at h
structure Kid where
  id : Nat
  L : List Pr
  S : Nat → Prop
  lo : Nat
  hi : Nat
/-- a node with kids -/
structure Inn (σ : Sig) (T : Nat → Nat → Nat → List Pr → (Nat → Prop) → Prop) (N : Nat) (ks vs : List Bs) (cs : List Kid) (L : List Pr) (S : Nat → Prop) : Prop where
  at_ : σ N = some ⟨ks, vs, cs.map (·.id)⟩
  lv : vs.length = ks.length
  lc : cs.length = ks.length + 1
  eL : L = inter (ks.zip vs) (cs.map (·.L))
  sN : S N
  dom : ∀ k, S k → σ k ≠ none
  kids : ∀ c ∈ cs, T c.lo c.hi c.id c.L c.S ∧ ∀ k, c.S k → S k ∧ k ≠ N
  apart : cs.Pairwise fun a b => ∀ k, a.S k → ¬ b.S k
/-- a tree of height h + 1: lo to hi keys at N, o / 2 to o at every node below; the pairs L in order; the nodes lie in S -/
def IsT (σ : Sig) (o : Nat) : Nat → Nat → Nat → Nat → List Pr → (Nat → Prop) → Prop
  | 0, lo, hi, N, L, S => ∃ ks vs, σ N = some ⟨ks, vs, []⟩ ∧ vs.length = ks.length ∧ lo ≤ ks.length ∧ ks.length ≤ hi ∧ L = ks.zip vs ∧ S N ∧ ∀ k, S k → σ k ≠ none
  | h + 1, lo, hi, N, L, S => ∃ ks vs cs, lo ≤ ks.length ∧ ks.length ≤ hi ∧ Inn σ (IsT σ o h) N ks vs cs L S ∧ ∀ c ∈ cs, c.lo = o / 2 ∧ c.hi = o
theorem Inn.mono {σ : Sig} {T T' : Nat → Nat → Nat → List Pr → (Nat → Prop) → Prop} {N : Nat} {ks vs : List Bs} {cs : List Kid} {L : List Pr} {S : Nat → Prop} (h : Inn σ T N ks vs cs L S) (hT : ∀ c ∈ cs, T c.lo c.hi c.id c.L c.S → T' c.lo c.hi c.id c.L c.S) : Inn σ T' N ks vs cs L S :=
  ⟨h.at_, h.lv, h.lc, h.eL, h.sN, h.dom, fun c hc => ⟨hT c hc (h.kids c hc).1, (h.kids c hc).2⟩, h.apart⟩
theorem IsT.congr {σ σ' : Sig} {o : Nat} : ∀ {h lo hi N : Nat} {L : List Pr} {S : Nat → Prop}, IsT σ o h lo hi N L S → (∀ k, S k → σ' k = σ k) → IsT σ' o h lo hi N L S
  | 0, _, _, N, _, S, ⟨ks, vs, h1, h2, h3, h4, h5, h6, h7⟩, he => ⟨ks, vs, by rw [he N h6]; exact h1, h2, h3, h4, h5, h6, fun k hk => by rw [he k hk]; exact h7 k hk⟩
  | h + 1, _, _, N, _, S, ⟨ks, vs, cs, h1, h2, h3, h4⟩, he => ⟨ks, vs, cs, h1, h2, ⟨by rw [he N h3.sN]; exact h3.at_, h3.lv, h3.lc, h3.eL, h3.sN, fun k hk => by rw [he k hk]; exact h3.dom k hk, fun c hc => ⟨IsT.congr (h3.kids c hc).1 (fun k hk => he k ((h3.kids c hc).2 k hk).1), (h3.kids c hc).2⟩, h3.apart⟩, h4⟩
theorem IsT.super {σ : Sig} {o : Nat} {S' : Nat → Prop} : ∀ {h lo hi N : Nat} {L : List Pr} {S : Nat → Prop}, IsT σ o h lo hi N L S → (∀ k, S k → S' k) → (∀ k, S' k → σ k ≠ none) → IsT σ o h lo hi N L S'
  | 0, _, _, N, _, S, ⟨ks, vs, h1, h2, h3, h4, h5, h6, h7⟩, hs, hd => ⟨ks, vs, h1, h2, h3, h4, h5, hs _ h6, hd⟩
  | h + 1, _, _, N, _, S, ⟨ks, vs, cs, h1, h2, h3, h4⟩, hs, hd => ⟨ks, vs, cs, h1, h2, ⟨h3.at_, h3.lv, h3.lc, h3.eL, hs _ h3.sN, hd, fun c hc => ⟨(h3.kids c hc).1, fun k hk => ⟨hs k ((h3.kids c hc).2 k hk).1, ((h3.kids c hc).2 k hk).2⟩⟩, h3.apart⟩, h4⟩
theorem IsT.bounds {σ : Sig} {o : Nat} {lo' hi' : Nat} : ∀ {h lo hi N : Nat} {L : List Pr} {S : Nat → Prop}, IsT σ o h lo hi N L S → lo' ≤ lo → hi ≤ hi' → IsT σ o h lo' hi' N L S
  | 0, _, _, N, _, S, ⟨ks, vs, h1, h2, h3, h4, h5, h6, h7⟩, hl, hh => ⟨ks, vs, h1, h2, by omega, by omega, h5, h6, h7⟩
  | h + 1, _, _, N, _, S, ⟨ks, vs, cs, h1, h2, h3, h4⟩, hl, hh => ⟨ks, vs, cs, by omega, by omega, h3, h4⟩
theorem IsT.node {σ : Sig} {o : Nat} : ∀ {h lo hi N : Nat} {L : List Pr} {S : Nat → Prop}, IsT σ o h lo hi N L S → ∃ nd, σ N = some nd ∧ lo ≤ nd.ks.length ∧ nd.ks.length ≤ hi ∧ nd.vs.length = nd.ks.length ∧ S N ∧ (∀ k, S k → σ k ≠ none) ∧ (h = 0 → nd.ns = []) ∧ (h ≠ 0 → nd.ns.length = nd.ks.length + 1)
  | 0, _, _, N, _, S, ⟨ks, vs, h1, h2, h3, h4, h5, h6, h7⟩ => ⟨_, h1, h3, h4, h2, h6, h7, (fun _ => rfl), fun h => absurd rfl h⟩
  | h + 1, _, _, N, _, S, ⟨ks, vs, cs, h1, h2, h3, h4⟩ => ⟨_, h3.at_, h1, h2, h3.lv, h3.sN, h3.dom, (fun h => by cases h), fun _ => by simpa using h3.lc⟩
/-- exact number of keys -/
theorem IsT.exact {σ : Sig} {o : Nat} : ∀ {h lo hi N : Nat} {L : List Pr} {S : Nat → Prop} {nd : Nd}, IsT σ o h lo hi N L S → σ N = some nd → IsT σ o h nd.ks.length nd.ks.length N L S
  | 0, _, _, N, _, S, nd, ⟨ks, vs, h1, h2, h3, h4, h5, h6, h7⟩, hN => by
    rw [h1] at hN; cases hN
    exact ⟨ks, vs, h1, h2, Nat.le_refl _, Nat.le_refl _, h5, h6, h7⟩
  | h + 1, _, _, N, _, S, nd, ⟨ks, vs, cs, h1, h2, h3, h4⟩, hN => by
    have := h3.at_
    rw [hN] at this; cases this
    exact ⟨ks, vs, cs, Nat.le_refl _, Nat.le_refl _, h3, h4⟩
/-- what a call below S may do to the store -/
structure Ext (σ σ' : Sig) (S : Nat → Prop) : Prop where
  same : ∀ k, ¬ S k → σ k ≠ none → σ' k = σ k
  keep : ∀ k, σ k ≠ none → σ' k ≠ none
  frn : σ'.F = σ.F
def Grow (S : Nat → Prop) (σ σ' : Sig) (k : Nat) : Prop := S k ∨ (σ k = none ∧ σ' k ≠ none)
theorem Ext.refl (σ : Sig) (S : Nat → Prop) : Ext σ σ S := ⟨fun _ _ _ => rfl, fun _ h => h, rfl⟩
theorem Ext.trans {σ σ1 σ2 : Sig} {S S1 : Nat → Prop} (h : Ext σ σ1 S) (h2 : Ext σ1 σ2 S1) (hs : ∀ k, S1 k → σ k ≠ none → S k) : Ext σ σ2 S :=
  ⟨fun k hk hn => (h2.same k (fun h3 => hk (hs k h3 hn)) (h.keep k hn)).trans (h.same k hk hn), fun k hn => h2.keep k (h.keep k hn), h2.frn.trans h.frn⟩
theorem Ext.upd {σ : Sig} {S : Nat → Prop} {N : Nat} (nd : Nd) (hS : S N ∨ σ N = none) : Ext σ (upd σ N nd) S :=
  ⟨fun k hk hn => upd_other σ nd (fun e => by subst e; exact hS.elim hk hn), fun k hn => by rw [upd_k]; split <;> simp_all, rfl⟩
end Go.Proofs.Ytegljepgncicjaa
