/- Merged texts: Eh27, Eh28, Eh29, Eh30, Eh31. -/
import Derived.Test.YtfpgklhbghahoaaOe12
/- Election: at most one member wins a term (plain: no program in sight). -/
namespace Go.Proofs.Ytfpgklhbghahoaa
open Go.ChangeShapes Go.WideShapes Go.ChangeAt Go.RowKit Go.ChangeMaps Go.Joins Go.Deep
set_option linter.unusedVariables false
set_option linter.unusedSimpArgs false
set_option maxRecDepth 100000
theorem bit01 (vs : Int) (h0 : 0 ≤ vs) (k : Nat) : (vs / 2 ^ k).tmod 2 = if bitB vs k = true then 1 else 0 := by
  have h := bit_le vs h0 k
  unfold bitB
  rw [Int.toNat_natCast]
  by_cases h2 : (vs / 2 ^ k).tmod 2 = 0
  · simp [h2]
  · have h3 : (vs / 2 ^ k).tmod 2 = 1 := by omega
    simp [h3]
theorem cntB_step (vs : Int) (h0 : 0 ≤ vs) (k : Nat) : cntB vs (k + 1) = cntB vs k + if bitB vs k = true then 1 else 0 := by
  show cntB vs k + _ = _
  rw [bit01 vs h0 k]
/-- two sets without a common member are no larger than all -/
theorem cnt_apart {a b : Int} (ha : 0 ≤ a) (hb : 0 ≤ b) : ∀ n : Nat, (∀ k : Nat, k < n → bitB a k = true → bitB b k = true → False) → cntB a n + cntB b n ≤ n
  | 0, _ => Int.le_refl _
  | n + 1, h => by
    have ih := cnt_apart ha hb n (fun k hk => h k (by omega))
    rw [cntB_step a ha, cntB_step b hb]
    have hn := h n (by omega)
    by_cases h1 : bitB a n = true
    · by_cases h2 : bitB b n = true
      · exact (hn h1 h2).elim
      · rw [if_pos h1, if_neg h2]; omega
    · rw [if_neg h1]; split <;> omega
theorem or_small : ∀ vs < 128, ∀ xf < 7, ∀ k < 7, bitB (orB (vs : Nat) ((2 ^ xf : Nat) : Int)) ((k : Nat) : Int) = (bitB (vs : Nat) ((k : Nat) : Int) || k == xf) := by decide +kernel
theorem pow_small : ∀ i < 7, ∀ k < 7, bitB ((2 ^ i : Nat) : Int) ((k : Nat) : Int) = (k == i) := by decide +kernel
theorem or_bit {vs : Int} {xf k : Nat} (h0 : 0 ≤ vs) (h1 : vs < 128) (hx : xf < 7) (hk : k < 7) : bitB (orB vs (2 ^ (xf : Int).toNat)) k = (bitB vs k || k == xf) := by
  obtain ⟨n, rfl⟩ : ∃ n : Nat, vs = n := ⟨vs.toNat, by omega⟩
  have := or_small n (by omega) xf hx k hk
  simpa using this
theorem pow_bit {i k : Nat} (hi : i < 7) (hk : k < 7) : bitB (2 ^ (i : Int).toNat) k = (k == i) := by
  have := pow_small i hi k hk
  simpa using this
theorem cntB_pow : ∀ n < 8, ∀ i < n, cntB ((2 ^ i : Nat) : Int) n = 1 := by decide +kernel
theorem endB_refl (x : Int) (n : Nat) : endB x n x n = true := by unfold endB; simp
/-- what counts of a member; a log's length and last term -/
structure Mb where
  tm : Int
  vt : Int
  rl : Int
  ld : Int
  ti : Int
  vs : Int
structure LogC where
  len : Nat
  lt : Int
/-- a majority voted for i in term T -/
def Maj (n : Nat) (V : Nat → Int → Nat → Prop) (T : Int) (i : Nat) : Prop := ∃ vs : Int, 0 ≤ vs ∧ maj n ≤ cntB vs n ∧ ∀ k, k < n → bitB vs k = true → V k T i
/-- a message is in order -/
def MOK (n : Nat) (lg : Nat → LogC) (bd : Int) (V : Nat → Int → Nat → Prop) (m : Ms) : Prop :=
  ∃ f t : Nat, m.f = f ∧ m.t = t ∧ f < n ∧ t < n ∧ f ≠ t ∧ 0 ≤ m.tm ∧ m.tm ≤ bd ∧ ((m.k = 1 ∧ m.xi = (lg f).len ∧ m.xl = (lg f).lt) ∨ (m.k = 2 ∧ (m.ok = true → V f m.tm t)))
def upd1 (A : Nat → Mb) (j : Nat) (m : Mb) : Nat → Mb := fun k => if k = j then m else A k
theorem upd1_same (A : Nat → Mb) (j : Nat) (m : Mb) : upd1 A j m j = m := if_pos rfl
theorem upd1_other (A : Nat → Mb) {j k : Nat} (m : Mb) (h : k ≠ j) : upd1 A j m k = A k := if_neg h
structure Inv (n : Nat) (lg : Nat → LogC) (bd : Int) (A : Nat → Mb) (way : List Ms) (leads : List Int) (V : Nat → Int → Nat → Prop) : Prop where
  v1 : ∀ j T i, V j T i → j < n ∧ i < n
  uniq : ∀ j T i i', V j T i → V j T i' → i = i'
  le : ∀ j T i, V j T i → T ≤ (A j).tm
  now : ∀ j, j < n → (A j).vt = -1 ∨ ∃ i : Nat, (A j).vt = i ∧ V j (A j).tm i
  cur : ∀ j i, V j (A j).tm i → (A j).vt = i
  newer : ∀ j T i, V j T i → endB (lg i).lt (lg i).len (lg j).lt (lg j).len = true
  bits : ∀ i, i < n → (A i).rl = 1 → ∀ k, k < n → bitB (A i).vs k = true → V k (A i).tm i
  bnd : ∀ j, j < n → 0 ≤ (A j).tm ∧ (A j).tm ≤ bd
  msg : ∀ m ∈ way, MOK n lg bd V m
  lead : ∀ (T : Nat) (x : Int), leads[T]? = some x → x = -1 ∨ ∃ i : Nat, x = i ∧ i < n ∧ Maj n V T i ∧ ((T : Int) < (A i).tm ∨ ((T : Int) = (A i).tm ∧ (A i).rl = 2))
theorem Maj.mono {n : Nat} {V V' : Nat → Int → Nat → Prop} {T : Int} {i : Nat} (h : Maj n V T i) (hV : ∀ j T i, V j T i → V' j T i) : Maj n V' T i := by
  obtain ⟨vs, h0, h1, h2⟩ := h
  exact ⟨vs, h0, h1, fun k hk hb => hV _ _ _ (h2 k hk hb)⟩
theorem maj_two {n : Nat} (h1 : 1 ≤ n) (h7 : n ≤ 7) : (n : Int) < 2 * maj n ∧ maj n = (n : Int) / 2 + 1 := by
  unfold maj
  rw [if_pos ⟨by omega, by omega⟩]
  omega
theorem Maj.same {n : Nat} {V : Nat → Int → Nat → Prop} {T : Int} {i i' : Nat} (h1 : 1 ≤ n) (h7 : n ≤ 7) (hu : ∀ j T i i', V j T i → V j T i' → i = i') (h : Maj n V T i) (h' : Maj n V T i') : i = i' := by
  obtain ⟨a, a0, a1, a2⟩ := h
  obtain ⟨b, b0, b1, b2⟩ := h'
  by_cases he : i = i'
  · exact he
  · exfalso
    have := cnt_apart a0 b0 n (fun k hk p q => he (hu _ _ _ _ (a2 k hk p) (b2 k hk q)))
    have := maj_two h1 h7
    omega
theorem MOK.mono {n : Nat} {lg : Nat → LogC} {bd bd' : Int} {V V' : Nat → Int → Nat → Prop} {m : Ms} (h : MOK n lg bd V m) (hb : bd ≤ bd') (hV : ∀ j T i, V j T i → V' j T i) : MOK n lg bd' V' m := by
  obtain ⟨f, t, h1, h2, h3, h4, h5, h6, h7, h8⟩ := h
  refine ⟨f, t, h1, h2, h3, h4, h5, h6, by omega, ?_⟩
  rcases h8 with h8 | ⟨h8, h9⟩
  · exact .inl h8
  · exact .inr ⟨h8, fun ho => hV _ _ _ (h9 ho)⟩
/-- one member changes, and perhaps votes -/
theorem Inv.upd {n : Nat} {lg : Nat → LogC} {bd bd' : Int} {A : Nat → Mb} {way : List Ms} {leads : List Int} {V : Nat → Int → Nat → Prop} (h : Inv n lg bd A way leads V) (hbd : bd ≤ bd') {j : Nat} (hj : j < n) (m : Mb) (b : Prop) (i0 : Nat)
    (c1 : (A j).tm ≤ m.tm) (cb : m.tm ≤ bd') (c2 : m.tm = (A j).tm → ((A j).vt = m.vt ∧ (b → m.vt = i0)) ∨ ((A j).vt = -1 ∧ b ∧ m.vt = i0)) (c3 : (A j).tm < m.tm → (m.vt = -1 ∧ ¬ b) ∨ (b ∧ m.vt = i0)) (c4 : b → i0 < n ∧ endB (lg i0).lt (lg i0).len (lg j).lt (lg j).len = true)
    (c5 : m.rl = 1 → ∀ k, k < n → bitB m.vs k = true → V k m.tm j ∨ (b ∧ k = j ∧ j = i0)) (c6 : (A j).rl = 2 → m.tm = (A j).tm → m.rl = 2) :
    Inv n lg bd' (upd1 A j m) way leads (fun j' T i => V j' T i ∨ (b ∧ j' = j ∧ T = m.tm ∧ i = i0)) := by
  -- a vote of j in m's term, old or new, is for m.vt
  have hcur : ∀ i : Nat, V j m.tm i → m.vt = i := by
    intro i hv
    have hle := h.le _ _ _ hv
    have e : m.tm = (A j).tm := by omega
    have h1 := h.cur j i (e ▸ hv)
    rcases c2 e with ⟨h2, _⟩ | ⟨h2, _, _⟩
    · rw [← h2]; exact h1
    · rw [h2] at h1; omega
  have hb0 : b → m.vt = i0 := by
    intro hb
    rcases Int.lt_or_eq_of_le c1 with h1 | h1
    · rcases c3 h1 with h2 | h2
      · exact (h2.2 hb).elim
      · exact h2.2
    · rcases c2 h1.symm with h2 | h2
      · exact h2.2 hb
      · exact h2.2.2
  refine ⟨?_, ?_, ?_, ?_, ?_, ?_, ?_, ?_, ?_, ?_⟩
  · rintro j' T i (hv | ⟨hb, rfl, rfl, rfl⟩)
    · exact h.v1 _ _ _ hv
    · exact ⟨hj, (c4 hb).1⟩
  · rintro j' T i i' (hv | ⟨hb, rfl, rfl, rfl⟩) (hv' | ⟨hb', e1, e2, rfl⟩)
    · exact h.uniq _ _ _ _ hv hv'
    · subst e1; subst e2
      have h1 := hcur _ hv
      have h2 := hb0 hb'
      omega
    · have h1 := hcur _ hv'
      have h2 := hb0 hb
      omega
    · rfl
  · rintro j' T i (hv | ⟨hb, rfl, rfl, rfl⟩)
    · have := h.le _ _ _ hv
      by_cases e : j' = j
      · subst e; rw [upd1_same]; omega
      · rw [upd1_other A m e]; exact this
    · rw [upd1_same]; exact Int.le_refl _
  · intro j' hj'
    by_cases e : j' = j
    · subst e
      rw [upd1_same]
      rcases Int.lt_or_eq_of_le c1 with h1 | h1
      · rcases c3 h1 with h2 | h2
        · exact .inl h2.1
        · exact .inr ⟨i0, h2.2, .inr ⟨h2.1, rfl, rfl, rfl⟩⟩
      · rcases c2 h1.symm with h2 | h2
        · rcases h.now j' hj' with h3 | ⟨i, h3, h4⟩
          · exact .inl (h2.1 ▸ h3)
          · exact .inr ⟨i, by rw [← h2.1]; exact h3, .inl (by rw [← h1]; exact h4)⟩
        · exact .inr ⟨i0, h2.2.2, .inr ⟨h2.2.1, rfl, rfl, rfl⟩⟩
    · rw [upd1_other A m e]
      rcases h.now j' hj' with h3 | ⟨i, h3, h4⟩
      · exact .inl h3
      · exact .inr ⟨i, h3, .inl h4⟩
  · intro j' i hv
    by_cases e : j' = j
    · subst e
      rw [upd1_same] at hv ⊢
      rcases hv with hv | ⟨hb, _, _, rfl⟩
      · exact hcur _ hv
      · exact hb0 hb
    · rw [upd1_other A m e] at hv ⊢
      rcases hv with hv | ⟨_, e', _⟩
      · exact h.cur _ _ hv
      · exact (e e').elim
  · rintro j' T i (hv | ⟨hb, rfl, rfl, rfl⟩)
    · exact h.newer _ _ _ hv
    · exact (c4 hb).2
  · intro i hi hr k hk hbit
    by_cases e : i = j
    · subst e
      rw [upd1_same] at hr hbit ⊢
      rcases c5 hr k hk hbit with h1 | ⟨h1, h2, h3⟩
      · exact .inl h1
      · exact .inr ⟨h1, h2, rfl, h3⟩
    · rw [upd1_other A m e] at hr hbit ⊢
      exact .inl (h.bits i hi hr k hk hbit)
  · intro j' hj'
    by_cases e : j' = j
    · subst e
      rw [upd1_same]
      have := h.bnd j' hj'
      omega
    · rw [upd1_other A m e]
      have := h.bnd j' hj'
      omega
  · intro x hx
    exact (h.msg x hx).mono hbd (fun _ _ _ hv => .inl hv)
  · intro T x hx
    rcases h.lead T x hx with h1 | ⟨i, h1, h2, h3, h4⟩
    · exact .inl h1
    · refine .inr ⟨i, h1, h2, h3.mono (fun _ _ _ hv => .inl hv), ?_⟩
      by_cases e : i = j
      · subst e
        rw [upd1_same]
        rcases h4 with h4 | ⟨h4, h5⟩
        · exact .inl (by omega)
        · rcases Int.lt_or_eq_of_le c1 with h6 | h6
          · exact .inl (by omega)
          · exact .inr ⟨by omega, c6 h5 h6.symm⟩
      · rw [upd1_other A m e]; exact h4
theorem Inv.more {n : Nat} {lg : Nat → LogC} {bd : Int} {A : Nat → Mb} {way way' : List Ms} {leads : List Int} {V : Nat → Int → Nat → Prop} (h : Inv n lg bd A way leads V) (hm : ∀ m ∈ way', MOK n lg bd V m) : Inv n lg bd A way' leads V :=
  ⟨h.v1, h.uniq, h.le, h.now, h.cur, h.newer, h.bits, h.bnd, hm, h.lead⟩
theorem Inv.bound {n : Nat} {lg : Nat → LogC} {bd bd' : Int} {A : Nat → Mb} {way : List Ms} {leads : List Int} {V : Nat → Int → Nat → Prop} (h : Inv n lg bd A way leads V) (hb : bd ≤ bd') : Inv n lg bd' A way leads V :=
  ⟨h.v1, h.uniq, h.le, h.now, h.cur, h.newer, h.bits, fun j hj => ⟨(h.bnd j hj).1, Int.le_trans (h.bnd j hj).2 hb⟩, fun m hm => (h.msg m hm).mono hb (fun _ _ _ hv => hv), h.lead⟩
/-- a new primary: no other led in this term -/
theorem Inv.free {n : Nat} {lg : Nat → LogC} {bd : Int} {A : Nat → Mb} {way : List Ms} {leads : List Int} {V V' : Nat → Int → Nat → Prop} (h : Inv n lg bd A way leads V) (h1 : 1 ≤ n) (h7 : n ≤ 7) (hV : ∀ j T i, V j T i → V' j T i) (hu : ∀ j T i i', V' j T i → V' j T i' → i = i') {j T : Nat} (hM : Maj n V' T j) (hT : (A j).tm ≤ T) (hnot : ¬ ((T : Int) = (A j).tm ∧ (A j).rl = 2)) {x : Int} (hx : leads[T]? = some x) : x = -1 := by
  rcases h.lead T x hx with h2 | ⟨i, h2, h3, h4, h5⟩
  · exact h2
  · exfalso
    obtain rfl := Maj.same h1 h7 hu (h4.mono hV) hM
    rcases h5 with h5 | h5
    · omega
    · exact hnot h5
theorem Inv.leading {n : Nat} {lg : Nat → LogC} {bd : Int} {A : Nat → Mb} {way : List Ms} {leads : List Int} {V : Nat → Int → Nat → Prop} (h : Inv n lg bd A way leads V) {j T : Nat} (hj : j < n) (hM : Maj n V T j) (hT : (T : Int) = (A j).tm) (hr : (A j).rl = 2) : Inv n lg bd A way (leads.set T j) V := by
  refine ⟨h.v1, h.uniq, h.le, h.now, h.cur, h.newer, h.bits, h.bnd, h.msg, fun T' x hx => ?_⟩
  rw [List.getElem?_set] at hx
  split at hx
  · rename_i e
    subst e
    split at hx
    · obtain rfl := Option.some.inj hx
      exact .inr ⟨j, rfl, hj, hM, .inr ⟨hT, hr⟩⟩
    · cases hx
  · exact h.lead T' x hx
/-- how many of the first k logs are no newer than that of j -/
def oldN (lg : Nat → LogC) (j : Nat) : Nat → Int
  | 0 => 0
  | k + 1 => oldN lg j k + if endB (lg j).lt (lg j).len (lg k).lt (lg k).len = true then 1 else 0
theorem oldN_ge {n : Nat} {lg : Nat → LogC} {bd : Int} {A : Nat → Mb} {way : List Ms} {leads : List Int} {V : Nat → Int → Nat → Prop} (h : Inv n lg bd A way leads V) {vs T : Int} {j : Nat} (h0 : 0 ≤ vs) (hb : ∀ k, k < n → bitB vs k = true → V k T j) : ∀ k, k ≤ n → cntB vs k ≤ oldN lg j k
  | 0, _ => Int.le_refl _
  | k + 1, hk => by
    have ih := oldN_ge h h0 hb k (by omega)
    rw [cntB_step vs h0]
    unfold oldN
    by_cases hbit : bitB vs k = true
    · rw [if_pos hbit, if_pos (h.newer _ _ _ (hb k (by omega) hbit))]; omega
    · rw [if_neg hbit]; split <;> omega
theorem Inv.older {n : Nat} {lg : Nat → LogC} {bd : Int} {A : Nat → Mb} {way : List Ms} {leads : List Int} {V : Nat → Int → Nat → Prop} (h : Inv n lg bd A way leads V) (h1 : 1 ≤ n) (h7 : n ≤ 7) {T : Int} {j : Nat} (hM : Maj n V T j) : (n : Int) / 2 + 1 ≤ oldN lg j n := by
  obtain ⟨vs, h0, h2, h3⟩ := hM
  have := oldN_ge h h0 h3 n (Nat.le_refl _)
  have := (maj_two h1 h7).2
  omega
theorem oldN_range (lg : Nat → LogC) (j : Nat) : ∀ k, 0 ≤ oldN lg j k ∧ oldN lg j k ≤ k
  | 0 => ⟨Int.le_refl _, Int.le_refl _⟩
  | k + 1 => by
    have := oldN_range lg j k
    unfold oldN
    split <;> omega
end Go.Proofs.Ytfpgklhbghahoaa
/- Election: what a vote, a vote that came in and a campaign leave (plain). -/
namespace Go.Proofs.Ytfpgklhbghahoaa
open Go.ChangeShapes Go.WideShapes Go.ChangeAt Go.RowKit Go.ChangeMaps Go.Joins Go.Deep
set_option linter.unusedVariables false
set_option linter.unusedSimpArgs false
set_option maxRecDepth 100000
/-- a step of one member: the set stays in order -/
def StepOut (n : Nat) (lg : Nat → LogC) (bd : Int) (A : Nat → Mb) (j : Nat) (m : Mb) (way : List Ms) (leads : List Int) (V : Nat → Int → Nat → Prop) : Prop :=
  ∃ V' : Nat → Int → Nat → Prop, (∀ j T i, V j T i → V' j T i) ∧ Inv n lg bd (upd1 A j m) way leads V' ∧ (A j).tm ≤ m.tm ∧ (m.rl = 2 → ¬ ((A j).rl = 2 ∧ (A j).tm = m.tm) → Maj n V' m.tm j)
theorem newB_end (xl : Int) (len : Nat) (lt : Int) (gl : Nat) : newB xl (len : Int) lt gl = endB xl len lt gl := rfl
section
variable {n : Nat} {lg : Nat → LogC} {bd : Int} {A : Nat → Mb} {way : List Ms} {leads : List Int} {V : Nat → Int → Nat → Prop}
theorem step_vote (h : Inv n lg bd A way leads V) {m : Ms} (hm : MOK n lg bd V m) {j : Nat} (hj : m.t = j) (hk : m.k = 1) {m1 : Mb} {gr : Bool}
    (hv : VLet j (A j).tm (A j).vt (A j).rl (A j).ld (A j).ti (A j).vs m.tm m.f (newB m.xl m.xi (lg j).lt (lg j).len) m1.tm m1.vt m1.rl m1.ld m1.ti m1.vs gr) :
    ∃ V' : Nat → Int → Nat → Prop, (∀ j T i, V j T i → V' j T i) ∧ Inv n lg bd (upd1 A j m1) way leads V' ∧ MOK n lg bd V' ⟨j, m.f, 2, m1.tm, 0, 0, gr⟩ ∧ (A j).tm ≤ m1.tm ∧ (m1.rl = 2 → (A j).rl = 2 ∧ (A j).tm = m1.tm) := by
  obtain ⟨f, t, e1, e2, f1, f2, f3, f4, f5, f6⟩ := hm
  obtain rfl : t = j := by omega
  obtain ⟨q1, q2⟩ : m.xi = (lg f).len ∧ m.xl = (lg f).lt := by
    rcases f6 with ⟨_, a, b⟩ | ⟨a, _⟩
    · exact ⟨a, b⟩
    · omega
  obtain ⟨l1, l2⟩ := hv.le
  have hb := h.bnd t f2
  have htm : m1.tm ≤ bd := by rw [hv.etm]; unfold fTm; split <;> omega
  have hsame : m1.tm = (A t).tm → m.tm ≤ (A t).tm := by omega
  have hnew : (A t).tm < m1.tm → ¬ m.tm ≤ (A t).tm := by
    intro hlt hle
    have := hv.etm
    unfold fTm at this
    rw [if_pos hle] at this
    omega
  have hvt := hv.evt
  have hgr := hv.egr
  refine ⟨_, fun _ _ _ hx => .inl hx, h.upd (Int.le_refl _) f2 m1 (gr = true) f l1 htm ?_ ?_ ?_ ?_ ?_, ?_, l1, ?_⟩
  · intro e
    have hf : fVt (A t).tm m.tm (A t).vt = (A t).vt := by unfold fVt; rw [if_pos (hsame e)]
    rw [hf] at hvt hgr
    cases gr with
    | false => simp only [Bool.false_eq_true, if_false] at hvt; exact .inl ⟨hvt.symm, fun h => by cases h⟩
    | true =>
      simp only [if_true] at hvt
      obtain ⟨p1, p2, p3⟩ := grant_parts hgr.symm
      rcases p2 with p2 | p2
      · exact .inr ⟨p2, rfl, by omega⟩
      · exact .inl ⟨by omega, fun _ => by omega⟩
  · intro e
    have hf : fVt (A t).tm m.tm (A t).vt = -1 := by unfold fVt; rw [if_neg (hnew e)]
    rw [hf] at hvt
    cases gr with
    | false => simp only [Bool.false_eq_true, if_false] at hvt; exact .inl ⟨hvt, fun h => by cases h⟩
    | true => simp only [if_true] at hvt; exact .inr ⟨rfl, by omega⟩
  · intro hg
    subst hg
    obtain ⟨p1, p2, p3⟩ := grant_parts hgr.symm
    rw [q1, q2, newB_end] at p3
    exact ⟨f1, p3⟩
  · intro hr k hk' hbit
    have hrl := hv.erl
    have hle : m.tm ≤ (A t).tm := by
      by_cases hle : m.tm ≤ (A t).tm
      · exact hle
      · exfalso; unfold fRl at hrl; rw [if_neg hle] at hrl; omega
    have e1 : m1.tm = (A t).tm := by rw [hv.etm]; unfold fTm; rw [if_pos hle]
    have e2 : m1.rl = (A t).rl := by rw [hrl]; unfold fRl; rw [if_pos hle]
    have e3 : m1.vs = (A t).vs := by rw [hv.evs]; unfold fVs; rw [if_pos hle]
    rw [e1]
    exact .inl (h.bits t f2 (by omega) k hk' (by rw [← e3]; exact hbit))
  · intro hr e
    have hrl := hv.erl
    unfold fRl at hrl
    rw [if_pos (hsame e)] at hrl
    omega
  · refine ⟨t, f, rfl, e1, f2, f1, fun e => f3 e.symm, ?_, htm, .inr ⟨rfl, fun hg => ?_⟩⟩
    · show 0 ≤ m1.tm
      omega
    · exact .inr ⟨hg, rfl, rfl, rfl⟩
  · intro hr
    have hrl := hv.erl
    unfold fRl at hrl
    split at hrl
    · rename_i hle
      refine ⟨by omega, ?_⟩
      rw [hv.etm]; unfold fTm; rw [if_pos hle]
    · omega
/-- what a member is behind a vote that came in -/
def MbR (c : Nat) (id : Int) (a : Mb) (v2 xt : Int) (m1 : Mb) : Prop :=
  (c = 0 ∧ m1 = a) ∨ (c = 1 ∧ m1 = ⟨fTm a.tm xt, fVt a.tm xt a.vt, fRl a.tm xt a.rl, fLd a.tm xt a.ld, fTi a.tm xt a.rl a.ti id, fVs a.tm xt a.vs⟩) ∨ (c = 2 ∧ m1 = ⟨a.tm, a.vt, a.rl, a.ld, a.ti, v2⟩) ∨ (c = 3 ∧ m1 = ⟨a.tm, a.vt, 2, id, 1, v2⟩)
theorem vcase_1 {xk xt tm rl n2 mj : Int} {xok : Bool} (h : VCase xk xt tm rl xok n2 mj = 1) : tm < xt := by
  unfold VCase at h
  split at h
  · split at h
    · assumption
    · split at h
      · split at h <;> omega
      · omega
  · omega
theorem vcase_23 {xk xt tm rl n2 mj : Int} {xok : Bool} (h : VCase xk xt tm rl xok n2 mj = 2 ∨ VCase xk xt tm rl xok n2 mj = 3) : xk = 2 ∧ xt = tm ∧ rl = 1 ∧ xok = true ∧ (VCase xk xt tm rl xok n2 mj = 3 ↔ mj ≤ n2) := by
  unfold VCase at h ⊢
  split at h
  · rename_i h0
    rw [if_pos h0]
    split at h
    · omega
    · rename_i h1
      rw [if_neg h1]
      split at h
      · rename_i h2
        rw [if_pos h2]
        refine ⟨h0, h2.2.1, h2.1, h2.2.2, ?_⟩
        split
        · rename_i h3; exact ⟨fun _ => h3, fun _ => rfl⟩
        · rename_i h3; exact ⟨fun h => by omega, fun h => (h3 h).elim⟩
      · omega
  · omega
theorem step_voted (h : Inv n lg bd A way leads V) (h7 : n ≤ 7) {m : Ms} (hm : MOK n lg bd V m) {j f : Nat} (hj : m.t = j) (hf : m.f = f) {m1 : Mb} {v2 n2 : Int} (hvs : 0 ≤ (A j).vs ∧ (A j).vs < 128) (hv2 : v2 = orB (A j).vs (2 ^ m.f.toNat)) (hv0 : 0 ≤ v2) (hn2 : n2 = cntB v2 n) {c : Nat} (hc : c = VCase m.k m.tm (A j).tm (A j).rl m.ok n2 (maj n)) (hr : MbR c j (A j) v2 m.tm m1) : StepOut n lg bd A j m1 way leads V := by
  obtain ⟨f', t, e1, e2, f1, f2, f3, f4, f5, f6⟩ := hm
  obtain rfl : t = j := by omega
  obtain rfl : f' = f := by omega
  have hb := h.bnd t f2
  have hbit : ∀ k, k < n → bitB v2 k = true → bitB (A t).vs k = true ∨ k = f' := by
    intro k hk hbt
    rw [hv2, hf, or_bit hvs.1 hvs.2 (by omega) (by omega)] at hbt
    simpa using hbt
  have hvote : c = 2 ∨ c = 3 → ∀ k, k < n → bitB v2 k = true → V k (A t).tm t := by
    intro hc' k hk hbt
    rw [hc] at hc'
    obtain ⟨k1, k2, k3, k4, _⟩ := vcase_23 hc'
    rcases hbit k hk hbt with h1 | rfl
    · exact h.bits t f2 k3 k hk h1
    · rcases f6 with ⟨a, _⟩ | ⟨_, a⟩
      · omega
      · rw [← k2]; exact a k4
  have same : ∀ (m1 : Mb), m1.tm = (A t).tm → m1.vt = (A t).vt → (m1.rl = 1 → ∀ k, k < n → bitB m1.vs k = true → V k m1.tm t) → ((A t).rl = 2 → m1.rl = 2) → Inv n lg bd (upd1 A t m1) way leads (fun j' T i => V j' T i ∨ (False ∧ j' = t ∧ T = m1.tm ∧ i = 0)) := by
    intro m1 g1 g2 g3 g4
    exact h.upd (Int.le_refl _) f2 m1 False 0 (by omega) (by omega) (fun _ => .inl ⟨g2.symm, fun h => h.elim⟩) (fun h => by omega) (fun h => h.elim) (fun hr k hk hbt => .inl (g3 hr k hk hbt)) (fun hr _ => g4 hr)
  rcases hr with ⟨hc0, rfl⟩ | ⟨hc1, rfl⟩ | ⟨hc2, rfl⟩ | ⟨hc3, rfl⟩
  · exact ⟨_, fun _ _ _ hx => .inl hx, same _ rfl rfl (fun hr k hk hbt => h.bits t f2 hr k hk hbt) (fun hr => hr), Int.le_refl _, fun hr hn => (hn ⟨hr, rfl⟩).elim⟩
  · have hlt : (A t).tm < m.tm := vcase_1 (hc.symm.trans hc1)
    have hn : ¬ m.tm ≤ (A t).tm := by omega
    have e1 : fTm (A t).tm m.tm = m.tm := by unfold fTm; rw [if_neg hn]
    have e2 : fVt (A t).tm m.tm (A t).vt = -1 := by unfold fVt; rw [if_neg hn]
    have e3 : fRl (A t).tm m.tm (A t).rl = 0 := by unfold fRl; rw [if_neg hn]
    rw [e1, e2, e3]
    refine ⟨_, fun _ _ _ hx => .inl hx, h.upd (Int.le_refl _) f2 _ False 0 (Int.le_of_lt hlt) f5 (fun e => ?_) (fun _ => .inl ⟨rfl, id⟩) (fun h => h.elim) (fun hr => ?_) (fun _ e => ?_), Int.le_of_lt hlt, fun hr => ?_⟩
    · exact absurd e (by show ¬ m.tm = _; omega)
    · exact absurd hr (by show ¬ (0 : Int) = 1; omega)
    · exact absurd e (by show ¬ m.tm = _; omega)
    · exact absurd hr (by show ¬ (0 : Int) = 2; omega)
  · obtain ⟨_, _, k3, _, _⟩ := vcase_23 (.inl (hc.symm.trans hc2))
    exact ⟨_, fun _ _ _ hx => .inl hx, same _ rfl rfl (fun _ => hvote (.inl hc2)) (fun hr => hr), Int.le_refl _, fun hr hn => by have : (A t).rl = 2 := hr; omega⟩
  · obtain ⟨_, _, k3, _, k5⟩ := vcase_23 (.inr (hc.symm.trans hc3))
    exact ⟨_, fun _ _ _ hx => .inl hx, same _ rfl rfl (fun hr => absurd hr (by show ¬ (2 : Int) = 1; omega)) (fun _ => rfl), Int.le_refl _, fun _ _ => ⟨v2, hv0, by rw [← hn2]; exact k5.1 (hc.symm.trans hc3), fun k hk hbt => .inl (hvote (.inr hc3) k hk hbt)⟩⟩
theorem step_camp (h : Inv n lg bd A way leads V) (h1 : 1 ≤ n) (h7 : n ≤ 7) {j : Nat} (hj : j < n) {m1 : Mb} (e1 : m1.tm = (A j).tm + 1) (e2 : m1.vt = j) (e3 : m1.vs = 2 ^ (j : Int).toNat) (e4 : m1.rl = 1 ∨ (m1.rl = 2 ∧ n = 1)) :
    ∃ V' : Nat → Int → Nat → Prop, (∀ j T i, V j T i → V' j T i) ∧ Inv n lg (bd + 1) (upd1 A j m1) way leads V' ∧ (A j).tm ≤ m1.tm ∧ (m1.rl = 2 → Maj n V' m1.tm j) := by
  have hb := h.bnd j hj
  refine ⟨_, fun _ _ _ hx => .inl hx, h.upd (by omega) hj m1 True j (by omega) (by omega) (fun e => by omega) (fun _ => .inr ⟨trivial, e2⟩) (fun _ => ⟨hj, endB_refl _ _⟩) (fun hr k hk hbt => ?_) (fun _ e => by omega), by omega, fun hr => ?_⟩
  · rw [e3, pow_bit (by omega) (by omega)] at hbt
    exact .inr ⟨trivial, by simpa using hbt, rfl⟩
  · obtain rfl : n = 1 := by omega
    obtain rfl : j = 0 := by omega
    refine ⟨1, by decide, by decide, fun k hk _ => .inr ⟨trivial, by omega, rfl, rfl⟩⟩
theorem reqs_ok {bd T : Int} {j : Nat} (hj : j < n) (hT : 0 ≤ T) (hb : T ≤ bd) : ∀ q, q ≤ n → ∀ m ∈ reqs (j : Int) T ((lg j).len : Int) (lg j).lt q, MOK n lg bd V m
  | 0, _, m, hm => by cases hm
  | q + 1, hq, m, hm => by
    unfold reqs at hm
    rcases List.mem_append.1 hm with hm | hm
    · exact reqs_ok hj hT hb q (by omega) m hm
    · split at hm
      · cases hm
      · rename_i hne
        rw [List.mem_singleton.1 hm]
        exact ⟨j, q, rfl, rfl, hj, by omega, fun e => hne (by omega), hT, hb, .inl ⟨rfl, rfl, rfl⟩⟩
end
end Go.Proofs.Ytfpgklhbghahoaa
/- Election: a member of the set in memory; its state stays possible (plain). -/
namespace Go.Proofs.Ytfpgklhbghahoaa
open Go.ChangeShapes Go.WideShapes Go.ChangeAt Go.RowKit Go.ChangeMaps Go.Joins Go.Deep
set_option linter.unusedVariables false
set_option linter.unusedSimpArgs false
set_option maxRecDepth 100000
theorem validB_congr {id sz tm vt rl ld ti vs cm : Int} {es es' : List (List Value)} {xs ys : List Int} (hl : es'.length = es.length) (ht : es'.map trm = es.map trm) (hs : es'.map stp = es.map stp) : validB id sz tm vt rl ld ti vs cm es' xs ys = validB id sz tm vt rl ld ti vs cm es xs ys := by
  unfold validB restB lgB
  rw [logB_congr tm es es' 0 0 ht hs, hl]
theorem inB_next (gl k : Nat) : inB (gl : Int) (nextL gl k) = true := by
  unfold inB
  rw [List.all_eq_true]
  intro x hx
  rw [List.eq_of_mem_replicate hx]
  simp
theorem inB_match (gl k j : Nat) : inB (gl : Int) (matchL gl k j) = true := by
  unfold inB
  rw [List.all_eq_true]
  intro x hx
  rcases List.mem_or_eq_of_mem_set hx with hx | rfl
  · rw [List.eq_of_mem_replicate hx]; simp
  · simp
theorem valid_voted {id sz cm xt : Int} {f : Nat} {a m1 : Mb} {es : List (List Value)} {xs ys : List Int} {xk : Int} {xok : Bool} {v2 n2 : Int} {c : Nat} (hv : validB id sz a.tm a.vt a.rl a.ld a.ti a.vs cm es xs ys = true) (hf : (f : Int) < sz) (hfi : (f : Int) ≠ id) (hx0 : 0 ≤ xt)
    (hv2 : v2 = orB a.vs (2 ^ (f : Int).toNat)) (hn2 : n2 = cntB v2 sz.toNat) (hc : c = VCase xk xt a.tm a.rl xok n2 (maj sz)) (hr : MbR c id a v2 xt m1) :
    validB id sz m1.tm m1.vt m1.rl m1.ld m1.ti m1.vs cm es (if c = 1 then [] else if c = 3 then nextL es.length sz.toNat else xs) (if c = 1 then [] else if c = 3 then matchL es.length sz.toNat id.toNat else ys) = true := by
  obtain ⟨⟨g1, g2, g3, g4, g5, g6, g7, g8, g9⟩, k1, k2, k3, k4, k5⟩ := valid_g hv
  have hb2 : 0 ≤ v2 ∧ v2 < 2 ^ sz.toNat := by rw [hv2]; exact orB_in k4 g1 g2 k5 (by omega) hf
  have hid : id = (id.toNat : Int) := by omega
  have hbit : bitB a.vs id = true → bitB v2 id = true := by
    intro h
    rw [hv2, hid, or_bit k4 (pow7 g2 k5) (by omega) (by omega), ← hid, h]; rfl
  rcases hr with ⟨hc0, rfl⟩ | ⟨hc1, rfl⟩ | ⟨hc2, rfl⟩ | ⟨hc3, rfl⟩
  · rw [if_neg (by omega), if_neg (by omega), if_neg (by omega), if_neg (by omega)]; exact hv
  · rw [if_pos hc1, if_pos hc1]
    have hlt : a.tm < xt := vcase_1 (hc.symm.trans hc1)
    have hn : ¬ xt ≤ a.tm := by omega
    exact valid_vote (gr := false) (nw := false) (xf := f) (xt := xt) hv (by omega) hf hfi hx0 rfl rfl rfl (by rw [if_neg hn]) (by rw [if_neg hn]) rfl (by unfold grantB; simp) rfl rfl rfl rfl rfl
  · rw [if_neg (by omega), if_neg (by omega), if_neg (by omega), if_neg (by omega)]
    obtain ⟨_, _, k3', _, k5'⟩ := vcase_23 (.inl (hc.symm.trans hc2))
    have hno : ¬ maj sz ≤ n2 := fun h => by have := k5'.2 h; omega
    have hv' := hv
    unfold validB restB roleB firstB at hv' ⊢
    simp only [k3', Bool.and_eq_true, decide_eq_true_eq] at hv' ⊢
    obtain ⟨⟨h1, h2⟩, h3, h4⟩ := hv'
    rw [if_neg (by omega), if_pos trivial] at h4 ⊢
    simp only [Bool.and_eq_true, decide_eq_true_eq] at h4 ⊢
    obtain ⟨⟨⟨⟨⟨p1, p2⟩, p3⟩, p4⟩, p5⟩, p6⟩ := h4
    exact ⟨⟨h1, by omega, by omega, k3, hb2.1, hb2.2⟩, h3, ⟨⟨⟨⟨p1, p2⟩, hbit p3⟩, p4⟩, by omega⟩, p6⟩
  · rw [if_neg (by omega), if_pos hc3, if_neg (by omega), if_pos hc3]
    obtain ⟨_, _, k3', _, k5'⟩ := vcase_23 (.inr (hc.symm.trans hc3))
    have hyes : maj sz ≤ n2 := k5'.1 (hc.symm.trans hc3)
    have hv' := hv
    unfold validB restB roleB firstB at hv' ⊢
    simp only [k3', Bool.and_eq_true, decide_eq_true_eq] at hv' ⊢
    obtain ⟨⟨h1, h2⟩, h3, h4⟩ := hv'
    rw [if_neg (by omega), if_pos trivial] at h4
    rw [if_neg (by omega), if_neg (by omega)]
    simp only [Bool.and_eq_true, decide_eq_true_eq] at h4 ⊢
    obtain ⟨⟨⟨⟨⟨p1, p2⟩, p3⟩, p4⟩, p5⟩, p6⟩ := h4
    have e1 : ((nextL (es.length : Int) sz.toNat).length : Int) = sz := by rw [nextL_len]; omega
    have e2 : ((matchL (es.length : Int) sz.toNat id.toNat).length : Int) = sz := by rw [matchL_len]; omega
    exact ⟨⟨⟨g1, g2, g3, g4, g5, g6, g7, by omega, by omega⟩, by omega, by omega, by omega, hb2.1, hb2.2⟩, h3, ⟨⟨⟨⟨⟨p1, p2⟩, hbit p3⟩, trivial⟩, by omega⟩, e1, e2⟩, inB_next _ _, inB_match _ _ _⟩
theorem valid_camp {id sz cm : Int} {a m1 : Mb} {es : List (List Value)} {xs ys : List Int} (hv : validB id sz a.tm a.vt a.rl a.ld a.ti a.vs cm es xs ys = true) (e1 : m1.tm = a.tm + 1) (e2 : m1.vt = id) (e3 : m1.vs = 2 ^ id.toNat)
    (h : (sz = 1 ∧ m1.rl = 2 ∧ m1.ld = id ∧ m1.ti = 1) ∨ (¬ sz = 1 ∧ m1.rl = 1 ∧ m1.ld = -1 ∧ m1.ti = 10 + 3 * id)) :
    validB id sz m1.tm m1.vt m1.rl m1.ld m1.ti m1.vs cm es (if sz = 1 then nextL es.length sz.toNat else []) (if sz = 1 then matchL es.length sz.toNat id.toNat else []) = true := by
  obtain ⟨⟨g1, g2, g3, g4, g5, g6, g7, g8, g9⟩, k1, k2, k3, k4, k5⟩ := valid_g hv
  have hid : id = (id.toNat : Int) := by omega
  have hp : (0 : Int) < 2 ^ id.toNat := Int.pow_pos (by decide)
  have hlt : (2 : Int) ^ id.toNat < 2 ^ sz.toNat := by
    have := Nat.pow_lt_pow_right (show 1 < 2 by decide) (show id.toNat < sz.toNat by omega)
    exact_mod_cast this
  have hb : bitB (2 ^ id.toNat) id = true := by
    have := pow_bit (i := id.toNat) (k := id.toNat) (by omega) (by omega)
    rw [Int.toNat_natCast, ← hid] at this
    rw [this]; simp
  have hcnt : cntB (2 ^ id.toNat) sz.toNat = 1 := by
    have := cntB_pow sz.toNat (by omega) id.toNat (by omega)
    simpa using this
  have hv' := hv
  unfold validB restB lgB at hv' ⊢
  simp only [Bool.and_eq_true, decide_eq_true_eq] at hv' ⊢
  obtain ⟨_, ⟨l1, l2⟩, _⟩ := hv'
  have hl1 : logB m1.tm 0 0 es = true := logB_mono (by omega) es 0 0 l1
  rcases h with ⟨h1, h2, h3, h4⟩ | ⟨h1, h2, h3, h4⟩
  · rw [if_pos h1, if_pos h1]
    refine ⟨⟨⟨g1, g2, g3, g4, by omega, by omega, by omega, by omega, by omega⟩, by omega, by omega, by omega, by omega, by omega⟩, ⟨hl1, l2⟩, ?_⟩
    unfold roleB firstB
    rw [if_neg (by omega), if_neg (by omega), e3, hb, hcnt, inB_next, inB_match]
    have e1' : ((nextL (es.length : Int) sz.toNat).length : Int) = sz := by rw [nextL_len]; omega
    have e2' : ((matchL (es.length : Int) sz.toNat id.toNat).length : Int) = sz := by rw [matchL_len]; omega
    have hm : maj sz ≤ 1 := by rw [h1]; decide
    simp only [Bool.and_eq_true, decide_eq_true_eq]
    exact ⟨⟨⟨⟨⟨⟨by omega, e2⟩, trivial⟩, h3⟩, hm⟩, e1', e2'⟩, trivial, trivial⟩
  · rw [if_neg h1, if_neg h1]
    refine ⟨⟨⟨g1, g2, g3, g4, by omega, by omega, by omega, by omega, by omega⟩, by omega, by omega, by omega, by omega, by omega⟩, ⟨hl1, l2⟩, ?_⟩
    unfold roleB firstB
    rw [if_neg (by omega), if_pos h2, e3, hb, hcnt]
    have hm : 1 < maj sz := by unfold maj; rw [if_pos ⟨g1, g2⟩]; omega
    simp only [Bool.and_eq_true, decide_eq_true_eq]
    exact ⟨⟨⟨⟨⟨by omega, e2⟩, trivial⟩, h3⟩, hm⟩, rfl, rfl⟩
end Go.Proofs.Ytfpgklhbghahoaa
/- Election: a member of the set in memory. -/
namespace Go.Proofs.Ytfpgklhbghahoaa
open Go.ChangeShapes Go.WideShapes Go.ChangeAt Go.RowKit Go.ChangeMaps Go.Joins Go.Deep
set_option linter.unusedVariables false
set_option linter.unusedSimpArgs false
set_option maxRecDepth 100000
/-- numbers that lie in blocks of F -/
def IntF (W : World) (F : Nat → Prop) (v : Value) (xs : List Int) : Prop := IntsIn W v xs ∧ ∃ k, EqC Try.prog W W F F (k + 1) 23 [v] [v]
theorem ints_kept {W W' : World} {F F' : Nat → Prop} {n : Nat} {v : Value} {xs : List Int} (he : IntsIn W v xs) (h : EqC Try.prog W W' F F' n 23 [v] [v]) : IntsIn W' v xs := ints_copyW he h
theorem IntF.kept {W W' : World} {F G : Nat → Prop} {v : Value} {xs : List Int} (h : IntF W F v xs) (hs : W.heap.size ≤ W'.heap.size) (hk : ∀ k, F k → k < W.heap.size → W'.heap[k]? = W.heap[k]?) (hG : ∀ k, F k → k < W.heap.size → G k) : IntF W' G v xs := by
  obtain ⟨h1, k, h2⟩ := h
  refine ⟨?_, k, EqC.kept hs hs hk hk hG hG _ _ _ _ h2⟩
  exact ints_kept (W := W) h1 (EqC.kept (Nat.le_refl _) hs (fun _ _ _ => rfl) hk (fun _ _ _ => trivial) hG _ _ _ _ h2 : EqC Try.prog W W' TT G (k + 1) 23 [v] [v])
theorem IntF.nil (W : World) (F : Nat → Prop) : IntF W F (.slice none 0 0) [] := ⟨.inl ⟨rfl, _, _, rfl⟩, 0, nil_eqC⟩
theorem IntF.row {W : World} {F : Nat → Prop} {v : Value} {xs : List Int} {g : Nat} (h : IntRow W v xs) (hg : v.ownBlock = some g) (hF : F g) (hw : ∀ x ∈ xs, (Lit.int .i64 x).wf = true) (h0 : 0 < xs.length) (hl : xs.length ≤ 1000000) : IntF W F v xs := by
  have hq := intRow_eqC (n := 0) h h hw hl
  obtain ⟨g', cap, rfl, h1, h2, h3, h4⟩ := h
  obtain rfl : g' = g := Option.some.inj hg
  refine ⟨.inr ⟨g', 0, cap, rfl, h3, h0, by omega, fun j hj => by rw [Nat.zero_add]; exact h4 j hj⟩, 1, ?_⟩
  unfold EqC at hq ⊢
  simp only [Try.underlying23] at hq ⊢
  obtain ⟨a, l, c, a', c', e1, e2, q3, q4, q5, q6, q7⟩ := hq
  refine ⟨a, l, c, a', c', e1, e2, q3, q4, q5, q6, fun hl0 => ?_⟩
  obtain ⟨B, o, B', o', f1, f2, hB, hB', hj⟩ := q7 hl0
  obtain ⟨i1, _, _⟩ := Value.slice.inj (List.cons.inj e1).1
  obtain ⟨i2, _, _⟩ := Value.slice.inj (List.cons.inj e2).1
  rw [← i1] at f1
  rw [← i2] at f2
  obtain ⟨rfl, rfl, _⟩ := Addr.mk.inj (Option.some.inj f1)
  obtain ⟨rfl, rfl, _⟩ := Addr.mk.inj (Option.some.inj f2)
  refine ⟨_, _, _, _, by rw [← i1], by rw [← i2], ⟨hF, hB.2⟩, ⟨hF, hB'.2⟩, fun j hjl => ?_⟩
  obtain ⟨xs', ys', k1, k2, k3, k4, k5⟩ := hj j hjl
  refine ⟨xs', ys', k1, k2, k3, k4, ?_⟩
  have e1c : Try.prog.cellsOf 3 = 1 := by kernel_rfl
  rw [e1c] at k1 k2
  match xs', k1, ys', k2 with
  | [x], _, [y], _ =>
    obtain ⟨t, rfl, rfl⟩ := eqC_int2W k5
    exact int_eqC (eqC_wf k5)
/-- a log that the set began with -/
structure LgI (W0 : World) (lg0 : Value) (L : LogC) (es0 : List (List Value)) : Prop where
  ent : EntArg W0 lg0 es0
  len : es0.length = L.len
  last : LastAt W0 lg0 L.lt
  few : L.len ≤ 20
/-- member j in memory: its log holds what the first one held -/
def MemI (W0 W : World) (F : Nat → Prop) (n : Nat) (j : Nat) (lg0 : Value) (L : LogC) (es0 : List (List Value)) (m : Mb) (cs : List Value) : Prop :=
  ∃ ga gc na nl nc ma ml mc xs ys k, cs = memL (j : Int) (n : Int) m.tm m.vt m.rl m.ld m.ti m.vs (.slice ga L.len gc) 0 (.slice na nl nc) (.slice ma ml mc) ∧
    EqC Try.prog W0 W TT F (k + 1) 22 [lg0] [.slice ga L.len gc] ∧ IntF W F (.slice na nl nc) xs ∧ IntF W F (.slice ma ml mc) ys ∧
    validB (j : Int) (n : Int) m.tm m.vt m.rl m.ld m.ti m.vs 0 es0 xs ys = true ∧ (∀ x ∈ [(j : Int), (n : Int), m.tm, m.vt, m.rl, m.ld, m.ti, m.vs, 0], (Lit.int .i64 x).wf = true)
theorem MemI.kept {W0 W W' : World} {F G : Nat → Prop} {n j : Nat} {lg0 : Value} {L : LogC} {es0 : List (List Value)} {m : Mb} {cs : List Value} (h : MemI W0 W F n j lg0 L es0 m cs) (hs : W.heap.size ≤ W'.heap.size) (hk : ∀ k, F k → k < W.heap.size → W'.heap[k]? = W.heap[k]?) (hG : ∀ k, F k → k < W.heap.size → G k) : MemI W0 W' G n j lg0 L es0 m cs := by
  obtain ⟨ga, gc, na, nl, nc, ma, ml, mc, xs, ys, k, e, h8, h10, h11, hv, hw⟩ := h
  exact ⟨ga, gc, na, nl, nc, ma, ml, mc, xs, ys, k, e, EqC.kept (Nat.le_refl _) hs (fun _ _ _ => rfl) hk (fun _ _ _ => trivial) hG _ _ _ _ h8, h10.kept hs hk hG, h11.kept hs hk hG, hv, hw⟩
/-- what a call needs to know of a member -/
theorem MemI.parts {W0 W : World} {F : Nat → Prop} {n j : Nat} {lg0 : Value} {L : LogC} {es0 : List (List Value)} {m : Mb} {cs : List Value} (h : MemI W0 W F n j lg0 L es0 m cs) (hL : LgI W0 lg0 L es0) :
    ∃ ga gc na nl nc ma ml mc xs ys k, cs = memL (j : Int) (n : Int) m.tm m.vt m.rl m.ld m.ti m.vs (.slice ga L.len gc) 0 (.slice na nl nc) (.slice ma ml mc) ∧
      GoodC Try.prog W (k + 2) 25 (memL (j : Int) (n : Int) m.tm m.vt m.rl m.ld m.ti m.vs (.slice ga L.len gc) 0 (.slice na nl nc) (.slice ma ml mc)) ∧ LastAt W (.slice ga L.len gc) L.lt ∧
      EqC Try.prog W0 W TT F (k + 1) 22 [lg0] [.slice ga L.len gc] ∧ IntF W F (.slice na nl nc) xs ∧ IntF W F (.slice ma ml mc) ys ∧
      validB (j : Int) (n : Int) m.tm m.vt m.rl m.ld m.ti m.vs 0 es0 xs ys = true ∧ (∀ x ∈ [(j : Int), (n : Int), m.tm, m.vt, m.rl, m.ld, m.ti, m.vs, 0], (Lit.int .i64 x).wf = true) := by
  obtain ⟨ga, gc, na, nl, nc, ma, ml, mc, xs, ys, k, e, h8, h10, h11, hv, hw⟩ := h
  obtain ⟨i10, k10, q10⟩ := id h10
  obtain ⟨i11, k11, q11⟩ := id h11
  have g8 : GoodC Try.prog W (k + 1) 22 [.slice ga L.len gc] := EqC.good _ _ _ _ (EqC.symm _ _ _ _ h8)
  have s8 : EqC Try.prog W W TT TT (k + 1) 22 [.slice ga L.len gc] [.slice ga L.len gc] := EqC.refl (fun _ _ => trivial) _ _ _ g8
  refine ⟨ga, gc, na, nl, nc, ma, ml, mc, xs, ys, max k (max k10 k11), e, ?_, lastAt_W h8 hL.last, EqC.upTo h8 (by omega), h10, h11, hv, hw⟩
  exact EqC.good _ _ _ _ (memEq (F := TT) (F' := TT) hw (EqC.upTo s8 (by omega)) (EqC.upTo q10.tt (by omega)) (EqC.upTo q11.tt (by omega)))
/-- the log of a member that a call left -/
theorem log_trans {W0 W w' : World} {F F1 G : Nat → Prop} {k m : Nat} {lg0 lg lg1 : Value} (hs : W.heap.size ≤ w'.heap.size) (hk : ∀ k, F k → k < W.heap.size → w'.heap[k]? = W.heap[k]?) (h : EqC Try.prog W0 W TT F (k + 1) 22 [lg0] [lg]) (h' : EqC Try.prog w' w' F1 G (m + 1) 22 [lg] [lg1]) : ∃ k', EqC Try.prog W0 w' TT G (k' + 1) 22 [lg0] [lg1] := by
  have h1 : EqC Try.prog W0 w' TT TT (k + 1) 22 [lg0] [lg] := EqC.kept (Nat.le_refl _) hs (fun _ _ _ => rfl) hk (fun _ _ _ => trivial) (fun _ _ _ => trivial) _ _ _ _ h
  exact ⟨max k m, EqC.trans _ _ _ _ _ (EqC.upTo h1 (by omega)) (EqC.upTo h' (by omega))⟩
theorem IntF.copy {w' : World} {F1 G : Nat → Prop} {m : Nat} {v v1 : Value} {xs : List Int} (hi : IntsIn w' v xs) (h : EqC Try.prog w' w' F1 G (m + 1) 23 [v] [v1]) : IntF w' G v1 xs :=
  ⟨ints_copyW hi h, m, EqC.trans _ _ _ _ _ (EqC.symm _ _ _ _ h) h⟩
end Go.Proofs.Ytfpgklhbghahoaa
/- Election: Voted, with the owners of its rows. -/
namespace Go.Proofs.Ytfpgklhbghahoaa
open Go.ChangeShapes Go.WideShapes Go.ChangeAt Go.RowKit Go.ChangeMaps Go.Joins Go.Deep
set_option linter.unusedVariables false
set_option linter.unusedSimpArgs false
set_option maxRecDepth 100000
/-- what the member is behind a vote that came in, and whose its new rows are -/
def VRo (B : Nat) (W : World) (c : Nat) (id sz tm vt rl ld ti vs v2 cm xt : Int) (ga : Option Addr) (gl gc : Nat) (na : Option Addr) (nl nc : Nat) (ma : Option Addr) (ml mc : Nat) (cs : List Value) : Prop :=
  (c = 0 ∧ cs = memL id sz tm vt rl ld ti vs (.slice ga gl gc) cm (.slice na nl nc) (.slice ma ml mc)) ∨
  (c = 1 ∧ cs = memL id sz (fTm tm xt) (fVt tm xt vt) (fRl tm xt rl) (fLd tm xt ld) (fTi tm xt rl ti id) (fVs tm xt vs) (.slice ga gl gc) cm (.slice (fA tm xt na) (fN tm xt nl) (fN tm xt nc)) (.slice (fA tm xt ma) (fN tm xt ml) (fN tm xt mc))) ∨
  (c = 2 ∧ cs = memL id sz tm vt rl ld ti v2 (.slice ga gl gc) cm (.slice na nl nc) (.slice ma ml mc)) ∨
  (c = 3 ∧ ∃ pa pl pc sa sl sc, cs = memL id sz tm vt 2 id 1 v2 (.slice ga gl gc) cm (.slice pa pl pc) (.slice sa sl sc) ∧ IntRow W (.slice pa pl pc) (nextL gl sz.toNat) ∧ IntRow W (.slice sa sl sc) (matchL gl sz.toNat id.toNat) ∧ (∃ g, (Value.slice pa pl pc).ownBlock = some g ∧ B ≤ g) ∧ (∃ g, (Value.slice sa sl sc).ownBlock = some g ∧ B ≤ g))
theorem voted_own (n : Nat) (id sz tm vt rl ld ti vs : Int) (ga : Option Addr) (gl gc : Nat) (cm : Int) (na : Option Addr) (nl nc : Nat) (ma : Option Addr) (ml mc : Nat) (xf xto xk xt xi xl xc : Int) (ea : Option Addr) (el ec : Nat) (xok : Bool) (W0 w : World) (hb0 : Below W0.heap.size W0 w) (hg : GoodC Try.prog W0 n 25 (memL id sz tm vt rl ld ti vs (.slice ga gl gc) cm (.slice na nl nc) (.slice ma ml mc))) (h0 : 0 ≤ id) (hid : id < sz) (h1 : 1 ≤ sz) (h7 : sz ≤ 7) (hv0 : 0 ≤ vs) (hvs : vs < 2 ^ sz.toNat) (hx0 : 0 ≤ xf) (hxs : xf < sz) (v2 n2 : Int) (hv2 : v2 = orB vs (2 ^ xf.toNat)) (hn2 : n2 = cntB v2 sz.toNat) (c : Nat) (hc : c = VCase xk xt tm rl xok n2 (maj sz)) :
    Calls Try.prog 22 #[mem id sz tm vt rl ld ti vs (.slice ga gl gc) cm (.slice na nl nc) (.slice ma ml mc), .agg #[.int .i64 xf, .int .i64 xto, .int .i64 xk, .int .i64 xt, .int .i64 xi, .int .i64 xl, .int .i64 xc, .slice ea el ec, .bool xok]] w fun e w' => ∃ ga2 gc2 na2 nc2 ma2 mc2 cs, e = .returned (.agg cs.toArray) ∧ VRo w.heap.size w' c id sz tm vt rl ld ti vs v2 cm xt ga2 gl gc2 na2 nl nc2 ma2 ml mc2 cs ∧ (∃ m, EqC Try.prog w' w' (fun k => k < W0.heap.size) (fun k => w.heap.size ≤ k) (m + 1) 22 [.slice ga gl gc] [.slice ga2 gl gc2] ∧ EqC Try.prog w' w' (fun k => k < W0.heap.size) (fun k => w.heap.size ≤ k) (m + 1) 23 [.slice na nl nc] [.slice na2 nl nc2] ∧ EqC Try.prog w' w' (fun k => k < W0.heap.size) (fun k => w.heap.size ≤ k) (m + 1) 23 [.slice ma ml mc] [.slice ma2 ml mc2]) ∧ Below w.heap.size w w' := by
  have hb2 : 0 ≤ v2 ∧ v2 < 2 ^ sz.toNat := by rw [hv2]; exact orB_in hv0 h1 h7 hvs hx0 hxs
  have hv128 : v2 < 128 := pow7 h7 hb2.2
  refine calls_frv (N := 71) (vs := [.agg #[.int .i64 id, .int .i64 sz, .int .i64 tm, .int .i64 vt, .int .i64 rl, .int .i64 ld, .int .i64 ti, .int .i64 vs, .slice ga gl gc, .int .i64 cm, .slice na nl nc, .slice ma ml mc], .agg #[.int .i64 xf, .int .i64 xto, .int .i64 xk, .int .i64 xt, .int .i64 xi, .int .i64 xl, .int .i64 xc, .slice ea el ec, .bool xok]]) [(0, .agg #[.int .i64 id, .int .i64 sz, .int .i64 tm, .int .i64 vt, .int .i64 rl, .int .i64 ld, .int .i64 ti, .int .i64 vs, .slice ga gl gc, .int .i64 cm, .slice na nl nc, .slice ma ml mc]), (1, .agg #[.int .i64 xf, .int .i64 xto, .int .i64 xk, .int .i64 xt, .int .i64 xi, .int .i64 xl, .int .i64 xc, .slice ea el ec, .bool xok])] Try.func22 rfl rfl (of_decide_eq_true rfl) (fun p hp => by simp only [List.mem_cons, List.not_mem_nil, or_false] at hp; rcases hp with rfl | rfl <;> rfl) (fun a hf => ?_)
  have hX := Bx.start w
  refine wp_seq ?_
  refine wp_region_lit ?_
  refine sv_box hf hX rfl (by decide) (fun a C1 W hC hf hX hA => ?_)
  clear hC hA
  refine sv_box hf hX rfl (by decide) (fun a C2 W hC hf hX hA => ?_)
  clear hC hA
  refine sv_alloc (zs := [.int .i64 0, .int .i64 0, .int .i64 0, .int .i64 0, .int .i64 0, .int .i64 0, .int .i64 0, .int .i64 0, .slice none 0 0, .int .i64 0, .slice none 0 0, .slice none 0 0]) hf hX zero_mem (by decide) (fun a C3 W hC hf hX hA => ?_)
  clear hC hA
  replace hf := hf.sub (env' := [(4, .pointer (some ⟨C3, 0, none⟩)), (3, .pointer (some ⟨C2, 0, none⟩)), (2, .pointer (some ⟨C1, 0, none⟩))]) (sub_cons rfl (sub_cons rfl (sub_cons rfl (sub_nil))))
  refine sv_nil hf ?_
  refine wp_seq ?_
  refine wp_region_lit ?_
  refine sv_lr hf hX rfl 2 rfl Try.underlying25 info_mem (by decide) (fun a hf => ?_)
  have hsA : w.heap.size ≤ W.heap.size := hX.low.size
  obtain ⟨WA, hWA⟩ : ∃ X, X = W := ⟨_, rfl⟩
  rw [← hWA] at hsA
  refine sv_call hf fnOK_36 rfl (copyMember_let n _ _ _ _ _ _ _ _ _ _ _ _ _ _ _ _ _ _ W0 W (hb0.trans (hX.low.mono hb0.size)) hg) (by decide) ?_
  rintro e W2 ⟨ga2, gc2, na2, nc2, ma2, mc2, rfl, hE, hb⟩
  replace hX := hX.made hb
  clear hb
  rw [← hWA] at hE hX
  have HE := Lib.hid hE
  clear hE
  refine ⟨_, rfl, fun a hf => ?_⟩
  obtain ⟨WC, hWC⟩ : ∃ X, X = W2 := ⟨_, rfl⟩
  rw [← hWC] at HE hX
  obtain ⟨β, hβ⟩ : ∃ b : Base, b = ⟨w, [(WC, fun k => k < w.heap.size ∨ WA.heap.size ≤ k)]⟩ := ⟨_, rfl⟩
  replace hX : Bx β [(C3, [.int .i64 0, .int .i64 0, .int .i64 0, .int .i64 0, .int .i64 0, .int .i64 0, .int .i64 0, .int .i64 0, .slice none 0 0, .int .i64 0, .slice none 0 0, .slice none 0 0]), (C2, [.int .i64 xf, .int .i64 xto, .int .i64 xk, .int .i64 xt, .int .i64 xi, .int .i64 xl, .int .i64 xc, .slice ea el ec, .bool xok]), (C1, [.int .i64 id, .int .i64 sz, .int .i64 tm, .int .i64 vt, .int .i64 rl, .int .i64 ld, .int .i64 ti, .int .i64 vs, .slice ga gl gc, .int .i64 cm, .slice na nl nc, .slice ma ml mc])] W2 := by rw [hWC] at hX; rw [hβ, hWC]; exact hX
  have hmem : (WC, fun k => k < w.heap.size ∨ WA.heap.size ≤ k) ∈ β.bs := by rw [hβ]; exact List.mem_cons_self
  refine sv_sr hf hX rfl rfl 2 rfl rfl info_mem (fun v hv => List.all_eq_true.1 (show List.all [.int .i64 id, .int .i64 sz, .int .i64 tm, .int .i64 vt, .int .i64 rl, .int .i64 ld, .int .i64 ti, .int .i64 vs, .slice ga2 gl gc2, .int .i64 cm, .slice na2 nl nc2, .slice ma2 ml mc2] (·.oneCell') = true from rfl) v hv) [(C3, [.int .i64 0, .int .i64 0, .int .i64 0, .int .i64 0, .int .i64 0, .int .i64 0, .int .i64 0, .int .i64 0, .slice none 0 0, .int .i64 0, .slice none 0 0, .slice none 0 0]), (C2, [.int .i64 xf, .int .i64 xto, .int .i64 xk, .int .i64 xt, .int .i64 xi, .int .i64 xl, .int .i64 xc, .slice ea el ec, .bool xok]), (C1, [.int .i64 id, .int .i64 sz, .int .i64 tm, .int .i64 vt, .int .i64 rl, .int .i64 ld, .int .i64 ti, .int .i64 vs, .slice ga2 gl gc2, .int .i64 cm, .slice na2 nl nc2, .slice ma2 ml mc2])] rfl (fun W hX hO => ?_)
  clear hO
  replace hf := hf.sub (env' := [(4, .pointer (some ⟨C3, 0, none⟩)), (3, .pointer (some ⟨C2, 0, none⟩)), (2, .pointer (some ⟨C1, 0, none⟩))]) (sub_cons rfl (sub_cons rfl (sub_cons rfl (sub_nil))))
  refine sv_nil hf ?_
  refine wp_seq ?_
  refine wp_seq ?_
  refine wp_region_lit ?_
  refine sv_fld hf rfl Try.underlying35 rfl sz_int (2) rfl (by decide) (fun a hf => ?_)
  refine sv_lc hf hX rfl 1 rfl rfl Try.underlying3 rfl (by decide) (fun a hf => ?_)
  rcases Decidable.em (xk = 2) with hq4 | hq4
  ·
    refine sv_cmp hf rfl rfl false (congrArg some (by rw [decide_eq_true hq4]; rfl)) (by decide) (fun a hf => ?_)
    replace hf := hf.sub (env' := [(9, .bool false), (4, .pointer (some ⟨C3, 0, none⟩)), (3, .pointer (some ⟨C2, 0, none⟩)), (2, .pointer (some ⟨C1, 0, none⟩))]) (sub_cons rfl (sub_cons rfl (sub_cons rfl (sub_cons rfl (sub_nil)))))
    refine sv_nil hf ?_
    refine wp_cond_false (hf.rel _ _ rfl) ?_
    refine wp_skip ?_
    refine wp_seq ?_
    refine wp_seq ?_
    refine wp_region_lit ?_
    refine sv_fld hf rfl Try.underlying35 rfl sz_int (3) rfl (by decide) (fun a hf => ?_)
    refine sv_lc hf hX rfl 1 rfl rfl Try.underlying3 rfl (by decide) (fun a hf => ?_)
    refine sv_fld hf rfl Try.underlying25 rfl sz_int (2) rfl (by decide) (fun a hf => ?_)
    refine sv_lc hf hX rfl 2 rfl rfl Try.underlying3 rfl (by decide) (fun a hf => ?_)
    rcases Decidable.em (tm < xt) with hq5 | hq5
    ·
      refine sv_cmp hf rfl rfl true (congrArg some (decide_eq_true hq5)) (by decide) (fun a hf => ?_)
      replace hf := hf.sub (env' := [(15, .bool true), (4, .pointer (some ⟨C3, 0, none⟩)), (3, .pointer (some ⟨C2, 0, none⟩)), (2, .pointer (some ⟨C1, 0, none⟩))]) (sub_cons rfl (sub_cons rfl (sub_cons rfl (sub_cons rfl (sub_nil)))))
      refine sv_nil hf ?_
      refine wp_cond_true (hf.rel _ _ rfl) ?_
      refine wp_seq ?_
      refine wp_region_lit ?_
      refine sv_lr hf hX rfl 2 rfl Try.underlying25 info_mem (by decide) (fun a hf => ?_)
      refine sv_fld hf rfl Try.underlying35 rfl sz_int (3) rfl (by decide) (fun a hf => ?_)
      refine sv_lc hf hX rfl 1 rfl rfl Try.underlying3 rfl (by decide) (fun a hf => ?_)
      refine sv_call hf fnOK_37 rfl (follow_let _ _ _ _ _ _ _ _ _ _ _ _ _ _ _ _ _ _ _ _ h0 (by omega)) (by decide) ?_
      rintro e W ⟨rfl, hb⟩
      replace hX := hX.keep hb
      clear hb
      refine ⟨_, rfl, fun a hf => ?_⟩
      refine sv_sr hf hX rfl rfl 0 rfl rfl info_mem (fun v hv => List.all_eq_true.1 (show List.all [.int .i64 id, .int .i64 sz, .int .i64 (fTm tm xt), .int .i64 (fVt tm xt vt), .int .i64 (fRl tm xt rl), .int .i64 (fLd tm xt ld), .int .i64 (fTi tm xt rl ti id), .int .i64 (fVs tm xt vs), .slice ga2 gl gc2, .int .i64 cm, .slice (fA tm xt na2) (fN tm xt nl) (fN tm xt nc2), .slice (fA tm xt ma2) (fN tm xt ml) (fN tm xt mc2)] (·.oneCell') = true from rfl) v hv) [(C3, [.int .i64 id, .int .i64 sz, .int .i64 (fTm tm xt), .int .i64 (fVt tm xt vt), .int .i64 (fRl tm xt rl), .int .i64 (fLd tm xt ld), .int .i64 (fTi tm xt rl ti id), .int .i64 (fVs tm xt vs), .slice ga2 gl gc2, .int .i64 cm, .slice (fA tm xt na2) (fN tm xt nl) (fN tm xt nc2), .slice (fA tm xt ma2) (fN tm xt ml) (fN tm xt mc2)]), (C2, [.int .i64 xf, .int .i64 xto, .int .i64 xk, .int .i64 xt, .int .i64 xi, .int .i64 xl, .int .i64 xc, .slice ea el ec, .bool xok]), (C1, [.int .i64 id, .int .i64 sz, .int .i64 tm, .int .i64 vt, .int .i64 rl, .int .i64 ld, .int .i64 ti, .int .i64 vs, .slice ga2 gl gc2, .int .i64 cm, .slice na2 nl nc2, .slice ma2 ml mc2])] rfl (fun W hX hO => ?_)
      clear hO
      replace hf := hf.sub (env' := [(4, .pointer (some ⟨C3, 0, none⟩)), (3, .pointer (some ⟨C2, 0, none⟩)), (2, .pointer (some ⟨C1, 0, none⟩))]) (sub_cons rfl (sub_cons rfl (sub_cons rfl (sub_nil))))
      refine sv_nil hf ?_
      refine wp_ret ?_
      try simp only [Exit.inBlock, Exit.then]
      have hcc : c = 1 := by rw [hc]; unfold VCase; simp [hq4, hq5]
      refine bodyPost_ret (res_cell (c := 4) (C := C3) (cs := [.int .i64 id, .int .i64 sz, .int .i64 (fTm tm xt), .int .i64 (fVt tm xt vt), .int .i64 (fRl tm xt rl), .int .i64 (fLd tm xt ld), .int .i64 (fTi tm xt rl ti id), .int .i64 (fVs tm xt vs), .slice ga2 gl gc2, .int .i64 cm, .slice (fA tm xt na2) (fN tm xt nl) (fN tm xt nc2), .slice (fA tm xt ma2) (fN tm xt ml) (fN tm xt mc2)]) (T := 25) rfl (hf.rel 4 _ rfl) (hX.get (i := 0) rfl) Try.underlying25 info_mem) hf.defers ⟨ga2, gc2, na2, nc2, ma2, mc2, [.int .i64 id, .int .i64 sz, .int .i64 (fTm tm xt), .int .i64 (fVt tm xt vt), .int .i64 (fRl tm xt rl), .int .i64 (fLd tm xt ld), .int .i64 (fTi tm xt rl ti id), .int .i64 (fVs tm xt vs), .slice ga2 gl gc2, .int .i64 cm, .slice (fA tm xt na2) (fN tm xt nl) (fN tm xt nc2), .slice (fA tm xt ma2) (fN tm xt ml) (fN tm xt mc2)], rfl, .inr (.inl ⟨hcc, rfl⟩), ?_, by have := hX.low; rw [hβ] at this; exact this⟩
      obtain ⟨m, _, h8, h10, h11⟩ := HE.out
      exact ⟨m, hX.later2 hmem (fun k h => Or.inl (Nat.lt_of_lt_of_le h hb0.size)) (fun k h => Or.inr h) (fun k h => h) (fun k h => Nat.le_trans hsA h) h8, hX.later2 hmem (fun k h => Or.inl (Nat.lt_of_lt_of_le h hb0.size)) (fun k h => Or.inr h) (fun k h => h) (fun k h => Nat.le_trans hsA h) h10, hX.later2 hmem (fun k h => Or.inl (Nat.lt_of_lt_of_le h hb0.size)) (fun k h => Or.inr h) (fun k h => h) (fun k h => Nat.le_trans hsA h) h11⟩
    ·
      refine sv_cmp hf rfl rfl false (congrArg some (decide_eq_false hq5)) (by decide) (fun a hf => ?_)
      replace hf := hf.sub (env' := [(15, .bool false), (4, .pointer (some ⟨C3, 0, none⟩)), (3, .pointer (some ⟨C2, 0, none⟩)), (2, .pointer (some ⟨C1, 0, none⟩))]) (sub_cons rfl (sub_cons rfl (sub_cons rfl (sub_cons rfl (sub_nil)))))
      refine sv_nil hf ?_
      refine wp_cond_false (hf.rel _ _ rfl) ?_
      refine wp_skip ?_
      refine wp_seq ?_
      refine wp_seq ?_
      refine wp_region_lit ?_
      refine sv_fld hf rfl Try.underlying25 rfl sz_int (4) rfl (by decide) (fun a hf => ?_)
      refine sv_lc hf hX rfl 2 rfl rfl Try.underlying3 rfl (by decide) (fun a hf => ?_)
      rcases Decidable.em (rl = 1) with hq6 | hq6
      ·
        refine sv_cmp hf rfl rfl false (congrArg some (by rw [decide_eq_true hq6]; rfl)) (by decide) (fun a hf => ?_)
        refine sv_mv hf rfl (by decide) (fun a hf => ?_)
        refine sv_want hf rfl rfl ?_
        refine sv_fld hf rfl Try.underlying35 rfl sz_int (3) rfl (by decide) (fun a hf => ?_)
        refine sv_want hf rfl rfl ?_
        refine sv_lc hf hX rfl 1 rfl rfl Try.underlying3 rfl (by decide) (fun a hf => ?_)
        refine sv_want hf rfl rfl ?_
        refine sv_fld hf rfl Try.underlying25 rfl sz_int (2) rfl (by decide) (fun a hf => ?_)
        refine sv_want hf rfl rfl ?_
        refine sv_lc hf hX rfl 2 rfl rfl Try.underlying3 rfl (by decide) (fun a hf => ?_)
        refine sv_want hf rfl rfl ?_
        rcases Decidable.em (xt = tm) with hq7 | hq7
        ·
          refine sv_cmp hf rfl rfl false (congrArg some (by rw [decide_eq_true hq7]; rfl)) (by decide) (fun a hf => ?_)
          refine sv_pk hf rfl rfl (by decide) (fun a hf => ?_)
          refine sv_mv hf rfl (by decide) (fun a hf => ?_)
          refine sv_want hf rfl rfl ?_
          refine sv_fld hf rfl Try.underlying35 rfl sz_bool (8) rfl (by decide) (fun a hf => ?_)
          refine sv_want hf rfl rfl ?_
          refine sv_lc hf hX rfl 1 rfl rfl Try.underlying4 rfl (by decide) (fun a hf => ?_)
          refine sv_want hf rfl rfl ?_
          cases xok
          ·
            refine sv_not hf rfl (by decide) (fun a hf => ?_)
            refine sv_pk hf rfl rfl (by decide) (fun a hf => ?_)
            refine sv_mv hf rfl (by decide) (fun a hf => ?_)
            refine sv_skip1 hf rfl rfl (by decide) (by decide) (fun a hf => ?_)
            refine sv_skip1 hf rfl rfl (by decide) (by decide) (fun a hf => ?_)
            refine sv_skip1 hf rfl rfl (by decide) (by decide) (fun a hf => ?_)
            refine sv_pk hf rfl rfl (by decide) (fun a hf => ?_)
            refine sv_mv hf rfl (by decide) (fun a hf => ?_)
            refine sv_skip1 hf rfl rfl (by decide) (by decide) (fun a hf => ?_)
            refine sv_skip1 hf rfl rfl (by decide) (by decide) (fun a hf => ?_)
            refine sv_skip1 hf rfl rfl (by decide) (by decide) (fun a hf => ?_)
            refine sv_pk hf rfl rfl (by decide) (fun a hf => ?_)
            refine sv_mv hf rfl (by decide) (fun a hf => ?_)
            refine sv_skip1 hf rfl rfl (by decide) (by decide) (fun a hf => ?_)
            refine sv_skip1 hf rfl rfl (by decide) (by decide) (fun a hf => ?_)
            refine sv_skip1 hf rfl rfl (by decide) (by decide) (fun a hf => ?_)
            refine sv_skip1 hf rfl rfl (by decide) (by decide) (fun a hf => ?_)
            refine sv_skip1 hf rfl rfl (by decide) (by decide) (fun a hf => ?_)
            refine sv_pk hf rfl rfl (by decide) (fun a hf => ?_)
            replace hf := hf.sub (env' := [(51, .bool true), (4, .pointer (some ⟨C3, 0, none⟩)), (3, .pointer (some ⟨C2, 0, none⟩)), (2, .pointer (some ⟨C1, 0, none⟩))]) (sub_cons rfl (sub_cons rfl (sub_cons rfl (sub_cons rfl (sub_nil)))))
            refine sv_nil hf ?_
            refine wp_cond_true (hf.rel _ _ rfl) ?_
            refine wp_seq ?_
            refine wp_region_lit ?_
            refine sv_lr hf hX rfl 2 rfl Try.underlying25 info_mem (by decide) (fun a hf => ?_)
            refine sv_sr hf hX rfl rfl 0 rfl rfl info_mem (fun v hv => List.all_eq_true.1 (show List.all [.int .i64 id, .int .i64 sz, .int .i64 tm, .int .i64 vt, .int .i64 rl, .int .i64 ld, .int .i64 ti, .int .i64 vs, .slice ga2 gl gc2, .int .i64 cm, .slice na2 nl nc2, .slice ma2 ml mc2] (·.oneCell') = true from rfl) v hv) [(C3, [.int .i64 id, .int .i64 sz, .int .i64 tm, .int .i64 vt, .int .i64 rl, .int .i64 ld, .int .i64 ti, .int .i64 vs, .slice ga2 gl gc2, .int .i64 cm, .slice na2 nl nc2, .slice ma2 ml mc2]), (C2, [.int .i64 xf, .int .i64 xto, .int .i64 xk, .int .i64 xt, .int .i64 xi, .int .i64 xl, .int .i64 xc, .slice ea el ec, .bool false]), (C1, [.int .i64 id, .int .i64 sz, .int .i64 tm, .int .i64 vt, .int .i64 rl, .int .i64 ld, .int .i64 ti, .int .i64 vs, .slice ga2 gl gc2, .int .i64 cm, .slice na2 nl nc2, .slice ma2 ml mc2])] rfl (fun W hX hO => ?_)
            clear hO
            replace hf := hf.sub (env' := [(4, .pointer (some ⟨C3, 0, none⟩)), (3, .pointer (some ⟨C2, 0, none⟩)), (2, .pointer (some ⟨C1, 0, none⟩))]) (sub_cons rfl (sub_cons rfl (sub_cons rfl (sub_nil))))
            refine sv_nil hf ?_
            refine wp_ret ?_
            try simp only [Exit.inBlock, Exit.then]
            have hcc : c = 0 := by rw [hc]; unfold VCase; simp [hq4, hq5, hq6, hq7]
            refine bodyPost_ret (res_cell (c := 4) (C := C3) (cs := [.int .i64 id, .int .i64 sz, .int .i64 tm, .int .i64 vt, .int .i64 rl, .int .i64 ld, .int .i64 ti, .int .i64 vs, .slice ga2 gl gc2, .int .i64 cm, .slice na2 nl nc2, .slice ma2 ml mc2]) (T := 25) rfl (hf.rel 4 _ rfl) (hX.get (i := 0) rfl) Try.underlying25 info_mem) hf.defers ⟨ga2, gc2, na2, nc2, ma2, mc2, [.int .i64 id, .int .i64 sz, .int .i64 tm, .int .i64 vt, .int .i64 rl, .int .i64 ld, .int .i64 ti, .int .i64 vs, .slice ga2 gl gc2, .int .i64 cm, .slice na2 nl nc2, .slice ma2 ml mc2], rfl, .inl ⟨hcc, rfl⟩, ?_, by have := hX.low; rw [hβ] at this; exact this⟩
            obtain ⟨m, _, h8, h10, h11⟩ := HE.out
            exact ⟨m, hX.later2 hmem (fun k h => Or.inl (Nat.lt_of_lt_of_le h hb0.size)) (fun k h => Or.inr h) (fun k h => h) (fun k h => Nat.le_trans hsA h) h8, hX.later2 hmem (fun k h => Or.inl (Nat.lt_of_lt_of_le h hb0.size)) (fun k h => Or.inr h) (fun k h => h) (fun k h => Nat.le_trans hsA h) h10, hX.later2 hmem (fun k h => Or.inl (Nat.lt_of_lt_of_le h hb0.size)) (fun k h => Or.inr h) (fun k h => h) (fun k h => Nat.le_trans hsA h) h11⟩
          ·
            refine sv_not hf rfl (by decide) (fun a hf => ?_)
            refine sv_pk hf rfl rfl (by decide) (fun a hf => ?_)
            refine sv_mv hf rfl (by decide) (fun a hf => ?_)
            refine sv_want hf rfl rfl ?_
            refine sv_lr hf hX rfl 2 rfl Try.underlying25 info_mem (by decide) (fun a hf => ?_)
            refine sv_want hf rfl rfl ?_
            refine sv_call hf fnOK_41 rfl (known_yes _ _ _ _ _ _ _ _ _ _ _ _ _ h1 h7 h0 hid) (by decide) ?_
            rintro e W ⟨rfl, hb⟩
            replace hX := hX.keep hb
            clear hb
            refine ⟨_, rfl, fun a hf => ?_⟩
            refine sv_want hf rfl rfl ?_
            refine sv_not hf rfl (by decide) (fun a hf => ?_)
            refine sv_pk hf rfl rfl (by decide) (fun a hf => ?_)
            refine sv_mv hf rfl (by decide) (fun a hf => ?_)
            refine sv_want hf rfl rfl ?_
            refine sv_fld hf rfl Try.underlying35 rfl sz_int (0) rfl (by decide) (fun a hf => ?_)
            refine sv_want hf rfl rfl ?_
            refine sv_lc hf hX rfl 1 rfl rfl Try.underlying3 rfl (by decide) (fun a hf => ?_)
            refine sv_want hf rfl rfl ?_
            refine sv_cmp hf rfl rfl false (congrArg some (decide_eq_false (by omega))) (by decide) (fun a hf => ?_)
            refine sv_pk hf rfl rfl (by decide) (fun a hf => ?_)
            refine sv_mv hf rfl (by decide) (fun a hf => ?_)
            refine sv_want hf rfl rfl ?_
            refine sv_fld hf rfl Try.underlying35 rfl sz_int (0) rfl (by decide) (fun a hf => ?_)
            refine sv_want hf rfl rfl ?_
            refine sv_lc hf hX rfl 1 rfl rfl Try.underlying3 rfl (by decide) (fun a hf => ?_)
            refine sv_want hf rfl rfl ?_
            refine sv_fld hf rfl Try.underlying25 rfl sz_int (1) rfl (by decide) (fun a hf => ?_)
            refine sv_want hf rfl rfl ?_
            refine sv_lc hf hX rfl 2 rfl rfl Try.underlying3 rfl (by decide) (fun a hf => ?_)
            refine sv_want hf rfl rfl ?_
            refine sv_cmp hf rfl rfl false (congrArg some (decide_eq_false (by omega))) (by decide) (fun a hf => ?_)
            refine sv_pk hf rfl rfl (by decide) (fun a hf => ?_)
            replace hf := hf.sub (env' := [(51, .bool false), (4, .pointer (some ⟨C3, 0, none⟩)), (3, .pointer (some ⟨C2, 0, none⟩)), (2, .pointer (some ⟨C1, 0, none⟩))]) (sub_cons rfl (sub_cons rfl (sub_cons rfl (sub_cons rfl (sub_nil)))))
            refine sv_nil hf ?_
            refine wp_cond_false (hf.rel _ _ rfl) ?_
            refine wp_skip ?_
            refine wp_seq ?_
            refine wp_region_ordW 8 7 [(0, 0), (1, 1), (2, 0), (3, 1), (4, 0), (5, 0), (6, 0), (7, 3)] (fun X => Bx β [(C3, [.int .i64 0, .int .i64 0, .int .i64 0, .int .i64 0, .int .i64 0, .int .i64 0, .int .i64 0, .int .i64 0, .slice none 0 0, .int .i64 0, .slice none 0 0, .slice none 0 0]), (C2, [.int .i64 xf, .int .i64 xto, .int .i64 xk, .int .i64 xt, .int .i64 xi, .int .i64 xl, .int .i64 xc, .slice ea el ec, .bool true]), (C1, [.int .i64 id, .int .i64 sz, .int .i64 tm, .int .i64 vt, .int .i64 rl, .int .i64 ld, .int .i64 ti, .int .i64 vs, .slice ga2 gl gc2, .int .i64 cm, .slice na2 nl nc2, .slice ma2 ml mc2])] X) mixed (by kernel_rfl) hX.drew (fun c a d v w h => by cases d <;> exact h) ?_
            replace hX := hX.drew
            refine ov0 hf rfl rfl (by decide) rfl (fun X => ex_vfld (7) hf rfl rfl Try.underlying25 rfl sz_int rfl) (fun a hf => ?_)
            refine ov1 hf rfl rfl (by decide) rfl (fun X hS => ex_vlc (cs := [.int .i64 id, .int .i64 sz, .int .i64 tm, .int .i64 vt, .int .i64 rl, .int .i64 ld, .int .i64 ti, .int .i64 vs, .slice ga2 gl gc2, .int .i64 cm, .slice na2 nl nc2, .slice ma2 ml mc2]) hf rfl rfl (hS.get (i := 2) rfl) rfl Try.underlying3 rfl) (fun a hf => ?_)
            refine ov0 hf rfl rfl (by decide) rfl (fun X => ex_vfld (0) hf rfl rfl Try.underlying35 rfl sz_int rfl) (fun a hf => ?_)
            refine ov1 hf rfl rfl (by decide) rfl (fun X hS => ex_vlc (cs := [.int .i64 xf, .int .i64 xto, .int .i64 xk, .int .i64 xt, .int .i64 xi, .int .i64 xl, .int .i64 xc, .slice ea el ec, .bool true]) hf rfl rfl (hS.get (i := 1) rfl) rfl Try.underlying3 rfl) (fun a hf => ?_)
            refine ov0 hf rfl rfl (by decide) rfl (fun X => ex_shl hf rfl rfl rfl hx0 (by omega) rfl) (fun a hf => ?_)
            refine ov0 hf rfl rfl (by decide) rfl (fun X => ex_or hf rfl rfl rfl hv2.symm) (fun a hf => ?_)
            refine ov0 hf rfl rfl (by decide) rfl (fun X => ex_vfld (7) hf rfl rfl Try.underlying25 rfl sz_int rfl) (fun a hf => ?_)
            have hbS := hX.get (i := 2) (C := C1) (cs := [.int .i64 id, .int .i64 sz, .int .i64 tm, .int .i64 vt, .int .i64 rl, .int .i64 ld, .int .i64 ti, .int .i64 vs, .slice ga2 gl gc2, .int .i64 cm, .slice na2 nl nc2, .slice ma2 ml mc2]) rfl
            refine ov3 rfl rfl rfl (ex_store_cell _ _ _ C1 7 (.int .i64 v2) rfl (hf.ev rfl) (hf.ev rfl) (hbS.there 7 1 (of_decide_eq_true rfl)) info_int rfl) ?_
            replace hX : Bx β [(C3, [.int .i64 0, .int .i64 0, .int .i64 0, .int .i64 0, .int .i64 0, .int .i64 0, .int .i64 0, .int .i64 0, .slice none 0 0, .int .i64 0, .slice none 0 0, .slice none 0 0]), (C2, [.int .i64 xf, .int .i64 xto, .int .i64 xk, .int .i64 xt, .int .i64 xi, .int .i64 xl, .int .i64 xc, .slice ea el ec, .bool true]), (C1, [.int .i64 id, .int .i64 sz, .int .i64 tm, .int .i64 vt, .int .i64 rl, .int .i64 ld, .int .i64 ti, .int .i64 v2, .slice ga2 gl gc2, .int .i64 cm, .slice na2 nl nc2, .slice ma2 ml mc2])] (World.setCells _ C1 7 [.int .i64 v2]) := hX.set (i := 2) rfl (hbS.setCell 7 _ (of_decide_eq_true rfl)) (Only.setCell _ C1 7 _)
            clear hbS
            replace hf := hf.sub (env' := [(4, .pointer (some ⟨C3, 0, none⟩)), (2, .pointer (some ⟨C1, 0, none⟩))]) (sub_cons rfl (sub_cons rfl (sub_nil)))
            refine wpOrd_nil ?_
            refine wp_seq ?_
            refine wp_seq ?_
            refine wp_region_ordW 8 7 [(0, 0), (1, 1), (2, 0), (4, 0), (5, 1), (3, 2), (6, 2), (7, 3)] (fun X => Bx β [(C3, [.int .i64 0, .int .i64 0, .int .i64 0, .int .i64 0, .int .i64 0, .int .i64 0, .int .i64 0, .int .i64 0, .slice none 0 0, .int .i64 0, .slice none 0 0, .slice none 0 0]), (C2, [.int .i64 xf, .int .i64 xto, .int .i64 xk, .int .i64 xt, .int .i64 xi, .int .i64 xl, .int .i64 xc, .slice ea el ec, .bool true]), (C1, [.int .i64 id, .int .i64 sz, .int .i64 tm, .int .i64 vt, .int .i64 rl, .int .i64 ld, .int .i64 ti, .int .i64 v2, .slice ga2 gl gc2, .int .i64 cm, .slice na2 nl nc2, .slice ma2 ml mc2])] X) mixed (by kernel_rfl) hX.drew (fun c a d v w h => by cases d <;> exact h) ?_
            replace hX := hX.drew
            refine ov0 hf rfl rfl (by decide) rfl (fun X => ex_vfld (7) hf rfl rfl Try.underlying25 rfl sz_int rfl) (fun a hf => ?_)
            refine ov1 hf rfl rfl (by decide) rfl (fun X hS => ex_vlc (cs := [.int .i64 id, .int .i64 sz, .int .i64 tm, .int .i64 vt, .int .i64 rl, .int .i64 ld, .int .i64 ti, .int .i64 v2, .slice ga2 gl gc2, .int .i64 cm, .slice na2 nl nc2, .slice ma2 ml mc2]) hf rfl rfl (hS.get (i := 2) rfl) rfl Try.underlying3 rfl) (fun a hf => ?_)
            refine ov0 hf rfl rfl (by decide) rfl (fun X => ex_conv hf rfl rfl Try.underlying3 (by kernel_rfl) hb2.1 hv128) (fun a hf => ?_)
            refine ov0 hf rfl rfl (by decide) rfl (fun X => ex_vfld (1) hf rfl rfl Try.underlying25 rfl sz_int rfl) (fun a hf => ?_)
            refine ov1 hf rfl rfl (by decide) rfl (fun X hS => ex_vlc (cs := [.int .i64 id, .int .i64 sz, .int .i64 tm, .int .i64 vt, .int .i64 rl, .int .i64 ld, .int .i64 ti, .int .i64 v2, .slice ga2 gl gc2, .int .i64 cm, .slice na2 nl nc2, .slice ma2 ml mc2]) hf rfl rfl (hS.get (i := 2) rfl) rfl Try.underlying3 rfl) (fun a hf => ?_)
            refine ov2c hf rfl rfl (by decide) rfl rfl fnOK_42 rfl (ones_n hb2.1 h1 h7 hb2.2 hn2 _) ?_
            rintro e W' ⟨rfl, hw⟩
            subst hw
            refine ⟨_, rfl, hX, fun a hf => ?_⟩
            refine ov2c hf rfl rfl (by decide) rfl rfl fnOK_12 rfl (maj_any sz _) ?_
            rintro e W' ⟨rfl, hw⟩
            subst hw
            refine ⟨_, rfl, hX, fun a hf => ?_⟩
            rcases Decidable.em (maj sz ≤ n2) with hq9 | hq9
            ·
              refine ov3v hf rfl rfl (by decide) rfl (ex_cmp (b := true) hf rfl rfl rfl (congrArg some (decide_eq_true hq9))) (fun a hf => ?_)
              replace hf := hf.sub (env' := [(67, .bool true), (4, .pointer (some ⟨C3, 0, none⟩)), (2, .pointer (some ⟨C1, 0, none⟩))]) (sub_cons rfl (sub_cons rfl (sub_cons rfl (sub_nil))))
              refine wpOrd_nil ?_
              refine wp_cond_true (hf.rel _ _ rfl) ?_
              refine wp_seq ?_
              refine wp_region_lit ?_
              refine sv_lr hf hX rfl 2 rfl Try.underlying25 info_mem (by decide) (fun a hf => ?_)
              have hlwB := hX.lts
              have hsW2 := (show w.heap.size ≤ _ from by have := hX.low.size; rw [hβ] at this; exact this)
              refine sv_call hf fnOK_43 rfl (win_int _ _ _ _ _ _ _ _ _ _ _ _ _ _ _ _ _ _ _ h0 hid h7) (by decide) ?_
              rintro e W ⟨pa, pl, pc, sa, sl, sc, rfl, r1, r2, ⟨g1, hg1, hgl1⟩, ⟨g2, hg2, hgl2⟩, hb⟩
              replace hX := hX.keep hb
              clear hb
              refine ⟨_, rfl, fun a hf => ?_⟩
              refine sv_sr hf hX rfl rfl 0 rfl rfl info_mem (fun v hv => List.all_eq_true.1 (show List.all [.int .i64 id, .int .i64 sz, .int .i64 tm, .int .i64 vt, .int .i64 2, .int .i64 id, .int .i64 1, .int .i64 v2, .slice ga2 gl gc2, .int .i64 cm, .slice pa pl pc, .slice sa sl sc] (·.oneCell') = true from rfl) v hv) [(C3, [.int .i64 id, .int .i64 sz, .int .i64 tm, .int .i64 vt, .int .i64 2, .int .i64 id, .int .i64 1, .int .i64 v2, .slice ga2 gl gc2, .int .i64 cm, .slice pa pl pc, .slice sa sl sc]), (C2, [.int .i64 xf, .int .i64 xto, .int .i64 xk, .int .i64 xt, .int .i64 xi, .int .i64 xl, .int .i64 xc, .slice ea el ec, .bool true]), (C1, [.int .i64 id, .int .i64 sz, .int .i64 tm, .int .i64 vt, .int .i64 rl, .int .i64 ld, .int .i64 ti, .int .i64 v2, .slice ga2 gl gc2, .int .i64 cm, .slice na2 nl nc2, .slice ma2 ml mc2])] rfl (fun W hX hO => ?_)
              have hcC := hlwB _ (List.mem_of_getElem? (i := 0) rfl)
              replace r1 := r1.keep hg1 (hO.heap _ (by simp only at hcC; omega)) (Nat.le_of_eq hO.size.symm)
              replace r2 := r2.keep hg2 (hO.heap _ (by simp only at hcC; omega)) (Nat.le_of_eq hO.size.symm)
              clear hO
              replace hf := hf.sub (env' := [(4, .pointer (some ⟨C3, 0, none⟩)), (2, .pointer (some ⟨C1, 0, none⟩))]) (sub_cons rfl (sub_cons rfl (sub_nil)))
              refine sv_nil hf ?_
              refine wp_ret ?_
              try simp only [Exit.inBlock, Exit.then]
              have hcc : c = 3 := by rw [hc]; unfold VCase; simp [hq4, hq5, hq6, hq7, hq9]
              refine bodyPost_ret (res_cell (c := 4) (C := C3) (cs := [.int .i64 id, .int .i64 sz, .int .i64 tm, .int .i64 vt, .int .i64 2, .int .i64 id, .int .i64 1, .int .i64 v2, .slice ga2 gl gc2, .int .i64 cm, .slice pa pl pc, .slice sa sl sc]) (T := 25) rfl (hf.rel 4 _ rfl) (hX.get (i := 0) rfl) Try.underlying25 info_mem) hf.defers ⟨ga2, gc2, na2, nc2, ma2, mc2, [.int .i64 id, .int .i64 sz, .int .i64 tm, .int .i64 vt, .int .i64 2, .int .i64 id, .int .i64 1, .int .i64 v2, .slice ga2 gl gc2, .int .i64 cm, .slice pa pl pc, .slice sa sl sc], rfl, .inr (.inr (.inr ⟨hcc, pa, pl, pc, sa, sl, sc, rfl, r1, r2, ⟨g1, hg1, Nat.le_trans hsW2 hgl1⟩, ⟨g2, hg2, Nat.le_trans hsW2 hgl2⟩⟩)), ?_, by have := hX.low; rw [hβ] at this; exact this⟩
              obtain ⟨m, _, h8, h10, h11⟩ := HE.out
              exact ⟨m, hX.later2 hmem (fun k h => Or.inl (Nat.lt_of_lt_of_le h hb0.size)) (fun k h => Or.inr h) (fun k h => h) (fun k h => Nat.le_trans hsA h) h8, hX.later2 hmem (fun k h => Or.inl (Nat.lt_of_lt_of_le h hb0.size)) (fun k h => Or.inr h) (fun k h => h) (fun k h => Nat.le_trans hsA h) h10, hX.later2 hmem (fun k h => Or.inl (Nat.lt_of_lt_of_le h hb0.size)) (fun k h => Or.inr h) (fun k h => h) (fun k h => Nat.le_trans hsA h) h11⟩
            ·
              refine ov3v hf rfl rfl (by decide) rfl (ex_cmp (b := false) hf rfl rfl rfl (congrArg some (decide_eq_false hq9))) (fun a hf => ?_)
              replace hf := hf.sub (env' := [(67, .bool false), (4, .pointer (some ⟨C3, 0, none⟩)), (2, .pointer (some ⟨C1, 0, none⟩))]) (sub_cons rfl (sub_cons rfl (sub_cons rfl (sub_nil))))
              refine wpOrd_nil ?_
              refine wp_cond_false (hf.rel _ _ rfl) ?_
              refine wp_skip ?_
              refine wp_seq ?_
              refine wp_region_lit ?_
              refine sv_lr hf hX rfl 2 rfl Try.underlying25 info_mem (by decide) (fun a hf => ?_)
              refine sv_sr hf hX rfl rfl 0 rfl rfl info_mem (fun v hv => List.all_eq_true.1 (show List.all [.int .i64 id, .int .i64 sz, .int .i64 tm, .int .i64 vt, .int .i64 rl, .int .i64 ld, .int .i64 ti, .int .i64 v2, .slice ga2 gl gc2, .int .i64 cm, .slice na2 nl nc2, .slice ma2 ml mc2] (·.oneCell') = true from rfl) v hv) [(C3, [.int .i64 id, .int .i64 sz, .int .i64 tm, .int .i64 vt, .int .i64 rl, .int .i64 ld, .int .i64 ti, .int .i64 v2, .slice ga2 gl gc2, .int .i64 cm, .slice na2 nl nc2, .slice ma2 ml mc2]), (C2, [.int .i64 xf, .int .i64 xto, .int .i64 xk, .int .i64 xt, .int .i64 xi, .int .i64 xl, .int .i64 xc, .slice ea el ec, .bool true]), (C1, [.int .i64 id, .int .i64 sz, .int .i64 tm, .int .i64 vt, .int .i64 rl, .int .i64 ld, .int .i64 ti, .int .i64 v2, .slice ga2 gl gc2, .int .i64 cm, .slice na2 nl nc2, .slice ma2 ml mc2])] rfl (fun W hX hO => ?_)
              clear hO
              replace hf := hf.sub (env' := [(4, .pointer (some ⟨C3, 0, none⟩))]) (sub_cons rfl (sub_nil))
              refine sv_nil hf ?_
              refine wp_ret ?_
              try simp only [Exit.inBlock, Exit.then]
              have hcc : c = 2 := by rw [hc]; unfold VCase; simp [hq4, hq5, hq6, hq7, hq9]
              refine bodyPost_ret (res_cell (c := 4) (C := C3) (cs := [.int .i64 id, .int .i64 sz, .int .i64 tm, .int .i64 vt, .int .i64 rl, .int .i64 ld, .int .i64 ti, .int .i64 v2, .slice ga2 gl gc2, .int .i64 cm, .slice na2 nl nc2, .slice ma2 ml mc2]) (T := 25) rfl (hf.rel 4 _ rfl) (hX.get (i := 0) rfl) Try.underlying25 info_mem) hf.defers ⟨ga2, gc2, na2, nc2, ma2, mc2, [.int .i64 id, .int .i64 sz, .int .i64 tm, .int .i64 vt, .int .i64 rl, .int .i64 ld, .int .i64 ti, .int .i64 v2, .slice ga2 gl gc2, .int .i64 cm, .slice na2 nl nc2, .slice ma2 ml mc2], rfl, .inr (.inr (.inl ⟨hcc, rfl⟩)), ?_, by have := hX.low; rw [hβ] at this; exact this⟩
              obtain ⟨m, _, h8, h10, h11⟩ := HE.out
              exact ⟨m, hX.later2 hmem (fun k h => Or.inl (Nat.lt_of_lt_of_le h hb0.size)) (fun k h => Or.inr h) (fun k h => h) (fun k h => Nat.le_trans hsA h) h8, hX.later2 hmem (fun k h => Or.inl (Nat.lt_of_lt_of_le h hb0.size)) (fun k h => Or.inr h) (fun k h => h) (fun k h => Nat.le_trans hsA h) h10, hX.later2 hmem (fun k h => Or.inl (Nat.lt_of_lt_of_le h hb0.size)) (fun k h => Or.inr h) (fun k h => h) (fun k h => Nat.le_trans hsA h) h11⟩
        ·
          refine sv_cmp hf rfl rfl true (congrArg some (by rw [decide_eq_false hq7]; rfl)) (by decide) (fun a hf => ?_)
          refine sv_pk hf rfl rfl (by decide) (fun a hf => ?_)
          refine sv_mv hf rfl (by decide) (fun a hf => ?_)
          refine sv_skip1 hf rfl rfl (by decide) (by decide) (fun a hf => ?_)
          refine sv_skip1 hf rfl rfl (by decide) (by decide) (fun a hf => ?_)
          refine sv_skip1 hf rfl rfl (by decide) (by decide) (fun a hf => ?_)
          refine sv_pk hf rfl rfl (by decide) (fun a hf => ?_)
          refine sv_mv hf rfl (by decide) (fun a hf => ?_)
          refine sv_skip1 hf rfl rfl (by decide) (by decide) (fun a hf => ?_)
          refine sv_skip1 hf rfl rfl (by decide) (by decide) (fun a hf => ?_)
          refine sv_skip1 hf rfl rfl (by decide) (by decide) (fun a hf => ?_)
          refine sv_pk hf rfl rfl (by decide) (fun a hf => ?_)
          refine sv_mv hf rfl (by decide) (fun a hf => ?_)
          refine sv_skip1 hf rfl rfl (by decide) (by decide) (fun a hf => ?_)
          refine sv_skip1 hf rfl rfl (by decide) (by decide) (fun a hf => ?_)
          refine sv_skip1 hf rfl rfl (by decide) (by decide) (fun a hf => ?_)
          refine sv_pk hf rfl rfl (by decide) (fun a hf => ?_)
          refine sv_mv hf rfl (by decide) (fun a hf => ?_)
          refine sv_skip1 hf rfl rfl (by decide) (by decide) (fun a hf => ?_)
          refine sv_skip1 hf rfl rfl (by decide) (by decide) (fun a hf => ?_)
          refine sv_skip1 hf rfl rfl (by decide) (by decide) (fun a hf => ?_)
          refine sv_skip1 hf rfl rfl (by decide) (by decide) (fun a hf => ?_)
          refine sv_skip1 hf rfl rfl (by decide) (by decide) (fun a hf => ?_)
          refine sv_pk hf rfl rfl (by decide) (fun a hf => ?_)
          replace hf := hf.sub (env' := [(51, .bool true), (4, .pointer (some ⟨C3, 0, none⟩)), (3, .pointer (some ⟨C2, 0, none⟩)), (2, .pointer (some ⟨C1, 0, none⟩))]) (sub_cons rfl (sub_cons rfl (sub_cons rfl (sub_cons rfl (sub_nil)))))
          refine sv_nil hf ?_
          refine wp_cond_true (hf.rel _ _ rfl) ?_
          refine wp_seq ?_
          refine wp_region_lit ?_
          refine sv_lr hf hX rfl 2 rfl Try.underlying25 info_mem (by decide) (fun a hf => ?_)
          refine sv_sr hf hX rfl rfl 0 rfl rfl info_mem (fun v hv => List.all_eq_true.1 (show List.all [.int .i64 id, .int .i64 sz, .int .i64 tm, .int .i64 vt, .int .i64 rl, .int .i64 ld, .int .i64 ti, .int .i64 vs, .slice ga2 gl gc2, .int .i64 cm, .slice na2 nl nc2, .slice ma2 ml mc2] (·.oneCell') = true from rfl) v hv) [(C3, [.int .i64 id, .int .i64 sz, .int .i64 tm, .int .i64 vt, .int .i64 rl, .int .i64 ld, .int .i64 ti, .int .i64 vs, .slice ga2 gl gc2, .int .i64 cm, .slice na2 nl nc2, .slice ma2 ml mc2]), (C2, [.int .i64 xf, .int .i64 xto, .int .i64 xk, .int .i64 xt, .int .i64 xi, .int .i64 xl, .int .i64 xc, .slice ea el ec, .bool xok]), (C1, [.int .i64 id, .int .i64 sz, .int .i64 tm, .int .i64 vt, .int .i64 rl, .int .i64 ld, .int .i64 ti, .int .i64 vs, .slice ga2 gl gc2, .int .i64 cm, .slice na2 nl nc2, .slice ma2 ml mc2])] rfl (fun W hX hO => ?_)
          clear hO
          replace hf := hf.sub (env' := [(4, .pointer (some ⟨C3, 0, none⟩)), (3, .pointer (some ⟨C2, 0, none⟩)), (2, .pointer (some ⟨C1, 0, none⟩))]) (sub_cons rfl (sub_cons rfl (sub_cons rfl (sub_nil))))
          refine sv_nil hf ?_
          refine wp_ret ?_
          try simp only [Exit.inBlock, Exit.then]
          have hcc : c = 0 := by rw [hc]; unfold VCase; simp [hq4, hq5, hq6, hq7]
          refine bodyPost_ret (res_cell (c := 4) (C := C3) (cs := [.int .i64 id, .int .i64 sz, .int .i64 tm, .int .i64 vt, .int .i64 rl, .int .i64 ld, .int .i64 ti, .int .i64 vs, .slice ga2 gl gc2, .int .i64 cm, .slice na2 nl nc2, .slice ma2 ml mc2]) (T := 25) rfl (hf.rel 4 _ rfl) (hX.get (i := 0) rfl) Try.underlying25 info_mem) hf.defers ⟨ga2, gc2, na2, nc2, ma2, mc2, [.int .i64 id, .int .i64 sz, .int .i64 tm, .int .i64 vt, .int .i64 rl, .int .i64 ld, .int .i64 ti, .int .i64 vs, .slice ga2 gl gc2, .int .i64 cm, .slice na2 nl nc2, .slice ma2 ml mc2], rfl, .inl ⟨hcc, rfl⟩, ?_, by have := hX.low; rw [hβ] at this; exact this⟩
          obtain ⟨m, _, h8, h10, h11⟩ := HE.out
          exact ⟨m, hX.later2 hmem (fun k h => Or.inl (Nat.lt_of_lt_of_le h hb0.size)) (fun k h => Or.inr h) (fun k h => h) (fun k h => Nat.le_trans hsA h) h8, hX.later2 hmem (fun k h => Or.inl (Nat.lt_of_lt_of_le h hb0.size)) (fun k h => Or.inr h) (fun k h => h) (fun k h => Nat.le_trans hsA h) h10, hX.later2 hmem (fun k h => Or.inl (Nat.lt_of_lt_of_le h hb0.size)) (fun k h => Or.inr h) (fun k h => h) (fun k h => Nat.le_trans hsA h) h11⟩
      ·
        refine sv_cmp hf rfl rfl true (congrArg some (by rw [decide_eq_false hq6]; rfl)) (by decide) (fun a hf => ?_)
        refine sv_mv hf rfl (by decide) (fun a hf => ?_)
        refine sv_skip1 hf rfl rfl (by decide) (by decide) (fun a hf => ?_)
        refine sv_skip1 hf rfl rfl (by decide) (by decide) (fun a hf => ?_)
        refine sv_skip1 hf rfl rfl (by decide) (by decide) (fun a hf => ?_)
        refine sv_skip1 hf rfl rfl (by decide) (by decide) (fun a hf => ?_)
        refine sv_skip1 hf rfl rfl (by decide) (by decide) (fun a hf => ?_)
        refine sv_pk hf rfl rfl (by decide) (fun a hf => ?_)
        refine sv_mv hf rfl (by decide) (fun a hf => ?_)
        refine sv_skip1 hf rfl rfl (by decide) (by decide) (fun a hf => ?_)
        refine sv_skip1 hf rfl rfl (by decide) (by decide) (fun a hf => ?_)
        refine sv_skip1 hf rfl rfl (by decide) (by decide) (fun a hf => ?_)
        refine sv_pk hf rfl rfl (by decide) (fun a hf => ?_)
        refine sv_mv hf rfl (by decide) (fun a hf => ?_)
        refine sv_skip1 hf rfl rfl (by decide) (by decide) (fun a hf => ?_)
        refine sv_skip1 hf rfl rfl (by decide) (by decide) (fun a hf => ?_)
        refine sv_skip1 hf rfl rfl (by decide) (by decide) (fun a hf => ?_)
        refine sv_pk hf rfl rfl (by decide) (fun a hf => ?_)
        refine sv_mv hf rfl (by decide) (fun a hf => ?_)
        refine sv_skip1 hf rfl rfl (by decide) (by decide) (fun a hf => ?_)
        refine sv_skip1 hf rfl rfl (by decide) (by decide) (fun a hf => ?_)
        refine sv_skip1 hf rfl rfl (by decide) (by decide) (fun a hf => ?_)
        refine sv_pk hf rfl rfl (by decide) (fun a hf => ?_)
        refine sv_mv hf rfl (by decide) (fun a hf => ?_)
        refine sv_skip1 hf rfl rfl (by decide) (by decide) (fun a hf => ?_)
        refine sv_skip1 hf rfl rfl (by decide) (by decide) (fun a hf => ?_)
        refine sv_skip1 hf rfl rfl (by decide) (by decide) (fun a hf => ?_)
        refine sv_skip1 hf rfl rfl (by decide) (by decide) (fun a hf => ?_)
        refine sv_skip1 hf rfl rfl (by decide) (by decide) (fun a hf => ?_)
        refine sv_pk hf rfl rfl (by decide) (fun a hf => ?_)
        replace hf := hf.sub (env' := [(51, .bool true), (4, .pointer (some ⟨C3, 0, none⟩)), (3, .pointer (some ⟨C2, 0, none⟩)), (2, .pointer (some ⟨C1, 0, none⟩))]) (sub_cons rfl (sub_cons rfl (sub_cons rfl (sub_cons rfl (sub_nil)))))
        refine sv_nil hf ?_
        refine wp_cond_true (hf.rel _ _ rfl) ?_
        refine wp_seq ?_
        refine wp_region_lit ?_
        refine sv_lr hf hX rfl 2 rfl Try.underlying25 info_mem (by decide) (fun a hf => ?_)
        refine sv_sr hf hX rfl rfl 0 rfl rfl info_mem (fun v hv => List.all_eq_true.1 (show List.all [.int .i64 id, .int .i64 sz, .int .i64 tm, .int .i64 vt, .int .i64 rl, .int .i64 ld, .int .i64 ti, .int .i64 vs, .slice ga2 gl gc2, .int .i64 cm, .slice na2 nl nc2, .slice ma2 ml mc2] (·.oneCell') = true from rfl) v hv) [(C3, [.int .i64 id, .int .i64 sz, .int .i64 tm, .int .i64 vt, .int .i64 rl, .int .i64 ld, .int .i64 ti, .int .i64 vs, .slice ga2 gl gc2, .int .i64 cm, .slice na2 nl nc2, .slice ma2 ml mc2]), (C2, [.int .i64 xf, .int .i64 xto, .int .i64 xk, .int .i64 xt, .int .i64 xi, .int .i64 xl, .int .i64 xc, .slice ea el ec, .bool xok]), (C1, [.int .i64 id, .int .i64 sz, .int .i64 tm, .int .i64 vt, .int .i64 rl, .int .i64 ld, .int .i64 ti, .int .i64 vs, .slice ga2 gl gc2, .int .i64 cm, .slice na2 nl nc2, .slice ma2 ml mc2])] rfl (fun W hX hO => ?_)
        clear hO
        replace hf := hf.sub (env' := [(4, .pointer (some ⟨C3, 0, none⟩)), (3, .pointer (some ⟨C2, 0, none⟩)), (2, .pointer (some ⟨C1, 0, none⟩))]) (sub_cons rfl (sub_cons rfl (sub_cons rfl (sub_nil))))
        refine sv_nil hf ?_
        refine wp_ret ?_
        try simp only [Exit.inBlock, Exit.then]
        have hcc : c = 0 := by rw [hc]; unfold VCase; simp [hq4, hq5, hq6]
        refine bodyPost_ret (res_cell (c := 4) (C := C3) (cs := [.int .i64 id, .int .i64 sz, .int .i64 tm, .int .i64 vt, .int .i64 rl, .int .i64 ld, .int .i64 ti, .int .i64 vs, .slice ga2 gl gc2, .int .i64 cm, .slice na2 nl nc2, .slice ma2 ml mc2]) (T := 25) rfl (hf.rel 4 _ rfl) (hX.get (i := 0) rfl) Try.underlying25 info_mem) hf.defers ⟨ga2, gc2, na2, nc2, ma2, mc2, [.int .i64 id, .int .i64 sz, .int .i64 tm, .int .i64 vt, .int .i64 rl, .int .i64 ld, .int .i64 ti, .int .i64 vs, .slice ga2 gl gc2, .int .i64 cm, .slice na2 nl nc2, .slice ma2 ml mc2], rfl, .inl ⟨hcc, rfl⟩, ?_, by have := hX.low; rw [hβ] at this; exact this⟩
        obtain ⟨m, _, h8, h10, h11⟩ := HE.out
        exact ⟨m, hX.later2 hmem (fun k h => Or.inl (Nat.lt_of_lt_of_le h hb0.size)) (fun k h => Or.inr h) (fun k h => h) (fun k h => Nat.le_trans hsA h) h8, hX.later2 hmem (fun k h => Or.inl (Nat.lt_of_lt_of_le h hb0.size)) (fun k h => Or.inr h) (fun k h => h) (fun k h => Nat.le_trans hsA h) h10, hX.later2 hmem (fun k h => Or.inl (Nat.lt_of_lt_of_le h hb0.size)) (fun k h => Or.inr h) (fun k h => h) (fun k h => Nat.le_trans hsA h) h11⟩
  ·
    refine sv_cmp hf rfl rfl true (congrArg some (by rw [decide_eq_false hq4]; rfl)) (by decide) (fun a hf => ?_)
    replace hf := hf.sub (env' := [(9, .bool true), (4, .pointer (some ⟨C3, 0, none⟩)), (3, .pointer (some ⟨C2, 0, none⟩)), (2, .pointer (some ⟨C1, 0, none⟩))]) (sub_cons rfl (sub_cons rfl (sub_cons rfl (sub_cons rfl (sub_nil)))))
    refine sv_nil hf ?_
    refine wp_cond_true (hf.rel _ _ rfl) ?_
    refine wp_seq ?_
    refine wp_region_lit ?_
    refine sv_lr hf hX rfl 2 rfl Try.underlying25 info_mem (by decide) (fun a hf => ?_)
    refine sv_sr hf hX rfl rfl 0 rfl rfl info_mem (fun v hv => List.all_eq_true.1 (show List.all [.int .i64 id, .int .i64 sz, .int .i64 tm, .int .i64 vt, .int .i64 rl, .int .i64 ld, .int .i64 ti, .int .i64 vs, .slice ga2 gl gc2, .int .i64 cm, .slice na2 nl nc2, .slice ma2 ml mc2] (·.oneCell') = true from rfl) v hv) [(C3, [.int .i64 id, .int .i64 sz, .int .i64 tm, .int .i64 vt, .int .i64 rl, .int .i64 ld, .int .i64 ti, .int .i64 vs, .slice ga2 gl gc2, .int .i64 cm, .slice na2 nl nc2, .slice ma2 ml mc2]), (C2, [.int .i64 xf, .int .i64 xto, .int .i64 xk, .int .i64 xt, .int .i64 xi, .int .i64 xl, .int .i64 xc, .slice ea el ec, .bool xok]), (C1, [.int .i64 id, .int .i64 sz, .int .i64 tm, .int .i64 vt, .int .i64 rl, .int .i64 ld, .int .i64 ti, .int .i64 vs, .slice ga2 gl gc2, .int .i64 cm, .slice na2 nl nc2, .slice ma2 ml mc2])] rfl (fun W hX hO => ?_)
    clear hO
    replace hf := hf.sub (env' := [(4, .pointer (some ⟨C3, 0, none⟩)), (3, .pointer (some ⟨C2, 0, none⟩)), (2, .pointer (some ⟨C1, 0, none⟩))]) (sub_cons rfl (sub_cons rfl (sub_cons rfl (sub_nil))))
    refine sv_nil hf ?_
    refine wp_ret ?_
    try simp only [Exit.inBlock, Exit.then]
    have hcc : c = 0 := by rw [hc]; unfold VCase; simp [hq4]
    refine bodyPost_ret (res_cell (c := 4) (C := C3) (cs := [.int .i64 id, .int .i64 sz, .int .i64 tm, .int .i64 vt, .int .i64 rl, .int .i64 ld, .int .i64 ti, .int .i64 vs, .slice ga2 gl gc2, .int .i64 cm, .slice na2 nl nc2, .slice ma2 ml mc2]) (T := 25) rfl (hf.rel 4 _ rfl) (hX.get (i := 0) rfl) Try.underlying25 info_mem) hf.defers ⟨ga2, gc2, na2, nc2, ma2, mc2, [.int .i64 id, .int .i64 sz, .int .i64 tm, .int .i64 vt, .int .i64 rl, .int .i64 ld, .int .i64 ti, .int .i64 vs, .slice ga2 gl gc2, .int .i64 cm, .slice na2 nl nc2, .slice ma2 ml mc2], rfl, .inl ⟨hcc, rfl⟩, ?_, by have := hX.low; rw [hβ] at this; exact this⟩
    obtain ⟨m, _, h8, h10, h11⟩ := HE.out
    exact ⟨m, hX.later2 hmem (fun k h => Or.inl (Nat.lt_of_lt_of_le h hb0.size)) (fun k h => Or.inr h) (fun k h => h) (fun k h => Nat.le_trans hsA h) h8, hX.later2 hmem (fun k h => Or.inl (Nat.lt_of_lt_of_le h hb0.size)) (fun k h => Or.inr h) (fun k h => h) (fun k h => Nat.le_trans hsA h) h10, hX.later2 hmem (fun k h => Or.inl (Nat.lt_of_lt_of_le h hb0.size)) (fun k h => Or.inr h) (fun k h => h) (fun k h => Nat.le_trans hsA h) h11⟩
end Go.Proofs.Ytfpgklhbghahoaa
