/- Balance: the law's load in every case; the routes' box in the law about ends. -/
import Derived.Test.YtimhokilicogdaaBal35a
namespace Go.Proofs.Ytimhokilicogdaa
open Go.ChangeShapes Go.WideShapes Go.ChangeAt Go.RowKit Go.Deep
set_option linter.unusedVariables false
set_option linter.unusedSimpArgs false
/-- the routes in the law's box, with their chunks -/
def EE (w : World) (sp : ByteArray) (ks : Value) (hs : Bool) (ep vr : Int) (B o cap : Nat) (cs : List Ch) (W : World) : Prop :=
  KP W (rcs w.heap.size sp ks hs ep vr (.slice (some ⟨B, o, none⟩) cs.length cap)) ∧ (∀ o, W.frozen? ⟨w.heap.size, o, none⟩ = false) ∧ B < W.heap.size ∧ (∀ j (h : j < cs.length), W.rangeAt B (o + j * 5) cs[j].cells) ∧ Below w.heap.size w W
theorem EE.keep {w : World} {sp : ByteArray} {ks : Value} {hs : Bool} {ep vr : Int} {B o cap : Nat} {cs : List Ch} {W W' : World} (h : EE w sp ks hs ep vr B o cap cs W) (hb : Below W.heap.size W W') : EE w sp ks hs ep vr B o cap cs W' := by
  obtain ⟨h1, h2, h3, h4, h5⟩ := h
  have hz : w.heap.size < W.heap.size := h1.1.2
  exact ⟨h1.keep hb, fun o => (hb.frozen (p := ⟨w.heap.size, o, none⟩) hz).trans (h2 o), Nat.lt_of_lt_of_le h3 hb.size, fun j h => rangeAt5_below (h4 j h) hb h3, h5.trans (hb.mono h5.size)⟩
theorem EE.chs {w : World} {sp : ByteArray} {ks : Value} {hs : Bool} {ep vr : Int} {B o cap : Nat} {cs : List Ch} {W : World} (h : EE w sp ks hs ep vr B o cap cs W) (h0 : 0 < cs.length) (hl : cs.length ≤ 1000) : ChsIn W (.slice (some ⟨B, o, none⟩) cs.length cap) cs :=
  .inr ⟨B, o, cap, rfl, h.2.2.1, h0, by omega, h.2.2.2.1⟩
theorem EE.below {w : World} {sp : ByteArray} {ks : Value} {hs : Bool} {ep vr : Int} {B o cap : Nat} {cs : List Ch} {W : World} (h : EE w sp ks hs ep vr B o cap cs W) : Below w.heap.size w W := h.2.2.2.2
theorem EE.new {w : World} {sp : ByteArray} {ks : Value} {hs : Bool} {ep vr : Int} {B o cap : Nat} {cs : List Ch} {W : World} (h : EE w sp ks hs ep vr B o cap cs W) (ob : Obj) : EE w sp ks hs ep vr B o cap cs (W.alloc ob) := h.keep ((Below.refl _ _).alloc (Nat.le_refl _) _)
/-- the routes are stored anew -/
theorem EE.store {w : World} {sp : ByteArray} {ka : Option Addr} {kl kc : Nat} {hs : Bool} {ep vr vr' : Int} {B o cap B' cap' : Nat} {cs cs' : List Ch} {W : World} (h : EE w sp (.slice ka kl kc) hs ep vr B o cap cs W) (hB : B' < W.heap.size) (hne : w.heap.size < B') (hc : ∀ j (h : j < cs'.length), W.rangeAt B' (0 + j * 5) cs'[j].cells) :
    EE w sp (.slice ka kl kc) hs ep vr' B' 0 cap' cs' ((((((W.setCell ⟨w.heap.size, 0, none⟩ (.string sp)).setCell ⟨w.heap.size, 1, none⟩ (.slice ka kl kc)).setCell ⟨w.heap.size, 2, none⟩ (.bool hs)).setCell ⟨w.heap.size, 3, none⟩ (.int .i64 ep)).setCell ⟨w.heap.size, 4, none⟩ (.int .i64 vr')).setCell ⟨w.heap.size, 5, none⟩ (.slice (some ⟨B', 0, none⟩) cs'.length cap')) := by
  obtain ⟨⟨⟨a0, z0⟩, ⟨a1, _⟩, ⟨a2, _⟩, ⟨a3, _⟩, ⟨a4, _⟩, ⟨a5, _⟩, _⟩, h2, h3, h4, h5⟩ := h
  dsimp only at z0
  refine ⟨?_, ?_, by simpa using hB, ?_, ?_⟩
  · simp [rcs, KP, go_sem, a0, a1, a2, a3, a4, a5, z0]
  · intro o
    simpa using h2 o
  · intro j hj i u hu
    have hn : ∀ k, (⟨B', 0 + j * 5 + i, none⟩ : Addr) ≠ ⟨w.heap.size, k, none⟩ := fun k e => by injection e; omega
    rw [World.cell?_setCell_other _ _ _ _ (hn _).symm, World.cell?_setCell_other _ _ _ _ (hn _).symm, World.cell?_setCell_other _ _ _ _ (hn _).symm, World.cell?_setCell_other _ _ _ _ (hn _).symm, World.cell?_setCell_other _ _ _ _ (hn _).symm, World.cell?_setCell_other _ _ _ _ (hn _).symm]
    exact hc j hj i u hu
  · exact (((((h5.setCell (by simp) _).setCell (by simp) _).setCell (by simp) _).setCell (by simp) _).setCell (by simp) _).setCell (by simp) _
/-- what has been seen of the first shards -/
def Seen (cs : List Ch) (xs : List Int) (q : Nat) (L M : Int) (F : Bool) : Prop :=
  ((L = -1 ∧ M = -1 ∧ ∀ s, s < q → drn xs s = true) ∨ ∃ a b, a < q ∧ b < q ∧ drn xs a = false ∧ drn xs b = false ∧ L = ldf cs a ∧ M = ldf cs b) ∧ (F = true → ∃ s, s < q ∧ drn xs s = true ∧ 0 < ldf cs s)
theorem Seen.start (cs : List Ch) (xs : List Int) : Seen cs xs 0 (-1) (-1) false := ⟨.inl ⟨rfl, rfl, fun s h => absurd h (by omega)⟩, fun h => by cases h⟩
theorem Seen.low {cs : List Ch} {xs : List Int} {q : Nat} {L M : Int} {F : Bool} (h : Seen cs xs q L M F) : -1 ≤ L ∧ -1 ≤ M ∧ (L < 0 ↔ M < 0) ∧ L ≤ 1000000 + cs.length ∧ M ≤ 1000000 + cs.length := by
  rcases h.1 with ⟨rfl, rfl, _⟩ | ⟨a, b, _, _, _, _, rfl, rfl⟩
  · omega
  · have h1 := ldf_nonneg cs a
    have h2 := ldf_nonneg cs b
    have h3 := loadOf_le cs (a : Int)
    have h4 := loadOf_le cs (b : Int)
    rw [ldf_load] at *
    rw [ldf_load] at *
    omega
theorem Seen.drained {cs : List Ch} {xs : List Int} {q : Nat} {L M : Int} {F : Bool} (h : Seen cs xs q L M F) (hd : drn xs q = true) (F' : Bool) (hF : F' = true → F = true ∨ 0 < ldf cs q) : Seen cs xs (q + 1) L M F' := by
  refine ⟨?_, fun e => ?_⟩
  · rcases h.1 with ⟨rfl, rfl, h3⟩ | ⟨a, b, h1, h2, h3⟩
    · exact .inl ⟨rfl, rfl, fun s hs => by
        by_cases e : s = q
        · subst e; exact hd
        · exact h3 s (by omega)⟩
    · exact .inr ⟨a, b, by omega, by omega, h3⟩
  · rcases hF e with h1 | h1
    · obtain ⟨s, hs, h2⟩ := h.2 h1
      exact ⟨s, by omega, h2⟩
    · exact ⟨q, by omega, hd, h1⟩
theorem Seen.other {cs : List Ch} {xs : List Int} {q : Nat} {L M : Int} {F : Bool} (h : Seen cs xs q L M F) (hd : drn xs q = false) (L' M' : Int) (hL : L' = ldf cs q ∨ (0 ≤ L ∧ L' = L)) (hM : M' = ldf cs q ∨ (0 ≤ M ∧ M' = M)) : Seen cs xs (q + 1) L' M' F := by
  refine ⟨.inr ?_, fun e => ?_⟩
  · have hA : ∃ a, a < q + 1 ∧ drn xs a = false ∧ L' = ldf cs a := by
      rcases hL with h1 | ⟨h1, h2⟩
      · exact ⟨q, by omega, hd, h1⟩
      · rcases h.1 with ⟨rfl, _⟩ | ⟨a, b, h3, _, h4, _, h5, _⟩
        · omega
        · exact ⟨a, by omega, h4, by rw [h2, h5]⟩
    have hB : ∃ b, b < q + 1 ∧ drn xs b = false ∧ M' = ldf cs b := by
      rcases hM with h1 | ⟨h1, h2⟩
      · exact ⟨q, by omega, hd, h1⟩
      · rcases h.1 with ⟨_, rfl, _⟩ | ⟨a, b, _, h3, _, h4, _, h5⟩
        · omega
        · exact ⟨b, by omega, h4, by rw [h2, h5]⟩
    obtain ⟨a, a1, a2, a3⟩ := hA
    obtain ⟨b, b1, b2, b3⟩ := hB
    exact ⟨a, b, a1, b1, a2, b2, a3, b3⟩
  · obtain ⟨s, hs, h2⟩ := h.2 e
    exact ⟨s, by omega, h2⟩
theorem Seen.done {cs : List Ch} {xs : List Int} {n : Nat} {L M : Int} {F : Bool} (h : Seen cs xs n L M F) (hw : wayOf cs xs n = none) : L = -1 ∨ (F = false ∧ 0 ≤ L ∧ 0 ≤ M ∧ M ≤ L + 1) := by
  rcases h.1 with ⟨rfl, _⟩ | ⟨a, b, h1, h2, h3, h4, rfl, rfl⟩
  · exact .inl rfl
  · right
    have g1 := ldf_nonneg cs a
    have g2 := ldf_nonneg cs b
    rcases way_none hw with h5 | ⟨h5, h6⟩
    · rw [h5 a h1] at h3; cases h3
    · refine ⟨?_, g1, g2, h6 b a h2 h1 h4 h3⟩
      cases F with
      | false => rfl
      | true =>
        obtain ⟨s, hs, hsd, hsl⟩ := h.2 rfl
        have := h5 s hs hsd
        omega
/-- the chunks after some gifts -/
def After (cs0 cs : List Ch) : Prop := cs.map Ch.lo = cs0.map Ch.lo
theorem After.refl (cs : List Ch) : After cs cs := rfl
theorem After.len {cs0 cs : List Ch} (h : After cs0 cs) : cs.length = cs0.length := by
  have := congrArg List.length h
  simpa using this
theorem After.given {cs0 cs : List Ch} (h : After cs0 cs) (i : Nat) (t v : Int) : After cs0 (given cs i t v) := by
  unfold After
  rw [given_map Ch.lo (fun _ _ => rfl) (fun _ _ => rfl)]
  exact h
theorem After.lo {cs0 cs : List Ch} (h : After cs0 cs) (i : Nat) (hi : i < cs.length) (hi0 : i < cs0.length) : cs[i].lo = cs0[i].lo := by
  have h1 : (cs.map Ch.lo)[i]? = (cs0.map Ch.lo)[i]? := by rw [h]
  simpa [hi, hi0] using h1
theorem After.distinct {cs0 cs : List Ch} (h : After cs0 cs) (hg : Good cs0) (i : Nat) (hi : i < cs.length) : ∀ j (hj : j < i), (cs[j]'(by omega)).lo ≠ cs[i].lo := by
  intro j hj e
  have hl := h.len
  rw [h.lo j (by omega) (by omega), h.lo i hi (by omega)] at e
  have := hg.asc j i (by omega) hj
  rw [e] at this
  exact List.lt_irrefl _ this
end Go.Proofs.Ytimhokilicogdaa
