/- Mvcc: the store at work beside the reference's. -/
import Derived.Test.YtaecppkkbdbdbaaMv51
namespace Go.Proofs.Ytaecppkkbdbdbaa
open Go.ChangeShapes Go.WideShapes Go.ChangeAt Go.RowKit Go.Deep Go.ChangeMaps Go.Shelf Go.Sort
set_option linter.unusedVariables false
set_option linter.unusedSimpArgs false
theorem Tag.box {W : World} {b : Nat} {t : TypeId} {v : Value} (h : Boxed W b t v) : Tag W b t := ⟨_, _, h⟩
theorem foot_tag {B S m clock : Nat} {W : World} {E : List En} (h : Sto B W S m E clock) {k : Nat} (hk : Foot S m E k) {e : TypeId} (ht : Tag W k e) : e = 85 ∨ e = 87 := by
  rcases hk with rfl | rfl | ⟨x, hx, hk⟩
  · exact .inl (ht.one (Tag.box h.box))
  · obtain ⟨c, f, h1⟩ := ht
    have h2 : W.heap[k]? = some (.map (esOf E) clock) := h.map
    rw [h2] at h1
    cases h1
  · right
    have hr : W.ownsRow B 87 3 x.val x.vs.length (vrv x.vs) := (h.rows x hx).1
    rcases hr.2 with ⟨e1, _⟩ | ⟨g, cap, cur, e1, _, h2, _⟩
    · rw [e1] at hk; simp [Value.ownBlock] at hk
    · rw [e1] at hk
      have : g = k := by simpa [Value.ownBlock] using hk
      subst this
      exact ht.one ⟨_, _, h2⟩
theorem RR.kept {α : Type} {R : RK α} {W W' : World} {v : Value} {l : List α} {T : Nat → Prop} (h : RR R W v l) (hk : Kept T W W') (hT : ∀ g, Tag W g R.E → ¬ T g) : RR R W' v l := by
  obtain ⟨a, c, h1, h2, h3, h4⟩ := h
  refine ⟨a, c, h1, h2, h3, fun h0 => ?_⟩
  obtain ⟨g, o, e, g1, g2⟩ := h4 h0
  have hb : W'.heap[g]? = W.heap[g]? := hk.block g g1.lt (hT g g1)
  exact ⟨g, o, e, g1.same hb, fun j u hj => (World.cell?_of_block (a := ⟨g, o + j, none⟩) hb).trans (g2 j u hj)⟩
/-- the reference's store in its box -/
structure RB (bt : Nat) (tv : Value) (Z : List Itm) (W : World) : Prop where
  it : RIt W tv Z
  box : Boxed W bt 28 tv
theorem RB.below {bt : Nat} {tv : Value} {Z : List Itm} {W W' : World} (h : RB bt tv Z W) (hb : Below W.heap.size W W') : RB bt tv Z W' := ⟨h.it.below hb, (hb.block _ h.box.lt).trans h.box⟩
theorem RB.turn {bt B S m clock : Nat} {tv : Value} {Z : List Itm} {W W' : World} {E : List En} (h : RB bt tv Z W) (hs : Sto B W S m E clock) (hk : Kept (Foot S m E) W W') : RB bt tv Z W' := by
  have key : ∀ e, e ≠ 85 → e ≠ 87 → ∀ g, Tag W g e → ¬ Foot S m E g := fun e h1 h2 g ht hf => by
    rcases foot_tag hs hf ht with e1 | e1
    · exact h1 e1
    · exact h2 e1
  exact ⟨⟨h.it.1.kept hk (key _ (by decide) (by decide)), fun z hz => (h.it.2 z hz).kept hk (key _ (by decide) (by decide))⟩, boxed_kept h.box hk (key _ (by decide) (by decide) bt (Tag.box h.box))⟩
theorem RB.set {bt : Nat} {tv u : Value} {Z Z' : List Itm} {W : World} (h : RB bt tv Z W) (hr : RIt W u Z') : RB bt u Z' (W.setCell ⟨bt, 0, none⟩ u) := ⟨hr.set_box h.box u, h.box.set u⟩
theorem Wk.setBox {B S m clock N bt : Nat} {E : List En} {A : Bs → List Ver} {W0 W : World} {tv : Value} (h : Wk B S m E clock A N W0 W) (hb : Boxed W bt 28 tv) (hB : B ≤ bt) (u : Value) : Wk B S m E clock A N W0 (W.setCell ⟨bt, 0, none⟩ u) := by
  have hk : Kept (fun k => k = bt) W (W.setCell ⟨bt, 0, none⟩ u) := ⟨rfl, rfl, rfl, by simp, fun k _ hn => set_far hn⟩
  refine ⟨h.sto.kept hk (fun k hf e => ?_), h.lk, h.tot, h.low.setCell hB _, by simpa using h.bw⟩
  subst e
  rcases foot_tag h.sto hf (Tag.box hb) with e1 | e1
  · revert e1; decide
  · revert e1; decide
/-- lengths and orders of what a store at work holds -/
theorem Wk.good {B S m clock N : Nat} {E : List En} {A : Bs → List Ver} {W0 W : World} (h : Wk B S m E clock A N W0 W) (k : Bs) : Asc (A k) ∧ (A k).length ≤ N := by
  rw [← h.lk]
  exact ⟨(h.sto.row k).2.1, Nat.le_trans (lk_total E k) h.tot⟩
theorem Rep.good {B S m clock N : Nat} {E : List En} {A : Bs → List Ver} {W0 W : World} {Z : List Itm} (h : Rep Z A) (hw : Wk B S m E clock A N W0 W) : Z.length ≤ N ∧ ∀ z ∈ Z, Asc z.vs ∧ z.vs.length ≤ N := by
  have h' : Rep Z (lkL E) := by rw [hw.lk]; exact h
  refine ⟨by rw [h'.len hw.sto.gd]; exact hw.len, fun z hz => ?_⟩
  rw [h.mem hz]
  exact hw.good z.key
end Go.Proofs.Ytaecppkkbdbdbaa
