/- Mvcc: the reference's New, Put, Delete. -/
import Derived.Test.YtaecppkkbdbdbaaMv44
namespace Go.Proofs.Ytaecppkkbdbdbaa
open Go.ChangeShapes Go.WideShapes Go.ChangeAt Go.RowKit Go.Deep Go.ChangeMaps Go.Shelf Go.Sort
set_option linter.unusedVariables false
set_option linter.unusedSimpArgs false
/-- a row of elements of two cells or more does not lie in a box of one cell -/
theorem RR.set_box {α : Type} {R : RK α} (hR : R.Ok) (hk : 2 ≤ R.k) {W : World} {v : Value} {l : List α} {b : Nat} {t : TypeId} {u : Value} (h : RR R W v l) (hb : Boxed W b t u) (x : Value) : RR R (W.setCell ⟨b, 0, none⟩ x) v l := by
  obtain ⟨a, c, h1, h2, h3, h4⟩ := h
  refine ⟨a, c, h1, h2, h3, fun h0 => ?_⟩
  obtain ⟨g, o, e, hg, hc⟩ := h4 h0
  have hne : g ≠ b := fun e2 => by
    have h5 := RK.flat_at hR l 0 h0 1 (by omega)
    have h6 : (R.enc l[0])[1]? = some ((R.enc l[0])[1]'(by rw [hR.hlen]; omega)) := List.getElem?_eq_getElem _
    rw [h6] at h5
    have h7 := hc _ _ h5
    rw [e2] at h7
    have h8 : W.heap[b]? = some (.cells #[u] t (0, 0)) := hb
    simp only [World.cell?, h8, Option.isSome_none, Bool.false_eq_true, if_false] at h7
    rw [Array.getElem?_eq_none (by simp)] at h7
    cases h7
  exact ⟨g, o, e, hg.same (set_far hne), fun j y hj => (World.cell?_of_block (a := ⟨g, o + j, none⟩) (set_far hne)).trans (hc j y hj)⟩
theorem RIt.set_box {W : World} {v : Value} {Z : List Itm} {b : Nat} {t : TypeId} {u : Value} (h : RIt W v Z) (hb : Boxed W b t u) (x : Value) : RIt (W.setCell ⟨b, 0, none⟩ x) v Z :=
  ⟨h.1.set_box okI (by decide) hb x, fun z hz => (h.2 z hz).set_box okV (by decide) hb x⟩
theorem new_ref (W : World) : Calls Try.prog 11 #[] W fun e w' => e = .returned (.agg #[.slice none 0 0]) ∧ Below W.heap.size W w' := by
  have hc := (Boxed.new W 28 (.slice none 0 0)).cell
  have hlow := box_below W (.slice none 0 0) 28
  go_enter Try.func11, Try.ntmps11
  go_wp2_with fail
  exact bodyPost_ret (v := .agg #[.slice none 0 0]) (by simp [results, Try.results11, go_sem, hc]) rfl ⟨rfl, hlow⟩
/-- the boxes of Put and Delete -/
structure PW (r : Nat) (v : Value) (Z : List Itm) (W W1 : World) : Prop where
  it : RIt W1 v Z
  b0 : Boxed W1 r 28 v
  b1 : Boxed W1 (r + 1) 28 (.slice none 0 0)
  low : Below r W W1
  sz : r + 1 < W1.heap.size
theorem PW.new (v : Value) (Z : List Itm) (W : World) (h : RIt W v Z) : PW W.heap.size v Z W ((W.alloc (.cells #[v] 28)).alloc (.cells #[.slice none 0 0] 28)) := by
  have hb : Below W.heap.size W ((W.alloc (.cells #[v] 28)).alloc (.cells #[.slice none 0 0] 28)) := ((Below.refl _ W).alloc (Nat.le_refl _) _).alloc (by simp) _
  refine ⟨h.below hb, (Boxed.new W _ v).alloc _, ?_, hb, by simp⟩
  have := Boxed.new (W.alloc (.cells #[v] 28)) 28 (.slice none 0 0)
  rw [World.size_alloc] at this
  exact this
theorem PW.fin {r : Nat} {v u : Value} {Z Z' : List Itm} {W W1 W2 : World} (h : PW r v Z W W1) (hb : Below W1.heap.size W1 W2) (hr : RIt W2 u Z') :
    W2.cell? ⟨r + 1, 0, none⟩ = some (.slice none 0 0) ∧ W2.frozen? ⟨r + 1, 0, none⟩ = false ∧ (W2.setCell ⟨r + 1, 0, none⟩ u).cell? ⟨r + 1, 0, none⟩ = some u ∧ RIt (W2.setCell ⟨r + 1, 0, none⟩ u) u Z' ∧ Below r W (W2.setCell ⟨r + 1, 0, none⟩ u) :=
  have h1 : Boxed W2 (r + 1) 28 (.slice none 0 0) := (hb.block _ h.b1.lt).trans h.b1
  ⟨h1.cell, h1.frozen, (h1.set u).cell, hr.set_box h1 u, (h.low.trans (hb.mono (by have := h.sz; omega))).setCell (by show r ≤ r + 1; omega) _⟩
/-- what a write of the reference returns -/
def PutRef (v : Value) (Z : List Itm) (key : Bs) (x : Ver) (W : World) (e : Ending) (w' : World) : Prop :=
  (¬ okT (lookZ Z key) x.1 ∧ e = .returned (.tuple #[.agg #[v], .int .i64 1]) ∧ Below W.heap.size W w') ∨
  (okT (lookZ Z key) x.1 ∧ ∃ v' Z', e = .returned (.tuple #[.agg #[v'], .int .i64 0]) ∧ RIt w' v' Z' ∧ Added Z Z' key x ∧ Below W.heap.size W w')
set_option maxRecDepth 100000 in
set_option maxHeartbeats 1600000 in
theorem put_ref (v : Value) (Z : List Itm) (key vl : Bs) (t : Int) (W : World) (h : RIt W v Z) (hl : Z.length ≤ 500) (hL : (lookZ Z key).length ≤ 5000) :
    Calls Try.prog 13 #[.agg #[v], .string key, .string vl, .int .i64 t] W (PutRef v Z key (t, vl, false) W) := by
  obtain ⟨a, c, rfl, _⟩ := h.1
  have hP := PW.new _ Z W h
  obtain ⟨n, hn⟩ : ∃ n, n = Z.length := ⟨_, rfl⟩
  have HN := Lib.hid (And.intro hl hL)
  rw [← hn] at hP ⊢
  clear h hn hl hL
  go_enter Try.func13, Try.ntmps13
  go_wp2_with fail
  generalize ((W.alloc (.cells #[.slice a n c] 28)).alloc (.cells #[.slice none 0 0] 28)) = W1 at *
  have c0 := hP.b0.cell
  have HP := Lib.hid hP
  clear hP
  by_cases hok : okT (lookZ Z key) t
  · have HOK := Lib.hid hok
    clear hok
    go_wp2_with fail
    refine (add_ref_ok _ Z key (t, vl, false) W1 HP.out.it HN.out.1 HN.out.2 HOK.out).mono ?_
    rintro e W2 ⟨v', Z', rfl, hr, ha, hb⟩
    have HA := Lib.hid ha
    obtain ⟨d1, d2, d3, d4, d5⟩ := HP.out.fin hb hr
    obtain ⟨a', c', rfl, _⟩ := id hr.1
    obtain ⟨m, hm⟩ : ∃ m, m = Z'.length := ⟨_, rfl⟩
    rw [← hm] at d3 d4 d5 ⊢
    have HD := Lib.hid (And.intro d4 d5)
    clear hr ha hb hm d4 d5
    go_wp2_with fail
    exact bodyPost_ret (v := .tuple #[.agg #[.slice a' m c'], .int .i64 0]) (by simp [results, Try.results13, go_sem, d3]) rfl (.inr ⟨HOK.out, _, _, rfl, HD.out.1, HA.out, HD.out.2⟩)
  · have HOK := Lib.hid hok
    clear hok
    go_wp2_with fail
    refine (add_ref_bad _ Z key (t, vl, false) W1 HP.out.it HN.out.1 HN.out.2 HOK.out).mono ?_
    rintro e W2 ⟨rfl, hb⟩
    obtain ⟨d1, d2, d3, d4, d5⟩ := HP.out.fin hb (HP.out.it.below hb)
    have HD := Lib.hid d5
    clear hb d4 d5
    go_wp2_with fail
    exact bodyPost_ret (v := .tuple #[.agg #[.slice a n c], .int .i64 1]) (by simp [results, Try.results13, go_sem, d3]) rfl (.inl ⟨HOK.out, rfl, HD.out⟩)
set_option maxRecDepth 100000 in
set_option maxHeartbeats 1600000 in
theorem delete_ref (v : Value) (Z : List Itm) (key : Bs) (t : Int) (W : World) (h : RIt W v Z) (hl : Z.length ≤ 500) (hL : (lookZ Z key).length ≤ 5000) :
    Calls Try.prog 15 #[.agg #[v], .string key, .int .i64 t] W (PutRef v Z key (t, ⟨#[]⟩, true) W) := by
  obtain ⟨a, c, rfl, _⟩ := h.1
  have hP := PW.new _ Z W h
  obtain ⟨n, hn⟩ : ∃ n, n = Z.length := ⟨_, rfl⟩
  have HN := Lib.hid (And.intro hl hL)
  rw [← hn] at hP ⊢
  clear h hn hl hL
  go_enter Try.func15, Try.ntmps15
  go_wp2_with fail
  generalize ((W.alloc (.cells #[.slice a n c] 28)).alloc (.cells #[.slice none 0 0] 28)) = W1 at *
  have c0 := hP.b0.cell
  have HP := Lib.hid hP
  clear hP
  by_cases hok : okT (lookZ Z key) t
  · have HOK := Lib.hid hok
    clear hok
    go_wp2_with fail
    refine (add_ref_ok _ Z key (t, ⟨#[]⟩, true) W1 HP.out.it HN.out.1 HN.out.2 HOK.out).mono ?_
    rintro e W2 ⟨v', Z', rfl, hr, ha, hb⟩
    have HA := Lib.hid ha
    obtain ⟨d1, d2, d3, d4, d5⟩ := HP.out.fin hb hr
    obtain ⟨a', c', rfl, _⟩ := id hr.1
    obtain ⟨m, hm⟩ : ∃ m, m = Z'.length := ⟨_, rfl⟩
    rw [← hm] at d3 d4 d5 ⊢
    have HD := Lib.hid (And.intro d4 d5)
    clear hr ha hb hm d4 d5
    go_wp2_with fail
    exact bodyPost_ret (v := .tuple #[.agg #[.slice a' m c'], .int .i64 0]) (by simp [results, Try.results15, go_sem, d3]) rfl (.inr ⟨HOK.out, _, _, rfl, HD.out.1, HA.out, HD.out.2⟩)
  · have HOK := Lib.hid hok
    clear hok
    go_wp2_with fail
    refine (add_ref_bad _ Z key (t, ⟨#[]⟩, true) W1 HP.out.it HN.out.1 HN.out.2 HOK.out).mono ?_
    rintro e W2 ⟨rfl, hb⟩
    obtain ⟨d1, d2, d3, d4, d5⟩ := HP.out.fin hb (HP.out.it.below hb)
    have HD := Lib.hid d5
    clear hb d4 d5
    go_wp2_with fail
    exact bodyPost_ret (v := .tuple #[.agg #[.slice a n c], .int .i64 1]) (by simp [results, Try.results15, go_sem, d3]) rfl (.inl ⟨HOK.out, rfl, HD.out⟩)
end Go.Proofs.Ytaecppkkbdbdbaa
