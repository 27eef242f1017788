/- Mvcc: the reference's New, add, Put, Delete. -/
import Derived.Test.YtaecppkkbdbdbaaMv43
import Derived.Deep.RegionHeld3
namespace Go.Proofs.Ytaecppkkbdbdbaa
open Go.ChangeShapes Go.WideShapes Go.ChangeAt Go.RowKit Go.Deep Go.ChangeMaps Go.Shelf Go.Sort
set_option linter.unusedVariables false
set_option linter.unusedSimpArgs false
theorem RR.empty {α : Type} (R : RK α) (W : World) (a : Option Addr) (c : Nat) (hc : c ≤ 9223372036854775807) : RR R W (.slice a 0 c) [] := ⟨a, c, rfl, Nat.zero_le _, hc, fun h => absurd h (by simp)⟩
theorem RR.take {α : Type} {R : RK α} (hR : R.Ok) {W : World} {a : Option Addr} {n c : Nat} {l : List α} (hn : n = l.length) (h : RR R W (.slice a n c) l) (i : Nat) (hi : i ≤ n) : RR R W (.slice a i c) (l.take i) := by
  subst hn
  obtain ⟨a', c', e, h1, h2, h3⟩ := id h
  cases e
  have hl : (l.take i).length = i := by rw [List.length_take]; omega
  refine ⟨a, c, by rw [hl], by omega, h2, fun h0 => ?_⟩
  rw [hl] at h0
  obtain ⟨g, o, rfl, hg, hc⟩ := h3 (by omega)
  have := RR.sub hR 0 i rfl h (Nat.zero_le _) hi c (by omega) h2
  obtain ⟨a2, c2, e, _, _, h4⟩ := this
  rw [Nat.zero_mul, Nat.add_zero, Nat.sub_zero, List.drop_zero] at e
  injection e with e1 e2 e3
  subst e1
  subst e3
  rw [List.drop_zero] at h4
  exact h4 (by rw [hl]; exact h0)
set_option maxRecDepth 100000 in
theorem wpList_dropI {ops : Array Oper} {rest : List Oper} {Q : Exit → Act → World → Prop} (x y k n : Nat) (v : Value) (l : List Itm) (d : Option Nat) (pos : String) (af) (a : Act) (w : World)
    (hv : RR KI w v l) (hside : a.eval (.tmp x) = v ∧ a.eval (.tmp y) = .int .i64 k ∧ k ≤ l.length)
    (h : ∀ sv, RR KI w sv (l.drop k) → wpList Try.prog ops Q rest (a.put d sv) w) :
    wpList Try.prog ops Q ({ dst := d, op := Op.slice 26 (.tmp x) (some (.tmp y)) none none, type := 26, pos := pos, after := af, guard := none } :: rest) a w := by
  obtain ⟨hx, hy, hk⟩ := hside
  refine wpList_plain rfl fun K hK => ?_
  unfold Oper.wp
  have key : ∃ sv, RR KI w sv (l.drop k) ∧ (execOp a.eval { dst := d, op := Op.slice 26 (.tmp x) (some (.tmp y)) none none, type := 26, pos := pos, after := af, guard := none }).run Try.prog w = .ok (.value sv) w := by
    clear hK h K
    generalize a.eval = F at hx hy ⊢
    obtain ⟨ao, c, rfl, hc1, hc2, hc3⟩ := id hv
    have h1 : (0 : Int) ≤ (k : Int) := by omega
    have h2 : (k : Int) ≤ (l.length : Int) := by omega
    have h3 : (l.length : Int) ≤ (c : Int) := by omega
    by_cases hkc : c = k
    · subst hkc
      have hL : l.length = c := by omega
      refine ⟨.slice ao 0 0, ?_, ?_⟩
      · rw [List.drop_of_length_le (by omega)]
        exact RR.empty _ _ _ _ (by decide)
      · rw [hL] at hx
        cases ao <;> simp [execOp, go_sem, hx, hy]
    · cases ao with
      | none =>
        have hL : l.length = 0 := by
          refine Decidable.byContradiction fun h0 => ?_
          obtain ⟨g, o, e, _⟩ := hc3 (by omega)
          cases e
        have hk0 : k = 0 := by omega
        subst hk0
        have hn : l = [] := List.eq_nil_of_length_eq_zero hL
        subst hn
        refine ⟨.slice none 0 c, RR.empty _ _ _ _ hc2, ?_⟩
        simp [execOp, go_sem, hx, hy]
      | some ad =>
        by_cases hL : l.length = 0
        · have hk0 : k = 0 := by omega
          subst hk0
          have hn : l = [] := List.eq_nil_of_length_eq_zero hL
          subst hn
          have hkc' : ¬ (c : Int) = 0 := by omega
          refine ⟨.slice (some (ad.add 0)) 0 c, RR.empty _ _ _ _ hc2, ?_⟩
          simp [execOp, go_sem, hx, hy, hkc]
        · obtain ⟨g, o, e, hg, _⟩ := hc3 (by omega)
          cases e
          refine ⟨.slice (some ⟨g, o + k * 2, none⟩) (l.length - k) (c - k), ?_, ?_⟩
          · have := RR.sub okI k l.length rfl hv hk (Nat.le_refl _) (c - k) (by omega) (by omega)
            rw [List.take_length] at this
            exact this
          · simp [execOp, go_sem, hx, hy, h1, h2, h3, hkc]
  refine Exists.elim key (fun sv h12 => ?_)
  have h1 := h12.1
  have h2 := h12.2
  clear h12 key
  rw [h2]
  exact hK _ _ (h sv h1)
/-- the boxes of a call of add -/
structure AW (r : Nat) (v : Value) (Z : List Itm) (x : Ver) (W W1 : World) : Prop where
  it : RIt W1 v Z
  b0 : Boxed W1 r 28 v
  b1 : Box W1 (r + 1) (verc x)
  b2 : Boxed W1 (r + 1 + 1) 28 (.slice none 0 0)
  low : Below r W W1
  sz : r + 1 + 1 < W1.heap.size
theorem AW.below {r : Nat} {v : Value} {Z : List Itm} {x : Ver} {W W1 W2 : World} (h : AW r v Z x W W1) (hb : Below W1.heap.size W1 W2) : AW r v Z x W W2 :=
  ⟨h.it.below hb, (hb.block _ h.b0.lt).trans h.b0, h.b1.keep hb, (hb.block _ h.b2.lt).trans h.b2, h.low.trans (hb.mono (by have := h.sz; omega)), Nat.lt_of_lt_of_le h.sz hb.size⟩
theorem AW.cells {r : Nat} {v : Value} {Z : List Itm} {x : Ver} {W W1 : World} (h : AW r v Z x W W1) : W1.cell? ⟨r, 0, none⟩ = some v ∧ W1.cell? ⟨r + 1, 0, none⟩ = some (.int .i64 x.1) ∧ W1.cell? ⟨r + 1, 1, none⟩ = some (.string x.2.1) ∧ W1.cell? ⟨r + 1, 2, none⟩ = some (.bool x.2.2) :=
  ⟨h.b0.cell, h.b1.cell 0 _ rfl, h.b1.cell 1 _ rfl, h.b1.cell 2 _ rfl⟩
theorem AW.fin {r : Nat} {v : Value} {Z : List Itm} {x : Ver} {W W1 : World} (h : AW r v Z x W W1) (u : Value) : (W1.setCell ⟨r + 1 + 1, 0, none⟩ u).cell? ⟨r + 1 + 1, 0, none⟩ = some u ∧ Below r W (W1.setCell ⟨r + 1 + 1, 0, none⟩ u) :=
  ⟨(h.b2.set u).cell, h.low.setCell (by show r ≤ r + 1 + 1; omega) _⟩
theorem AW.szle {r : Nat} {v : Value} {Z : List Itm} {x : Ver} {W W1 X : World} (h : AW r v Z x W W1) (hb : Below W1.heap.size W1 X) : W1.heap.size ≤ X.heap.size := hb.size
theorem AW.two {r : Nat} {v : Value} {Z : List Itm} {x : Ver} {W W1 X : World} (h : AW r v Z x W W1) (hb : Below W1.heap.size W1 X) : X.cell? ⟨r, 0, none⟩ = some v ∧ X.cell? ⟨r + 1, 0, none⟩ = some (.int .i64 x.1) := ⟨(h.below hb).cells.1, (h.below hb).cells.2.1⟩
theorem AW.new (v : Value) (Z : List Itm) (x : Ver) (W : World) (h : RIt W v Z) : AW W.heap.size v Z x W (((W.alloc (.cells #[v] 28)).alloc (.cells #[.int .i64 x.1, .string x.2.1, .bool x.2.2] 54)).alloc (.cells #[.slice none 0 0] 28)) := by
  have hb : Below W.heap.size W (((W.alloc (.cells #[v] 28)).alloc (.cells #[.int .i64 x.1, .string x.2.1, .bool x.2.2] 54)).alloc (.cells #[.slice none 0 0] 28)) :=
    (((Below.refl _ W).alloc (Nat.le_refl _) _).alloc (by simp) _).alloc (by simp; omega) _
  refine ⟨h.below hb, ((Boxed.new W _ v).alloc _).alloc _, ?_, ?_, hb, by simp⟩
  · have := Box.new (W.alloc (.cells #[v] 28)) (verc x) 54
    rw [World.size_alloc] at this
    exact this.keep ((Below.refl _ _).alloc (Nat.le_refl _) _)
  · have := Boxed.new ((W.alloc (.cells #[v] 28)).alloc (.cells #[.int .i64 x.1, .string x.2.1, .bool x.2.2] 54)) 28 (.slice none 0 0)
    rw [World.size_alloc, World.size_alloc] at this
    exact this
set_option maxRecDepth 100000 in
set_option maxHeartbeats 1600000 in
theorem add_ref_bad (v : Value) (Z : List Itm) (key : Bs) (x : Ver) (W : World) (h : RIt W v Z) (hl : Z.length ≤ 500) (hL : (lookZ Z key).length ≤ 5000) (hbad : ¬ okT (lookZ Z key) x.1) :
    Calls Try.prog 45 #[.agg #[v], .string key, .agg #[.int .i64 x.1, .string x.2.1, .bool x.2.2]] W fun e w' => e = .returned (.tuple #[.agg #[v], .int .i64 1]) ∧ Below W.heap.size W w' := by
  obtain ⟨a, c, rfl, _⟩ := h.1
  obtain ⟨xs, xv, xd⟩ := x
  have hA := AW.new _ Z (xs, xv, xd) W h
  have HN := Lib.hid (And.intro hl hL)
  obtain ⟨n, hn⟩ : ∃ n, n = Z.length := ⟨_, rfl⟩
  rw [← hn] at hA ⊢
  clear h hn hl hL
  obtain ⟨s, hs⟩ : ∃ s, s = lastT (lookZ Z key) := ⟨_, rfl⟩
  have hb3 : xs < 1 ∨ (¬ xs < 1 ∧ 1099511627776 < xs) ∨ (¬ xs < 1 ∧ ¬ 1099511627776 < xs ∧ xs ≤ s) := by
    unfold okT at hbad
    rw [hs]
    by_cases h1 : xs < 1
    · exact .inl h1
    · by_cases h2 : 1099511627776 < xs
      · exact .inr (.inl ⟨h1, h2⟩)
      · exact .inr (.inr ⟨h1, h2, Decidable.byContradiction fun h3 => hbad ⟨h1, h2, h3⟩⟩)
  have HS := Lib.hid hs
  clear hs hbad
  go_enter Try.func45, Try.ntmps45
  go_wp2_with fail
  generalize (((W.alloc (.cells #[.slice a n c] 28)).alloc (.cells #[.int .i64 xs, .string xv, .bool xd] 54)).alloc (.cells #[.slice none 0 0] 28)) = W1 at *
  obtain ⟨c0, c1, c2, c3⟩ := hA.cells
  have c1 : W1.cell? ⟨W.heap.size + 1, 0, none⟩ = some (.int .i64 xs) := c1
  have HA := Lib.hid hA
  clear hA
  have fin : ∀ W2, AW W.heap.size (.slice a n c) Z (xs, xv, xd) W W2 → W2.cell? ⟨W.heap.size, 0, none⟩ = some (.slice a n c) ∧ W2.cell? ⟨W.heap.size + 1 + 1, 0, none⟩ = some (.slice none 0 0) ∧ W2.frozen? ⟨W.heap.size + 1 + 1, 0, none⟩ = false := fun W2 h => ⟨h.b0.cell, h.b2.cell, h.b2.frozen⟩
  have FIN := Lib.hid fin
  clear fin
  rcases hb3 with h1 | ⟨h1, h2⟩ | ⟨h1, h2, h3⟩
  · have d1 : decide (xs < 1) = true := decide_eq_true h1
    clear h1
    go_quiet (fail)
    have HA2 := Lib.hid (show AW W.heap.size (.slice a n c) Z (xs, xv, xd) W (W1.drewN nq) from HA.out.below ⟨rfl, rfl, rfl, Nat.le_refl _, fun _ _ => rfl⟩)
    generalize W1.drewN nq = W2 at *
    obtain ⟨e0, e2, e3⟩ := FIN.out W2 HA2.out
    obtain ⟨f1, f2⟩ := HA2.out.fin (.slice a n c)
    go_wp2_with fail
    exact bodyPost_ret (v := .tuple #[.agg #[.slice a n c], .int .i64 1]) (by simp [results, Try.results45, go_sem, f1]) rfl ⟨rfl, f2⟩
  · have d1 : decide (xs < 1) = false := decide_eq_false (by omega)
    have d2 : decide (1099511627776 < xs) = true := decide_eq_true h2
    have h2' : (1099511627776 : Int) < xs := h2
    clear h1 h2
    go_quiet (fail)
    have HA2 := Lib.hid (show AW W.heap.size (.slice a n c) Z (xs, xv, xd) W (W1.drewN nq) from HA.out.below ⟨rfl, rfl, rfl, Nat.le_refl _, fun _ _ => rfl⟩)
    generalize W1.drewN nq = W2 at *
    obtain ⟨e0, e2, e3⟩ := FIN.out W2 HA2.out
    obtain ⟨f1, f2⟩ := HA2.out.fin (.slice a n c)
    go_wp2_with fail
    exact bodyPost_ret (v := .tuple #[.agg #[.slice a n c], .int .i64 1]) (by simp [results, Try.results45, go_sem, f1]) rfl ⟨rfl, f2⟩
  · have d1 : decide (xs < 1) = false := decide_eq_false (by omega)
    have d2 : decide (1099511627776 < xs) = false := decide_eq_false (by omega)
    have d3 : decide (xs ≤ s) = true := decide_eq_true h3
    clear h1 h2 h3
    have hbd : Below W1.heap.size W1 W1.drew := (Below.refl _ _).drew
    have e0 : W1.drew.cell? ⟨W.heap.size, 0, none⟩ = some (.slice a n c) := c0
    have e1 : W1.drew.cell? ⟨W.heap.size + 1, 0, none⟩ = some (.int .i64 xs) := c1
    go_region_held3 (fun X => X.cell? ⟨W.heap.size, 0, none⟩ = some (.slice a n c) ∧ X.cell? ⟨W.heap.size + 1, 0, none⟩ = some (.int .i64 xs) ∧ Below W1.heap.size W1 X) (refine ⟨?_, ?_, ?_⟩ <;> assumption) (first
      | (go_at_call 19; refine (last_ref _ Z key _ (HA.out.it.below (by assumption)) (by have := HN.out.1; omega) (by have := HN.out.2; omega)).mono ?_; rintro e w1 ⟨he, hb⟩; rw [← HS.out] at he; subst he; have hbn := Below.trans (by assumption) (Below.mono hb (HA.out.szle (by assumption))); obtain ⟨e0, e1⟩ := HA.out.two hbn))
    obtain ⟨W2, hW2⟩ : ∃ W2, W2 = w1 := ⟨_, rfl⟩
    have HA2 := Lib.hid (HA.out.below hbn)
    obtain ⟨e0, e2, e3⟩ := FIN.out w1 HA2.out
    obtain ⟨f1, f2⟩ := HA2.out.fin (.slice a n c)
    clear hW2
    go_wp2_with fail
    exact bodyPost_ret (v := .tuple #[.agg #[.slice a n c], .int .i64 1]) (by simp [results, Try.results45, go_sem, f1]) rfl ⟨rfl, f2⟩
theorem set_far {W : World} {b : Nat} {u : Value} {k : Nat} (h : k ≠ b) : (W.setCell ⟨b, 0, none⟩ u).heap[k]? = W.heap[k]? := by
  show (W.heap.modify b _)[k]? = _
  rw [Array.getElem?_modify, if_neg (fun e => h e.symm)]
theorem add_end {r B1 B2 : Nat} {v v9 : Value} {Z : List Itm} {x : Ver} {W W9 : World} {w : Itm} {i k : Nat} (h0 : RIt W v Z) (hr : r = W.heap.size) (hA : AW r v Z x W W9) (h9 : OR KI B1 W9 v9 (Z.take i ++ w :: Z.drop k)) (h7 : OR KV B2 W9 w.sl w.vs) (hB1 : r + 1 + 1 < B1) (hB2 : r + 1 + 1 < B2) :
    RIt (W9.setCell ⟨r + 1 + 1, 0, none⟩ v9) v9 (Z.take i ++ w :: Z.drop k) := by
  have hb : Below W.heap.size W (W9.setCell ⟨r + 1 + 1, 0, none⟩ v9) := by rw [← hr]; exact (hA.fin v9).2
  refine ⟨(h9.same fun k hk => set_far (by have := (h9.lt k hk).1; omega)).rr okI, fun z hz => ?_⟩
  rcases List.mem_append.1 hz with hz | hz
  · exact (h0.2 z (List.mem_of_mem_take hz)).below hb
  · rcases List.mem_cons.1 hz with rfl | hz
    · exact (h7.same fun k hk => set_far (by have := (h7.lt k hk).1; omega)).rr okV
    · exact (h0.2 z (List.mem_of_mem_drop hz)).below hb
/-- the items with one version more -/
def Added (Z Z' : List Itm) (key : Bs) (x : Ver) : Prop := ∃ w : Itm, w.key = key ∧ w.vs = lookZ Z key ++ [x] ∧ Z' = Z.take (posZ Z key) ++ w :: Z.drop (posZ Z key + if (Z[posZ Z key]?).any (fun z => decide (z.key = key)) then 1 else 0)
set_option maxRecDepth 100000 in
set_option maxHeartbeats 3200000 in
theorem add_ref_ok (v : Value) (Z : List Itm) (key : Bs) (x : Ver) (W : World) (h : RIt W v Z) (hl : Z.length ≤ 500) (hL : (lookZ Z key).length ≤ 5000) (hok : okT (lookZ Z key) x.1) :
    Calls Try.prog 45 #[.agg #[v], .string key, .agg #[.int .i64 x.1, .string x.2.1, .bool x.2.2]] W fun e w' => ∃ v' Z', e = .returned (.tuple #[.agg #[v'], .int .i64 0]) ∧ RIt w' v' Z' ∧ Added Z Z' key x ∧ Below W.heap.size W w' := by
  obtain ⟨a, c, rfl, hcap, hcap2, _⟩ := h.1
  obtain ⟨xs, xv, xd⟩ := x
  have hA := AW.new _ Z (xs, xv, xd) W h
  have HN := Lib.hid (And.intro hl hL)
  obtain ⟨n, hn⟩ : ∃ n, n = Z.length := ⟨_, rfl⟩
  have HNN := Lib.hid hn
  rw [← hn] at hA hcap hl h ⊢
  have H0 := Lib.hid h
  clear h hn hL
  obtain ⟨s, hs⟩ : ∃ s, s = lastT (lookZ Z key) := ⟨_, rfl⟩
  obtain ⟨o1, o2, o3⟩ := hok
  have d1 : decide (xs < 1) = false := decide_eq_false o1
  have d2 : decide (1099511627776 < xs) = false := decide_eq_false o2
  have d3 : decide (xs ≤ s) = false := decide_eq_false (by rw [hs]; exact o3)
  have HS := Lib.hid hs
  clear hs o1 o2 o3
  go_enter Try.func45, Try.ntmps45
  go_wp2_with fail
  generalize (((W.alloc (.cells #[.slice a n c] 28)).alloc (.cells #[.int .i64 xs, .string xv, .bool xd] 54)).alloc (.cells #[.slice none 0 0] 28)) = W1 at *
  obtain ⟨c0, c1, c2, c3⟩ := hA.cells
  have c1 : W1.cell? ⟨W.heap.size + 1, 0, none⟩ = some (.int .i64 xs) := c1
  have HA := Lib.hid hA
  have hbd : Below W1.heap.size W1 W1.drew := (Below.refl _ _).drew
  have e0 : W1.drew.cell? ⟨W.heap.size, 0, none⟩ = some (.slice a n c) := c0
  have e1 : W1.drew.cell? ⟨W.heap.size + 1, 0, none⟩ = some (.int .i64 xs) := c1
  clear hA c2 c3
  go_region_held3 (fun X => X.cell? ⟨W.heap.size, 0, none⟩ = some (.slice a n c) ∧ X.cell? ⟨W.heap.size + 1, 0, none⟩ = some (.int .i64 xs) ∧ Below W1.heap.size W1 X) (refine ⟨?_, ?_, ?_⟩ <;> assumption) (first
    | (go_at_call 19; refine (last_ref _ Z key _ (HA.out.it.below (by assumption)) (by have := HN.out.1; omega) (by have := HN.out.2; omega)).mono ?_; rintro e w1 ⟨he, hb⟩; rw [← HS.out] at he; subst he; have hbn := Below.trans (by assumption) (Below.mono hb (HA.out.szle (by assumption))); obtain ⟨e0, e1⟩ := HA.out.two hbn))
  have HA2 := Lib.hid (HA.out.below hbn)
  clear d1 d2 d3 hbd hbn e0 e1 c0 c1 HA hb
  obtain ⟨W2, hW2⟩ : ∃ W2, W2 = w1 := ⟨_, rfl⟩
  rw [← hW2] at HA2 ⊢
  clear hW2
  obtain ⟨c0, c1, c2, c3⟩ := HA2.out.cells
  go_wp2_with fail
  refine (find_any _ Z key W2 HA2.out.it (by have := HN.out.1; omega)).mono ?_
  rintro e W3 ⟨rfl, hb⟩
  have HA3 := Lib.hid (HA2.out.below hb)
  obtain ⟨p, hp⟩ : ∃ p, p = posZ Z key := ⟨_, rfl⟩
  have HPP := Lib.hid hp
  have hpn : p ≤ n := by rw [hp, HNN.out]; exact posZ_le Z key
  rw [← hp]
  clear hb hp HA2 c0 c1 c2 c3
  obtain ⟨c0, c1, c2, c3⟩ := HA3.out.cells
  have hpi : (p : Int) ≤ (n : Int) := by omega
  have hp0 : (0 : Int) ≤ (p : Int) := by omega
  have hnc : (n : Int) ≤ (c : Int) := by omega
  have hlt : (Z.take p).length = p := by rw [List.length_take, ← HNN.out]; omega
  have HLT := Lib.hid hlt
  clear hlt
  go_wp2_with (at_builtin; refine wpList_appG okI rfl _ _ rfl rfl W3.heap.size _ [] (Z.take p) a p c p rfl rfl ?_ ?_)
  · exact ⟨HLT.out.symm, OR.nil _ _ _, HA3.out.it.1.take okI HNN.out p hpn, Nat.le_refl _, by simp, by rw [HLT.out]; omega, by rw [List.nil_append, HLT.out]⟩
  intro a4 c4 W4 h4 hb4 hg4 _
  have HA4 := Lib.hid (HA3.out.below hb4)
  have H4 := Lib.hid h4
  have HB4 := Lib.hid hb4
  clear h4 hg4
  have c0 := (hb4.cell (p := ⟨W.heap.size, 0, none⟩) HA3.out.b0.lt).trans c0
  clear hb4 c1 c2 c3
  obtain ⟨L, hL⟩ : ∃ L, L = lookZ Z key := ⟨_, rfl⟩
  have HL := Lib.hid hL
  clear hL
  go_wp2_with fail
  refine (versions_ref _ Z key W4 HA4.out.it (by have := HN.out.1; omega)).mono ?_
  rintro e W5 ⟨r5, rfl, hr5, hb5⟩
  rw [← HL.out] at hr5
  obtain ⟨ra, rc, rfl, _⟩ := id hr5
  have HA5 := Lib.hid (HA4.out.below hb5)
  have H5 := Lib.hid (H4.out.below hb5)
  have HB5 := Lib.hid (HB4.out.trans (hb5.mono HB4.out.size))
  have HR5 := Lib.hid hr5
  have c0 := (hb5.cell (p := ⟨W.heap.size, 0, none⟩) HA4.out.b0.lt).trans c0
  obtain ⟨q, hq⟩ : ∃ q, q = L.length := ⟨_, rfl⟩
  have HQ := Lib.hid hq
  have hq5 : q ≤ 5000 := by rw [hq, HL.out]; exact HN.out.2
  rw [← hq] at HR5 ⊢
  clear hb5 hr5 hq
  go_wp2_with (at_builtin; refine wpList_appG okV rfl _ _ rfl rfl W5.heap.size _ [] L ra q rc q rfl rfl ?_ ?_)
  · exact ⟨HQ.out, OR.nil _ _ _, HR5.out, Nat.le_refl _, by simp, by rw [← HQ.out]; omega, by rw [List.nil_append]; exact HQ.out⟩
  intro a6 c6 W6 h6 hb6 hg6 _
  have HA6 := Lib.hid (HA5.out.below hb6)
  have H6 := Lib.hid h6
  have H46 := Lib.hid (H5.out.below hb6)
  have HB6 := Lib.hid (HB5.out.trans (hb6.mono HB5.out.size))
  have HS6 := Lib.hid hb6.size
  clear h6 hb6 hg6 HR5
  obtain ⟨c0, c1, c2, c3⟩ := HA6.out.cells
  have c1 : W6.cell? ⟨W.heap.size + 1, 0, none⟩ = some (.int .i64 xs) := c1
  have c2 : W6.cell? ⟨W.heap.size + 1, 1, none⟩ = some (.string xv) := c2
  have c3 : W6.cell? ⟨W.heap.size + 1, 2, none⟩ = some (.bool xd) := c3
  go_wp2_with (at_builtin; refine wpList_appG okV rfl _ _ rfl rfl W5.heap.size _ L [(xs, xv, xd)] _ 1 1 (q + 1) rfl rfl ?_ ?_)
  · exact ⟨rfl, H6.out.alloc _, RR.new okV W6 (xs, xv, xd), by have := HS6.out; simp; omega, by rw [← HQ.out]; omega, by simp, by rw [List.length_append, ← HQ.out]; rfl⟩
  intro a7 c7 W7 h7 hb7 hg7 _
  have hb57 : Below W5.heap.size W6 W7 := ((Below.refl W5.heap.size W6).alloc HS6.out _).trans hb7
  have HB7 := Lib.hid (HB6.out.trans (hb57.mono (HB5.out.size)))
  have HA7 := Lib.hid (HA3.out.below HB7.out)
  have H47 := Lib.hid (H46.out.same (fun k hk => hb57.block k (H5.out.lt k hk).2))
  have H7 := Lib.hid h7
  clear h7 hb7 hg7 hb57 c0 c1 c2 c3
  obtain ⟨w, hw⟩ : ∃ w : Itm, w = ⟨key, a7, c7, L ++ [(xs, xv, xd)]⟩ := ⟨_, rfl⟩
  have HWK : Hid (w.key = key ∧ w.vs = lookZ Z key ++ [(xs, xv, xd)]) := Lib.hid (by rw [hw, ← HL.out]; exact ⟨rfl, rfl⟩)
  have hwl : (L ++ [(xs, xv, xd)]).length = q + 1 := by rw [List.length_append, ← HQ.out]; rfl
  have HWS : Hid (Value.slice a7 (q + 1) c7 = w.sl ∧ L ++ [(xs, xv, xd)] = w.vs) := Lib.hid (by rw [hw]; exact ⟨by show _ = Value.slice a7 (L ++ [(xs, xv, xd)]).length c7; rw [hwl], rfl⟩)
  have HWR : Hid (RR KI (W7.alloc (.cells #[.string key, .slice a7 (q + 1) c7] 95)) (.slice (some ⟨W7.heap.size, 0, none⟩) 1 1) [w]) := Lib.hid (by
    have := RR.new okI W7 w
    have e : KI.enc w = [.string key, .slice a7 (q + 1) c7] := by rw [hw]; show [_, Value.slice a7 (L ++ [(xs, xv, xd)]).length c7] = _; rw [hwl]
    rw [e] at this
    exact this)
  clear hwl hw
  go_wp2_with (at_builtin; refine wpList_appG okI rfl _ _ rfl rfl W3.heap.size _ (Z.take p) [w] _ 1 1 (p + 1) rfl rfl ?_ ?_)
  · exact ⟨rfl, H47.out.alloc _, HWR.out, by have := HB7.out.size; simp; omega, by rw [HLT.out]; omega, by simp, by rw [List.length_append, HLT.out]; rfl⟩
  intro a8 c8 W8 h8 hb8 hg8 ho8
  have HB8 := Lib.hid (HB7.out.trans (((Below.refl W3.heap.size W7).alloc HB7.out.size _).trans hb8))
  have HA8 := Lib.hid (HA3.out.below HB8.out)
  have H8 := Lib.hid h8
  have H78 := Lib.hid ((H7.out.alloc _).grown hg8 (fun k h1 h2 => by have := (H7.out.lt k h1).1; have := (H5.out.lt k h2).2; omega))
  have HNE : Hid (∀ k, (Value.slice a8 (p + 1) c8).ownBlock = some k → (Value.slice a7 (q + 1) c7).ownBlock ≠ some k) := Lib.hid (fun k h1 h2 => by
    have g1 := H7.out.lt k h2
    rcases ho8 with e | e
    · rw [e] at h1
      have := (H5.out.lt k h1).2
      omega
    · rw [e] at h1
      have h3 := Option.some.inj h1
      omega)
  clear h8 hb8 hg8 ho8 H47 H46 H6 H4
  obtain ⟨c0, _, _, _⟩ := HA8.out.cells
  have HI8 : Hid (RR KI W8 (.slice a n c) Z) := Lib.hid HA8.out.it.1
  by_cases hlast : p < n
  · have hpl : p < Z.length := by rw [← HNN.out]; exact hlast
    obtain ⟨g, o, rfl, hg, hc⟩ := RR.cellE okI (HNN.out ▸ HA8.out.it.1) (by omega)
    have q0 : W8.cell? ⟨g, o + p * 2, none⟩ = some (.string Z[p].key) := hc p hpl 0 _ rfl
    have hpli : (p : Int) < (n : Int) := by omega
    have HZP := Lib.hid (show Z[p]? = some Z[p] from List.getElem?_eq_getElem hpl)
    have hw1 : IntKind.i64.wrap ((p : Int) + 1) = ((p + 1 : Nat) : Int) := by rw [IntKind.wrap_i64]; omega
    clear hc
    generalize Z[p] = z at *
    by_cases he : z.key = key
    · have hd : (ByteArray.toList z.key == ByteArray.toList key) = true := by rw [eqB]; exact decide_eq_true he
      have HHIT := Lib.hid he
      clear he
      have hkc : (Z.drop (p + 1)).length ≤ 1000 := by rw [List.length_drop]; have := HN.out.1; omega
      obtain ⟨m9, hm9⟩ : ∃ m9, m9 = (Z.drop (p + 1)).length := ⟨_, rfl⟩
      have HM9 := Lib.hid (And.intro hm9 hkc)
      clear hm9 hkc
      go_wp2_with (with_reducible refine wpList_dropI 71 72 ((p + 1)) n _ Z _ _ _ _ _ HI8.out ?_ ?_)
      · (try refine ⟨rfl, by first | rfl | (push_cast; rfl), ?_⟩); rw [← HNN.out]; omega
      intro sv hsv
      obtain ⟨sa, sc, rfl, _⟩ := id hsv
      have HSV := Lib.hid hsv
      rw [← HM9.out.1] at HSV ⊢
      clear hsv
      go_wp2_with (at_builtin; refine wpList_appG okI rfl _ _ rfl rfl W3.heap.size _ (Z.take p ++ [w]) (Z.drop (p + 1)) sa m9 sc (p + 1 + m9) rfl rfl ?_ ?_)
      · exact ⟨HM9.out.1, H8.out, HSV.out, HB8.out.size, by rw [List.length_append, HLT.out]; simp; omega, by have := HM9.out; omega, by rw [List.length_append, List.length_append, HLT.out, ← HM9.out.1]; rfl⟩
      intro a9 c9 W9 h9 hb9 hg9 _
      have HA9 := Lib.hid (HA3.out.below (HB8.out.trans hb9))
      have h79 := H78.out.grown hg9 (fun k h1 h2 => HNE.out k h2 h1)
      have HE := Lib.hid (add_end H0.out rfl HA9.out h9 (by rw [HWS.out.1, HWS.out.2] at h79; exact h79) (by have := HA3.out.sz; omega) (by have := HA3.out.sz; have := HB5.out.size; omega))
      have e0 := HA9.out.cells.1; have e2 := HA9.out.b2.cell; have e3 := HA9.out.b2.frozen
      obtain ⟨f1, f2⟩ := HA9.out.fin (.slice a9 (p + 1 + m9) c9)
      clear h79 h9 hb9 hg9 c0
      go_wp2_with fail
      exact bodyPost_ret (v := .tuple #[.agg #[.slice a9 (p + 1 + m9) c9], .int .i64 0]) (by simp [results, Try.results45, go_sem, f1]) rfl ⟨_, _, rfl, HE.out, ⟨w, HWK.out.1, HWK.out.2, by rw [HPP.out, ← HPP.out]; rw [HZP.out]; simp [HHIT.out]⟩, f2⟩
    · have hd : (ByteArray.toList z.key == ByteArray.toList key) = false := by rw [eqB]; exact decide_eq_false he
      have HHIT := Lib.hid he
      clear he
      have hkc : (Z.drop p).length ≤ 1000 := by rw [List.length_drop]; have := HN.out.1; omega
      obtain ⟨m9, hm9⟩ : ∃ m9, m9 = (Z.drop p).length := ⟨_, rfl⟩
      have HM9 := Lib.hid (And.intro hm9 hkc)
      clear hm9 hkc
      go_wp2_with (with_reducible refine wpList_dropI 71 72 (p) n _ Z _ _ _ _ _ HI8.out ?_ ?_)
      · (try refine ⟨rfl, by first | rfl | (push_cast; rfl), ?_⟩); rw [← HNN.out]; omega
      intro sv hsv
      obtain ⟨sa, sc, rfl, _⟩ := id hsv
      have HSV := Lib.hid hsv
      rw [← HM9.out.1] at HSV ⊢
      clear hsv
      go_wp2_with (at_builtin; refine wpList_appG okI rfl _ _ rfl rfl W3.heap.size _ (Z.take p ++ [w]) (Z.drop (p)) sa m9 sc (p + 1 + m9) rfl rfl ?_ ?_)
      · exact ⟨HM9.out.1, H8.out, HSV.out, HB8.out.size, by rw [List.length_append, HLT.out]; simp; omega, by have := HM9.out; omega, by rw [List.length_append, List.length_append, HLT.out, ← HM9.out.1]; rfl⟩
      intro a9 c9 W9 h9 hb9 hg9 _
      have HA9 := Lib.hid (HA3.out.below (HB8.out.trans hb9))
      have h79 := H78.out.grown hg9 (fun k h1 h2 => HNE.out k h2 h1)
      have HE := Lib.hid (add_end H0.out rfl HA9.out h9 (by rw [HWS.out.1, HWS.out.2] at h79; exact h79) (by have := HA3.out.sz; omega) (by have := HA3.out.sz; have := HB5.out.size; omega))
      have e0 := HA9.out.cells.1; have e2 := HA9.out.b2.cell; have e3 := HA9.out.b2.frozen
      obtain ⟨f1, f2⟩ := HA9.out.fin (.slice a9 (p + 1 + m9) c9)
      clear h79 h9 hb9 hg9 c0
      go_wp2_with fail
      exact bodyPost_ret (v := .tuple #[.agg #[.slice a9 (p + 1 + m9) c9], .int .i64 0]) (by simp [results, Try.results45, go_sem, f1]) rfl ⟨_, _, rfl, HE.out, ⟨w, HWK.out.1, HWK.out.2, by rw [HPP.out, ← HPP.out]; rw [HZP.out]; simp [HHIT.out]⟩, f2⟩
  · have hpn2 : ¬ (p : Int) < (n : Int) := by omega
    have HZP := Lib.hid (show Z[p]? = none from List.getElem?_eq_none (by rw [← HNN.out]; omega))
    have hkc : (Z.drop p).length ≤ 1000 := by rw [List.length_drop]; have := HN.out.1; omega
    obtain ⟨m9, hm9⟩ : ∃ m9, m9 = (Z.drop p).length := ⟨_, rfl⟩
    have HM9 := Lib.hid (And.intro hm9 hkc)
    clear hm9 hkc
    go_wp2_with (with_reducible refine wpList_dropI 71 72 (p) n _ Z _ _ _ _ _ HI8.out ?_ ?_)
    · (try refine ⟨rfl, by first | rfl | (push_cast; rfl), ?_⟩); rw [← HNN.out]; omega
    intro sv hsv
    obtain ⟨sa, sc, rfl, _⟩ := id hsv
    have HSV := Lib.hid hsv
    rw [← HM9.out.1] at HSV ⊢
    clear hsv
    go_wp2_with (at_builtin; refine wpList_appG okI rfl _ _ rfl rfl W3.heap.size _ (Z.take p ++ [w]) (Z.drop (p)) sa m9 sc (p + 1 + m9) rfl rfl ?_ ?_)
    · exact ⟨HM9.out.1, H8.out, HSV.out, HB8.out.size, by rw [List.length_append, HLT.out]; simp; omega, by have := HM9.out; omega, by rw [List.length_append, List.length_append, HLT.out, ← HM9.out.1]; rfl⟩
    intro a9 c9 W9 h9 hb9 hg9 _
    have HA9 := Lib.hid (HA3.out.below (HB8.out.trans hb9))
    have h79 := H78.out.grown hg9 (fun k h1 h2 => HNE.out k h2 h1)
    have HE := Lib.hid (add_end H0.out rfl HA9.out h9 (by rw [HWS.out.1, HWS.out.2] at h79; exact h79) (by have := HA3.out.sz; omega) (by have := HA3.out.sz; have := HB5.out.size; omega))
    have e0 := HA9.out.cells.1; have e2 := HA9.out.b2.cell; have e3 := HA9.out.b2.frozen
    obtain ⟨f1, f2⟩ := HA9.out.fin (.slice a9 (p + 1 + m9) c9)
    clear h79 h9 hb9 hg9 c0
    go_wp2_with fail
    exact bodyPost_ret (v := .tuple #[.agg #[.slice a9 (p + 1 + m9) c9], .int .i64 0]) (by simp [results, Try.results45, go_sem, f1]) rfl ⟨_, _, rfl, HE.out, ⟨w, HWK.out.1, HWK.out.2, by rw [HPP.out, ← HPP.out]; rw [HZP.out]; simp⟩, f2⟩
end Go.Proofs.Ytaecppkkbdbdbaa
