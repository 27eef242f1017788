/- Merged texts: En17, En18, En19, En20, En21, En22, En23. -/
import Derived.Test.YtpcjmceakelilaaEc6
import Derived.Deep.RegionHeld3
import Derived.StillTailTactics
/- Engine: Scan: its iterator. -/
namespace Go.Proofs.Ytpcjmceakelilaa
open Go.ChangeShapes Go.WideShapes Go.ChangeAt Go.RowKit Go.Deep Go.ChangeMaps Go.Shelf Go.Sort
set_option linter.unusedVariables false
set_option linter.unusedSimpArgs false
attribute [local go_sem] Oper.semAt_some
attribute [local go_sem, local simp] wide_fn
/-- the boxes that a store's Scan makes -/
structure SBoxP (W : World) (b : Nat) (p : Value) (lo hi : Bs) (t : Int) (back : Bool) : Prop where
  c0 : Boxed W b 65 p
  c1 : Boxed W (b + 1) 9 (.string lo)
  c2 : Boxed W (b + 2) 9 (.string hi)
  c3 : Boxed W (b + 4) 4 (.bool back)
  c4 : Boxed W (b + 3) 3 (.int .i64 t)
theorem seekP (p : Option Addr) (lo hi : Bs) (t : Int) (back : Bool) (w : World) :
    Calls Try.prog 33 #[.pointer p, .string lo, .string hi, .int .i64 t, .bool back] w fun e w' => e = .returned (.func (.func 49) #[] #[.pointer (some ⟨w.heap.size, 0, none⟩), .pointer (some ⟨w.heap.size + 1, 0, none⟩), .pointer (some ⟨w.heap.size + 2, 0, none⟩), .pointer (some ⟨w.heap.size + 4, 0, none⟩), .pointer (some ⟨w.heap.size + 3, 0, none⟩)]) ∧ SBoxP w' w.heap.size (.pointer p) lo hi t back ∧ w'.heap.size = w.heap.size + 5 ∧ Below w.heap.size w w' ∧ KeepsOthers w w' := by
  go_enter Try.func33, Try.ntmps33
  go_wp2_with fail
  go_ret
  have b0 := Boxed.new w 65 (.pointer p)
  have b1 := Boxed.new (w.alloc (.cells #[.pointer p] 65)) 9 (.string lo)
  have b2 := Boxed.new ((w.alloc (.cells #[.pointer p] 65)).alloc (.cells #[.string lo] 9)) 9 (.string hi)
  have b3 := Boxed.new (((w.alloc (.cells #[.pointer p] 65)).alloc (.cells #[.string lo] 9)).alloc (.cells #[.string hi] 9)) 3 (.int .i64 t)
  have b4 := Boxed.new ((((w.alloc (.cells #[.pointer p] 65)).alloc (.cells #[.string lo] 9)).alloc (.cells #[.string hi] 9)).alloc (.cells #[.int .i64 t] 3)) 4 (.bool back)
  simp only [World.size_alloc] at b1 b2 b3 b4
  refine ⟨rfl, ⟨(((b0.alloc _).alloc _).alloc _).alloc _, ((b1.alloc _).alloc _).alloc _, (b2.alloc _).alloc _, b4, b3.alloc _⟩, by simp, ?_, ?_⟩
  · exact (((((Below.refl _ w).alloc (Nat.le_refl _) _).alloc (by simp) _).alloc (by simp; omega) _).alloc (by simp; omega) _).alloc (by simp; omega) _
  · exact ((((KeepsOthers.alloc _ _).trans (KeepsOthers.alloc _ _)).trans (KeepsOthers.alloc _ _)).trans (KeepsOthers.alloc _ _)).trans (KeepsOthers.alloc _ _)
theorem scan1_nil (m l b : Nat) (p1 p2 p3 p4 : Value) (J : List (Bs × Bs) → World → Prop) (hJ : ∀ pre W W', J pre W → Below W.heap.size W W' → J pre W') (W0 : World) (hc : W0.cell? ⟨b, 0, none⟩ = some (.pointer none)) (hj : J [] W0) :
    CallsIn Fence.wide m Try.prog 49 #[.func (.yield l) #[] #[], .pointer (some ⟨b, 0, none⟩), p1, p2, p3, p4] W0 fun e W' => (∃ v, e = .returned v) ∧ J [] W' := by
  refine callsIn_of_wp Try.func49 rfl trivial ?_ rfl
  simp only [Try.ntmps49, List.size_toArray, List.length_cons, List.length_nil, Nat.reduceAdd, Nat.reduceSub, Array.replicate_succ, Array.replicate_zero, List.push_toArray, List.append_toArray, List.nil_append, List.cons_append]
  have H := Lib.hid (And.intro hJ hj)
  clear hJ hj
  gi_wp2
  refine bodyPost_ret (results_none rfl _ _ _) rfl ⟨⟨_, rfl⟩, ?_⟩
  first
  | exact H.out.2
  | exact H.out.1 _ _ _ H.out.2 ((Below.refl _ _).alloc (Nat.le_refl _) _)
/-- the boxes that the engine's Scan makes -/
structure EBox (W : World) (b : Nat) (e : Value) (tb lo hi : Bs) (t : Int) (back : Bool) : Prop where
  c0 : W.cell? ⟨b, 0, none⟩ = some e
  c1 : W.cell? ⟨b + 1, 0, none⟩ = some (.string tb)
  c2 : W.cell? ⟨b + 2, 0, none⟩ = some (.string lo)
  c3 : W.cell? ⟨b + 3, 0, none⟩ = some (.string hi)
  c4 : W.cell? ⟨b + 4, 0, none⟩ = some (.int .i64 t)
  c5 : W.cell? ⟨b + 5, 0, none⟩ = some (.bool back)
theorem EBox.below {W W' : World} {b : Nat} {e : Value} {tb lo hi : Bs} {t : Int} {back : Bool} (h : EBox W b e tb lo hi t back) (hb : Below W.heap.size W W') (hl : b + 6 ≤ W.heap.size) : EBox W' b e tb lo hi t back :=
  ⟨(hb.cell (p := ⟨b, 0, none⟩) (by show b < _; omega)).trans h.c0, (hb.cell (p := ⟨b + 1, 0, none⟩) (by show b + 1 < _; omega)).trans h.c1, (hb.cell (p := ⟨b + 2, 0, none⟩) (by show b + 2 < _; omega)).trans h.c2, (hb.cell (p := ⟨b + 3, 0, none⟩) (by show b + 3 < _; omega)).trans h.c3, (hb.cell (p := ⟨b + 4, 0, none⟩) (by show b + 4 < _; omega)).trans h.c4, (hb.cell (p := ⟨b + 5, 0, none⟩) (by show b + 5 < _; omega)).trans h.c5⟩
/-- what a scan of a table yields -/
def scanO (o : Option Tb) (lo hi : Bs) (t : Int) (back : Bool) : List (Bs × Bs) := match o with
  | some u => scanK u.E t (scanT u.E lo hi back)
  | none => []
/-- types whose cells a round keeps -/
def ExOK (Ex : TypeId → Prop) : Prop := ¬ Ex 9 ∧ ¬ Ex 65 ∧ ¬ Ex 3 ∧ ¬ Ex 4 ∧ ¬ Ex 74
/-- the store's five boxes and the box of yield -/
structure Six (W : World) (b y : Nat) (p f : Value) (lo hi : Bs) (t : Int) (back : Bool) : Prop where
  s : SBoxP W b p lo hi t back
  y : Boxed W y 74 f
theorem boxed_next {W W' : World} {b : Nat} {T : TypeId} {v : Value} {Ex : TypeId → Prop} {n c : Nat} (h : Boxed W b T v) (hk : KpO n c Ex W W') (hT : ¬ Ex T) : Boxed W' b T v := hk.cells b _ T (0, 0) h hT
theorem Six.next {W W' : World} {b y : Nat} {p f : Value} {lo hi : Bs} {t : Int} {back : Bool} {Ex : TypeId → Prop} {n c : Nat} (h : Six W b y p f lo hi t back) (hk : KpO n c Ex W W') (hE : ExOK Ex) : Six W' b y p f lo hi t back :=
  ⟨⟨boxed_next h.s.c0 hk hE.2.1, boxed_next h.s.c1 hk hE.1, boxed_next h.s.c2 hk hE.1, boxed_next h.s.c3 hk hE.2.2.2.1, boxed_next h.s.c4 hk hE.2.2.1⟩, boxed_next h.y hk hE.2.2.2.2⟩
theorem boxed_grown {W W' : World} {row : Option Nat} {b : Nat} {T : TypeId} {v : Value} (h : Boxed W b T v) (hg : W.grownBy W' row) (hr : ∀ r, row = some r → ∃ o : Obj, W.heap[r]? = some o ∧ o.isCells = false) : Boxed W' b T v :=
  (grownBy_keeps_cells hg hr h rfl).trans h
theorem Six.own (B b y : Nat) (p f : Value) (lo hi : Bs) (t : Int) (back : Bool) : OwnFrom B (fun (_ : List (Bs × Bs)) W => Six W b y p f lo hi t back) := fun _ W W' row h hg hr =>
  have hr' : ∀ r, row = some r → ∃ o : Obj, W.heap[r]? = some o ∧ o.isCells = false := fun r e => (hr r e).2
  ⟨⟨boxed_grown h.s.c0 hg hr', boxed_grown h.s.c1 hg hr', boxed_grown h.s.c2 hg hr', boxed_grown h.s.c3 hg hr', boxed_grown h.s.c4 hg hr'⟩, boxed_grown h.y hg hr'⟩
theorem Six.kps {W W' : World} {b y : Nat} {p f : Value} {lo hi : Bs} {t : Int} {back : Bool} {Ex : TypeId → Prop} {n c : Nat} (h : Six W b y p f lo hi t back) (hk : KpO n c Ex W W') (hE : ExOK Ex) : KpS n b (b + 5) W W' := by
  have h' := h.next hk hE
  refine ⟨hk.low, fun k cs fr hc => hk.cells k cs 9 fr hc hE.1, fun k h1 h2 h3 => ?_⟩
  rcases (show k = b ∨ k = b + 1 ∨ k = b + 2 ∨ k = b + 3 ∨ k = b + 4 by omega) with e | e | e | e | e
  all_goals rw [e]
  · exact (show W'.heap[b]? = _ from h'.s.c0).trans (show W.heap[b]? = _ from h.s.c0).symm
  · exact (show W'.heap[b + 1]? = _ from h'.s.c1).trans (show W.heap[b + 1]? = _ from h.s.c1).symm
  · exact (show W'.heap[b + 2]? = _ from h'.s.c2).trans (show W.heap[b + 2]? = _ from h.s.c2).symm
  · exact (show W'.heap[b + 3]? = _ from h'.s.c4).trans (show W.heap[b + 3]? = _ from h.s.c4).symm
  · exact (show W'.heap[b + 4]? = _ from h'.s.c3).trans (show W.heap[b + 4]? = _ from h.s.c3).symm
/-- the iterator of a table's store -/
theorem stops_tb (n n₀ B b be mt tc : Nat) (T : List Tb) (st sy : Int) (dk : Bs) (tb lo hi : Bs) (t : Int) (back : Bool) (W : World) (h : Egs B W be mt T tc st dk sy) (hfoot : ∀ k, FootE be mt T k → k < n₀) (hn0 : n₀ ≤ W.heap.size) (hT : ∀ u ∈ T, u.E.length ≤ 100000) (c : SBoxP W b (tbP (tbOf T tb)) lo hi t back) (hbl : b + 5 ≤ W.heap.size) :
    SeqStopsK Fence.wide n Try.prog 49 #[.pointer (some ⟨b, 0, none⟩), .pointer (some ⟨b + 1, 0, none⟩), .pointer (some ⟨b + 2, 0, none⟩), .pointer (some ⟨b + 4, 0, none⟩), .pointer (some ⟨b + 3, 0, none⟩)] encP (KpS n₀ b (b + 5)) (fun xs => xs = scanO (tbOf T tb) lo hi t back) (fun pre => pre <+: scanO (tbOf T tb) lo hi t back) (scanO (tbOf T tb) lo hi t back).length W := by
  cases hu : tbOf T tb with
  | none =>
    rw [hu] at c
    intro l J Jx W1 hW hJ _ hY h0
    refine (scan1_nil n l b _ _ _ _ J (fun pre W W' hj hb => abides_below hJ pre W W' hj hb) W1 ((hW.cell (p := ⟨b, 0, none⟩) (by show b < _; omega)).trans c.c0.cell) h0).mono ?_
    rintro e W' ⟨he, hj⟩
    exact ⟨he, .inl ⟨[], rfl, hj⟩⟩
  | some u =>
    rw [hu] at c
    obtain ⟨hm, _⟩ := tbOf_mem hu
    exact stops_scan n n₀ B u.S u.m u.clock b u.E lo hi t back W (h.sto u hm) (fun k hk => hfoot k (.inr (.inr ⟨u, hm, hk⟩))) hn0 (hT u hm) ⟨c.c0.cell, c.c1.cell, c.c2.cell, c.c3.cell, c.c4.cell⟩ hbl
theorem tbP_ptr (o : Option Tb) : ∃ p, tbP o = .pointer p := by
  cases o with
  | none => exact ⟨_, rfl⟩
  | some t => exact ⟨_, rfl⟩
set_option maxRecDepth 100000 in
set_option maxHeartbeats 6400000 in
theorem escan1_any (m l n₀ c N b B be mt tc : Nat) (T : List Tb) (st sy : Int) (dk : Bs) (tb lo hi : Bs) (t : Int) (back : Bool) (Ex : TypeId → Prop) (hE : ExOK Ex) (J : List (Bs × Bs) → World → Prop) (W0 : World) (hJ : OwnFrom W0.heap.size J)
    (hY : ∀ m pre (x : Bs × Bs) W, J pre W → pre.length < N → YieldAt Fence.wide m Try.prog l (encP x) W fun e W' => e = .returned (.bool true) ∧ J (pre ++ [x]) W' ∧ KpO n₀ c Ex W W')
    (he : Egs B W0 be mt T tc st dk sy) (hfoot : ∀ k, FootE be mt T k → k < n₀) (hn0 : n₀ ≤ W0.heap.size) (hc0 : c ≤ W0.heap.size) (hT : ∀ u ∈ T, u.E.length ≤ 100000)
    (hbx : EBox W0 b (.pointer (some ⟨be, 0, none⟩)) tb lo hi t back) (hbl : b + 6 ≤ W0.heap.size) (hj : J [] W0) (hN : (scanO (tbOf T tb) lo hi t back).length ≤ N) (h1 : 1 ≤ m) :
    CallsIn Fence.wide m Try.prog 32 #[.func (.yield l) #[] #[], .pointer (some ⟨b, 0, none⟩), .pointer (some ⟨b + 1, 0, none⟩), .pointer (some ⟨b + 2, 0, none⟩), .pointer (some ⟨b + 3, 0, none⟩), .pointer (some ⟨b + 4, 0, none⟩), .pointer (some ⟨b + 5, 0, none⟩)] W0 fun e W' => (∃ v, e = .returned v) ∧ ∃ xs, xs = scanO (tbOf T tb) lo hi t back ∧ J xs W' := by
  have hbA : Below W0.heap.size W0 (W0.alloc (.cells #[.func (.yield l) #[] #[]] 74)) := (Below.refl _ _).alloc (Nat.le_refl _) _
  have HE := Lib.hid (he.below hbA)
  have HJ := Lib.hid (And.intro hJ (And.intro hY (hJ.alloc (.cells #[.func (.yield l) #[] #[]] 74) hj)))
  have HF := Lib.hid (And.intro hfoot (And.intro hn0 (And.intro hc0 (And.intro hT (And.intro hN hE)))))
  have HX := Lib.hid (hbx.below hbA hbl)
  have HY := Lib.hid (Boxed.new W0 74 (.func (.yield l) #[] #[]))
  have HBA := Lib.hid hbA
  clear hJ hY hj hfoot hn0 hc0 hT hN hE hbx he hbA
  refine callsIn_of_wp_marks Try.func32 rfl trivial ?_ rfl
  simp only [Try.ntmps32, List.size_toArray, List.length_cons, List.length_nil, Nat.reduceAdd, Nat.reduceSub, Array.replicate_succ, Array.replicate_zero, List.push_toArray, List.append_toArray, List.nil_append, List.cons_append]
  have x0 := HX.out.c0
  gi_wp2_with fail
  generalize hW1 : W0.alloc (.cells #[.func (.yield l) #[] #[]] 74) = W1 at *
  have HSZ := Lib.hid (show W1.heap.size = W0.heap.size + 1 by rw [← hW1]; simp)
  clear hW1
  have q0 := HE.out.c0
  have hlk := run_lookT HE.out.drew.map tb
  obtain ⟨x0, x1, x2, x3, x4, x5⟩ := HX.out
  obtain ⟨p, hp⟩ := tbP_ptr (tbOf T tb)
  have HP := Lib.hid hp
  rw [hp] at hlk
  clear hp
  refine wpIn_wide.2 ?_
  go_still_tail 10, (by kernel_rfl)
  change wpList _ _ _ _ _ W1.drew
  clear q0 hlk x0 x1 x2 x3 x4 x5
  go_wp2_with fail
  refine (seekP p lo hi t back _).mono ?_
  rintro e w2 ⟨rfl, hs2, hz2, hb2, hk2⟩
  have hlt2 : W0.heap.size < w2.heap.size := by have := HSZ.out; have := hb2.size; simp at this; omega
  have hbW : Below W1.heap.size W1 w2 := (Below.refl _ W1).drew.trans hb2
  have hsx : Six w2 W1.heap.size W0.heap.size (.pointer p) (.func (.yield l) #[] #[]) lo hi t back := ⟨hs2, (hbW.block _ HY.out.lt).trans HY.out⟩
  have hz3 : w2.heap.size = W1.heap.size + 5 := hz2
  have HS2 := Lib.hid (And.intro hsx (And.intro hbW (And.intro hz3 hlt2)))
  clear hz3
  clear hs2 hz2 hb2 hk2 hbW hsx hlt2
  go_wp2_with fail
  gi_wp2_with fail
  have hst := stops_tb (m - 1) n₀ B W1.heap.size be mt tc T st sy dk tb lo hi t back w2 (HE.out.below HS2.out.2.1) HF.out.1 (by have := HF.out.2.1; have := HS2.out.2.2.2; omega) HF.out.2.2.2.1 (by rw [HP.out]; exact HS2.out.1.s) (by have := HS2.out.2.2.1; omega)
  have hro : Fence.wide.round = none := rfl
  have hJo := ownFrom_mono HJ.out.1 (show W0.heap.size ≤ w2.heap.size from Nat.le_of_lt HS2.out.2.2.2)
  refine wpIn_rangeFunc_ownH hro h1 (gf := 49) (lb := #[.pointer (some ⟨W1.heap.size, 0, none⟩), .pointer (some ⟨W1.heap.size + 1, 0, none⟩), .pointer (some ⟨W1.heap.size + 2, 0, none⟩), .pointer (some ⟨W1.heap.size + 4, 0, none⟩), .pointer (some ⟨W1.heap.size + 3, 0, none⟩)]) rfl trivial (enters_of Try.func49 (by kernel_rfl) rfl)
    hst (fun h k => h.t k) (kpS_b (by have := HF.out.2.1; have := HS2.out.2.2.2; omega) (by have := HS2.out.2.2.1; omega)) (Below.refl _ _) (fun _ => rfl)
    (fun pre W => J pre W ∧ Six W W1.heap.size W0.heap.size (.pointer p) (.func (.yield l) #[] #[]) lo hi t back ∧ w2.heap.size ≤ W.heap.size)
    (fun _ _ _ => False)
    (OwnFrom.and hJo (OwnFrom.and (Six.own _ _ _ _ _ _ _ _ _) (fun _ W W' row h hg hr => Nat.le_trans h hg.size)))
    (fun _ _ _ _ _ hs _ _ => hs)
    ⟨abides_below (B := w2.heap.size) (fun s W W' row hs hg hr => hJo s W W' row hs hg (fun r e => ⟨(hr r e).1, by obtain ⟨o, ho, hw⟩ := (hr r e).2; exact ⟨o, ho, Obj.not_cells_of_walk hw⟩⟩)) _ _ _ HJ.out.2.2 HS2.out.2.1, HS2.out.1, Nat.le_refl _⟩
    (fun x a' W => a' = { tmps := #[.func (.yield l) #[] #[], .pointer (some ⟨b, 0, none⟩), .pointer (some ⟨b + 1, 0, none⟩), .pointer (some ⟨b + 2, 0, none⟩), .pointer (some ⟨b + 3, 0, none⟩), .pointer (some ⟨b + 4, 0, none⟩), .pointer (some ⟨b + 5, 0, none⟩), .pointer (some ⟨W0.heap.size, 0, none⟩), .string x.1, .string x.2, .pointer (some ⟨be, 0, none⟩), .bool false, .pointer (some ⟨be, 0, none⟩), .pointer (some ⟨be, 0, none⟩), .pointer (some ⟨be, 0, none⟩), .map (some mt), .string tb, .pointer p, .string lo, .string hi, .int .i64 t, .bool back, (.func (.func 49) #[] #[.pointer (some ⟨W1.heap.size, 0, none⟩), .pointer (some ⟨W1.heap.size + 1, 0, none⟩), .pointer (some ⟨W1.heap.size + 2, 0, none⟩), .pointer (some ⟨W1.heap.size + 4, 0, none⟩), .pointer (some ⟨W1.heap.size + 3, 0, none⟩)]), .string x.1, .string x.2, undef, undef, undef, undef, undef], defers := [] })
    (fun x a' _ W W' row hs hg hr => hs) ?assign ?body ?done ?stop
  case assign =>
    rintro l2 pre ⟨k, s⟩ W K ⟨hJp, hSx, hz⟩ hK
    unfold encP
    gi_wp2
    exact hK _ _ ((KeepsOthers.refl W).from _) (KpS.below (Below.refl _ W) (by have := HF.out.2.1; have := HS2.out.2.2.2; omega)) ⟨hJp, hSx, hz⟩ rfl
  case body =>
    rintro l2 pre ⟨k, s⟩ a' W hl _ ⟨hJp, hSx, hz⟩ rfl hlt
    have cy := hSx.y.cell
    have HB := Lib.hid (And.intro hJp (And.intro hSx hz))
    obtain ⟨f1, t1, a1, b1, hy1, hR1⟩ := HJ.out.2.1 (m - 1 - 1 - 1) pre (k, s) W hJp (by have := HF.out.2.2.2.2.1; omega)
    have hy : (Instr.yield l #[.string k, .string s]).run Try.prog W = .ok (.round l f1 t1 a1 b1) W := hy1
    have HR1 := Lib.hid hR1
    clear hJp hSx hR1 hy1
    gi_wp2
    refine ⟨fun h => (by cases h), HR1.out.mono ?_⟩
    rintro e W6 ⟨rfl, hJ2, hk2⟩
    have H6 := Lib.hid (And.intro hJ2 hk2)
    clear hJ2 hk2
    gi_wp2
    have hk := H6.out.2
    exact ⟨⟨hk.keeps.size, fun k o hB hk1 ho => hk.keeps.same k o (by have := HF.out.2.2.1; have := HS2.out.2.2.2; omega) hk1 ho⟩, HB.out.2.1.kps hk HF.out.2.2.2.2.2, H6.out.1, HB.out.2.1.next hk HF.out.2.2.2.2.2, Nat.le_trans HB.out.2.2 hk.keeps.size⟩
  case done =>
    rintro D ys W hD rfl ⟨hJp, hSx, hz⟩ hK
    have HB := Lib.hid hJp
    clear hJp hSx
    gi_wp2
    refine ⟨by simp, .inl ⟨_, _, rfl, run_takeDeferred hK, ?_⟩⟩
    exact ⟨_, results_none rfl _ _ _, ⟨_, rfl⟩, _, rfl, hJo.putObj _ HB.out hD hK rfl⟩
  case stop =>
    rintro D c pre W _ _ h _
    exact h.elim
theorem escan_seq (n n₀ c b B be mt tc : Nat) (T : List Tb) (st sy : Int) (dk : Bs) (tb lo hi : Bs) (t : Int) (back : Bool) (Ex : TypeId → Prop) (hE : ExOK Ex) (W : World) (he : Egs B W be mt T tc st dk sy) (hfoot : ∀ k, FootE be mt T k → k < n₀) (hn0 : n₀ ≤ W.heap.size) (hc0 : c ≤ W.heap.size + 2) (hT : ∀ u ∈ T, u.E.length ≤ 100000)
    (hbx : EBox W b (.pointer (some ⟨be, 0, none⟩)) tb lo hi t back) (hbl : b + 6 ≤ W.heap.size) (h1 : 1 ≤ n) :
    SeqO n Try.prog 32 #[.pointer (some ⟨b, 0, none⟩), .pointer (some ⟨b + 1, 0, none⟩), .pointer (some ⟨b + 2, 0, none⟩), .pointer (some ⟨b + 3, 0, none⟩), .pointer (some ⟨b + 4, 0, none⟩), .pointer (some ⟨b + 5, 0, none⟩)] encP (KpO n₀ c Ex) (fun xs => xs = scanO (tbOf T tb) lo hi t back) (scanO (tbOf T tb) lo hi t back).length W := fun l J W1 hW hz hJ hY h0 =>
  escan1_any n l n₀ c _ b B be mt tc T st sy dk tb lo hi t back Ex hE J W1 hJ (fun m pre x W hj hl => yieldAt_any (hY pre x W hj hl)) (he.below hW) hfoot (Nat.le_trans hn0 hW.size) (Nat.le_trans hc0 hz) hT (hbx.below hW hbl) (Nat.le_trans hbl hW.size) h0 (Nat.le_refl _) h1
theorem enil_any (m l b : Nat) (p1 p2 p3 p4 p5 : Value) (J : List (Bs × Bs) → World → Prop) (W0 : World) (hJ : OwnFrom W0.heap.size J) (hc : W0.cell? ⟨b, 0, none⟩ = some (.pointer none)) (hbl : b < W0.heap.size) (hj : J [] W0) :
    CallsIn Fence.wide m Try.prog 32 #[.func (.yield l) #[] #[], .pointer (some ⟨b, 0, none⟩), p1, p2, p3, p4, p5] W0 fun e W' => (∃ v, e = .returned v) ∧ ∃ xs, xs = [] ∧ J xs W' := by
  refine callsIn_of_wp Try.func32 rfl trivial ?_ rfl
  simp only [Try.ntmps32, List.size_toArray, List.length_cons, List.length_nil, Nat.reduceAdd, Nat.reduceSub, Array.replicate_succ, Array.replicate_zero, List.push_toArray, List.append_toArray, List.nil_append, List.cons_append]
  have H := Lib.hid (hJ.alloc (.cells #[.func (.yield l) #[] #[]] 74) hj)
  have hc2 : (W0.alloc (.cells #[.func (.yield l) #[] #[]] 74)).cell? ⟨b, 0, none⟩ = some (.pointer none) := ca hbl hc
  clear hJ hj
  gi_wp2
  refine bodyPost_ret (results_none rfl _ _ _) rfl ⟨⟨_, rfl⟩, [], rfl, H.out⟩
end Go.Proofs.Ytpcjmceakelilaa
/- Engine: the law of the nil engine. -/
namespace Go.Proofs.Ytpcjmceakelilaa
open Go.ChangeShapes Go.WideShapes Go.ChangeAt Go.RowKit Go.Deep Go.ChangeMaps Go.Shelf Go.Sort
set_option linter.unusedVariables false
set_option linter.unusedSimpArgs false
attribute [local go_sem] Oper.semAt_some
attribute [local go_sem, local simp] wide_fn
attribute [local go_sem] eql69
theorem nil_checkpoint (s : Int) (W : World) : Calls Try.prog 16 #[.pointer none, .int .i64 s] W fun e W' => e = .returned (.int .i64 3) ∧ Below W.heap.size W W' := by
  go_enter Try.func16, Try.ntmps16
  go_wp2_with fail
  refine bodyPost_ret (v := .int .i64 3) (by simp [results, Try.results16, go_sem]) rfl ⟨rfl, ?_⟩
  exact (Below.refl _ W).alloc (Nat.le_refl _) _
theorem eseekP (p : Option Addr) (tb lo hi : Bs) (t : Int) (back : Bool) (w : World) :
    Calls Try.prog 20 #[.pointer p, .string tb, .string lo, .string hi, .int .i64 t, .bool back] w fun e w' => e = .returned (.func (.func 32) #[] #[.pointer (some ⟨w.heap.size, 0, none⟩), .pointer (some ⟨w.heap.size + 1, 0, none⟩), .pointer (some ⟨w.heap.size + 2, 0, none⟩), .pointer (some ⟨w.heap.size + 3, 0, none⟩), .pointer (some ⟨w.heap.size + 4, 0, none⟩), .pointer (some ⟨w.heap.size + 5, 0, none⟩)]) ∧ EBox w' w.heap.size (.pointer p) tb lo hi t back ∧ w'.heap.size = w.heap.size + 6 ∧ Below w.heap.size w w' := by
  go_enter Try.func20, Try.ntmps20
  go_wp2_with fail
  go_ret
  have b0 := Boxed.new w 27 (.pointer p)
  have b1 := Boxed.new (w.alloc (.cells #[.pointer p] 27)) 9 (.string tb)
  have b2 := Boxed.new ((w.alloc (.cells #[.pointer p] 27)).alloc (.cells #[.string tb] 9)) 9 (.string lo)
  have b3 := Boxed.new (((w.alloc (.cells #[.pointer p] 27)).alloc (.cells #[.string tb] 9)).alloc (.cells #[.string lo] 9)) 9 (.string hi)
  have b4 := Boxed.new ((((w.alloc (.cells #[.pointer p] 27)).alloc (.cells #[.string tb] 9)).alloc (.cells #[.string lo] 9)).alloc (.cells #[.string hi] 9)) 3 (.int .i64 t)
  have b5 := Boxed.new (((((w.alloc (.cells #[.pointer p] 27)).alloc (.cells #[.string tb] 9)).alloc (.cells #[.string lo] 9)).alloc (.cells #[.string hi] 9)).alloc (.cells #[.int .i64 t] 3)) 4 (.bool back)
  simp only [World.size_alloc] at b1 b2 b3 b4 b5
  refine ⟨rfl, ⟨(((((b0.alloc _).alloc _).alloc _).alloc _).alloc _).cell, ((((b1.alloc _).alloc _).alloc _).alloc _).cell, (((b2.alloc _).alloc _).alloc _).cell, ((b3.alloc _).alloc _).cell, (b4.alloc _).cell, b5.cell⟩, by simp, ?_⟩
  exact ((((((Below.refl _ w).alloc (Nat.le_refl _) _).alloc (by simp) _).alloc (by simp; omega) _).alloc (by simp; omega) _).alloc (by simp; omega) _).alloc (by simp; omega) _
def YesOut (W : World) (e : Ending) (W' : World) : Prop := e = .returned (.bool true) ∧ Below W.heap.size W W'
set_option maxRecDepth 100000 in
set_option maxHeartbeats 3200000 in
theorem law_nil_in (n : Nat) (w : World) (h1 : 1 ≤ n) : CallsIn Fence.wide n Try.prog 5 #[] w (YesOut w) := by
  refine callsIn_of_wp_marks Try.func5 rfl trivial ?_ rfl
  simp only [Try.ntmps5, List.size_toArray, List.length_cons, List.length_nil, Nat.reduceAdd, Nat.reduceSub, Array.replicate_succ, Array.replicate_zero, List.push_toArray, List.append_toArray, List.nil_append, List.cons_append]
  gi_wp2_with (first
    | (gi_at_call 18; refine (callsIn_wide.2 (nil_sync w)).mono ?_; rintro e w1 ⟨rfl, hw⟩; obtain rfl := hw.symm)
    | (gi_at_call 19; refine (callsIn_wide.2 (nil_get _ _ _ w)).mono ?_; rintro e w1 ⟨rfl, hw⟩; obtain rfl := hw.symm)
    | (gi_at_call 20; refine (callsIn_wide.2 (eseekP _ _ _ _ _ _ w)).mono ?_; rintro e w2 ⟨rfl, hbx, hsz, hb2⟩; have H2 := Lib.hid (And.intro hbx (And.intro hsz hb2)); clear hbx hsz hb2))
  have H3 := Lib.hid (And.intro (Boxed.new w2 3 (.int .i64 0)) (show Below w.heap.size w (w2.alloc (.cells #[.int .i64 0] 3)) from H2.out.2.2.alloc H2.out.2.2.size _))
  have hz2 : w2.heap.size = w.heap.size + 6 := H2.out.2.1
  have hex : (w2.alloc (.cells #[.int .i64 0] 3)).cell? ⟨w.heap.size, 0, none⟩ = some (.pointer none) := ca (by omega) H2.out.1.c0
  refine rangeO h1 (gf := 32) (lb := #[.pointer (some ⟨w.heap.size, 0, none⟩), .pointer (some ⟨w.heap.size + 1, 0, none⟩), .pointer (some ⟨w.heap.size + 2, 0, none⟩), .pointer (some ⟨w.heap.size + 3, 0, none⟩), .pointer (some ⟨w.heap.size + 4, 0, none⟩), .pointer (some ⟨w.heap.size + 5, 0, none⟩)]) rfl (enters_of Try.func32 (by kernel_rfl) rfl)
    (encs := encP) (Kp := fun _ _ => True) (S := fun xs => xs = []) (N := 0) (w0 := w2.alloc (.cells #[.int .i64 0] 3)) ?seq (Below.refl _ _) (fun _ _ => trivial) (fun _ => trivial) (fun _ _ _ _ _ _ => trivial) (fun _ => rfl)
    (fun pre W => Boxed W w2.heap.size 3 (.int .i64 0) ∧ Below w.heap.size w W) (OwnFrom.and (Own.from (boxed_own (β := List (Bs × Bs)) w2.heap.size 3 (fun _ => .int .i64 0)) _) (ownFrom_below (Nat.le_refl _) (by rw [World.size_alloc]; omega))) ⟨H3.out.1, H3.out.2⟩ (fun _ => { tmps := #[], defers := [] })
    (fun l pre x W K hl _ => absurd hl (Nat.not_lt_zero _)) (fun l pre x W hi hl => absurd hl (Nat.not_lt_zero _)) ?done
  case seq =>
    intro l J W1 hW hz hJ hY h0
    exact enil_any (n - 1) l w.heap.size _ _ _ _ _ J W1 hJ ((hW.cell (p := ⟨w.heap.size, 0, none⟩) (by simp; omega)).trans hex) (Nat.lt_of_lt_of_le (show w.heap.size < (w2.alloc (.cells #[.int .i64 0] 3)).heap.size by simp; omega) hW.size) h0
  case done =>
    rintro D xs W hD rfl ⟨hbx, hbl⟩ hK
    have c5 := hbx.cell
    have HB := Lib.hid hbl
    have HD := Lib.hid (show w.heap.size ≤ D by have := hD; simp only [World.size_alloc] at this; omega)
    clear hbx hbl H3 hex H2 hz2 hD
    gi_wp2_with (first
    | (gi_at_call 12; refine (callsIn_wide.2 (nil_commit _ _ _)).mono ?_; rintro e w1 ⟨rfl, rfl⟩)
    | (gi_at_call 21; refine (callsIn_wide.2 (nil_rollback _ _)).mono ?_; rintro e w1 ⟨rfl, rfl⟩)
    | (gi_at_call 16; refine (callsIn_wide.2 (nil_checkpoint _ _)).mono ?_; rintro e w1 ⟨rfl, hb1⟩)
    | (gi_at_call 10; refine (callsIn_wide.2 (nil_stamp _)).mono ?_; rintro e w5 ⟨rfl, rfl⟩)
    | (gi_at_call 9; refine (callsIn_wide.2 (nil_disk _)).mono ?_; rintro e w6 ⟨rfl, rfl⟩)
    | (gi_at_call 17; refine (callsIn_wide.2 (nil_synced _)).mono ?_; rintro e w7 ⟨rfl, rfl⟩)
    | (gi_at_call 14; refine (callsIn_wide.2 (awake_any _)).mono ?_; rintro e w8 ⟨rfl, hb8⟩))
    have hK7 := (hb1.block D (Array.getElem?_eq_some_iff.1 hK).1).trans hK
    have hK8 := (hb8.block D (Array.getElem?_eq_some_iff.1 hK7).1).trans hK7
    have hfin : Below w.heap.size w w8 := (HB.out.trans (hb1.mono HB.out.size)).trans (hb8.mono (Nat.le_trans HB.out.size hb1.size))
    refine ⟨by simp, .inl ⟨_, _, rfl, run_takeDeferred hK8, ?_⟩⟩
    exact ⟨_, results_tmp rfl _ _ _, rfl, hfin.trans (belowK_b (w := w) (Nat.le_refl _) w8 D _ _ HD.out hK8 rfl rfl)⟩
theorem law_nil (W : World) : Calls Try.prog 5 #[] W (YesOut W) := callsIn_wide.1 (law_nil_in 1 W (Nat.le_refl _))
end Go.Proofs.Ytpcjmceakelilaa
/- Engine: cut, Rollback. -/
namespace Go.Proofs.Ytpcjmceakelilaa
open Go.ChangeShapes Go.WideShapes Go.ChangeAt Go.RowKit Go.Deep Go.ChangeMaps Go.Shelf
set_option linter.unusedVariables false
set_option linter.unusedSimpArgs false
theorem total_mono {E E' : List En} (g : Gd E) (g' : Gd E') (h : ∀ k, (lkL E' k).length ≤ (lkL E k).length) : total E' ≤ total E := by
  rw [total_keys g, total_keys g']
  refine Nat.le_trans (sum_mono _ _ h (E'.map (·.key))) ?_
  exact sum_sub (fun k => (lkL E k).length) (E'.map (·.key)) (E.map (·.key)) g'.keys (fun x _ hx => (mem_keys g x).2 (fun e => hx (by show (lkL E x).length = 0; rw [e]; rfl)))
theorem rollStore {B S m clock : Nat} {E : List En} {W : World} (t : Int) (h : Sto B W S m E clock) (hB : B ≤ W.heap.size) (ht : total E ≤ 1000000) :
    Calls Try.prog 51 #[.pointer (some ⟨S, 0, none⟩), .int .i64 t] W fun e W' => ∃ n : Int, e = .returned (.int .i64 n) ∧ Done B S m E (fun k => rollF t (lkL E k)) W W' := by
  refine (rollback_any B S m clock E t W h hB ht).mono ?_
  rintro e W' ⟨rfl, hs⟩
  exact ⟨_, rfl, swept_done h (roll_nil t) hs⟩
theorem run_range_T {W : World} {m clock : Nat} {E : List En} (h : MapAt W m E clock) :
    (Instr.range 48 (.map (some m))).run Try.prog W = .ok (.pointer (some ⟨W.heap.size, 0, none⟩)) (W.alloc (.mapIter (some m) clock #[] clock)) :=
  run_range_map W _ 9 65 m (esOf E) clock Try.underlying48 h
/-- tables of which those that have been met are cut -/
structure CutG (s : Int) (seen : Array Nat) (T : List Tb) (g : Tb → Tb) : Prop where
  same : ∀ t ∈ T, (g t).key = t.key ∧ (g t).S = t.S ∧ (g t).m = t.m ∧ (g t).born = t.born
  lk : ∀ t ∈ T, lkL (g t).E = if seen.contains t.born then fun k => rollF s (lkL t.E k) else lkL t.E
theorem CutG.start (s : Int) (T : List Tb) : CutG s #[] T id := ⟨fun t _ => ⟨rfl, rfl, rfl, rfl⟩, fun t _ => by simp⟩
theorem CutG.ens {s : Int} {seen : Array Nat} {T : List Tb} {g : Tb → Tb} (h : CutG s seen T g) : ens (T.map g) = ens T := by
  unfold Go.Proofs.Ytpcjmceakelilaa.ens
  rw [List.map_map]
  refine List.map_congr_left fun t ht => ?_
  obtain ⟨h1, h2, h3, h4⟩ := h.same t ht
  show Tb.en (g t) = t.en
  unfold Tb.en
  rw [h1, h2, h4]
theorem CutG.step {s : Int} {seen : Array Nat} {T : List Tb} {g : Tb → Tb} (h : CutG s seen T g) (hk : (T.map (·.key)).Nodup) (hbn : (T.map (·.born)).Nodup) {t : Tb} (ht : t ∈ T) (hs : seen.contains t.born = false) {E' : List En} {c' : Nat} (hl : lkL E' = fun k => rollF s (lkL (g t).E k)) :
    ∃ g', CutG s (seen.push t.born) T g' ∧ updT (T.map g) t.key E' c' = T.map g' := by
  refine ⟨fun u => if u.key = t.key then { g u with E := E', clock := c' } else g u, ⟨fun u hu => ?_, fun u hu => ?_⟩, ?_⟩
  · obtain ⟨h1, h2, h3, h4⟩ := h.same u hu
    dsimp only
    split
    · exact ⟨h1, h2, h3, h4⟩
    · exact ⟨h1, h2, h3, h4⟩
  · dsimp only
    by_cases e : u.key = t.key
    · have : u = t := nodup_inj hk hu ht e
      subst this
      rw [if_pos rfl]
      have h1 := h.lk u hu
      rw [hs] at h1
      show lkL E' = _
      rw [hl, h1]
      simp
    · rw [if_neg e, h.lk u hu]
      have hb : (u.born == t.born) = false := by
        rw [beq_eq_false_iff_ne]
        exact fun e2 => e (by rw [nodup_inj hbn hu ht e2])
      simp only [contains_push, hb, Bool.or_false]
  · unfold updT
    rw [List.map_map]
    refine List.map_congr_left fun u hu => ?_
    have hk2 := (h.same u hu).1
    by_cases e : u.key = t.key
    · exact (if_pos (show (g u).key = t.key by rw [hk2]; exact e)).trans (if_pos e).symm
    · exact (if_neg (show ¬ (g u).key = t.key by rw [hk2]; exact e)).trans (if_neg e).symm
theorem tbOf_map {T : List Tb} {g : Tb → Tb} (hg : ∀ t ∈ T, (g t).key = t.key) (k : Bs) : tbOf (T.map g) k = (tbOf T k).map g := by
  unfold tbOf
  induction T with
  | nil => rfl
  | cons a T ih =>
    rw [List.map_cons, List.find?_cons, List.find?_cons, hg a (List.mem_cons_self ..)]
    by_cases h : k = a.key
    · rw [decide_eq_true h]; rfl
    · rw [decide_eq_false h]; exact ih (fun t ht => hg t (List.mem_cons_of_mem _ ht))
def rollT (A : Bs → Bs → List Ver) (s : Int) : Bs → Bs → List Ver := fun tb k => rollF s (A tb k)
theorem CutG.cont {s : Int} {seen : Array Nat} {T : List Tb} {g : Tb → Tb} (h : CutG s seen T g) (hall : ∀ t ∈ T, seen.contains t.born = true) : cont (T.map g) = rollT (cont T) s := by
  funext tb
  unfold Go.Proofs.Ytpcjmceakelilaa.cont rollT
  rw [tbOf_map (fun t ht => (h.same t ht).1)]
  cases hu : tbOf T tb with
  | none => funext k; show [] = rollF s (Go.Proofs.Ytpcjmceakelilaa.cont T tb k); unfold Go.Proofs.Ytpcjmceakelilaa.cont; rw [hu]; exact (roll_nil s).symm
  | some u =>
    show lkL (g u).E = _
    rw [h.lk u (tbOf_mem hu).1, hall u (tbOf_mem hu).1, if_pos rfl]
    funext k
    show _ = rollF s (Go.Proofs.Ytpcjmceakelilaa.cont T tb k)
    unfold Go.Proofs.Ytpcjmceakelilaa.cont
    rw [hu]
theorem roll_leq (t : Int) (L : List Ver) : (rollF t L).length ≤ L.length := roll_len t L
def CutOut (B b mt : Nat) (T : List Tb) (st : Int) (dk : Bs) (sy : Int) (s : Int) (N : Nat) (W W' : World) : Prop :=
  ∃ T' tc', ETurn B b (FootE b mt T) W W' mt T' tc' (min st s) dk sy ∧ cont T' = rollT (cont T) s ∧ Bud T' N
set_option maxRecDepth 100000 in
set_option maxHeartbeats 4000000 in
theorem cut_any {B b mt tc : Nat} {T : List Tb} {st sy : Int} {dk : Bs} (s : Int) (N : Nat) (W : World) (h : Egs B W b mt T tc st dk sy) (hN : Bud T N) (hN2 : N ≤ 1000000) (hB : B ≤ W.heap.size) :
    Calls Try.prog 34 #[.pointer (some ⟨b, 0, none⟩), .int .i64 s] W fun e W' => e = .returned (.tuple #[]) ∧ CutOut B b mt T st dk sy s N W W' := by
  have c0 := h.c0
  have hrg := run_range_T h.map
  have HE := Lib.hid h
  have HN := Lib.hid (And.intro hN (And.intro hN2 hB))
  obtain ⟨r, hr⟩ : ∃ r, r = W.heap.size := ⟨_, rfl⟩
  have hit : IterAt (W.alloc (.mapIter (some mt) tc #[] tc)) r mt tc #[] tc := by rw [hr]; exact heap_alloc_new W _
  have hrF : ¬ FootE b mt T r := fun hf => by have := (h.foot hf).2; omega
  have H0 := Lib.hid (And.intro hit (And.intro (ETurn.same h ((Below.refl _ W).alloc (Nat.le_refl _) (.mapIter (some mt) tc #[] tc))) hrF))
  clear h hN hN2 hB hit hrF
  go_enter Try.func34, Try.ntmps34
  go_wp2_with fail
  rw [← hr]
  have HR := Lib.hid hr
  clear hr c0 hrg
  generalize W.alloc (.mapIter (some mt) tc #[] tc) = W1 at H0 ⊢
  go_loopw [5] (fun _ wr => Hid (∃ seen g, CutG s seen T g ∧ IterAt wr r mt tc seen tc ∧ ETurn B b (FootE b mt T) W wr mt (T.map g) tc st dk sy ∧ ¬ FootE b mt (T.map g) r)) (fun _ wr => unseen (ens T) (wr.iterSeen r))
  case atStart => exact Lib.hid ⟨#[], id, CutG.start s T, H0.out.1, by rw [List.map_id]; exact H0.out.2.1, by rw [List.map_id]; exact H0.out.2.2⟩
  case round =>
    clear H0
    obtain ⟨seen, g, hg, hit, ht, hrF⟩ := hrel.out
    have hms := iterSeen_at hit
    have hmap : MapAt wr mt (ens T) tc := by have := ht.egs.map; rwa [hg.ens] at this
    rcases run_next_E hmap hit HE.out.ok.lt (Nat.le_refl _) 0 with ⟨hall, hrun⟩ | ⟨x, hx, hsx, W2, hW2, hrun⟩
    · have hall2 : ∀ t ∈ T, seen.contains t.born = true := fun t ht2 => hall t.en (List.mem_map.2 ⟨t, ht2, rfl⟩)
      have hr1 := ht.egs.c1
      have hr2 := ht.egs.fr 1
      have HT := Lib.hid (And.intro ht (hg.cont hall2))
      have HG := Lib.hid hg
      clear hall hms hg hit ht hrF hmap hall2 hrel
      go_wp2_with fail
      go_end0
      refine ⟨rfl, _, _, HT.out.1.setStamp _ (.inl rfl), HT.out.2, by rw [List.length_map]; exact HN.out.1.1, fun u hu => ?_⟩
      obtain ⟨t, ht, rfl⟩ := List.mem_map.1 hu
      refine Nat.le_trans (total_mono (HE.out.sto t ht).gd (HT.out.1.egs.sto _ hu).gd (fun k => ?_)) (HN.out.1.2 t ht)
      rw [HG.out.lk t ht]
      split
      · exact roll_len s _
      · exact Nat.le_refl _
    · obtain ⟨t, htT, rfl⟩ := List.mem_map.1 hx
      obtain ⟨W3, hW3⟩ : ∃ W3, W3 = setBlock W2 r (.mapIter (some mt) tc (seen.push t.born) tc) := ⟨_, rfl⟩
      have hrun' := hrun
      rw [show t.en.born = t.born from rfl, ← hW3] at hrun'
      have hk3 : Kept (fun j => j = r) wr W3 := by rw [hW3]; exact setBlock_kept (kept_drew' (Kept.refl _ wr) hW2) r _ (.inl rfl)
      have hit3 : IterAt W3 r mt tc (seen.push t.born) tc := by rw [hW3]; exact iter_set (iter_drew hit hW2)
      have hE3 := ht.egs.kept hk3 (fun k hk e => hrF (by rw [← e]; exact hk))
      have hkeepF : Kept (FootE b mt T) W W3 := ht.kept.trans (T := fun j => j = r) hk3 (fun k hk => .inr (by have := HR.out; omega))
      have hT3 : ETurn B b (FootE b mt T) W W3 mt (T.map g) tc st dk sy := ⟨hE3, ht.foot, hkeepF⟩
      have hmap3 : MapAt W3 mt (ens T) tc := by have := hE3.map; rwa [hg.ens] at this
      have hent := run_entry_E hmap3 hit3 hx HE.out.ok.borns
      have hmeas := unseen_push (ens T) seen t.en hsx HE.out.ok.borns hx
      have hbn : (T.map (·.born)).Nodup := by have := HE.out.ok.borns; unfold ens at this; rwa [List.map_map] at this
      obtain ⟨g1, g2, g3, g4⟩ := hg.same t htT
      have hgt : g t ∈ T.map g := List.mem_map.2 ⟨t, htT, rfl⟩
      have hroll := rollStore s (hE3.sto (g t) hgt) (Nat.le_trans HN.out.2.2 hkeepF.size) (by
        have h1 := HN.out.1.2 t htT
        have h2 := HN.out.2.1
        have h3 : total (g t).E ≤ total t.E := total_mono (HE.out.sto t htT).gd (hE3.sto (g t) hgt).gd (fun k => by
          rw [hg.lk t htT]
          split
          · exact roll_len s _
          · exact Nat.le_refl _)
        omega)
      rw [g2] at hroll
      have HQ := Lib.hid (hroll.mono (R' := fun e W' => ∃ n : Int, e = .returned (.int .i64 n) ∧ Hid (∃ g', CutG s (seen.push t.born) T g' ∧ IterAt W' r mt tc (seen.push t.born) tc ∧ ETurn B b (FootE b mt T) W W' mt (T.map g') tc st dk sy ∧ ¬ FootE b mt (T.map g') r)) (by
        rintro e W' ⟨n, rfl, E', c', hTd, hl⟩
        refine ⟨n, rfl, Lib.hid ?_⟩
        obtain ⟨g', hg', hupd⟩ := hg.step HE.out.keys hbn htT hsx (c' := c') hl
        have hTt : Turned B (g t).S (g t).m (g t).E W3 W' E' c' := by rw [g2]; exact hTd
        have hturn := hE3.turn hgt hTt
        rw [g1, hupd] at hturn
        have hrlt : r < W3.heap.size := hit3.lt
        have hrF3 : ¬ Foot (g t).S (g t).m (g t).E r := fun hf => hrF (.inr (.inr ⟨g t, hgt, hf⟩))
        refine ⟨g', hg', hit3.kept hTt.2.2 hrF3, hT3.trans hturn, fun hf => ?_⟩
        rcases hturn.foot r hf with h1 | h1
        · exact hrF h1
        · omega))
      have HM := Lib.hid (And.intro hmeas hms)
      have HI := Lib.hid (fun W' (h : IterAt W' r mt tc (seen.push t.born) tc) => iterSeen_at h)
      have hru : (Instr.next (.pointer (some ⟨r, 0, none⟩)) false 0).run Try.prog wr = .ok (.tuple #[.bool true, .string t.key, .pointer (some ⟨t.S, 0, none⟩)]) W3 := hrun'
      have hen : (Instr.entry (.pointer (some ⟨r, 0, none⟩))).run Try.prog W3 = .ok (.tuple #[.string t.key, .pointer (some ⟨t.S, 0, none⟩)]) W3 := hent
      generalize t.S = S at *
      generalize t.key = tk at *
      clear hrun hrun' hk3 hit3 hE3 hkeepF hT3 hmap3 hent hmeas hroll hms hmap hit ht hrF hrel hW3 hW2 hg g1 g2 g3 g4 hgt
      go_wp2_with fail
      refine HQ.out.mono ?_
      rintro e W' ⟨n6, rfl, HX⟩
      clear HQ hru hen
      go_wp2_with fail
      obtain ⟨g', x1, x2, x3, x4⟩ := HX.out
      have hi6 := HI.out W' x2
      go_roundw
      case rel => exact Lib.hid ⟨_, g', x1, x2, x3, x4⟩
      case measure => rw [hi6, HM.out.2]; exact HM.out.1
def RbOut (B b mt : Nat) (T : List Tb) (st : Int) (dk : Bs) (sy : Int) (s : Int) (N : Nat) (W W' : World) : Prop :=
  (0 ≤ s ∧ ∃ T' tc' dk', ETurn B b (FootE b mt T) W W' mt T' tc' (min st s) dk' sy ∧ dk'.size ≤ 16777216 ∧ cont T' = rollT (cont T) s ∧ Bud T' N) ∨ Below W.heap.size W W'
set_option maxRecDepth 100000 in
set_option maxHeartbeats 4000000 in
theorem erollback_any {B b mt tc : Nat} {T : List Tb} {st sy : Int} {dk : Bs} (s : Int) (N : Nat) (W : World) (h : Egs B W b mt T tc st dk sy) (hN : Bud T N) (hN2 : N ≤ 1000000) (hB : B ≤ W.heap.size) (hd : dk.size ≤ 1000000000) :
    Calls Try.prog 21 #[.pointer (some ⟨b, 0, none⟩), .int .i64 s] W fun e W' => ∃ n : Int, e = .returned (.int .i64 n) ∧ RbOut B b mt T st dk sy s N W W' := by
  have HE := Lib.hid h
  have HN := Lib.hid (And.intro hN (And.intro hN2 (And.intro hB hd)))
  clear h hN hN2 hB hd
  by_cases hr : 0 ≤ s ∧ s ≤ 1099511627776
  · have r1 : (decide (0 ≤ s) && decide (s ≤ 1099511627776)) = true := by simp [hr.1, hr.2]
    obtain ⟨n, rfl⟩ : ∃ n : Nat, s = (n : Int) := ⟨s.toNat, by omega⟩
    have HR := Lib.hid hr
    have r2 : decide ((n : Int) ≤ 1099511627776) = true := decide_eq_true hr.2
    clear hr
    have HA := Lib.hid (append_any (k := 2) (s := n) (v := .slice none 0 0) (L := []) HE.out ⟨by have := HR.out.2; omega, .inl ⟨.inl rfl, rfl⟩⟩ HN.out.2.2.2)
    go_enter Try.func21, Try.ntmps21
    go_wp2_with fail
    refine (inRange_any _ _).mono ?_
    rintro e w1 ⟨rfl, rfl⟩
    go_wp2_with fail
    refine HA.out.mono ?_
    rintro e w2 (⟨hf, rfl, ht, _⟩ | ⟨hf, rfl, hb⟩)
    · have HT := Lib.hid (And.intro hf ht)
      clear hf ht
      go_wp2_with fail
      refine (cut_any n N w2 HT.out.2.egs HN.out.1 HN.out.2.1 (Nat.le_trans HN.out.2.2.1 HT.out.2.kept.size)).mono ?_
      rintro e w3 ⟨rfl, T', tc', h1, h2, h3⟩
      have H3 := Lib.hid (And.intro h1 (And.intro h2 h3))
      clear h1 h2 h3
      go_wp2_with fail
      go_ret
      exact ⟨_, rfl, .inl ⟨HR.out.1, T', tc', _, HT.out.2.trans H3.out.1, by rw [addD_size]; have := HT.out.1.2; omega, H3.out.2.1, H3.out.2.2⟩⟩
    · have HB := Lib.hid hb
      clear hf hb
      go_wp2_with fail
      go_ret
      exact ⟨_, rfl, .inr HB.out⟩
  · have r1 : (decide (0 ≤ s) && decide (s ≤ 1099511627776)) = false := by
      by_cases h0 : 0 ≤ s
      · rw [decide_eq_true h0, decide_eq_false (fun h1 => hr ⟨h0, h1⟩)]; rfl
      · rw [decide_eq_false h0]; rfl
    clear hr
    go_enter Try.func21, Try.ntmps21
    go_wp2_with fail
    refine (inRange_any _ _).mono ?_
    rintro e w1 ⟨rfl, rfl⟩
    go_wp2_with fail
    go_ret
    exact ⟨_, rfl, .inr (Below.refl _ _)⟩
end Go.Proofs.Ytpcjmceakelilaa
/- Engine: All: its iterator, where the body may change blocks that are none of the store's. -/
namespace Go.Proofs.Ytpcjmceakelilaa
open Go.ChangeShapes Go.WideShapes Go.ChangeAt Go.RowKit Go.Deep Go.ChangeMaps Go.Shelf Go.Sort
set_option linter.unusedVariables false
set_option linter.unusedSimpArgs false
attribute [local go_sem] Oper.semAt_some
attribute [local go_sem, local simp] wide_fn
/-- the blocks of F are kept -/
structure KF (F : Nat → Prop) (W W' : World) : Prop where
  os : W'.os = W.os
  tape : W'.tape = W.tape
  output : W'.output = W.output
  size : W.heap.size ≤ W'.heap.size
  block : ∀ k, F k → W'.heap[k]? = W.heap[k]?
theorem KF.trans {F : Nat → Prop} {A B C : World} (h : KF F A B) (g : KF F B C) : KF F A C := ⟨g.os.trans h.os, g.tape.trans h.tape, g.output.trans h.output, Nat.le_trans h.size g.size, fun k hk => (g.block k hk).trans (h.block k hk)⟩
theorem KF.below {F : Nat → Prop} {A B : World} (h : Below A.heap.size A B) (hF : ∀ k, F k → k < A.heap.size) : KF F A B := ⟨h.os, h.tape, h.output, h.size, fun k hk => h.block k (hF k hk)⟩
/-- rows of strings from b on are kept -/
def KeepsStrF (b : Nat) (W W' : World) : Prop := ∀ (k : Nat) (cs : Array Value) (fr : Nat × Nat), b ≤ k → W.heap[k]? = some (Obj.cells cs 9 fr) → W'.heap[k]? = some (Obj.cells cs 9 fr)
theorem KRow.strF {b B : Nat} {W W' : World} {v : Value} {ks : List Bs} (h : KRow B W v ks) (hk : KeepsStrF b W W') (hb : b ≤ B) : KRow B W' v ks := by
  refine h.same fun k hk2 => ?_
  rcases h.2 with ⟨rfl, _⟩ | ⟨g, c, cur, rfl, h1, h2, _⟩
  · simp [Value.ownBlock] at hk2
  · simp only [Value.ownBlock, Option.some.injEq] at hk2
    subst hk2
    rw [hk g cur (0, 0) (Nat.le_trans hb h1) h2, h2]
/-- what a round keeps: the blocks of F, rows of strings, the blocks from b to c -/
def KpF (F : Nat → Prop) (b c : Nat) (W W' : World) : Prop := KF F W W' ∧ KeepsStrF b W W' ∧ ∀ k, b ≤ k → k < c → k < W.heap.size → W'.heap[k]? = W.heap[k]?
theorem KpF.t {F : Nat → Prop} {b c : Nat} {A B C : World} (h : KpF F b c A B) (k : KpF F b c B C) : KpF F b c A C :=
  ⟨h.1.trans k.1, fun i cs fr hb hi => k.2.1 i cs fr hb (h.2.1 i cs fr hb hi), fun i h1 h2 h3 => (k.2.2 i h1 h2 (Nat.lt_of_lt_of_le h3 h.1.size)).trans (h.2.2 i h1 h2 h3)⟩
theorem KpF.below {F : Nat → Prop} {b c : Nat} {W W' : World} (h : Below W.heap.size W W') (hF : ∀ k, F k → k < W.heap.size) : KpF F b c W W' := ⟨KF.below h hF, fun k cs fr _ hk => (h.block k (Array.getElem?_eq_some_iff.1 hk).1).trans hk, fun k _ _ h3 => h.block k h3⟩
theorem kpF_b {F : Nat → Prop} {b c : Nat} {w : World} (hF : ∀ k, F k → k < w.heap.size) (hc : c ≤ w.heap.size) (W : World) (l : Nat) (o o' : Obj) (hl : w.heap.size ≤ l) (h : W.heap[l]? = some o) (ho : o.isCells = false) (hw : o.isWalk = false) : KpF F b c W (W.putObj l o') := by
  refine ⟨⟨rfl, rfl, rfl, by simp, fun k hk => World.putObj_heap_other (by have := hF k hk; omega)⟩, fun k cs fr _ hk => ?_, fun k h1 h2 h3 => World.putObj_heap_other (by omega)⟩
  rw [World.putObj_heap_other (fun e => by rw [e, h] at hk; cases hk; cases ho)]
  exact hk
/-- where an iterator over the keys stands -/
structure ASF {α : Type} (F : Nat → Prop) (r bt c S : Nat) (ts : List Bs) (v : Value) (J : List α → World → Prop) (W0 : World) (pre : List α) (X : World) : Prop where
  j : J pre X
  b : KF F W0 X
  kr : KRow r X v ts
  cb : X.cell? ⟨bt, 0, none⟩ = some (.pointer (some ⟨S, 0, none⟩))
  bl : bt < X.heap.size
  fw : ∀ k, F k → k < W0.heap.size
theorem ASF.below {α : Type} {F : Nat → Prop} {r bt c S : Nat} {ts : List Bs} {v : Value} {J : List α → World → Prop} {W0 X X' : World} {pre : List α} (h : ASF F r bt c S ts v J W0 pre X) (hJ : ∀ pre W W', J pre W → Below W.heap.size W W' → J pre W') (hb : Below X.heap.size X X') : ASF F r bt c S ts v J W0 pre X' :=
  ⟨hJ _ _ _ h.j hb, h.b.trans (KF.below hb (fun k hk => Nat.lt_of_lt_of_le (h.fw k hk) h.b.size)), h.kr.str (KeepsStr.below hb), (hb.cell (p := ⟨bt, 0, none⟩) h.bl).trans h.cb, Nat.lt_of_lt_of_le h.bl hb.size, h.fw⟩
theorem ASF.next {α : Type} {F : Nat → Prop} {r bt c S : Nat} {ts : List Bs} {v : Value} {J : List α → World → Prop} {W0 X X' : World} {pre pre' : List α} (h : ASF F r bt c S ts v J W0 pre X) (hj : J pre' X') (hk : KpF F bt c X X') (hc : bt < c) (hr : bt ≤ r) : ASF F r bt c S ts v J W0 pre' X' :=
  ⟨hj, h.b.trans hk.1, h.kr.strF hk.2.1 hr, by rw [World.cell?_of_block (a := ⟨bt, 0, none⟩) (hk.2.2 bt (Nat.le_refl _) hc h.bl)]; exact h.cb, Nat.lt_of_lt_of_le h.bl hk.1.size, h.fw⟩
set_option maxRecDepth 100000 in
set_option maxHeartbeats 3200000 in
theorem all1F_any (m l c bt B S mp clock : Nat) (E : List En) (J Jx : List (Bs × Ver) → World → Prop)
    (hY : ∀ m pre (x : Bs × Ver) W, J pre W → pre ++ [x] <+: allK E (ordE E) → YieldAt Fence.wide m Try.prog l (encA x) W fun e W' =>
      (e = .returned (.bool true) ∧ J (pre ++ [x]) W' ∧ KpF (Foot S mp E) bt c W W') ∨ (e = .returned (.bool false) ∧ Jx (pre ++ [x]) W'))
    (hJ : ∀ pre W W', J pre W → Below W.heap.size W W' → J pre W') (hbc : bt < c)
    (W0 : World) (hst : Sto B W0 S mp E clock) (hT : E.length ≤ 100000) (c1 : W0.cell? ⟨bt, 0, none⟩ = some (.pointer (some ⟨S, 0, none⟩))) (hbl : bt < W0.heap.size) (hj : J [] W0) :
    CallsIn Fence.wide m Try.prog 48 #[.func (.yield l) #[] #[], .pointer (some ⟨bt, 0, none⟩)] W0 (SeqOut (allK E (ordE E)) J Jx) := by
  have HH := Lib.hid hst
  have HYJ := Lib.hid (And.intro hY hJ)
  have H1 := Lib.hid (And.intro trivial (And.intro trivial (And.intro hj trivial)))
  have hrg := run_range_E hst.map
  have a0 := hst.c0
  obtain ⟨i0, hi0, hz0, hz1, hz2⟩ := info_parts infoS
  clear hY hJ hst hj
  refine callsIn_of_wp Try.func48 rfl trivial ?_ rfl
  simp only [Try.ntmps48, List.size_toArray, List.length_cons, List.length_nil, Nat.reduceAdd, Nat.reduceSub, Array.replicate_succ, Array.replicate_zero, List.push_toArray, List.append_toArray, List.nil_append, List.cons_append]
  gi_wp2
  obtain ⟨r, hr⟩ : ∃ r, r = W0.heap.size := ⟨_, rfl⟩
  have hit : IterAt (W0.alloc (.mapIter (some mp) clock #[] clock)) r mp clock #[] clock := by rw [hr]; exact heap_alloc_new W0 _
  have hb1 : Below W0.heap.size W0 (W0.alloc (.mapIter (some mp) clock #[] clock)) := (Below.refl _ W0).alloc (Nat.le_refl _) _
  have H0 := Lib.hid (And.intro hit hb1)
  rw [← hr]
  have HR := Lib.hid hr
  have hbr : bt < r := by omega
  clear hit hb1 hr a0 hrg
  generalize W0.alloc (.mapIter (some mp) clock #[] clock) = W1 at H0 ⊢
  gi_loopw [3] (fun v wr => ∃ (seen : Array Nat) (ks : List Bs), KRow (r + 1) wr v ks ∧ ks.Perm ((E.filter fun e => seen.contains e.born).map (·.key)) ∧ IterAt wr r mp clock seen clock ∧ Below W0.heap.size W0 wr) (fun v wr => unseen E (wr.iterSeen r))
  case atStart => exact ⟨#[], [], KRow.nil _ _, by simp, H0.out.1, H0.out.2⟩
  case round =>
    clear H0
    obtain ⟨seen, ks, hkr, hperm, hit, hb⟩ := hrel
    have hsW := HH.out.below hb
    have hms := iterSeen_at hit
    obtain ⟨va, vc, rfl⟩ := hkr.len
    have hkl : ks.length ≤ 100000 := by
      rw [hperm.length_eq, List.length_map]
      exact Nat.le_trans (List.length_filter_le _ _) hT
    rcases run_next_E hsW.map hit hsW.ok.lt (Nat.le_refl _) 0 with ⟨hall, hrun⟩ | ⟨x, hx, hsx, W2, hW2, hrun⟩
    · have hperm2 : ks.Perm (E.map (·.key)) := by
        rw [List.filter_eq_self.2 (fun e he => hall e he)] at hperm
        exact hperm
      have HS := Lib.hid (And.intro (sortB_congr hperm2 HH.out.ok.keys) (And.intro hb hkr))
      have hsl : (sortB ks).length = ks.length := (sortB_perm ks).length_eq
      have HSL := Lib.hid hsl
      clear hall hms hperm hit hsW hperm2 hsl hb
      gi_wp2
      refine ⟨fun h => (by cases h), (callsIn_wide.2 (sort_keys (r + 1) (.slice va ks.length vc) ks wr hkr (by omega))).mono ?_⟩
      rintro e W3 ⟨rfl, hkr3, hk3⟩
      have hlt : ks.length = (ordE E).length := by rw [← HSL.out, HS.out.1]; rfl
      have hkr4 : KRow (r + 1) W3 (.slice va ks.length vc) (ordE E) := by
        have := hkr3
        rw [HS.out.1] at this
        exact this
      have hb4 : Below W0.heap.size W0 W3 := HS.out.2.1.trans (hk3.below HS.out.2.1.size (fun j e => by have := (HS.out.2.2.lt j e).1; have := HR.out; omega))
      have has : ASF (Foot S mp E) (r + 1) bt c S (ordE E) (.slice va ks.length vc) J W0 [] W3 :=
        ⟨HYJ.out.2 _ _ _ H1.out.2.2.1 hb4, KF.below hb4 (fun k hk => (HH.out.foot hk).2), hkr4, (hb4.cell (p := ⟨bt, 0, none⟩) hbl).trans c1, Nat.lt_of_lt_of_le hbl hb4.size, fun k hk => (HH.out.foot hk).2⟩
      have HA := Lib.hid has
      clear hkr3 hk3 hkr4 hb4 has hkr HS HSL c1
      generalize ks.length = tn at *
      have htl : tn ≤ 100000 := hkl
      obtain ⟨ts, hts⟩ : ∃ ts, ts = ordE E := ⟨_, rfl⟩
      rw [← hts] at HA hlt
      have HTS := Lib.hid hts
      clear hts hkl
      gi_wp2
      gi_loopw [28] (fun i wr => ∃ n : Nat, i = .int .i64 n ∧ n ≤ tn ∧ Hid (ASF (Foot S mp E) (r + 1) bt c S ts (.slice va tn vc) J W0 (allK E (ts.take n)) wr)) (fun i wr => tn - iv i)
      case atStart => exact ⟨0, rfl, Nat.zero_le _, HA⟩
      case round =>
        clear HA
        obtain ⟨n, rfl, hn, HA⟩ := hrel
        by_cases hlast : n = tn
        · subst hlast
          have e : ts.take n = ts := List.take_of_length_le (by omega)
          gi_wp2
          go_end0
          exact ⟨⟨_, rfl⟩, .inl ⟨_, rfl, by have := HA.out.j; rw [e, HTS.out] at this; exact this⟩⟩
        · have hnl : n < ts.length := by omega
          have hnt : n < tn := by omega
          obtain ⟨kg, kc, cur, hve, _, _, _, _, hkc⟩ := HA.out.kr.get (by omega)
          have hka : va = some ⟨kg, 0, none⟩ := by cases hve; rfl
          subst hka
          have ck := hkc n hnl
          have cb := HA.out.cb
          have hst := HH.out.kept (T := fun k => ¬ Foot S mp E k) ⟨HA.out.b.os, HA.out.b.tape, HA.out.b.output, HA.out.b.size, fun j hj hs => HA.out.b.block j (Classical.not_not.1 hs)⟩ (fun j hj hs => hs hj)
          have a0 := hst.c0
          have hlk := run_look hst.map ts[n]
          obtain ⟨hrow, hasc, hbd, hlen⟩ := hst.row ts[n]
          obtain ⟨la, lc, hlv⟩ := hrow.len
          rw [hlv] at hlk
          have HL := Lib.hid hlv
          have HPRE := Lib.hid (fun j => allK_pre E ts (i := n) (j := j) hnl)
          have HSN := Lib.hid (show allK E (ts.take (n + 1)) = allK E (ts.take n) ++ (lkL E ts[n]).map (fun x => (ts[n], x)) from by rw [List.take_succ_eq_append_getElem hnl, allK_snoc])
          clear hkc hve hrow hasc hbd hlast hlv hst
          have hw1 : IntKind.i64.wrap ((n : Int) + 1) = ((n + 1 : Nat) : Int) := by rw [IntKind.wrap_i64]; omega
          generalize ts[n] = key at *
          obtain ⟨ln, hln⟩ : ∃ ln, ln = (lkL E key).length := ⟨_, rfl⟩
          rw [← hln] at hlk hlen
          have HLN := Lib.hid hln
          clear hln
          gi_wp2
          clear ck a0 hlk cb
          gi_loopw [39] (fun i wr => ∃ j : Nat, i = .int .i64 j ∧ j ≤ ln ∧ Hid (ASF (Foot S mp E) (r + 1) bt c S ts (.slice (some ⟨kg, 0, none⟩) tn vc) J W0 (allK E (ts.take n) ++ ((lkL E key).take j).map (fun x => (key, x))) wr)) (fun i wr => ln - iv i)
          case atStart => exact ⟨0, rfl, Nat.zero_le _, Lib.hid (by rw [List.take_zero, List.map_nil, List.append_nil]; exact HA.out)⟩
          case round =>
            clear HA
            obtain ⟨j, rfl, hj, HA⟩ := hrel
            by_cases hjl : j = ln
            · subst hjl
              have HA2 : Hid (ASF (Foot S mp E) (r + 1) bt c S ts (.slice (some ⟨kg, 0, none⟩) tn vc) J W0 (allK E (ts.take (n + 1))) wr) := Lib.hid (by
                rw [HSN.out]
                have := HA.out
                rw [HLN.out, List.take_length] at this
                exact this)
              clear HA
              gi_wp2
              go_roundw
              case rel => exact ⟨n + 1, by first | rfl | (push_cast; rfl), hnt, HA2⟩
              case measure => show tn - (((n + 1 : Nat) : Int).toNat) < tn - ((n : Int)).toNat; omega
            · have hjlt : j < ln := by omega
              have hst := HH.out.kept (T := fun k => ¬ Foot S mp E k) ⟨HA.out.b.os, HA.out.b.tape, HA.out.b.output, HA.out.b.size, fun j hj hs => HA.out.b.block j (Classical.not_not.1 hs)⟩ (fun j hj hs => hs hj)
              have hrow := (hst.row key).1
              have hjL : j < (lkL E key).length := by rw [← HLN.out]; exact hjlt
              obtain ⟨g, gc, hve, _, _, hgl, hcell⟩ := hrow.get (by omega)
              have hla : la = some ⟨g, 0, none⟩ := by have := HL.out; rw [hve] at this; cases this; rfl
              subst hla
              obtain ⟨e0, e1, e2⟩ := hcell j hjL
              have HPJ := Lib.hid (show (allK E (ts.take n) ++ ((lkL E key).take (j + 1)).map (fun x => (key, x))) = (allK E (ts.take n) ++ ((lkL E key).take j).map (fun x => (key, x))) ++ [(key, (lkL E key)[j])] from by
                rw [List.take_succ_eq_append_getElem hjL, List.map_append, List.append_assoc]; rfl)
              have HXV := Lib.hid (rfl : (lkL E key)[j] = (lkL E key)[j])
              obtain ⟨x, hx⟩ : ∃ x, x = (lkL E key)[j] := ⟨_, rfl⟩
              rw [← hx] at e0 e1 e2 HPJ
              have HST := Lib.hid (And.intro hst hgl)
              clear hcell hve hrow hx hst HXV hgl
              have hw2 : IntKind.i64.wrap ((j : Int) + 1) = ((j + 1 : Nat) : Int) := by rw [IntKind.wrap_i64]; omega
              obtain ⟨xs, xv, xd⟩ := x
              have HPL := Lib.hid (show (allK E (ts.take n) ++ ((lkL E key).take j).map (fun x => (key, x))) ++ [(key, xs, xv, xd)] <+: allK E (ordE E) by
                have h := HPRE.out (j + 1)
                rw [HPJ.out] at h
                rw [← HTS.out]
                exact h)
              have HB8 := Lib.hid (show Below wr.heap.size wr (wr.alloc (.cells #[.int .i64 xs, .string xv, .bool xd] 72)) from (Below.refl _ _).alloc (Nat.le_refl _) _)
              have HA8 := Lib.hid (HA.out.below HYJ.out.2 HB8.out)
              obtain ⟨f1, t1, a1, b1, hy1, hR1⟩ := HYJ.out.1 (m - 1) _ (key, xs, xv, xd) _ HA8.out.j HPL.out
              have hy : (Instr.yield l #[.string key, .agg #[.int .i64 xs, .string xv, .bool xd]]).run Try.prog _ = .ok (.round l f1 t1 a1 b1) _ := hy1
              have HR1 := Lib.hid hR1
              clear hR1 hy1
              gi_wp2
              refine ⟨fun h => (by cases h), HR1.out.mono ?_⟩
              clear HR1 hy
              rintro e W5 (⟨rfl, hJ2, hk2⟩ | ⟨rfl, hx2⟩)
              · have HA5 : Hid (ASF (Foot S mp E) (r + 1) bt c S ts (.slice (some ⟨kg, 0, none⟩) tn vc) J W0 (allK E (ts.take n) ++ ((lkL E key).take (j + 1)).map (fun x => (key, x))) W5) := Lib.hid (by rw [HPJ.out]; exact HA8.out.next hJ2 hk2 hbc (by omega))
                clear hJ2 hk2 HA HA8 HB8
                gi_wp2
                go_roundw
                case rel => exact ⟨j + 1, by first | rfl | (push_cast; rfl), hjlt, HA5⟩
                case measure => show ln - (((j + 1 : Nat) : Int).toNat) < ln - ((j : Int)).toNat; omega
              · gi_wp2
                refine bodyPost_ret (results_none rfl _ _ _) rfl ?_
                exact ⟨⟨_, rfl⟩, .inr ⟨_, by rw [← HTS.out, ← HPJ.out]; exact HPRE.out (j + 1), hx2⟩⟩
    · obtain ⟨W3, hW3⟩ : ∃ W3, W3 = setBlock W2 r (.mapIter (some mp) clock (seen.push x.born) clock) := ⟨_, rfl⟩
      rw [← hW3] at hrun
      have hk3 : Kept (fun j => j = r) wr W3 := by rw [hW3]; exact setBlock_kept (kept_drew' (Kept.refl _ wr) hW2) r _ (.inl rfl)
      have hit3 : IterAt W3 r mp clock (seen.push x.born) clock := by rw [hW3]; exact iter_set (iter_drew hit hW2)
      have hb3 : Below W0.heap.size W0 W3 := hb.trans (hk3.below hb.size (fun j e => by rw [e, HR.out]; exact Nat.le_refl _))
      have hkr3 : KRow (r + 1) W3 (.slice va ks.length vc) ks := hkr.same (fun k hk => hk3.block k (hkr.lt k hk).2 (fun e => by have := (hkr.lt k hk).1; omega))
      have hent := run_entry_E (HH.out.below hb3).map hit3 hx HH.out.ok.borns
      obtain ⟨xa, xc, hval⟩ := (HH.out.rows x hx).1.len
      rw [hval] at hrun hent
      have hmeas := unseen_push E seen x hsx HH.out.ok.borns hx
      have HM := Lib.hid (And.intro hmeas hms)
      have HP := Lib.hid ((hperm.append_right [x.key]).trans (filter_seen_push HH.out.ok.borns hx hsx).symm)
      have H3 := Lib.hid (And.intro hit3 hb3)
      obtain ⟨k, hk⟩ : ∃ k, k = x.key := ⟨_, rfl⟩
      rw [← hk] at hrun hent HP
      clear hms hperm hit hsW hkr hb hmeas hW3 hW2 hk3 hit3 hb3 hval hsx hx hk
      gi_wp2_with (gi_at_builtin; refine wpListIn_append_own _ rfl _ _ 60 rfl (r + 1) 9 i0 (.string ⟨#[]⟩) 1 16 Try.underlying60 hi0 hz0 hz1 hz2 rfl (by decide) _ _ _ rfl (World.ownsRow.alloc hkr3 _) ⟨W3.heap.size, 0, none⟩ 1 1 [.string k] rfl rfl (cell_one_new _ _ _) (by simp [Value.oneCell']) (by unfold maxLen; omega) (by omega) (by have := H3.out.1.lt; simp; omega) ?_; intro v' w4 hown' hgrow _)
      have hk4 : Kept (fun j => (Value.slice va ks.length vc).ownBlock = some j) (W3.alloc (.cells #[.string k] 9)) w4 := ⟨hgrow.os, hgrow.tape, hgrow.output, hgrow.size, fun j hj hs => hgrow.block j hj (fun e => hs e.symm)⟩
      have hnr : ¬ (Value.slice va ks.length vc).ownBlock = some r := fun e => by have := (hkr3.lt r e).1; omega
      have hit4 : IterAt w4 r mp clock (seen.push x.born) clock := (IterAt.kept (W := W3.alloc (.cells #[.string k] 9)) (H3.out.1.kept ((Kept.refl (fun _ => False) W3).alloc _) (fun h => h)) hk4 hnr)
      refine ⟨⟨seen.push x.born, ks ++ [k], ?_, HP.out, hit4, (H3.out.2.alloc H3.out.2.size _).trans (hk4.below (by have := H3.out.2.size; simp; omega) (fun j e => by have := (hkr3.lt j e).1; have := HR.out; omega))⟩, ?_⟩
      · unfold KRow
        rw [List.length_append, List.map_append]
        exact hown'
      · rw [iterSeen_at hit4, HM.out.2]
        exact HM.out.1
theorem seqg_all (n B S mp clock b : Nat) (E : List En) (W : World) (h : Sto B W S mp E clock) (hT : E.length ≤ 100000) (c1 : W.cell? ⟨b, 0, none⟩ = some (.pointer (some ⟨S, 0, none⟩))) (hbl : b < W.heap.size) :
    SeqG n Try.prog 48 #[.pointer (some ⟨b, 0, none⟩)] encA (KpF (Foot S mp E) b (b + 1)) (fun pre x => pre ++ [x] <+: allK E (ordE E)) (fun xs => xs = allK E (ordE E)) W := fun l J W1 hW _ hJ hY h0 => by
  refine (all1F_any n l (b + 1) b B S mp clock E J (fun _ _ => False) (fun m pre x W hj hl => yieldAt_any (m := n - 1) ?_) (fun pre W W' hj hb => ?_) (by omega) W1 (h.below hW) hT ((hW.cell (p := ⟨b, 0, none⟩) hbl).trans c1) (Nat.lt_of_lt_of_le hbl hW.size) h0).mono ?_
  · obtain ⟨fn, tmps, assign, body, hy, hR⟩ := hY pre x W hj hl
    exact ⟨fn, tmps, assign, body, hy, hR.mono fun e w h => .inl h⟩
  · exact hJ pre W W' none hj ⟨hb.os, hb.tape, hb.output, hb.size, fun k hk _ => hb.block k hk⟩ (fun r e => by cases e)
  · rintro e W' ⟨h1, h2 | h2⟩
    · exact ⟨h1, h2⟩
    · obtain ⟨_, _, h3⟩ := h2
      exact h3.elim
end Go.Proofs.Ytpcjmceakelilaa
/- Engine: maps.Keys, slices.Sorted: the names of the tables, in order. -/
namespace Go.Proofs.Ytpcjmceakelilaa
open Go.ChangeShapes Go.WideShapes Go.ChangeAt Go.RowKit Go.Deep Go.ChangeMaps Go.Shelf Go.Sort
set_option linter.unusedVariables false
set_option linter.unusedSimpArgs false
attribute [local go_sem] Oper.semAt_some
attribute [local go_sem, local simp] wide_fn
/-- what a round keeps: what lies below n₀; the iterators of maps -/
def KpW (n₀ : Nat) (W W' : World) : Prop := Below n₀ W W' ∧ KeepsWalks W W'
def encK (x : Bs) : Array Value := #[.string x]
theorem iter_walks {W W' : World} {r m since last : Nat} {seen : Array Nat} (h : IterAt W r m since seen last) (hk : KeepsWalks W W') : IterAt W' r m since seen last := hk.same r _ h rfl
/-- the keys that have been met -/
def metK (T : List Tb) (seen : Array Nat) : List Bs := (T.filter fun t => seen.contains t.born).map (·.key)
theorem metK_push {T : List Tb} {seen : Array Nat} {t : Tb} (hn : (T.map (·.born)).Nodup) (ht : t ∈ T) (hs : seen.contains t.born = false) : (metK T (seen.push t.born)).Perm (metK T seen ++ [t.key]) := by
  have h := filter_seen_push (E := ens T) (seen := seen) (x := t.en) (by unfold ens; rw [List.map_map]; exact hn) (List.mem_map.2 ⟨t, ht, rfl⟩) hs
  have e : ∀ s : Array Nat, ((ens T).filter fun e => s.contains e.born).map (·.key) = metK T s := fun s => by
    unfold ens metK
    rw [List.filter_map, List.map_map]
    rfl
  rw [e, e] at h
  exact h
theorem metK_all {T : List Tb} {seen : Array Nat} (h : ∀ t ∈ T, seen.contains t.born = true) : metK T seen = T.map (·.key) := by
  unfold metK
  rw [List.filter_eq_self.2 h]
set_option maxRecDepth 100000 in
set_option maxHeartbeats 3200000 in
theorem keys1_any (m l n₀ N b mt tc : Nat) (T : List Tb) (J Jx : List Bs → World → Prop) (W0 : World)
    (hY : ∀ m pre (x : Bs) W, J pre W → pre.length < N → YieldAt Fence.wide m Try.prog l (encK x) W fun e W' =>
      (e = .returned (.bool true) ∧ J (pre ++ [x]) W' ∧ KpW n₀ W W') ∨ (e = .returned (.bool false) ∧ Jx (pre ++ [x]) W'))
    (hJ : AbidesFrom W0.heap.size J) (hmap : MapAt W0 mt (ens T) tc) (hok : EnOK (ens T) tc) (hmn : mt < n₀) (hbn : b < n₀) (hn0 : n₀ ≤ W0.heap.size) (hc : W0.cell? ⟨b, 0, none⟩ = some (.map (some mt))) (hj : J [] W0) (hN : T.length ≤ N) :
    CallsIn Fence.wide m Try.prog 44 #[.func (.yield l) #[] #[], .pointer (some ⟨b, 0, none⟩)] W0 fun e W' => (∃ v, e = .returned v) ∧ ((∃ xs, xs.Perm (T.map (·.key)) ∧ J xs W') ∨ (∃ pre, True ∧ Jx pre W')) := by
  have hrg := run_range_T hmap
  have H := Lib.hid (And.intro hY (And.intro hJ (And.intro hmap (And.intro hok (And.intro hmn (And.intro hn0 (And.intro hj hN)))))))
  have hbT : (T.map (·.born)).Nodup := by have := hok.borns; unfold ens at this; rwa [List.map_map] at this
  have HBT := Lib.hid hbT
  clear hY hJ hmap hok hmn hn0 hj hN hbT
  refine callsIn_of_wp Try.func44 rfl trivial ?_ rfl
  simp only [Try.ntmps44, List.size_toArray, List.length_cons, List.length_nil, Nat.reduceAdd, Nat.reduceSub, Array.replicate_succ, Array.replicate_zero, List.push_toArray, List.append_toArray, List.nil_append, List.cons_append]
  gi_wp2
  obtain ⟨r, hr⟩ : ∃ r, r = W0.heap.size := ⟨_, rfl⟩
  have hit : IterAt (W0.alloc (.mapIter (some mt) tc #[] tc)) r mt tc #[] tc := by rw [hr]; exact heap_alloc_new W0 _
  have hb1 : Below W0.heap.size W0 (W0.alloc (.mapIter (some mt) tc #[] tc)) := (Below.refl _ W0).alloc (Nat.le_refl _) _
  have H0 := Lib.hid (And.intro hit (And.intro (hb1.mono H.out.2.2.2.2.2.1) (abides_below H.out.2.1 _ _ _ H.out.2.2.2.2.2.2.1 hb1)))
  rw [← hr]
  have HR := Lib.hid hr
  clear hit hb1 hr hrg hc
  generalize W0.alloc (.mapIter (some mt) tc #[] tc) = W1 at H0 ⊢
  gi_loopw [3] (fun _ wr => Hid (∃ (seen : Array Nat) (pre : List Bs), pre.Perm (metK T seen) ∧ IterAt wr r mt tc seen tc ∧ Below n₀ W0 wr ∧ J pre wr)) (fun _ wr => unseen (ens T) (wr.iterSeen r))
  case atStart => exact Lib.hid ⟨#[], [], by simp [metK], H0.out.1, H0.out.2.1, H0.out.2.2⟩
  case round =>
    clear H0
    obtain ⟨seen, pre, hperm, hit, hb, hj⟩ := hrel.out
    have hmap : MapAt wr mt (ens T) tc := (hb.block mt H.out.2.2.2.2.1).trans H.out.2.2.1
    have hms := iterSeen_at hit
    rcases run_next_E hmap hit H.out.2.2.2.1.lt (Nat.le_refl _) 0 with ⟨hall, hrun⟩ | ⟨x, hx, hsx, W2, hW2, hrun⟩
    · have hall2 : ∀ t ∈ T, seen.contains t.born = true := fun t ht2 => hall t.en (List.mem_map.2 ⟨t, ht2, rfl⟩)
      have HF := Lib.hid (And.intro (by rwa [metK_all hall2] at hperm : pre.Perm (T.map (·.key))) hj)
      clear hall hall2 hms hmap hit hb hj hperm hrel
      gi_wp2
      go_end0
      exact ⟨⟨_, rfl⟩, .inl ⟨pre, HF.out.1, HF.out.2⟩⟩
    · obtain ⟨t, htT, rfl⟩ := List.mem_map.1 hx
      obtain ⟨W3, hW3⟩ : ∃ W3, W3 = setBlock W2 r (.mapIter (some mt) tc (seen.push t.born) tc) := ⟨_, rfl⟩
      have hrun' := hrun
      rw [show t.en.born = t.born from rfl, ← hW3] at hrun'
      have hrlt := hit.lt
      have hk3 : Kept (fun j => j = r) wr W3 := by rw [hW3]; exact setBlock_kept (kept_drew' (Kept.refl _ wr) hW2) r _ (.inl rfl)
      have hit3 : IterAt W3 r mt tc (seen.push t.born) tc := by rw [hW3]; exact iter_set (iter_drew hit hW2)
      have hj3 : J pre W3 := by
        have hg : wr.grownBy W3 (some r) := ⟨hk3.os, hk3.tape, hk3.output, hk3.size, fun k hk hne => hk3.block k hk (fun e => hne (by rw [e]))⟩
        exact H.out.2.1 pre wr W3 (some r) hj hg (fun q e => by cases e; exact ⟨by have := HR.out; omega, _, hit, rfl⟩)
      have hb3 : Below n₀ W0 W3 := hb.trans (hk3.below (Nat.le_trans H.out.2.2.2.2.2.1 hb.size) (fun j e => by rw [e, HR.out]; exact H.out.2.2.2.2.2.1))
      have hmap3 : MapAt W3 mt (ens T) tc := (hb3.block mt H.out.2.2.2.2.1).trans H.out.2.2.1
      have hent := run_entry_E hmap3 hit3 hx H.out.2.2.2.1.borns
      have hmeas := unseen_push (ens T) seen t.en hsx H.out.2.2.2.1.borns hx
      have hpl : pre.length < N := by
        have h1 := (hperm.append_right [t.key]).trans (metK_push HBT.out htT hsx).symm
        have h2 := h1.length_eq
        have h3 : (metK T (seen.push t.born)).length ≤ T.length := by unfold metK; rw [List.length_map]; exact List.length_filter_le _ _
        have h4 := H.out.2.2.2.2.2.2.2
        rw [List.length_append] at h2
        simp at h2
        omega
      have HP := Lib.hid ((hperm.append_right [t.key]).trans (metK_push HBT.out htT hsx).symm)
      obtain ⟨f1, t1, a1, b1, hy1, hR1⟩ := H.out.1 (m - 1) pre t.key W3 hj3 hpl
      have hy : (Instr.yield l #[.string t.key]).run Try.prog W3 = .ok (.round l f1 t1 a1 b1) W3 := hy1
      have HR1 := Lib.hid hR1
      have H3 := Lib.hid (And.intro hit3 hb3)
      have HM := Lib.hid (And.intro hmeas hms)
      have hru : (Instr.next (.pointer (some ⟨r, 0, none⟩)) false 0).run Try.prog wr = .ok (.tuple #[.bool true, .string t.key, .pointer (some ⟨t.S, 0, none⟩)]) W3 := hrun'
      have hen : (Instr.entry (.pointer (some ⟨r, 0, none⟩))).run Try.prog W3 = .ok (.tuple #[.string t.key, .pointer (some ⟨t.S, 0, none⟩)]) W3 := hent
      generalize t.S = S at *
      generalize t.key = tk at *
      clear hrun hrun' hk3 hit3 hj3 hb3 hmap3 hent hmeas hms hmap hit hb hj hperm hrel hW3 hW2 hR1 hy1 hpl hrlt
      gi_wp2
      refine ⟨fun h => (by cases h), HR1.out.mono ?_⟩
      clear HR1 hy hru hen
      rintro e W6 (⟨rfl, hJ2, hk2⟩ | ⟨rfl, hx2⟩)
      · have H6 := Lib.hid (show ∃ (seen' : Array Nat) (pre' : List Bs), pre'.Perm (metK T seen') ∧ IterAt W6 r mt tc seen' tc ∧ Below n₀ W0 W6 ∧ J pre' W6 from ⟨_, _, HP.out, iter_walks H3.out.1 hk2.2, H3.out.2.trans hk2.1, hJ2⟩)
        have hi6 := iterSeen_at (iter_walks H3.out.1 hk2.2)
        have HI6 := Lib.hid hi6
        clear hJ2 hk2 hi6
        gi_wp2
        go_roundw
        case rel => exact H6
        case measure => rw [HI6.out, HM.out.2]; exact HM.out.1
      · gi_wp2
        refine bodyPost_ret (results_none rfl _ _ _) rfl ?_
        exact ⟨⟨_, rfl⟩, .inr ⟨_, trivial, hx2⟩⟩
end Go.Proofs.Ytpcjmceakelilaa
/- Engine: maps.Keys, slices.AppendSeq, Collect, Sorted: the names of the tables, in order. -/
namespace Go.Proofs.Ytpcjmceakelilaa
open Go.ChangeShapes Go.WideShapes Go.ChangeAt Go.RowKit Go.Deep Go.ChangeMaps Go.Shelf Go.Sort
set_option linter.unusedVariables false
set_option linter.unusedSimpArgs false
attribute [local go_sem] Oper.semAt_some
attribute [local go_sem, local simp] wide_fn
theorem KpW.t {n₀ : Nat} {A B C : World} (h : KpW n₀ A B) (g : KpW n₀ B C) : KpW n₀ A C := ⟨h.1.trans g.1, h.2.trans g.2⟩
theorem kpW_b {n₀ : Nat} {w : World} (hn : n₀ ≤ w.heap.size) (W : World) (l : Nat) (o o' : Obj) (hl : w.heap.size ≤ l) (h : W.heap[l]? = some o) (ho : o.isCells = false) (hw : o.isWalk = false) : KpW n₀ W (W.putObj l o') :=
  ⟨belowK_b (w := w) hn W l o o' hl h ho hw, KeepsWalks.putObj _ h hw⟩
theorem walks_of_others {W W' : World} (h : KeepsOthers W W') : KeepsWalks W W' := ⟨h.size, fun k o hk hw => h.same k o hk (Obj.not_cells_of_walk hw)⟩
theorem keys_any (mt : Nat) (w : World) :
    Calls Try.prog 27 #[.map (some mt)] w fun e w' => e = .returned (.func (.func 44) #[] #[.pointer (some ⟨w.heap.size, 0, none⟩)]) ∧ Boxed w' w.heap.size 48 (.map (some mt)) ∧ w'.heap.size = w.heap.size + 1 ∧ Below w.heap.size w w' := by
  go_enter Try.func27, Try.ntmps27
  go_wp2_with fail
  go_ret
  exact ⟨rfl, Boxed.new w _ _, by simp, (Below.refl _ w).alloc (Nat.le_refl _) _⟩
theorem stops_keys (n n₀ b mt tc : Nat) (T : List Tb) (W : World) (hmap : MapAt W mt (ens T) tc) (hok : EnOK (ens T) tc) (hmn : mt < n₀) (hbn : b < n₀) (hn0 : n₀ ≤ W.heap.size) (hc : W.cell? ⟨b, 0, none⟩ = some (.map (some mt))) :
    SeqStopsK Fence.wide n Try.prog 44 #[.pointer (some ⟨b, 0, none⟩)] encK (KpW n₀) (fun xs => xs.Perm (T.map (·.key))) (fun _ => True) T.length W := fun l J Jx W1 hW hJ _ hY h0 =>
  keys1_any n l n₀ _ b mt tc T J Jx W1 (fun m pre x W hj hl => yieldAt_any (hY pre x W hj hl)) hJ ((hW.block mt (by omega)).trans hmap) hok hmn hbn (Nat.le_trans hn0 hW.size) ((hW.cell (p := ⟨b, 0, none⟩) (by show b < _; omega)).trans hc) h0 (Nat.le_refl _)
theorem stw (k : Bs) (W : World) : ∀ j z, [Value.string k][j]? = some z → (W.alloc (.cells #[.string k] 9)).cell? ((⟨W.heap.size, 0, none⟩ : Addr).add j) = some z := fun j z hz => by
  rw [addr_add', Nat.zero_add]
  exact (Box.new W [.string k] 9).cell j z hz
def KeysOut (T : List Tb) (w : World) (e : Ending) (w' : World) : Prop := ∃ v ks, e = .returned v ∧ ks.Perm (T.map (·.key)) ∧ KRow w.heap.size w' v ks ∧ Below w.heap.size w w'
set_option maxRecDepth 100000 in
set_option maxHeartbeats 3200000 in
theorem appendSeq_in (n bk mt tc : Nat) (T : List Tb) (w : World) (hmap : MapAt w mt (ens T) tc) (hok : EnOK (ens T) tc) (hbk : bk < w.heap.size) (hc : w.cell? ⟨bk, 0, none⟩ = some (.map (some mt))) (hT : T.length ≤ 100000) (h1 : 1 ≤ n) :
    CallsIn Fence.wide n Try.prog 59 #[.slice none 0 0, .func (.func 44) #[] #[.pointer (some ⟨bk, 0, none⟩)]] w (KeysOut T w) := by
  have hro : Fence.wide.round = none := rfl
  obtain ⟨i0, hi0, hz0, hz1, hz2⟩ := info_parts infoS
  have hmlt := hmap.lt
  have hbl0 : Below w.heap.size w (w.alloc (.cells #[.slice none 0 0] 60)) := (Below.refl _ _).alloc (Nat.le_refl _) _
  have bO := Boxed.new w 60 (.slice none 0 0)
  have hst := stops_keys (n - 1) w.heap.size bk mt tc T (w.alloc (.cells #[.slice none 0 0] 60)) ((hbl0.block mt hmlt).trans hmap) hok hmlt hbk hbl0.size ((hbl0.cell (p := ⟨bk, 0, none⟩) hbk).trans hc)
  refine callsIn_of_wp_marks Try.func59 rfl trivial ?_ rfl
  simp only [Try.ntmps59, List.size_toArray, List.length_cons, List.length_nil, Nat.reduceAdd, Nat.reduceSub, Array.replicate_succ, Array.replicate_zero, List.push_toArray, List.append_toArray, List.nil_append, List.cons_append]
  have HC := Lib.hid (And.intro hmap hc)
  clear hmap hc
  gi_wp2_with fail
  obtain ⟨w', hw'⟩ : ∃ w', w' = w.alloc (.cells #[.slice none 0 0] 60) := ⟨_, rfl⟩
  have hsz2 : w'.heap.size = w.heap.size + 1 := by rw [hw']; simp
  rw [← hw'] at hst bO hbl0 ⊢
  clear hw'
  refine wpIn_rangeFunc_ownH hro h1 (gf := 44) (lb := #[.pointer (some ⟨bk, 0, none⟩)]) rfl trivial (enters_of Try.func44 (by kernel_rfl) rfl)
    hst (fun h k => h.t k) (kpW_b (by omega)) (Below.refl _ _) (fun _ => rfl)
    (fun pre W => (∃ v, Boxed W w.heap.size 60 v ∧ W.ownsRow (w.heap.size + 1) 9 1 v pre.length (pre.map Value.string) ∧ True) ∧ Below w.heap.size w' W)
    (fun _ _ _ => False)
    (OwnFrom.and (Own.from (holdsRow_own (β := List Bs) (w.heap.size + 1) w.heap.size 60 9 1 (fun pre => pre.length) (fun pre => pre.map Value.string) (fun _ _ => True)) _) (ownFrom_below (by omega) (by omega)))
    (fun _ _ _ _ _ hs _ _ => hs)
    ⟨⟨_, bO, World.ownsRow_nil _ _ _ _, trivial⟩, Below.refl _ _⟩
    (fun x a' W => a' = { tmps := #[.slice none 0 0, .func (.func 44) #[] #[.pointer (some ⟨bk, 0, none⟩)], .pointer (some ⟨w.heap.size, 0, none⟩), undef, .slice none 0 0, .string x, .func (.func 44) #[] #[.pointer (some ⟨bk, 0, none⟩)], .string x, undef, undef, undef, undef, undef], defers := [] })
    (fun x a' _ W W' row hs hg hr => hs) ?assign ?body ?done ?stop
  case assign =>
    rintro l pre k W K ⟨⟨v, hv, hrow, _⟩, hB⟩ hK
    unfold encK
    gi_wp2
    exact hK _ _ ((KeepsOthers.refl W).from _) ⟨Below.refl _ _, KeepsWalks.refl _⟩ ⟨⟨v, hv, hrow, trivial⟩, hB⟩ rfl
  case body =>
    rintro l pre k a' W hl _ ⟨⟨v, hv, hrow, _⟩, hB⟩ rfl hlt
    have hc := hv.cell
    have hl63 : pre.length ≤ 100000 := by omega
    obtain ⟨va, vc, rfl⟩ : ∃ a c, v = .slice a pre.length c := by
      rcases hrow.2 with ⟨rfl, h0⟩ | ⟨g, cap, cur, rfl, _⟩
      · exact ⟨none, 0, by rw [h0]⟩
      · exact ⟨_, _, rfl⟩
    have hrow0 := own_base hrow (show w.heap.size ≤ w.heap.size + 1 by omega)
    gi_wp2_with (gi_at_builtin; refine wpListIn_append_own _ rfl _ _ 60 rfl (w.heap.size + 1) 9 i0 (.string ⟨#[]⟩) 1 16 Try.underlying60 hi0 hz0 hz1 hz2 rfl (by decide) _ _ _ rfl (World.ownsRow.alloc hrow _) ⟨W.heap.size, 0, none⟩ 1 1 [.string k] rfl rfl (stw _ _) (by simp [Value.oneCell']) (by unfold maxLen; omega) (by omega) (by have := hB.size; simp; omega) ?_; intro v' w1 hown' hgrow _; obtain ⟨g', cap', rfl⟩ := ownsRow_succ hown'; obtain ⟨hv1, hv2, hr2, hk2, hb2⟩ := hv.appended (by decide) hrow0 (by have := hB.size; omega) (Nat.le_refl _) (own_base hown' (show w.heap.size ≤ w.heap.size + 1 by omega)) hgrow; have hc1 := hv1.cell; have hf1 := hv1.frozen)
    refine ⟨hk2.from _, ⟨hb2, walks_of_others hk2⟩, ⟨⟨_, hv2, ?_⟩, hB.trans hb2⟩⟩
    rw [List.map_append, List.length_append]
    exact ⟨hown'.kept (grownBy_setCell' w1 w.heap.size _) (.inr (hv1.not_row (by decide) hown').symm), trivial⟩
  case done =>
    rintro D ys W hD hperm ⟨⟨v, hv, hrow, _⟩, hB⟩ hK
    have hc := hv.cell
    gi_wp2
    refine ⟨by simp, .inl ⟨_, _, rfl, run_takeDeferred hK, ?_⟩⟩
    exact ⟨_, results_tmp rfl _ _ _, v, ys, rfl, hperm, ownsRow_putObj (own_base hrow (show w.heap.size ≤ w.heap.size + 1 by omega)) _ hK rfl, hbl0.trans (hB.trans (belowK_b (w := w) (Nat.le_refl _) W D _ _ (by omega) hK rfl rfl))⟩
  case stop =>
    rintro D c pre W _ _ h _
    exact h.elim
theorem collect_any (bk mt tc : Nat) (T : List Tb) (w : World) (hmap : MapAt w mt (ens T) tc) (hok : EnOK (ens T) tc) (hbk : bk < w.heap.size) (hc : w.cell? ⟨bk, 0, none⟩ = some (.map (some mt))) (hT : T.length ≤ 100000) :
    Calls Try.prog 42 #[.func (.func 44) #[] #[.pointer (some ⟨bk, 0, none⟩)]] w (KeysOut T w) := by
  have HA := Lib.hid (callsIn_wide.1 (appendSeq_in 1 bk mt tc T w hmap hok hbk hc hT (Nat.le_refl _)))
  clear hmap hc hok
  go_enter Try.func42, Try.ntmps42
  go_wp2_with fail
  refine HA.out.mono ?_
  rintro e w1 ⟨v, ks, rfl, h1, h2, h3⟩
  have H := Lib.hid (And.intro h1 (And.intro h2 h3))
  clear h1 h2 h3
  go_wp2_with fail
  go_ret
  exact ⟨v, ks, rfl, H.out⟩
def SortedOut (T : List Tb) (w : World) (e : Ending) (w' : World) : Prop := ∃ v, e = .returned v ∧ KRow w.heap.size w' v (sortB (T.map (·.key))) ∧ Below w.heap.size w w'
theorem sorted_any (bk mt tc : Nat) (T : List Tb) (w : World) (hmap : MapAt w mt (ens T) tc) (hok : EnOK (ens T) tc) (hbk : bk < w.heap.size) (hc : w.cell? ⟨bk, 0, none⟩ = some (.map (some mt))) (hT : T.length ≤ 100000) :
    Calls Try.prog 26 #[.func (.func 44) #[] #[.pointer (some ⟨bk, 0, none⟩)]] w (SortedOut T w) := by
  have HA := Lib.hid (collect_any bk mt tc T w hmap hok hbk hc hT)
  have hkn : (T.map (·.key)).Nodup := by have := hok.keys; rwa [ens_keys] at this
  have HK := Lib.hid (And.intro hkn hT)
  clear hmap hc hok hkn hT
  go_enter Try.func26, Try.ntmps26
  go_wp2_with fail
  refine HA.out.mono ?_
  rintro e w1 ⟨v, ks, rfl, h1, h2, h3⟩
  have hl : ks.length ≤ 1000000 := by rw [h1.length_eq, List.length_map]; have := HK.out.2; omega
  have H := Lib.hid (And.intro h1 (And.intro h2 (And.intro h3 hl)))
  clear h1 h2 h3 hl
  go_wp2_with fail
  refine (sort_keys w.heap.size v ks w1 H.out.2.1 H.out.2.2.2).mono ?_
  rintro e w2 ⟨rfl, h4, h5⟩
  have H2 := Lib.hid (And.intro h4 h5)
  clear h4 h5
  go_wp2_with fail
  go_ret
  refine ⟨v, rfl, ?_, H.out.2.2.1.trans (H2.out.2.below H.out.2.2.1.size (fun k hk => (H.out.2.1.lt k hk).1))⟩
  rw [← sortB_congr H.out.1 HK.out.1]
  exact H2.out.1
end Go.Proofs.Ytpcjmceakelilaa
/- Engine: what a checkpoint writes (plain); marks of loops that are taken at the end. -/
namespace Go.Proofs.Ytpcjmceakelilaa
open Go.ChangeShapes Go.WideShapes Go.ChangeAt Go.RowKit Go.Deep Go.ChangeMaps Go.Shelf Go.Sort
set_option linter.unusedVariables false
set_option linter.unusedSimpArgs false
/-- the change that a version is written as -/
def chgV (tb : Bs) (p : Bs × Ver) : Chg := (tb, p.1, p.2.2.1, p.2.2.2)
/-- the bytes that a version takes on the disk -/
def wv (tb : Bs) (p : Bs × Ver) : Nat := (recB 3 p.2.1.toNat [chgV tb p]).length + 8
def sumW (tb : Bs) (L : List (Bs × Ver)) : Nat := (L.map (wv tb)).sum
/-- the versions of a table that are left -/
def ysT (T : List Tb) (keep : Int) (tb : Bs) : List (Bs × Ver) := match tbOf T tb with
  | some t => (ordE t.E).flatMap fun k => (pruneF keep (lkL t.E k)).map fun x => (k, x)
  | none => []
def totW (T : List Tb) (keep : Int) (ks : List Bs) : Nat := (ks.map fun tb => sumW tb (ysT T keep tb)).sum
theorem sumW_app (tb : Bs) (A B : List (Bs × Ver)) : sumW tb (A ++ B) = sumW tb A + sumW tb B := by simp [sumW]
theorem sumW_pre {tb : Bs} {A B : List (Bs × Ver)} (h : A <+: B) : sumW tb A ≤ sumW tb B := by
  obtain ⟨c, rfl⟩ := h
  rw [sumW_app]; omega
theorem totW_app (T : List Tb) (keep : Int) (A B : List Bs) : totW T keep (A ++ B) = totW T keep A + totW T keep B := by simp [totW]
theorem totW_take (T : List Tb) (keep : Int) (ks : List Bs) (i : Nat) (h : i < ks.length) : totW T keep (ks.take i) + sumW ks[i] (ysT T keep ks[i]) = totW T keep (ks.take (i + 1)) ∧ totW T keep (ks.take (i + 1)) ≤ totW T keep ks := by
  have e : ks.take (i + 1) = ks.take i ++ [ks[i]] := List.take_succ_eq_append_getElem h
  constructor
  · rw [e, totW_app]; simp [totW]
  · have h2 := totW_app T keep (ks.take (i + 1)) (ks.drop (i + 1))
    rw [List.take_append_drop] at h2
    omega
theorem flatMap_filter' {α β : Type} (p : α → Bool) (f : α → List β) : ∀ l : List α, (∀ x ∈ l, p x = false → f x = []) → (l.filter p).flatMap f = l.flatMap f
  | [], _ => rfl
  | a :: l, h => by
    have ih := flatMap_filter' p f l (fun x hx => h x (List.mem_cons_of_mem _ hx))
    by_cases hp : p a = true
    · rw [List.filter_cons, if_pos hp, List.flatMap_cons, List.flatMap_cons, ih]
    · rw [List.filter_cons, if_neg hp, List.flatMap_cons, ih, h a (List.mem_cons_self ..) (by simpa using hp), List.nil_append]
theorem vw_prune {E E' : List En} {s : Int} (g : Gd E) (g' : Gd E') (h : lkL E' = fun k => pruneF s (lkL E k)) : vw E' = (ordE E).flatMap fun k => (pruneF s (lkL E k)).map fun x => (k, x) := by
  unfold vw allK
  rw [ord_sweep g g' (prune_nil s) h, h]
  refine flatMap_filter' _ _ _ fun k _ hk => ?_
  have : (pruneF s (lkL E k)).isEmpty = true := by simpa using hk
  show List.map _ (pruneF s (lkL E k)) = []
  rw [List.isEmpty_iff.1 this]; rfl
/-- what a checkpoint asks of the tables -/
structure CkOK (T : List Tb) (keep : Int) : Prop where
  small : ∀ tb, ∀ p ∈ ysT T keep tb, tb.size ≤ 20000 ∧ p.1.size ≤ 20000 ∧ p.2.2.1.size ≤ 20000 ∧ 1 ≤ p.2.1 ∧ p.2.1 ≤ 1099511627776 ∧ wv tb p ≤ 65544
  tot : totW T keep (sortB (T.map (·.key))) + 30 ≤ 16777216
def pruneT (A : Bs → Bs → List Ver) (s : Int) : Bs → Bs → List Ver := fun tb k => pruneF s (A tb k)
/-- the mark of a loop -/
def mkD (D : Nat) : Deferred := { target := .collected D, args := #[] }
/-- the marks that have been left -/
def Marked (c : Nat) (Ds : List Nat) (W : World) : Prop := ∀ D ∈ Ds, c ≤ D ∧ W.heap[D]? = some (.deferred (some []))
theorem leaves_marks {F : Fence} {n : Nat} {P : Program} {fn : Func} {tmps : Array Value} {R : Ending → World → Prop} : ∀ (Ds : List Nat) (c : Nat) (W : World), Ds.Nodup → Marked c Ds W →
    (∀ W', (∀ k, k ∉ Ds → W'.heap[k]? = W.heap[k]?) → Below c W W' → LeavesIn F n P fn tmps R [] .returning W') → LeavesInM F n P fn tmps R (Ds.map mkD) .returning W
  | [], c, W, _, _, h => h W (fun _ _ => rfl) (Below.refl _ _)
  | D :: Ds, c, W, hn, hm, h => by
    obtain ⟨h1, h2⟩ := List.nodup_cons.1 hn
    have hD := hm D (List.mem_cons_self ..)
    refine ⟨by simp, .inl ⟨D, _, rfl, run_takeDeferred hD.2, ?_⟩⟩
    refine leaves_marks Ds c _ h2 (fun D' hD' => ⟨(hm D' (List.mem_cons_of_mem _ hD')).1, (World.putObj_heap_other (fun e => h1 (by rw [← e]; exact hD'))).trans (hm D' (List.mem_cons_of_mem _ hD')).2⟩) fun W' hk hb => ?_
    have hb1 : Below c W (W.putObj D (.deferred none)) := ⟨rfl, rfl, rfl, by simp, fun k hk => World.putObj_heap_other (by have := hD.1; omega)⟩
    exact h W' (fun k hk2 => (hk k (fun e => hk2 (List.mem_cons_of_mem _ e))).trans (World.putObj_heap_other (fun e => hk2 (by rw [e]; exact List.mem_cons_self ..)))) (hb1.trans hb)
/-- a mark is no block of an engine -/
theorem Egs.no_mark {B b mt tc : Nat} {W : World} {T : List Tb} {st sy : Int} {dk : Bs} (h : Egs B W b mt T tc st dk sy) {D : Nat} {ds : List Deferred} (hD : W.heap[D]? = some (.deferred (some ds))) : ¬ FootE b mt T D := by
  rintro (rfl | rfl | ⟨t, ht, hf⟩)
  · have := h.c0
    simp [World.cell?, hD] at this
  · have := h.map
    unfold MapAt at this
    rw [hD] at this
    cases this
  · have hs := h.sto t ht
    rcases hf with rfl | rfl | ⟨e, he, hk⟩
    · have := hs.box
      rw [show W.heap[t.S]? = _ from this] at hD
      cases hD
    · have := hs.map
      unfold MapAt at this
      rw [hD] at this
      cases this
    · rcases (hs.rows e he).1.2 with ⟨h1, _⟩ | ⟨g, c, cur, h1, _, h2, _⟩
      · rw [h1] at hk; simp [Value.ownBlock] at hk
      · rw [h1] at hk
        simp only [Value.ownBlock, Option.some.injEq] at hk
        subst hk
        rw [h2] at hD
        cases hD
end Go.Proofs.Ytpcjmceakelilaa
