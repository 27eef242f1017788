/- Engine: Scan: its iterator. -/
import Derived.Test.YtpcjmceakelilaaEn16
import Derived.Deep.RegionHeld3
import Derived.StillTailTactics
namespace Go.Proofs.Ytpcjmceakelilaa
open Go.ChangeShapes Go.WideShapes Go.ChangeAt Go.RowKit Go.Deep Go.ChangeMaps Go.Shelf Go.Sort
set_option linter.unusedVariables false
set_option linter.unusedSimpArgs false
attribute [local go_sem] Oper.semAt_some
attribute [local go_sem, local simp] wide_fn
/-- the boxes that a store's Scan makes -/
structure SBoxP (W : World) (b : Nat) (p : Value) (lo hi : Bs) (t : Int) (back : Bool) : Prop where
  c0 : Boxed W b 65 p
  c1 : Boxed W (b + 1) 9 (.string lo)
  c2 : Boxed W (b + 2) 9 (.string hi)
  c3 : Boxed W (b + 4) 4 (.bool back)
  c4 : Boxed W (b + 3) 3 (.int .i64 t)
theorem seekP (p : Option Addr) (lo hi : Bs) (t : Int) (back : Bool) (w : World) :
    Calls Try.prog 33 #[.pointer p, .string lo, .string hi, .int .i64 t, .bool back] w fun e w' => e = .returned (.func (.func 49) #[] #[.pointer (some ⟨w.heap.size, 0, none⟩), .pointer (some ⟨w.heap.size + 1, 0, none⟩), .pointer (some ⟨w.heap.size + 2, 0, none⟩), .pointer (some ⟨w.heap.size + 4, 0, none⟩), .pointer (some ⟨w.heap.size + 3, 0, none⟩)]) ∧ SBoxP w' w.heap.size (.pointer p) lo hi t back ∧ w'.heap.size = w.heap.size + 5 ∧ Below w.heap.size w w' ∧ KeepsOthers w w' := by
  go_enter Try.func33, Try.ntmps33
  go_wp2_with fail
  go_ret
  have b0 := Boxed.new w 65 (.pointer p)
  have b1 := Boxed.new (w.alloc (.cells #[.pointer p] 65)) 9 (.string lo)
  have b2 := Boxed.new ((w.alloc (.cells #[.pointer p] 65)).alloc (.cells #[.string lo] 9)) 9 (.string hi)
  have b3 := Boxed.new (((w.alloc (.cells #[.pointer p] 65)).alloc (.cells #[.string lo] 9)).alloc (.cells #[.string hi] 9)) 3 (.int .i64 t)
  have b4 := Boxed.new ((((w.alloc (.cells #[.pointer p] 65)).alloc (.cells #[.string lo] 9)).alloc (.cells #[.string hi] 9)).alloc (.cells #[.int .i64 t] 3)) 4 (.bool back)
  simp only [World.size_alloc] at b1 b2 b3 b4
  refine ⟨rfl, ⟨(((b0.alloc _).alloc _).alloc _).alloc _, ((b1.alloc _).alloc _).alloc _, (b2.alloc _).alloc _, b4, b3.alloc _⟩, by simp, ?_, ?_⟩
  · exact (((((Below.refl _ w).alloc (Nat.le_refl _) _).alloc (by simp) _).alloc (by simp; omega) _).alloc (by simp; omega) _).alloc (by simp; omega) _
  · exact ((((KeepsOthers.alloc _ _).trans (KeepsOthers.alloc _ _)).trans (KeepsOthers.alloc _ _)).trans (KeepsOthers.alloc _ _)).trans (KeepsOthers.alloc _ _)
theorem scan1_nil (m l b : Nat) (p1 p2 p3 p4 : Value) (J : List (Bs × Bs) → World → Prop) (hJ : ∀ pre W W', J pre W → Below W.heap.size W W' → J pre W') (W0 : World) (hc : W0.cell? ⟨b, 0, none⟩ = some (.pointer none)) (hj : J [] W0) :
    CallsIn Fence.wide m Try.prog 49 #[.func (.yield l) #[] #[], .pointer (some ⟨b, 0, none⟩), p1, p2, p3, p4] W0 fun e W' => (∃ v, e = .returned v) ∧ J [] W' := by
  refine callsIn_of_wp Try.func49 rfl trivial ?_ rfl
  simp only [Try.ntmps49, List.size_toArray, List.length_cons, List.length_nil, Nat.reduceAdd, Nat.reduceSub, Array.replicate_succ, Array.replicate_zero, List.push_toArray, List.append_toArray, List.nil_append, List.cons_append]
  have H := Lib.hid (And.intro hJ hj)
  clear hJ hj
  gi_wp2
  refine bodyPost_ret (results_none rfl _ _ _) rfl ⟨⟨_, rfl⟩, ?_⟩
  first
  | exact H.out.2
  | exact H.out.1 _ _ _ H.out.2 ((Below.refl _ _).alloc (Nat.le_refl _) _)
/-- the boxes that the engine's Scan makes -/
structure EBox (W : World) (b : Nat) (e : Value) (tb lo hi : Bs) (t : Int) (back : Bool) : Prop where
  c0 : W.cell? ⟨b, 0, none⟩ = some e
  c1 : W.cell? ⟨b + 1, 0, none⟩ = some (.string tb)
  c2 : W.cell? ⟨b + 2, 0, none⟩ = some (.string lo)
  c3 : W.cell? ⟨b + 3, 0, none⟩ = some (.string hi)
  c4 : W.cell? ⟨b + 4, 0, none⟩ = some (.int .i64 t)
  c5 : W.cell? ⟨b + 5, 0, none⟩ = some (.bool back)
theorem EBox.below {W W' : World} {b : Nat} {e : Value} {tb lo hi : Bs} {t : Int} {back : Bool} (h : EBox W b e tb lo hi t back) (hb : Below W.heap.size W W') (hl : b + 6 ≤ W.heap.size) : EBox W' b e tb lo hi t back :=
  ⟨(hb.cell (p := ⟨b, 0, none⟩) (by show b < _; omega)).trans h.c0, (hb.cell (p := ⟨b + 1, 0, none⟩) (by show b + 1 < _; omega)).trans h.c1, (hb.cell (p := ⟨b + 2, 0, none⟩) (by show b + 2 < _; omega)).trans h.c2, (hb.cell (p := ⟨b + 3, 0, none⟩) (by show b + 3 < _; omega)).trans h.c3, (hb.cell (p := ⟨b + 4, 0, none⟩) (by show b + 4 < _; omega)).trans h.c4, (hb.cell (p := ⟨b + 5, 0, none⟩) (by show b + 5 < _; omega)).trans h.c5⟩
/-- what a scan of a table yields -/
def scanO (o : Option Tb) (lo hi : Bs) (t : Int) (back : Bool) : List (Bs × Bs) := match o with
  | some u => scanK u.E t (scanT u.E lo hi back)
  | none => []
/-- types whose cells a round keeps -/
def ExOK (Ex : TypeId → Prop) : Prop := ¬ Ex 9 ∧ ¬ Ex 65 ∧ ¬ Ex 3 ∧ ¬ Ex 4 ∧ ¬ Ex 74
/-- the store's five boxes and the box of yield -/
structure Six (W : World) (b y : Nat) (p f : Value) (lo hi : Bs) (t : Int) (back : Bool) : Prop where
  s : SBoxP W b p lo hi t back
  y : Boxed W y 74 f
theorem boxed_next {W W' : World} {b : Nat} {T : TypeId} {v : Value} {Ex : TypeId → Prop} {n c : Nat} (h : Boxed W b T v) (hk : KpO n c Ex W W') (hT : ¬ Ex T) : Boxed W' b T v := hk.cells b _ T (0, 0) h hT
theorem Six.next {W W' : World} {b y : Nat} {p f : Value} {lo hi : Bs} {t : Int} {back : Bool} {Ex : TypeId → Prop} {n c : Nat} (h : Six W b y p f lo hi t back) (hk : KpO n c Ex W W') (hE : ExOK Ex) : Six W' b y p f lo hi t back :=
  ⟨⟨boxed_next h.s.c0 hk hE.2.1, boxed_next h.s.c1 hk hE.1, boxed_next h.s.c2 hk hE.1, boxed_next h.s.c3 hk hE.2.2.2.1, boxed_next h.s.c4 hk hE.2.2.1⟩, boxed_next h.y hk hE.2.2.2.2⟩
theorem boxed_grown {W W' : World} {row : Option Nat} {b : Nat} {T : TypeId} {v : Value} (h : Boxed W b T v) (hg : W.grownBy W' row) (hr : ∀ r, row = some r → ∃ o : Obj, W.heap[r]? = some o ∧ o.isCells = false) : Boxed W' b T v :=
  (grownBy_keeps_cells hg hr h rfl).trans h
theorem Six.own (B b y : Nat) (p f : Value) (lo hi : Bs) (t : Int) (back : Bool) : OwnFrom B (fun (_ : List (Bs × Bs)) W => Six W b y p f lo hi t back) := fun _ W W' row h hg hr =>
  have hr' : ∀ r, row = some r → ∃ o : Obj, W.heap[r]? = some o ∧ o.isCells = false := fun r e => (hr r e).2
  ⟨⟨boxed_grown h.s.c0 hg hr', boxed_grown h.s.c1 hg hr', boxed_grown h.s.c2 hg hr', boxed_grown h.s.c3 hg hr', boxed_grown h.s.c4 hg hr'⟩, boxed_grown h.y hg hr'⟩
theorem Six.kps {W W' : World} {b y : Nat} {p f : Value} {lo hi : Bs} {t : Int} {back : Bool} {Ex : TypeId → Prop} {n c : Nat} (h : Six W b y p f lo hi t back) (hk : KpO n c Ex W W') (hE : ExOK Ex) : KpS n b (b + 5) W W' := by
  have h' := h.next hk hE
  refine ⟨hk.low, fun k cs fr hc => hk.cells k cs 9 fr hc hE.1, fun k h1 h2 h3 => ?_⟩
  rcases (show k = b ∨ k = b + 1 ∨ k = b + 2 ∨ k = b + 3 ∨ k = b + 4 by omega) with e | e | e | e | e
  all_goals rw [e]
  · exact (show W'.heap[b]? = _ from h'.s.c0).trans (show W.heap[b]? = _ from h.s.c0).symm
  · exact (show W'.heap[b + 1]? = _ from h'.s.c1).trans (show W.heap[b + 1]? = _ from h.s.c1).symm
  · exact (show W'.heap[b + 2]? = _ from h'.s.c2).trans (show W.heap[b + 2]? = _ from h.s.c2).symm
  · exact (show W'.heap[b + 3]? = _ from h'.s.c4).trans (show W.heap[b + 3]? = _ from h.s.c4).symm
  · exact (show W'.heap[b + 4]? = _ from h'.s.c3).trans (show W.heap[b + 4]? = _ from h.s.c3).symm
/-- the iterator of a table's store -/
theorem stops_tb (n n₀ B b be mt tc : Nat) (T : List Tb) (st sy : Int) (dk : Bs) (tb lo hi : Bs) (t : Int) (back : Bool) (W : World) (h : Egs B W be mt T tc st dk sy) (hfoot : ∀ k, FootE be mt T k → k < n₀) (hn0 : n₀ ≤ W.heap.size) (hT : ∀ u ∈ T, u.E.length ≤ 100000) (c : SBoxP W b (tbP (tbOf T tb)) lo hi t back) (hbl : b + 5 ≤ W.heap.size) :
    SeqStopsK Fence.wide n Try.prog 49 #[.pointer (some ⟨b, 0, none⟩), .pointer (some ⟨b + 1, 0, none⟩), .pointer (some ⟨b + 2, 0, none⟩), .pointer (some ⟨b + 4, 0, none⟩), .pointer (some ⟨b + 3, 0, none⟩)] encP (KpS n₀ b (b + 5)) (fun xs => xs = scanO (tbOf T tb) lo hi t back) (fun pre => pre <+: scanO (tbOf T tb) lo hi t back) (scanO (tbOf T tb) lo hi t back).length W := by
  cases hu : tbOf T tb with
  | none =>
    rw [hu] at c
    intro l J Jx W1 hW hJ _ hY h0
    refine (scan1_nil n l b _ _ _ _ J (fun pre W W' hj hb => abides_below hJ pre W W' hj hb) W1 ((hW.cell (p := ⟨b, 0, none⟩) (by show b < _; omega)).trans c.c0.cell) h0).mono ?_
    rintro e W' ⟨he, hj⟩
    exact ⟨he, .inl ⟨[], rfl, hj⟩⟩
  | some u =>
    rw [hu] at c
    obtain ⟨hm, _⟩ := tbOf_mem hu
    exact stops_scan n n₀ B u.S u.m u.clock b u.E lo hi t back W (h.sto u hm) (fun k hk => hfoot k (.inr (.inr ⟨u, hm, hk⟩))) hn0 (hT u hm) ⟨c.c0.cell, c.c1.cell, c.c2.cell, c.c3.cell, c.c4.cell⟩ hbl
theorem tbP_ptr (o : Option Tb) : ∃ p, tbP o = .pointer p := by
  cases o with
  | none => exact ⟨_, rfl⟩
  | some t => exact ⟨_, rfl⟩
set_option maxRecDepth 100000 in
set_option maxHeartbeats 6400000 in
theorem escan1_any (m l n₀ c N b B be mt tc : Nat) (T : List Tb) (st sy : Int) (dk : Bs) (tb lo hi : Bs) (t : Int) (back : Bool) (Ex : TypeId → Prop) (hE : ExOK Ex) (J : List (Bs × Bs) → World → Prop) (W0 : World) (hJ : OwnFrom W0.heap.size J)
    (hY : ∀ m pre (x : Bs × Bs) W, J pre W → pre.length < N → YieldAt Fence.wide m Try.prog l (encP x) W fun e W' => e = .returned (.bool true) ∧ J (pre ++ [x]) W' ∧ KpO n₀ c Ex W W')
    (he : Egs B W0 be mt T tc st dk sy) (hfoot : ∀ k, FootE be mt T k → k < n₀) (hn0 : n₀ ≤ W0.heap.size) (hc0 : c ≤ W0.heap.size) (hT : ∀ u ∈ T, u.E.length ≤ 100000)
    (hbx : EBox W0 b (.pointer (some ⟨be, 0, none⟩)) tb lo hi t back) (hbl : b + 6 ≤ W0.heap.size) (hj : J [] W0) (hN : (scanO (tbOf T tb) lo hi t back).length ≤ N) (h1 : 1 ≤ m) :
    CallsIn Fence.wide m Try.prog 32 #[.func (.yield l) #[] #[], .pointer (some ⟨b, 0, none⟩), .pointer (some ⟨b + 1, 0, none⟩), .pointer (some ⟨b + 2, 0, none⟩), .pointer (some ⟨b + 3, 0, none⟩), .pointer (some ⟨b + 4, 0, none⟩), .pointer (some ⟨b + 5, 0, none⟩)] W0 fun e W' => (∃ v, e = .returned v) ∧ ∃ xs, xs = scanO (tbOf T tb) lo hi t back ∧ J xs W' := by
  have hbA : Below W0.heap.size W0 (W0.alloc (.cells #[.func (.yield l) #[] #[]] 74)) := (Below.refl _ _).alloc (Nat.le_refl _) _
  have HE := Lib.hid (he.below hbA)
  have HJ := Lib.hid (And.intro hJ (And.intro hY (hJ.alloc (.cells #[.func (.yield l) #[] #[]] 74) hj)))
  have HF := Lib.hid (And.intro hfoot (And.intro hn0 (And.intro hc0 (And.intro hT (And.intro hN hE)))))
  have HX := Lib.hid (hbx.below hbA hbl)
  have HY := Lib.hid (Boxed.new W0 74 (.func (.yield l) #[] #[]))
  have HBA := Lib.hid hbA
  clear hJ hY hj hfoot hn0 hc0 hT hN hE hbx he hbA
  refine callsIn_of_wp_marks Try.func32 rfl trivial ?_ rfl
  simp only [Try.ntmps32, List.size_toArray, List.length_cons, List.length_nil, Nat.reduceAdd, Nat.reduceSub, Array.replicate_succ, Array.replicate_zero, List.push_toArray, List.append_toArray, List.nil_append, List.cons_append]
  have x0 := HX.out.c0
  gi_wp2_with fail
  generalize hW1 : W0.alloc (.cells #[.func (.yield l) #[] #[]] 74) = W1 at *
  have HSZ := Lib.hid (show W1.heap.size = W0.heap.size + 1 by rw [← hW1]; simp)
  clear hW1
  have q0 := HE.out.c0
  have hlk := run_lookT HE.out.drew.map tb
  obtain ⟨x0, x1, x2, x3, x4, x5⟩ := HX.out
  obtain ⟨p, hp⟩ := tbP_ptr (tbOf T tb)
  have HP := Lib.hid hp
  rw [hp] at hlk
  clear hp
  refine wpIn_wide.2 ?_
  go_still_tail 10, (by kernel_rfl)
  change wpList _ _ _ _ _ W1.drew
  clear q0 hlk x0 x1 x2 x3 x4 x5
  go_wp2_with fail
  refine (seekP p lo hi t back _).mono ?_
  rintro e w2 ⟨rfl, hs2, hz2, hb2, hk2⟩
  have hlt2 : W0.heap.size < w2.heap.size := by have := HSZ.out; have := hb2.size; simp at this; omega
  have hbW : Below W1.heap.size W1 w2 := (Below.refl _ W1).drew.trans hb2
  have hsx : Six w2 W1.heap.size W0.heap.size (.pointer p) (.func (.yield l) #[] #[]) lo hi t back := ⟨hs2, (hbW.block _ HY.out.lt).trans HY.out⟩
  have hz3 : w2.heap.size = W1.heap.size + 5 := hz2
  have HS2 := Lib.hid (And.intro hsx (And.intro hbW (And.intro hz3 hlt2)))
  clear hz3
  clear hs2 hz2 hb2 hk2 hbW hsx hlt2
  go_wp2_with fail
  gi_wp2_with fail
  have hst := stops_tb (m - 1) n₀ B W1.heap.size be mt tc T st sy dk tb lo hi t back w2 (HE.out.below HS2.out.2.1) HF.out.1 (by have := HF.out.2.1; have := HS2.out.2.2.2; omega) HF.out.2.2.2.1 (by rw [HP.out]; exact HS2.out.1.s) (by have := HS2.out.2.2.1; omega)
  have hro : Fence.wide.round = none := rfl
  have hJo := ownFrom_mono HJ.out.1 (show W0.heap.size ≤ w2.heap.size from Nat.le_of_lt HS2.out.2.2.2)
  refine wpIn_rangeFunc_ownH hro h1 (gf := 49) (lb := #[.pointer (some ⟨W1.heap.size, 0, none⟩), .pointer (some ⟨W1.heap.size + 1, 0, none⟩), .pointer (some ⟨W1.heap.size + 2, 0, none⟩), .pointer (some ⟨W1.heap.size + 4, 0, none⟩), .pointer (some ⟨W1.heap.size + 3, 0, none⟩)]) rfl trivial (enters_of Try.func49 (by kernel_rfl) rfl)
    hst (fun h k => h.t k) (kpS_b (by have := HF.out.2.1; have := HS2.out.2.2.2; omega) (by have := HS2.out.2.2.1; omega)) (Below.refl _ _) (fun _ => rfl)
    (fun pre W => J pre W ∧ Six W W1.heap.size W0.heap.size (.pointer p) (.func (.yield l) #[] #[]) lo hi t back ∧ w2.heap.size ≤ W.heap.size)
    (fun _ _ _ => False)
    (OwnFrom.and hJo (OwnFrom.and (Six.own _ _ _ _ _ _ _ _ _) (fun _ W W' row h hg hr => Nat.le_trans h hg.size)))
    (fun _ _ _ _ _ hs _ _ => hs)
    ⟨abides_below (B := w2.heap.size) (fun s W W' row hs hg hr => hJo s W W' row hs hg (fun r e => ⟨(hr r e).1, by obtain ⟨o, ho, hw⟩ := (hr r e).2; exact ⟨o, ho, Obj.not_cells_of_walk hw⟩⟩)) _ _ _ HJ.out.2.2 HS2.out.2.1, HS2.out.1, Nat.le_refl _⟩
    (fun x a' W => a' = { tmps := #[.func (.yield l) #[] #[], .pointer (some ⟨b, 0, none⟩), .pointer (some ⟨b + 1, 0, none⟩), .pointer (some ⟨b + 2, 0, none⟩), .pointer (some ⟨b + 3, 0, none⟩), .pointer (some ⟨b + 4, 0, none⟩), .pointer (some ⟨b + 5, 0, none⟩), .pointer (some ⟨W0.heap.size, 0, none⟩), .string x.1, .string x.2, .pointer (some ⟨be, 0, none⟩), .bool false, .pointer (some ⟨be, 0, none⟩), .pointer (some ⟨be, 0, none⟩), .pointer (some ⟨be, 0, none⟩), .map (some mt), .string tb, .pointer p, .string lo, .string hi, .int .i64 t, .bool back, (.func (.func 49) #[] #[.pointer (some ⟨W1.heap.size, 0, none⟩), .pointer (some ⟨W1.heap.size + 1, 0, none⟩), .pointer (some ⟨W1.heap.size + 2, 0, none⟩), .pointer (some ⟨W1.heap.size + 4, 0, none⟩), .pointer (some ⟨W1.heap.size + 3, 0, none⟩)]), .string x.1, .string x.2, undef, undef, undef, undef, undef], defers := [] })
    (fun x a' _ W W' row hs hg hr => hs) ?assign ?body ?done ?stop
  case assign =>
    rintro l2 pre ⟨k, s⟩ W K ⟨hJp, hSx, hz⟩ hK
    unfold encP
    gi_wp2
    exact hK _ _ ((KeepsOthers.refl W).from _) (KpS.below (Below.refl _ W) (by have := HF.out.2.1; have := HS2.out.2.2.2; omega)) ⟨hJp, hSx, hz⟩ rfl
  case body =>
    rintro l2 pre ⟨k, s⟩ a' W hl _ ⟨hJp, hSx, hz⟩ rfl hlt
    have cy := hSx.y.cell
    have HB := Lib.hid (And.intro hJp (And.intro hSx hz))
    obtain ⟨f1, t1, a1, b1, hy1, hR1⟩ := HJ.out.2.1 (m - 1 - 1 - 1) pre (k, s) W hJp (by have := HF.out.2.2.2.2.1; omega)
    have hy : (Instr.yield l #[.string k, .string s]).run Try.prog W = .ok (.round l f1 t1 a1 b1) W := hy1
    have HR1 := Lib.hid hR1
    clear hJp hSx hR1 hy1
    gi_wp2
    refine ⟨fun h => (by cases h), HR1.out.mono ?_⟩
    rintro e W6 ⟨rfl, hJ2, hk2⟩
    have H6 := Lib.hid (And.intro hJ2 hk2)
    clear hJ2 hk2
    gi_wp2
    have hk := H6.out.2
    exact ⟨⟨hk.keeps.size, fun k o hB hk1 ho => hk.keeps.same k o (by have := HF.out.2.2.1; have := HS2.out.2.2.2; omega) hk1 ho⟩, HB.out.2.1.kps hk HF.out.2.2.2.2.2, H6.out.1, HB.out.2.1.next hk HF.out.2.2.2.2.2, Nat.le_trans HB.out.2.2 hk.keeps.size⟩
  case done =>
    rintro D ys W hD rfl ⟨hJp, hSx, hz⟩ hK
    have HB := Lib.hid hJp
    clear hJp hSx
    gi_wp2
    refine ⟨by simp, .inl ⟨_, _, rfl, run_takeDeferred hK, ?_⟩⟩
    exact ⟨_, results_none rfl _ _ _, ⟨_, rfl⟩, _, rfl, hJo.putObj _ HB.out hD hK rfl⟩
  case stop =>
    rintro D c pre W _ _ h _
    exact h.elim
theorem escan_seq (n n₀ c b B be mt tc : Nat) (T : List Tb) (st sy : Int) (dk : Bs) (tb lo hi : Bs) (t : Int) (back : Bool) (Ex : TypeId → Prop) (hE : ExOK Ex) (W : World) (he : Egs B W be mt T tc st dk sy) (hfoot : ∀ k, FootE be mt T k → k < n₀) (hn0 : n₀ ≤ W.heap.size) (hc0 : c ≤ W.heap.size + 2) (hT : ∀ u ∈ T, u.E.length ≤ 100000)
    (hbx : EBox W b (.pointer (some ⟨be, 0, none⟩)) tb lo hi t back) (hbl : b + 6 ≤ W.heap.size) (h1 : 1 ≤ n) :
    SeqO n Try.prog 32 #[.pointer (some ⟨b, 0, none⟩), .pointer (some ⟨b + 1, 0, none⟩), .pointer (some ⟨b + 2, 0, none⟩), .pointer (some ⟨b + 3, 0, none⟩), .pointer (some ⟨b + 4, 0, none⟩), .pointer (some ⟨b + 5, 0, none⟩)] encP (KpO n₀ c Ex) (fun xs => xs = scanO (tbOf T tb) lo hi t back) (scanO (tbOf T tb) lo hi t back).length W := fun l J W1 hW hz hJ hY h0 =>
  escan1_any n l n₀ c _ b B be mt tc T st sy dk tb lo hi t back Ex hE J W1 hJ (fun m pre x W hj hl => yieldAt_any (hY pre x W hj hl)) (he.below hW) hfoot (Nat.le_trans hn0 hW.size) (Nat.le_trans hc0 hz) hT (hbx.below hW hbl) (Nat.le_trans hbl hW.size) h0 (Nat.le_refl _) h1
theorem enil_any (m l b : Nat) (p1 p2 p3 p4 p5 : Value) (J : List (Bs × Bs) → World → Prop) (W0 : World) (hJ : OwnFrom W0.heap.size J) (hc : W0.cell? ⟨b, 0, none⟩ = some (.pointer none)) (hbl : b < W0.heap.size) (hj : J [] W0) :
    CallsIn Fence.wide m Try.prog 32 #[.func (.yield l) #[] #[], .pointer (some ⟨b, 0, none⟩), p1, p2, p3, p4, p5] W0 fun e W' => (∃ v, e = .returned v) ∧ ∃ xs, xs = [] ∧ J xs W' := by
  refine callsIn_of_wp Try.func32 rfl trivial ?_ rfl
  simp only [Try.ntmps32, List.size_toArray, List.length_cons, List.length_nil, Nat.reduceAdd, Nat.reduceSub, Array.replicate_succ, Array.replicate_zero, List.push_toArray, List.append_toArray, List.nil_append, List.cons_append]
  have H := Lib.hid (hJ.alloc (.cells #[.func (.yield l) #[] #[]] 74) hj)
  have hc2 : (W0.alloc (.cells #[.func (.yield l) #[] #[]] 74)).cell? ⟨b, 0, none⟩ = some (.pointer none) := ca hbl hc
  clear hJ hj
  gi_wp2
  refine bodyPost_ret (results_none rfl _ _ _) rfl ⟨⟨_, rfl⟩, [], rfl, H.out⟩
end Go.Proofs.Ytpcjmceakelilaa
