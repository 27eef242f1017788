/- Merged texts: En24, En25, En26, En27, En28, En29, En30. -/
import Derived.Test.YtpcjmceakelilaaEc7
import Derived.StillTailTactics
import Derived.Deep.RegionHeld3
import Derived.Sort.LoopGhostIn
import Derived.Deep.Slices
import Derived.Deep.Fields
/- Engine: a checkpoint under way (plain). -/
namespace Go.Proofs.Ytpcjmceakelilaa
open Go.ChangeShapes Go.WideShapes Go.ChangeAt Go.RowKit Go.Deep Go.ChangeMaps Go.Shelf Go.Sort
set_option linter.unusedVariables false
set_option linter.unusedSimpArgs false
attribute [local go_sem] Oper.semAt_some
attribute [local go_sem, local simp] wide_fn
def CkOut (B b mt : Nat) (T : List Tb) (st : Int) (keep : Int) (N : Nat) (W W' : World) : Prop :=
  ∃ mt' T' tc' dk', ETurn B b (FootE b mt T) W W' mt' T' tc' st dk' dk'.size ∧ dk'.size ≤ 16777216 ∧ cont T' = pruneT (cont T) keep ∧ Bud T' N
/-- a checkpoint under way: the next engine at bn, its address in the box y5, the result's box rc -/
structure Ck (W : World) (rc bn y5 : Nat) (X : World) (Tn : List Tb) (tcn : Nat) (stn : Int) (dkn : Bs) : Prop where
  new : Egs (rc + 1) X bn (rc + 1) Tn tcn stn dkn 0
  low : Below W.heap.size W X
  yb : Boxed X y5 27 (.pointer (some ⟨bn, 0, none⟩))
  rb : Boxed X rc 34 (.int .i64 0)
  yF : ¬ FootE bn (rc + 1) Tn y5
  eq : rc = W.heap.size
theorem Ck.below {W : World} {rc bn y5 : Nat} {X X' : World} {Tn : List Tb} {tcn : Nat} {stn : Int} {dkn : Bs} (h : Ck W rc bn y5 X Tn tcn stn dkn) (hb : Below X.heap.size X X') : Ck W rc bn y5 X' Tn tcn stn dkn :=
  ⟨h.new.below hb, h.low.trans (hb.mono h.low.size), (hb.block _ h.yb.lt).trans h.yb, (hb.block _ h.rb.lt).trans h.rb, h.yF, h.eq⟩
theorem Ck.turn {W : World} {rc bn y5 : Nat} {X X' : World} {Tn Tn' : List Tb} {tcn tcn' : Nat} {stn stn' : Int} {dkn dkn' : Bs} (h : Ck W rc bn y5 X Tn tcn stn dkn) (ht : ETurn (rc + 1) bn (FootE bn (rc + 1) Tn) X X' (rc + 1) Tn' tcn' stn' dkn' 0) : Ck W rc bn y5 X' Tn' tcn' stn' dkn' := by
  have hX : rc + 1 ≤ X.heap.size := by have := h.rb.lt; omega
  refine ⟨ht.egs, h.low.trans ((ht.low hX (fun k hk => (h.new.foot hk).1)).mono (by have := h.eq; omega)), boxed_kept h.yb ht.kept h.yF, boxed_kept h.rb ht.kept (fun hf => by have := (h.new.foot hf).1; omega), fun hf => ?_, h.eq⟩
  rcases ht.foot y5 hf with h1 | h1
  · exact h.yF h1
  · have := h.yb.lt; omega
theorem Ck.old {W : World} {rc bn y5 : Nat} {X : World} {Tn : List Tb} {tcn : Nat} {stn : Int} {dkn : Bs} (h : Ck W rc bn y5 X Tn tcn stn dkn) {B b mt tc : Nat} {T : List Tb} {st sy : Int} {dk : Bs} (he : Egs B W b mt T tc st dk sy) : Egs B X b mt T tc st dk sy := he.below h.low
/-- a checkpoint between two tables: j of them are written, on at most M bytes -/
structure CkS (T : List Tb) (keep : Int) (N : Nat) (W : World) (rc bn y5 : Nat) (s : Int) (c7 : Nat) (v42 : Value) (ks : List Bs) (j M : Nat) (Tn : List Tb) (tcn : Nat) (dkn : Bs) (X : World) : Prop where
  ck : Ck W rc bn y5 X Tn tcn s dkn
  hit : ∀ tb ∈ ks.take j, cont Tn tb = fun k => pruneF keep (cont T tb k)
  miss : ∀ tb, tb ∉ ks.take j → tbOf Tn tb = none
  len : Tn.length ≤ j
  tot : ∀ t ∈ Tn, total t.E ≤ N
  size : dkn.size ≤ M
  row : KRow c7 X v42 ks
  rowF : ∀ k, v42.ownBlock = some k → ¬ FootE bn (rc + 1) Tn k
section
variable {T : List Tb} {keep : Int} {N : Nat} {W : World} {rc bn y5 : Nat} {s : Int} {c7 : Nat} {v42 : Value} {ks : List Bs} {j M : Nat} {Tn : List Tb} {tcn : Nat} {dkn : Bs} {X X' : World}
theorem CkS.below (h : CkS T keep N W rc bn y5 s c7 v42 ks j M Tn tcn dkn X) (hb : Below X.heap.size X X') : CkS T keep N W rc bn y5 s c7 v42 ks j M Tn tcn dkn X' :=
  ⟨h.ck.below hb, h.hit, h.miss, h.len, h.tot, h.size, h.row.same (fun k hk => hb.block k (h.row.lt k hk).2), h.rowF⟩
theorem CkS.mono {M' : Nat} (h : CkS T keep N W rc bn y5 s c7 v42 ks j M Tn tcn dkn X) (hM : M ≤ M') : CkS T keep N W rc bn y5 s c7 v42 ks j M' Tn tcn dkn X :=
  ⟨h.ck, h.hit, h.miss, h.len, h.tot, Nat.le_trans h.size hM, h.row, h.rowF⟩
/-- a record more on the disk -/
theorem CkS.app {dk' : Bs} {M' : Nat} (h : CkS T keep N W rc bn y5 s c7 v42 ks j M Tn tcn dkn X) (ht : ETurn (rc + 1) bn (FootE bn (rc + 1) Tn) X X' (rc + 1) Tn tcn s dk' 0) (hs : dk'.size ≤ M') : CkS T keep N W rc bn y5 s c7 v42 ks j M' Tn tcn dk' X' :=
  ⟨h.ck.turn ht, h.hit, h.miss, h.len, h.tot, hs, h.row.same (fun k hk => ht.kept.block k (h.row.lt k hk).2 (h.rowF k hk)), h.rowF⟩
/-- a table more -/
theorem CkS.add {C mc c' : Nat} {E' : List En} {X3 : World} (h : CkS T keep N W rc bn y5 s c7 v42 ks j M Tn tcn dkn X) (hj : j < ks.length) (hn : ks.Nodup) (hb : Below X.heap.size X X3) (hs : Sto X.heap.size X3 C mc E' c') (hl : lkL E' = fun k => pruneF keep (cont T ks[j] k)) (hT : total E' ≤ N) :
    CkS T keep N W rc bn y5 s c7 v42 ks (j + 1) M (Tn ++ [⟨ks[j], C, mc, E', c', tcn⟩]) (tcn + 1) dkn (setBlock X3 (rc + 1) (.map (esOf (ens (Tn ++ [⟨ks[j], C, mc, E', c', tcn⟩]))) (tcn + 1))) := by
  have htk : ks.take (j + 1) = ks.take j ++ [ks[j]] := List.take_succ_eq_append_getElem hj
  have hnot : ks[j] ∉ ks.take j := fun hm => by
    obtain ⟨i, hi, he⟩ := List.mem_iff_getElem.1 hm
    rw [List.length_take] at hi
    rw [List.getElem_take] at he
    have := (List.getElem_inj (h₀ := by omega) (h₁ := hj) hn).1 he
    omega
  have hnone := h.miss _ hnot
  have hX : rc + 1 ≤ X.heap.size := by have := h.ck.rb.lt; omega
  have hadd := h.ck.new.add (t := ⟨ks[j], C, mc, E', c', tcn⟩) hnone rfl hb hs hX
  refine ⟨h.ck.turn hadd, fun tb htb => ?_, fun tb htb => ?_, by rw [List.length_append]; have := h.len; simp; omega, fun t ht => ?_, h.size, h.row.same (fun k hk => hadd.kept.block k (h.row.lt k hk).2 (h.rowF k hk)), fun k hk hf => ?_⟩
  · rw [cont_add (t := ⟨ks[j], C, mc, E', c', tcn⟩) hnone]
    show (if tb = ks[j] then lkL E' else cont Tn tb) = _
    by_cases e : tb = ks[j]
    · rw [if_pos e, hl, e]
    · rw [if_neg e]
      rw [htk] at htb
      rcases List.mem_append.1 htb with h2 | h2
      · exact h.hit tb h2
      · exact absurd (List.mem_singleton.1 h2) e
  · rw [htk, List.mem_append] at htb
    have h1 := h.miss tb (fun h2 => htb (.inl h2))
    have h2 : tb ≠ ks[j] := fun e => htb (.inr (by rw [e]; exact List.mem_singleton.2 rfl))
    unfold tbOf
    rw [List.find?_append, show Tn.find? (fun t => decide (tb = t.key)) = none from h1]
    simp [h2]
  · rcases List.mem_append.1 ht with ht | ht
    · exact h.tot t ht
    · rw [List.mem_singleton.1 ht]; exact hT
  · rcases hadd.foot k hf with h1 | h1
    · exact h.rowF k hk h1
    · have := (h.row.lt k hk).2; omega
theorem grown_kept {row : Option Nat} {B0 : Nat} (hg : X.grownBy X' row) (hr : ∀ r, row = some r → B0 ≤ r) : Kept (fun k => B0 ≤ k) X X' :=
  ⟨hg.os, hg.tape, hg.output, hg.size, fun k hk hs => hg.block k hk (fun e => hs (hr k e.symm))⟩
theorem krow_grown {row : Option Nat} {B : Nat} {v : Value} {l : List Bs} (h : KRow B X v l) (hg : X.grownBy X' row) (hr : ∀ r, row = some r → ∃ o : Obj, X.heap[r]? = some o ∧ o.isCells = false) : KRow B X' v l := by
  refine h.same fun k hk => ?_
  rcases h.2 with ⟨rfl, _⟩ | ⟨g, c, cur, rfl, h1, h2, _⟩
  · simp [Value.ownBlock] at hk
  · simp only [Value.ownBlock, Option.some.injEq] at hk
    subst hk
    exact grownBy_keeps_cells hg hr h2 rfl
theorem CkS.grown {B0 : Nat} {row : Option Nat} (h : CkS T keep N W rc bn y5 s c7 v42 ks j M Tn tcn dkn X) (hF : ∀ k, FootE bn (rc + 1) Tn k → k < B0) (hW : W.heap.size ≤ B0) (hg : X.grownBy X' row) (hr : ∀ r, row = some r → B0 ≤ r ∧ ∃ o : Obj, X.heap[r]? = some o ∧ o.isCells = false) : CkS T keep N W rc bn y5 s c7 v42 ks j M Tn tcn dkn X' := by
  have hk := grown_kept hg (fun r e => (hr r e).1)
  have hr' : ∀ r, row = some r → ∃ o : Obj, X.heap[r]? = some o ∧ o.isCells = false := fun r e => (hr r e).2
  exact ⟨⟨h.ck.new.kept hk (fun k hk2 h2 => by have := hF k hk2; omega), h.ck.low.trans (hk.below h.ck.low.size (fun k h2 => Nat.le_trans hW h2)), boxed_grown h.ck.yb hg hr', boxed_grown h.ck.rb hg hr', h.ck.yF, h.ck.eq⟩, h.hit, h.miss, h.len, h.tot, h.size, krow_grown h.row hg hr', h.rowF⟩
theorem Marked.kept {c : Nat} {Ds : List Nat} {F : Nat → Prop} (h : Marked c Ds X) (hk : Kept F X X') (hF : ∀ D ∈ Ds, ¬ F D) : Marked c Ds X' := fun D hD =>
  ⟨(h D hD).1, (hk.block D (Array.getElem?_eq_some_iff.1 (h D hD).2).1 (hF D hD)).trans (h D hD).2⟩
theorem Marked.below {c : Nat} {Ds : List Nat} (h : Marked c Ds X) (hb : Below X.heap.size X X') : Marked c Ds X' := h.kept (kept_below hb) (fun _ _ h => h)
end
/-- an engine's contents in another box -/
theorem Egs.move {B B' b b' mt tc : Nat} {X X' : World} {T : List Tb} {st sy sy' : Int} {dk : Bs} {F : Nat → Prop} (h : Egs B' X b' mt T tc st dk sy) (hk : Kept F X X') (hF : ∀ k, FootE b' mt T k → k ≠ b' → ¬ F k) (hbx : Box X' b [.map (some mt), .int .i64 st, .string dk, .int .i64 sy']) (hbB : b < B') (hB : B ≤ b) : Egs B X' b mt T tc st dk sy' :=
  ⟨hbx, h.map.kept hk (hF mt (.inr (.inl rfl)) h.mb), h.ok, fun t ht => ((h.sto t ht).kept hk (fun k hk2 => hF k (.inr (.inr ⟨t, ht, hk2⟩)) (h.off t ht k hk2).1)).base (by omega), h.apart, fun t ht k hk2 => ⟨by have := ((h.sto t ht).foot hk2).1; omega, (h.off t ht k hk2).2⟩, by have := h.bm; omega, hB, by have := h.bm; omega⟩
/-- the end of a checkpoint -/
theorem ck_end {B b mt tc : Nat} {T : List Tb} {st sy : Int} {dk : Bs} {keep : Int} {N : Nat} {W X X24 W' : World} {rc bn y5 : Nat} {s : Int} {c7 M : Nat} {v42 : Value} {ks : List Bs} {Tn : List Tb} {tcn : Nat} {dkn : Bs} {Ds : List Nat} (HE : Egs B W b mt T tc st dk sy) (hB : B ≤ W.heap.size) (hN : Bud T N) (hS : CkS T keep N W rc bn y5 s c7 v42 ks ks.length M Tn tcn dkn X) (hks : ∀ k, k ∈ ks ↔ k ∈ T.map (·.key)) (hkl : ks.length = T.length) (hM : M ≤ 16777216)
    (h24 : ETurn (rc + 1) bn (FootE bn (rc + 1) Tn) X X24 (rc + 1) Tn tcn s dkn dkn.size) (hl : Below W.heap.size W X24) (hm : Marked W.heap.size Ds X24) (hk : Kept (fun k => k = b ∨ k = rc ∨ k ∈ Ds) X24 W') (hbx : Box W' b [.map (some (rc + 1)), .int .i64 s, .string dkn, .int .i64 dkn.size]) : CkOut B b mt T s keep N W W' := by
  have hrc := hS.ck.eq
  have hb := HE.box.lt
  refine ⟨rc + 1, Tn, tcn, dkn, ⟨?_, ?_, ?_⟩, Nat.le_trans hS.size hM, ?_, ?_⟩
  · refine h24.egs.move hk (fun k hf hne hbad => ?_) hbx (by omega) HE.bb
    have h1 := (h24.egs.foot hf).1
    rcases hbad with rfl | rfl | hD
    · omega
    · omega
    · exact h24.egs.no_mark (hm k hD).2 hf
  · rintro k (rfl | rfl | ⟨t, ht, hf⟩)
    · exact .inl (.inl rfl)
    · exact .inr (by omega)
    · exact .inr (by have := ((h24.egs.sto t ht).foot hf).1; omega)
  · refine ⟨hk.os.trans hl.os, hk.tape.trans hl.tape, hk.output.trans hl.output, Nat.le_trans hl.size hk.size, fun k h1 h2 => ?_⟩
    refine (hk.block k (Nat.lt_of_lt_of_le h1 hl.size) ?_).trans (hl.block k h1)
    rintro (rfl | rfl | hD)
    · exact h2 (.inl rfl)
    · omega
    · have := (hm k hD).1; omega
  · funext tb
    by_cases h : tb ∈ ks
    · rw [hS.hit tb (by rwa [List.take_length])]
      rfl
    · have h1 : tbOf Tn tb = none := hS.miss tb (by rwa [List.take_length])
      have h2 : tbOf T tb = none := by
        cases h3 : tbOf T tb with
        | none => rfl
        | some t => exact absurd ((hks tb).2 (by rw [← (tbOf_mem h3).2]; exact List.mem_map_of_mem (tbOf_mem h3).1)) h
      funext k
      unfold pruneT cont
      rw [h1, h2]
      exact (prune_nil keep).symm
  · exact ⟨by have := hS.len; have := hN.1; omega, hS.tot⟩
/-- the stores at a checkpoint's end -/
theorem ck_stores {B b mt tc : Nat} {X24 : World} {T : List Tb} {st sy : Int} {dk dkn : Bs} {rc : Nat} {s : Int} {Ds : List Nat} {c : Nat} (HE : Egs B X24 b mt T tc st dk sy) (hb : b ≠ rc) (hc : Marked c Ds X24) (hrc : Boxed X24 rc 34 (.int .i64 0))
    {X26 : World} (h26 : X26 = ((((X24.setCell ⟨b, 0, none⟩ (.map (some (rc + 1)))).setCell ⟨b, 1, none⟩ (.int .i64 s)).setCell ⟨b, 2, none⟩ (.string dkn)).setCell ⟨b, 3, none⟩ (.int .i64 dkn.size)).setCell ⟨rc, 0, none⟩ (.int .i64 0)) :
    Kept (fun k => k = b ∨ k = rc) X24 X26 ∧ Box X26 b [.map (some (rc + 1)), .int .i64 s, .string dkn, .int .i64 dkn.size] ∧ Boxed X26 rc 34 (.int .i64 0) := by
  have o (w : World) (j : Nat) (v : Value) : Kept (fun k => k = b ∨ k = rc) w (w.setCell ⟨b, j, none⟩ v) := by
    have ho := Only.setCell w b j v
    have h0 := ho.below b (Nat.le_refl _)
    exact ⟨h0.os, h0.tape, h0.output, h0.size, fun k _ hk => ho.heap k (fun e => hk (.inl e))⟩
  have o2 (w : World) (j : Nat) (v : Value) : Kept (fun k => k = b ∨ k = rc) w (w.setCell ⟨rc, j, none⟩ v) := by
    have ho := Only.setCell w rc j v
    have h0 := ho.below rc (Nat.le_refl _)
    exact ⟨h0.os, h0.tape, h0.output, h0.size, fun k _ hk => ho.heap k (fun e => hk (.inr e))⟩
  have t {A C D : World} (h : Kept (fun k => k = b ∨ k = rc) A C) (g : Kept (fun k => k = b ∨ k = rc) C D) : Kept (fun k => k = b ∨ k = rc) A D := h.trans g (fun k hk => .inl hk)
  have hx := (((HE.box.setCell 0 (.map (some (rc + 1))) (by simp)).setCell 1 (.int .i64 s) (by simp)).setCell 2 (.string dkn) (by simp)).setCell 3 (.int .i64 dkn.size) (by simp)
  have hr : Boxed ((((X24.setCell ⟨b, 0, none⟩ (.map (some (rc + 1)))).setCell ⟨b, 1, none⟩ (.int .i64 s)).setCell ⟨b, 2, none⟩ (.string dkn)).setCell ⟨b, 3, none⟩ (.int .i64 dkn.size)) rc 34 (.int .i64 0) := by
    have hne : rc ≠ b := fun e => hb e.symm
    exact (heap_setCell_other _ ⟨b, 3, none⟩ rc _ hne).trans ((heap_setCell_other _ ⟨b, 2, none⟩ rc _ hne).trans ((heap_setCell_other _ ⟨b, 1, none⟩ rc _ hne).trans ((heap_setCell_other _ ⟨b, 0, none⟩ rc _ hne).trans hrc)))
  subst h26
  exact ⟨t (t (t (t (o _ _ _) (o _ _ _)) (o _ _ _)) (o _ _ _)) (o2 _ _ _), Box.other hx (Only.setCell _ rc 0 _) hb, hr.set _⟩
end Go.Proofs.Ytpcjmceakelilaa
/- Engine: Checkpoint. -/
namespace Go.Proofs.Ytpcjmceakelilaa
open Go.ChangeShapes Go.WideShapes Go.ChangeAt Go.RowKit Go.Deep Go.ChangeMaps Go.Shelf Go.Sort
set_option linter.unusedVariables false
set_option linter.unusedSimpArgs false
attribute [local go_sem] Oper.semAt_some
attribute [local go_sem, local simp] wide_fn
/-- the frame in the loop over the tables -/
def ckF (b : Nat) (keep : Int) (rc y5 bn : Nat) (s : Int) (mt w5s : Nat) (ra : Option Addr) (tn rcap i : Nat) (u : Nat → Value) (Ds : List Nat) : Act := { tmps := #[.pointer (some ⟨b, 0, none⟩), .int .i64 keep, undef, undef, .pointer (some ⟨rc, 0, none⟩), .pointer (some ⟨y5, 0, none⟩), .int .i64 0, undef, u 8, u 9, u 10, u 11, u 12, u 13, .pointer (some ⟨b, 0, none⟩), .bool false, .int .i64 keep, .bool true, .bool false, .pointer (some ⟨bn, 0, none⟩), .pointer (some ⟨bn, 0, none⟩), .pointer (some ⟨b, 0, none⟩), .pointer (some ⟨b, 0, none⟩), .pointer (some ⟨b, 1, none⟩), .int .i64 s, .pointer (some ⟨bn, 0, none⟩), .pointer (some ⟨bn, 1, none⟩), .pointer (some ⟨bn, 0, none⟩), .pointer (some ⟨b, 0, none⟩), .pointer (some ⟨b, 0, none⟩), .pointer (some ⟨b, 1, none⟩), .int .i64 s, .agg #[.int .i64 4, .int .i64 s, .slice none 0 0], .int .i64 0, .int .i64 0, .bool false, undef, .pointer (some ⟨b, 0, none⟩), .pointer (some ⟨b, 0, none⟩), .pointer (some ⟨b, 0, none⟩), .map (some mt), (.func (.func 44) #[] #[.pointer (some ⟨w5s, 0, none⟩)]), .slice ra tn rcap, .int .i64 tn, .int .i64 i, u 45, u 46, u 47, u 48, u 49, u 50, u 51, u 52, u 53, u 54, u 55, u 56, u 57, u 58, u 59, u 60, u 61, u 62, u 63, u 64, u 65, u 66, u 67, u 68, u 69, u 70, u 71, u 72, u 73, u 74, u 75, u 76, u 77, u 78, u 79, u 80, u 81, u 82, u 83, u 84, u 85, undef, undef, undef, undef, undef, undef, undef, undef, undef, undef, undef, undef, undef], defers := Ds.map mkD }
set_option maxRecDepth 100000 in
set_option maxHeartbeats 8000000 in
theorem ckpt_in {B b mt tc : Nat} {T : List Tb} {st sy : Int} {dk : Bs} (n : Nat) (h1 : 1 ≤ n) (keep : Int) (N : Nat) (W : World) (h : Egs B W b mt T tc st dk sy) (hN : Bud T N) (hN2 : N ≤ 100000) (hB : B ≤ W.heap.size) (hk : 0 ≤ keep ∧ keep ≤ 1099511627776) (hst : 0 ≤ st ∧ st ≤ 1099511627776) (hck : CkOK T keep) :
    CallsIn Fence.wide n Try.prog 16 #[.pointer (some ⟨b, 0, none⟩), .int .i64 keep] W fun e W' => e = .returned (.int .i64 0) ∧ CkOut B b mt T st keep N W W' := by
  have HE := Lib.hid h
  obtain ⟨s, rfl⟩ : ∃ s : Nat, st = (s : Int) := ⟨st.toNat, by omega⟩
  have HN := Lib.hid (And.intro hN (And.intro hN2 (And.intro hB (And.intro hk (And.intro hst hck)))))
  have r1 : (decide (0 ≤ keep) && decide (keep ≤ 1099511627776)) = true := by simp [hk.1, hk.2]
  clear h hN hN2 hB hk hst hck
  have hb1 : Below W.heap.size W (W.alloc (.cells #[.int .i64 0] 34)) := (Below.refl _ _).alloc (Nat.le_refl _) _
  have HA := Lib.hid (And.intro (Boxed.new W 34 (.int .i64 0)) hb1)
  clear hb1
  refine callsIn_of_wp_marks Try.func16 rfl trivial ?_ rfl
  simp only [Try.ntmps16, List.size_toArray, List.length_cons, List.length_nil, Nat.reduceAdd, Nat.reduceSub, Array.replicate_succ, Array.replicate_zero, List.push_toArray, List.append_toArray, List.nil_append, List.cons_append]
  gi_wp2_with (first
    | (gi_at_call 25; refine (callsIn_wide.2 (inRange_any keep _)).mono ?_; rintro e w1 ⟨rfl, rfl⟩)
    | (gi_at_call 7; refine (callsIn_wide.2 (enew_any _)).mono ?_; rintro e w2 ⟨rfl, hE2, hb2⟩))
  simp only [World.size_alloc] at hE2 hb2
  obtain ⟨rc, hrc⟩ : ∃ rc, rc = W.heap.size := ⟨_, rfl⟩
  have hlow2 : Below W.heap.size W w2 := HA.out.2.trans (hb2.mono (by omega))
  have hsz2 : W.heap.size + 1 ≤ w2.heap.size := by have := hb2.size; simpa using this
  have hb3 : Below w2.heap.size w2 (w2.alloc (.cells #[.pointer (some ⟨W.heap.size + 1 + 1, 0, none⟩)] 27)) := (Below.refl _ _).alloc (Nat.le_refl _) _
  have hrb : Boxed (w2.alloc (.cells #[.pointer (some ⟨W.heap.size + 1 + 1, 0, none⟩)] 27)) W.heap.size 34 (.int .i64 0) :=
    (hb3.block _ (by omega)).trans ((hb2.block _ (by omega)).trans HA.out.1)
  have H3 := Lib.hid (And.intro (hE2.below hb3) (And.intro (hlow2.trans (hb3.mono hlow2.size)) (And.intro (Boxed.new w2 27 (.pointer (some ⟨W.heap.size + 1 + 1, 0, none⟩))) hrb)))
  have HY := Lib.hid (show W.heap.size + 1 + 1 < w2.heap.size from hE2.box.lt)
  clear hE2 hb2 hlow2 hsz2 hb3 hrb HA
  rw [← hrc] at H3 HY ⊢
  have HRC := Lib.hid hrc
  clear hrc
  obtain ⟨y5, hy5⟩ : ∃ y5, y5 = w2.heap.size := ⟨_, rfl⟩
  rw [← hy5] at H3 HY ⊢
  obtain ⟨bn, hbn⟩ : ∃ bn, bn = rc + 1 + 1 := ⟨_, rfl⟩
  rw [← hbn] at H3 HY ⊢
  have HBN := Lib.hid hbn
  clear hy5 hbn
  generalize w2.alloc (.cells #[.pointer (some ⟨bn, 0, none⟩)] 27) = w3 at *
  have hck3 : Ck W rc bn y5 w3 [] 0 0 ⟨#[]⟩ := ⟨H3.out.1, H3.out.2.1.mono (by have := HRC.out; omega), H3.out.2.2.1, H3.out.2.2.2, (by rintro (h | h | ⟨t, ht, _⟩); have := HY.out; omega; have := HY.out; have := HBN.out; omega; cases ht), HRC.out⟩
  have HC3 := Lib.hid hck3
  clear hck3 H3
  have HE3 := Lib.hid (HC3.out.old HE.out)
  have q5 := HC3.out.yb.cell
  have q1 := HE3.out.c1
  have q2 := HC3.out.new.c1
  have q3 := HC3.out.new.fr 1
  refine wpIn_wide.2 ?_
  go_still_tail 7, (by kernel_rfl)
  change wpList _ _ _ _ _ w3.drew
  go_wp2_with fail
  have hd3 : Below w3.heap.size w3 w3.drew := (Below.refl _ _).drew
  have hc4 := HC3.out.turn ((ETurn.same HC3.out.new hd3).setStamp s (.inl rfl))
  have HC4 := Lib.hid (show Ck W rc bn y5 (w3.setCell ⟨bn, 1, none⟩ (.int .i64 s)).drew [] 0 s ⟨#[]⟩ from hc4)
  clear hd3 q1 q2 q3 q5 HE3 HC3 hc4
  generalize (w3.setCell ⟨bn, 1, none⟩ (.int .i64 s)).drew = w4 at *
  have HE4 := Lib.hid (HC4.out.old HE.out)
  have q5 := HC4.out.yb.cell
  have q1 := HE4.out.c1
  gi_wp2_with fail
  have hA4 := append_any (k := 4) (s := s) (v := .slice none 0 0) (L := []) HC4.out.new.drew ⟨by have := HN.out.2.2.2.2.1; omega, .inl ⟨.inr rfl, rfl⟩⟩ (by decide)
  have HA4 := Lib.hid hA4
  clear hA4
  refine wpIn_wide.2 ?_
  go_still_tail 6, (by kernel_rfl)
  change wpList _ _ _ _ _ w4.drew
  go_wp2_with fail
  refine HA4.out.mono ?_
  rintro e w5 h5
  have hf4 : Fits ⟨#[]⟩ 4 s [] := by
    have h2 := numB_len s (by have := HN.out.2.2.2.2.1; omega)
    have h3 : (recB 4 s []).length ≤ 10 := by
      unfold recB
      rw [if_neg (by decide), List.append_nil, List.length_cons]; omega
    exact ⟨by omega, by have : (⟨#[]⟩ : Bs).size = 0 := rfl; omega⟩
  obtain ⟨_, rfl, ht5, _⟩ := h5.resolve_right (fun h => h.1 hf4)
  have hd4 : Below w4.heap.size w4 w4.drew := (Below.refl _ _).drew
  have HC5 := Lib.hid ((HC4.out.below hd4).turn ht5)
  have HD5 := Lib.hid (show (addD ⟨#[]⟩ 4 s []).size ≤ 18 by
    have h2 := numB_len s (by have := HN.out.2.2.2.2.1; omega)
    rw [addD_size]
    unfold recB
    rw [if_neg (by decide), List.append_nil, List.length_cons]
    have : (⟨#[]⟩ : Bs).size = 0 := rfl
    omega)
  clear ht5 h5 hf4 hd4 HA4 HC4 HE4 q1 q5
  generalize addD ⟨#[]⟩ 4 s [] = dk5 at HC5 HD5
  have HE5 := Lib.hid (HC5.out.old HE.out)
  have q0 := HE5.out.c0
  go_wp2_with fail
  have hkn : (T.map (·.key)).Nodup := HE.out.keys
  gi_wp2_with (first
    | (gi_at_call 27; refine (callsIn_wide.2 (keys_any mt _)).mono ?_; rintro e w6 ⟨rfl, hk6, hz6, hb6⟩)
    | (gi_at_call 26; refine (callsIn_wide.2 (sorted_any w5.heap.size mt tc T _ (HE5.out.below hb6).map HE.out.ok (by rw [hz6]; exact Nat.lt_succ_self _) hk6.cell (by have := HN.out.1.1; have := HN.out.2.1; omega))).mono ?_; rintro e w7 ⟨v42, rfl, hrow7, hb7⟩; obtain ⟨ra, rcap, rfl⟩ := hrow7.len))
  obtain ⟨ks, hks⟩ : ∃ ks, ks = sortB (T.map (·.key)) := ⟨_, rfl⟩
  rw [← hks] at hrow7 ⊢
  have hsk : ks.Nodup := by rw [hks]; exact (sortB_perm _).nodup_iff.2 hkn
  have hb57 : Below w5.heap.size w5 w7 := hb6.trans (hb7.mono hb6.size)
  have hkm : ∀ k, k ∈ ks ↔ k ∈ T.map (·.key) := fun k => by rw [hks]; exact (sortB_perm _).mem_iff
  have HKS := Lib.hid (And.intro hks (And.intro hsk hkm))
  have HS7 := Lib.hid (show CkS T keep N W rc bn y5 s w6.heap.size (.slice ra ks.length rcap) ks 0 (30 + totW T keep (ks.take 0)) [] 0 dk5 w7 from
    ⟨HC5.out.below hb57, fun tb htb => (by cases htb), fun tb _ => rfl, Nat.le_refl _, fun t ht => (by cases ht), by have := HD5.out; omega, hrow7, fun k hk hf => by
      have h2 := (HC5.out.new.foot hf).2
      have h3 := (hrow7.lt k hk).1
      have h4 := hb6.size
      omega⟩)
  obtain ⟨w5s, hw5s⟩ : ∃ w5s, w5s = w5.heap.size := ⟨_, rfl⟩
  rw [← hw5s]
  obtain ⟨c7, hc7⟩ : ∃ c7, c7 = w6.heap.size := ⟨_, rfl⟩
  rw [← hc7] at HS7
  obtain ⟨tn, htn⟩ : ∃ tn, tn = ks.length := ⟨_, rfl⟩
  rw [← htn] at HS7 ⊢
  have HTN := Lib.hid htn
  have htl : tn ≤ 100000 := by rw [htn, hks, (sortB_perm _).length_eq, List.length_map]; have := HN.out.1.1; have := HN.out.2.1; omega
  clear q0 hkn hk6 hz6 hb6 hrow7 hb7 hks hsk hkm hb57 hw5s hc7 htn HC5 HD5 HE5
  refine wpIn_loop_ghost_k (fun m a X => ∃ (i : Nat) (Ds : List Nat) (Tn : List Tb) (tcn : Nat) (dkn : Bs), m = tn - i ∧ i ≤ tn ∧ a = ckF b keep rc y5 bn s mt w5s ra tn rcap i (fun k => a.tmps.getD k undef) Ds ∧ CkS T keep N W rc bn y5 s c7 (.slice ra tn rcap) ks i (30 + totW T keep (ks.take i)) Tn tcn dkn X ∧ Marked W.heap.size Ds X ∧ Ds.Nodup) tn ⟨0, [], [], 0, dk5, by omega, Nat.zero_le _, rfl, HS7.out, fun D hD => (by cases hD), List.nodup_nil⟩ ?_
  clear HS7
  rintro m a X ⟨i, Ds, Tn, tcn, dkn, rfl, hi, ha, hS, hM, hnd⟩ J K hJ hK
  generalize (fun k => a.tmps.getD k undef) = u at ha
  subst ha
  have HS := Lib.hid (And.intro hS (And.intro hM hnd))
  clear hS hM hnd
  unfold ckF
  by_cases hlt : i < tn
  · have hil : i < ks.length := by have := HTN.out; omega
    obtain ⟨rg, rc9, cur, hve, _, _, _, _, hcell⟩ := HS.out.1.row.get (by omega)
    have hra : ra = some ⟨rg, 0, none⟩ := by cases hve; rfl
    subst hra
    have ck := hcell i hil
    have hmem : ks[i] ∈ T.map (·.key) := (HKS.out.2.2 _).1 (List.getElem_mem hil)
    clear hve hcell
    obtain ⟨tb, htb⟩ : ∃ tb, tb = ks[i] := ⟨_, rfl⟩
    rw [← htb] at ck hmem
    have HTB := Lib.hid htb
    obtain ⟨t, htT, htk⟩ := List.mem_map.1 hmem
    have hto : tbOf T tb = some t := by rw [← htk]; exact tbOf_of HE.out.keys htT
    have HT := Lib.hid (And.intro htT hto)
    clear htb hmem htk
    have hbX : Below X.heap.size X (X.alloc (.cells #[.string tb] 9)) := (Below.refl _ _).alloc (Nat.le_refl _) _
    have HX1 := Lib.hid (And.intro (HS.out.1.below hbX) (And.intro (HS.out.2.1.below hbX) (And.intro (Boxed.new X 9 (.string tb)) hbX)))
    have hold1 := HX1.out.1.ck.old HE.out
    have HO1 := Lib.hid hold1
    have q0 := hold1.c0
    have q8 := HX1.out.2.2.1.cell
    have hlk := run_lookT hold1.drew.map tb
    rw [hto] at hlk
    clear hbX hold1 hto htT
    gi_wp2_with fail
    clear ck
    refine wpIn_wide.2 ?_
    generalize X.alloc (.cells #[.string tb] 9) = X1 at *
    obtain ⟨sb, hsb⟩ : ∃ sb, sb = X.heap.size := ⟨_, rfl⟩
    rw [← hsb] at HX1 q8 ⊢
    have HSB := Lib.hid hsb
    clear hsb
    dsimp only [tbP] at hlk
    go_still_tail 6, (by kernel_rfl)
    change wpList _ _ _ _ _ X1.drew
    clear q0 q8 hlk
    go_wp2_with fail
    refine (clone_any B t.S t.m t.clock t.E _ (HO1.out.drew.sto t HT.out.1)).mono ?_
    rintro e X2 ⟨C, mc, EC, cc, seen, rfl, hs2, hcp, hall, hb2⟩
    have hlc := cpy_lk hcp hall (HO1.out.sto t HT.out.1).gd hs2.gd
    have htc : total EC ≤ N := by
      rw [total_same hs2.gd (HO1.out.sto t HT.out.1).gd hlc]
      exact HN.out.1.2 t HT.out.1
    have hb12 : Below X1.heap.size X1 X2 := (Below.refl _ _).drew.trans hb2
    have HX2 := Lib.hid (And.intro (HX1.out.1.below hb12) (And.intro (HX1.out.2.1.below hb12) (And.intro (show Boxed X2 sb 9 (.string tb) from (hb12.block _ HX1.out.2.2.1.lt).trans HX1.out.2.2.1) (And.intro (show Sto X1.heap.size X2 C mc EC cc from hs2) (And.intro hlc (And.intro htc hb12))))))
    clear hs2 hcp hall hb2 hlc htc hb12
    go_wp2_with fail
    gi_wp2_with (first
      | (gi_at_call 29; refine (callsIn_wide.2 (prune_any X1.heap.size C mc cc EC keep X2 HX2.out.2.2.2.1 HX2.out.2.2.2.2.2.2.size (by have := HX2.out.2.2.2.2.2.1; have := HN.out.2.1; omega))).mono ?_; rintro e X3 ⟨rfl, hsw⟩))
    obtain ⟨E', c', hT3, hl3⟩ := swept_done HX2.out.2.2.2.1 (prune_nil keep) hsw
    have hlE : lkL E' = fun k => pruneF keep (cont T ks[i] k) := by
      have h2 : cont T ks[i] = lkL t.E := by
        rw [← HTB.out]
        unfold cont
        rw [HT.out.2]
      rw [hl3, HX2.out.2.2.2.2.1, h2]
    have htE : total E' ≤ N := by
      refine Nat.le_trans (total_mono HX2.out.2.2.2.1.gd hT3.1.gd (fun k => ?_)) HX2.out.2.2.2.2.2.1
      rw [hl3]
      exact prune_len keep _
    have hb23 : Below X1.heap.size X2 X3 := hT3.2.2.below HX2.out.2.2.2.2.2.2.size (fun k hk => (HX2.out.2.2.2.1.foot hk).1)
    have hb13 : Below X1.heap.size X1 X3 := HX2.out.2.2.2.2.2.2.trans hb23
    have HX3 := Lib.hid (And.intro (HX1.out.1.below hb13) (And.intro (HX1.out.2.1.below hb13) (And.intro (show Boxed X3 sb 9 (.string tb) from (hb13.block _ HX1.out.2.2.1.lt).trans HX1.out.2.2.1) (And.intro (show Sto X1.heap.size X3 C mc E' c' from hT3.1) (And.intro hlE (And.intro htE hb13))))))
    clear hsw hT3 hl3 hlE htE hb23 hb13 HX2
    have q5 := HX3.out.1.ck.yb.cell
    have q0 := HX3.out.1.ck.new.c0
    have q8 := HX3.out.2.2.1.cell
    have hnone : tbOf Tn tb = none := by
      refine HX3.out.1.miss tb fun hm => ?_
      rw [HTB.out] at hm
      obtain ⟨i2, hi2, he⟩ := List.mem_iff_getElem.1 hm
      rw [List.length_take] at hi2
      rw [List.getElem_take] at he
      have := (List.getElem_inj (h₀ := by omega) (h₁ := hil) HKS.out.2.1).1 he
      omega
    have hup := run_newT HX3.out.1.ck.new.drew.map ⟨tb, C, mc, E', c', tcn⟩ hnone rfl
    refine wpIn_wide.2 ?_
    go_still_tail 6, (by kernel_rfl)
    change wpList _ _ _ _ _ X3.drew
    clear q0 q5 q8
    go_wp2_with fail
    have hd3 : Below X3.heap.size X3 X3.drew := (Below.refl _ _).drew
    have hadd := HX1.out.1.add (X3 := X3.drew) hil HKS.out.2.1 (HX3.out.2.2.2.2.2.2.trans (hd3.mono HX3.out.2.2.2.2.2.2.size)) (HX3.out.2.2.2.1.below hd3) HX3.out.2.2.2.2.1 HX3.out.2.2.2.2.2.1
    rw [← HTB.out] at hadd
    have hmk4 : Marked W.heap.size Ds (setBlock X3.drew (rc + 1) (.map (esOf (ens (Tn ++ [⟨tb, C, mc, E', c', tcn⟩]))) (tcn + 1))) := by
      refine (HX3.out.2.1.below hd3).kept (F := fun k => k = rc + 1) (setBlock_kept (Kept.refl _ _) _ _ (.inl rfl)) (fun D hD e => ?_)
      exact HX3.out.1.ck.new.no_mark (HX3.out.2.1 D hD).2 (by rw [e]; exact .inr (.inl rfl))
    have hsb4 : Boxed (setBlock X3.drew (rc + 1) (.map (esOf (ens (Tn ++ [⟨tb, C, mc, E', c', tcn⟩]))) (tcn + 1))) sb 9 (.string tb) := by
      refine boxed_kept (show Boxed X3.drew sb 9 (.string tb) from HX3.out.2.2.1) (S := fun k => k = rc + 1) (setBlock_kept (Kept.refl _ _) _ _ (.inl rfl)) (fun e => ?_)
      have := HX3.out.1.ck.new.map
      have h2 := HX3.out.2.2.1
      unfold MapAt at this
      rw [← e, show X3.heap[sb]? = _ from h2] at this
      cases this
    have HX4 := Lib.hid (And.intro hadd (And.intro hmk4 hsb4))
    have HTE := Lib.hid (show E'.length ≤ 100000 from Nat.le_trans (len_total (fun e he => (HX3.out.2.2.2.1.rows e he).2.1)) (Nat.le_trans HX3.out.2.2.2.2.2.1 HN.out.2.1))
    have HLE := Lib.hid (And.intro HX3.out.2.2.2.2.1 HX3.out.2.2.2.1.gd)
    have HYS := Lib.hid (show allK E' (ordE E') = ysT T keep tb by
      have h2 := vw_prune (E := t.E) (s := keep) (HE.out.sto t HT.out.1).gd HX3.out.2.2.2.1.gd (by
        rw [HX3.out.2.2.2.2.1, ← HTB.out]
        unfold cont
        rw [HT.out.2])
      unfold ysT
      rw [HT.out.2]
      exact h2)
    clear hadd hmk4 hsb4 hd3 hup hnone HX3
    obtain ⟨Tn', hTn'⟩ : ∃ Tn', Tn' = Tn ++ [⟨tb, C, mc, E', c', tcn⟩] := ⟨_, rfl⟩
    have HTN' := Lib.hid hTn'
    rw [← hTn'] at HX4 ⊢
    clear hTn'
    generalize setBlock X3.drew (rc + 1) (.map (esOf (ens Tn')) (tcn + 1)) = X4 at *
    gi_wp2_with (first
      | (gi_at_call 30; refine (all_in (n - 1) C X4).mono ?_; rintro e X5 ⟨rfl, hc5, hz5, hb5, hko5⟩))
    have HX5 := Lib.hid (And.intro (HX4.out.1.below hb5) (And.intro (HX4.out.2.1.below hb5) (And.intro (show Boxed X5 sb 9 (.string tb) from (hb5.block _ HX4.out.2.2.lt).trans HX4.out.2.2) (And.intro hc5 hz5))))
    have HBB := Lib.hid (show bn < X4.heap.size from HX4.out.1.ck.new.box.lt)
    clear HX4 hc5 hz5 hb5 hko5
    obtain ⟨ba, hba⟩ : ∃ ba, ba = X4.heap.size := ⟨_, rfl⟩
    rw [← hba] at HX5 HBB ⊢
    clear hba
    have hmemT : (⟨tb, C, mc, E', c', tcn⟩ : Tb) ∈ Tn' := by rw [HTN'.out]; exact List.mem_append_right _ (List.mem_singleton.2 rfl)
    have HST := Lib.hid (HX5.out.1.ck.new.sto _ hmemT)
    have hFE : ∀ k, FootE bn (rc + 1) Tn' k → k < X5.heap.size := fun k hk => (HX5.out.1.ck.new.foot hk).2
    have hFC : ∀ k, Foot C mc E' k → k < X5.heap.size := fun k hk => (HST.out.foot hk).2
    have hWX : W.heap.size ≤ X5.heap.size := HX5.out.1.ck.low.size
    have hDs : ∀ D ∈ Ds, D < X5.heap.size := fun D hD => (Array.getElem?_eq_some_iff.1 (HX5.out.2.1 D hD).2).1
    have HFX := Lib.hid (And.intro hFE (And.intro hFC (And.intro hWX (And.intro hDs hmemT))))
    refine rangeG h1 (gf := 48) (lb := #[.pointer (some ⟨ba, 0, none⟩)]) rfl (enters_of Try.func48 (by kernel_rfl) rfl)
      (seqg_all (n - 1) (rc + 1) C mc c' ba E' X5 HST.out HTE.out HX5.out.2.2.2.1 (by rw [HX5.out.2.2.2.2]; exact Nat.lt_succ_self _)) (Below.refl _ _) (fun h k => h.t k)
      (fun W o o' h ho hw => kpF_b hFC (by rw [HX5.out.2.2.2.2]; exact Nat.le_refl _) W _ o o' (Nat.le_succ _) h ho hw) (fun _ => rfl)
      (fun pre X => (∃ dk', CkS T keep N W rc bn y5 s c7 (.slice (some ⟨rg, 0, none⟩) tn rcap) ks (i + 1) (30 + totW T keep (ks.take i) + sumW tb pre) Tn' (tcn + 1) dk' X) ∧ Marked W.heap.size Ds X ∧ Boxed X sb 9 (.string tb))
      (fun pre Y Y' row hs hg hr => ⟨by obtain ⟨dk', h⟩ := hs.1; exact ⟨dk', h.grown hFE hWX hg hr⟩, hs.2.1.kept (grown_kept hg (fun r e => (hr r e).1)) (fun D hD h2 => by have := hDs D hD; omega), boxed_grown hs.2.2 hg (fun r e => (hr r e).2)⟩)
      ⟨⟨dkn, by simpa [sumW] using HX5.out.1⟩, HX5.out.2.1, HX5.out.2.2.1⟩
      (fun x a' X => a' = ckF b keep rc y5 bn s mt w5s (some ⟨rg, 0, none⟩) tn rcap i (fun k => a'.tmps.getD k undef) [] ∧ a'.tmps.getD 8 undef = .pointer (some ⟨sb, 0, none⟩) ∧ a'.tmps.getD 10 undef = .string x.1 ∧ ∃ vb, a'.tmps.getD 11 undef = .pointer (some ⟨vb, 0, none⟩) ∧ X.heap[vb]? = some (.cells #[.int .i64 x.2.1, .string x.2.2.1, .bool x.2.2.2] 72 (0, 0)))
      (fun x a' _ Y Y' row hs hg hr => by obtain ⟨e1, e2, e3, vb, e4, e5⟩ := hs; exact ⟨e1, e2, e3, vb, e4, (grownBy_keeps_cells hg (fun r e => (hr r e).2) e5 rfl).trans e5⟩)
      ?assign ?body ?done
    case assign =>
      rintro l pre ⟨xk, xs, xv, xd⟩ Y Kk hG ⟨⟨dk', hS5⟩, hM5, hB5⟩ hKk
      have HI5 := Lib.hid (And.intro hS5 (And.intro hM5 hB5))
      clear hS5 hM5 hB5 hG
      unfold encA
      gi_wp2_with fail
      have hb : Below Y.heap.size Y (Y.alloc (.cells #[.int .i64 xs, .string xv, .bool xd] 72)) := (Below.refl _ _).alloc (Nat.le_refl _) _
      exact hKk _ _ ((KeepsOthers.alloc _ _).from _) (KpF.below hb (fun k hk => ((HI5.out.1.ck.new.sto _ hmemT).foot hk).2)) ⟨⟨dk', HI5.out.1.below hb⟩, HI5.out.2.1.below hb, HI5.out.2.2.alloc _⟩ ⟨rfl, rfl, rfl, _, rfl, heap_alloc_new Y _⟩
    case body =>
      rintro l pre ⟨xk, xs, xv, xd⟩ a' Y ⟨⟨dk', hS6⟩, hM6, hB6⟩ ⟨ha, h8, h10, vb, h11, hvb⟩ hG
      obtain ⟨u', hu'⟩ : ∃ u', u' = fun k => a'.tmps.getD k undef := ⟨_, rfl⟩
      rw [← hu'] at ha
      have h8' : u' 8 = .pointer (some ⟨sb, 0, none⟩) := by rw [hu']; exact h8
      have h10' : u' 10 = .string xk := by rw [hu']; exact h10
      have h11' : u' 11 = .pointer (some ⟨vb, 0, none⟩) := by rw [hu']; exact h11
      clear hu' h8 h10 h11
      subst ha
      have hxm : (xk, xs, xv, xd) ∈ ysT T keep tb := by rw [← HYS.out]; exact hG.mem (by simp)
      obtain ⟨z1, z2, z3, z4, z5, z6⟩ := HN.out.2.2.2.2.2.small tb _ hxm
      obtain ⟨ns, rfl⟩ : ∃ ns : Nat, xs = (ns : Int) := ⟨xs.toNat, by have : (1 : Int) ≤ xs := z4; omega⟩
      have hfit : Fits dk' 3 ns [(tb, xk, xv, xd)] ∧ (addD dk' 3 ns [(tb, xk, xv, xd)]).size ≤ 30 + totW T keep (ks.take i) + sumW tb (pre ++ [(xk, (ns : Int), xv, xd)]) := by
        have hw : wv tb (xk, (ns : Int), xv, xd) = (recB 3 ns [(tb, xk, xv, xd)]).length + 8 := by
          unfold wv chgV
          rw [Int.toNat_natCast]
        have h1 := sumW_pre (tb := tb) hG
        rw [HYS.out] at h1
        have h2 := sumW_app tb pre [(xk, (ns : Int), xv, xd)]
        have h3 : sumW tb [(xk, (ns : Int), xv, xd)] = wv tb (xk, (ns : Int), xv, xd) := by simp [sumW]
        have h4 := totW_take T keep ks i hil
        rw [← HTB.out] at h4
        have h5 := HN.out.2.2.2.2.2.tot
        rw [← HKS.out.1] at h5
        have h6 := hS6.size
        refine ⟨⟨by omega, by omega⟩, ?_⟩
        rw [addD_size]
        omega
      have HF6 := Lib.hid (And.intro hfit (And.intro (show Small [(tb, xk, xv, xd)] from ⟨by simp, fun y hy => by rw [List.mem_singleton.1 hy]; exact ⟨z1, z2, z3⟩⟩) (show ns < 4611686018427387904 by have : (ns : Int) ≤ 1099511627776 := z5; omega)))
      clear z1 z2 z3 z4 z5 z6 hfit hxm
      have hbY1 : Below Y.heap.size Y (Y.alloc (.cells #[.string tb, .string xk, .string xv, .bool xd] 58)) := (Below.refl _ _).alloc (Nat.le_refl _) _
      have HY1 := Lib.hid (And.intro (hS6.below hbY1) (And.intro (hM6.below hbY1) (And.intro (hB6.alloc (.cells #[.string tb, .string xk, .string xv, .bool xd] 58)) hbY1)))
      have HY0 := Lib.hid (And.intro hS6 (And.intro hM6 hB6))
      have csb := hB6.cell
      have cv0 := Lib.cell_of_heap hvb 0
      have cv1 := Lib.cell_of_heap hvb 1
      have cv2 := Lib.cell_of_heap hvb 2
      have cy := HY1.out.1.ck.yb.cell
      have cw0 : (Y.alloc (.cells #[.string tb, .string xk, .string xv, .bool xd] 58)).cell? ⟨vb, 0, none⟩ = _ := (hbY1.cell (p := ⟨vb, 0, none⟩) (Array.getElem?_eq_some_iff.1 hvb).1).trans cv0
      clear hS6 hM6 hB6 hvb hbY1 hG
      unfold ckF
      rw [h8', h10', h11']
      clear h8' h10' h11'
      gi_wp2_with fail
      have hbY2 : Below (Y.alloc (.cells #[.string tb, .string xk, .string xv, .bool xd] 58)).heap.size (Y.alloc (.cells #[.string tb, .string xk, .string xv, .bool xd] 58)) ((Y.alloc (.cells #[.string tb, .string xk, .string xv, .bool xd] 58)).alloc (.cells #[.string tb, .string xk, .string xv, .bool xd] 58)) := (Below.refl _ _).alloc (Nat.le_refl _) _
      have hck7 := HY1.out.1.below hbY2
      have hch : ChAt ((Y.alloc (.cells #[.string tb, .string xk, .string xv, .bool xd] 58)).alloc (.cells #[.string tb, .string xk, .string xv, .bool xd] 58)) (.slice (some ⟨Y.heap.size + 1, 0, none⟩) 1 1) [(tb, xk, xv, xd)] := by
        have := ChAt.new (Y.alloc (.cells #[.string tb, .string xk, .string xv, .bool xd] 58)) tb xk xv xd 58
        rwa [World.size_alloc] at this
      refine ⟨fun h => (by cases h), (callsIn_wide.2 (append_any (k := 3) (s := ns) (L := [(tb, xk, xv, xd)]) hck7.ck.new ⟨HF6.out.2.2, .inr ⟨.inr rfl, hch, HF6.out.2.1⟩⟩ (by have := HF6.out.1.1.2; omega))).mono ?_⟩
      rintro e X6 h3
      obtain ⟨hfit2, rfl, ht, hkp⟩ := h3.resolve_right (fun h => h.1 HF6.out.1.1)
      have hb02 : Below Y.heap.size Y ((Y.alloc (.cells #[.string tb, .string xk, .string xv, .bool xd] 58)).alloc (.cells #[.string tb, .string xk, .string xv, .bool xd] 58)) := HY1.out.2.2.2.trans (hbY2.mono HY1.out.2.2.2.size)
      have H9 := Lib.hid (And.intro ((ETurn.same HY0.out.1.ck.new hb02).trans ht) (Kept.trans (S := fun j => j = bn) (T := fun j => j = bn) ⟨hb02.os, hb02.tape, hb02.output, hb02.size, fun k hk _ => hb02.block k hk⟩ hkp (fun k hk => .inl hk)))
      clear hbY2 hck7 hch h3 hfit2 ht hkp hb02
      gi_wp2_with fail
      have hbnb : bn < ba := HBB.out
      have hx5 : X5.heap.size = ba + 1 := HX5.out.2.2.2.2
      refine ⟨⟨H9.out.2.size, fun k o hk hko ho => (H9.out.2.block k (Array.getElem?_eq_some_iff.1 hko).1 (by omega)).trans hko⟩, ⟨⟨H9.out.2.os, H9.out.2.tape, H9.out.2.output, H9.out.2.size, fun k hk => H9.out.2.block k ((HY0.out.1.ck.new.sto _ hmemT).foot hk).2 (HY0.out.1.ck.new.off _ hmemT k hk).1⟩, fun k cs fr hk hko => (H9.out.2.block k (Array.getElem?_eq_some_iff.1 hko).1 (by omega)).trans hko, fun k h2 h3 h4 => H9.out.2.block k h4 (by omega)⟩, ⟨_, HY0.out.1.app H9.out.1 HF6.out.1.2⟩, HY0.out.2.1.kept H9.out.2 (fun D hD e => HY0.out.1.ck.new.no_mark (HY0.out.2.1 D hD).2 (.inl e)), boxed_kept HY0.out.2.2 H9.out.2 (fun e => ?_)⟩
      have h2 := HY0.out.2.2.cell
      have h3 := HY0.out.1.ck.new.c0
      rw [← e, h2] at h3
      cases h3
    case done =>
      rintro D ys Y hD rfl ⟨⟨dk', hS8⟩, hM8, hB8⟩ hKD
      have H8 := Lib.hid (And.intro hS8 (And.intro hM8 (And.intro hKD hD)))
      clear hS8 hM8 hB8 hKD hD
      gi_wp2_with fail
      refine Handed.intro (tn - (i + 1)) (by omega) (hJ _ _ _ ⟨i + 1, D :: Ds, Tn', tcn + 1, dk', rfl, by omega, rfl, H8.out.1.mono (Nat.le_of_eq ?_), fun D' hD' => ?_, List.nodup_cons.2 ⟨fun hm => by have h2 := HFX.out.2.2.2.1 D hm; have h3 := H8.out.2.2.2; omega, HS.out.2.2⟩⟩)
      · rw [HYS.out, HTB.out]
        have h4 := (totW_take T keep ks i hil).1
        omega
      · rcases List.mem_cons.1 hD' with rfl | hm
        · exact ⟨Nat.le_trans HFX.out.2.2.1 H8.out.2.2.2, H8.out.2.2.1⟩
        · exact H8.out.2.1 D' hm
  · have hin : i = tn := by omega
    subst hin
    gi_wp2_with fail
    have q5 := HS.out.1.ck.yb.cell
    have q2 := HS.out.1.ck.new.c2
    have q3 := HS.out.1.ck.new.fr 3
    have q4 := HS.out.1.ck.new.c3
    refine wpIn_wide.2 ?_
    go_still_tail 8, (by kernel_rfl)
    change wpList _ _ _ _ _ X.drew
    go_wp2_with fail
    have hd8 : Below X.heap.size X X.drew := (Below.refl _ _).drew
    have h24 := (ETurn.same HS.out.1.ck.new hd8).setSync (dkn.size) (.inl rfl)
    have h24' : ETurn (rc + 1) bn (FootE bn (rc + 1) Tn) X (X.setCell ⟨bn, 3, none⟩ (.int .i64 dkn.size)).drew (rc + 1) Tn tcn s dkn dkn.size := h24
    have hX24 : rc + 1 ≤ X.heap.size := by have := HS.out.1.ck.rb.lt; omega
    have hl24 : Below W.heap.size W (X.setCell ⟨bn, 3, none⟩ (.int .i64 dkn.size)).drew := HS.out.1.ck.low.trans ((h24'.low hX24 (fun k hk => (HS.out.1.ck.new.foot hk).1)).mono (by have := HRC.out; omega))
    have H24 := Lib.hid (And.intro h24' (And.intro (boxed_kept HS.out.1.ck.yb h24'.kept HS.out.1.ck.yF) (And.intro (boxed_kept HS.out.1.ck.rb h24'.kept (fun hf => by have := (HS.out.1.ck.new.foot hf).1; omega)) (And.intro hl24 (HS.out.2.1.kept h24'.kept (fun D hD hf => HS.out.1.ck.new.no_mark (HS.out.2.1 D hD).2 hf))))))
    clear hd8 h24 h24' hX24 hl24 q2 q3 q4 q5
    generalize (X.setCell ⟨bn, 3, none⟩ (.int .i64 dkn.size)).drew = X24 at *
    have HE24 := Lib.hid (HE.out.below H24.out.2.2.2.1)
    have q5 := H24.out.2.1.cell
    have k0 := H24.out.1.egs.c0
    have k1 := H24.out.1.egs.c1
    have k2 := H24.out.1.egs.c2
    have k3 := H24.out.1.egs.c3
    have e0 := HE24.out.c0
    have e1 := HE24.out.c1
    have e2 := HE24.out.c2
    have e3 := HE24.out.c3
    have f0 := HE24.out.fr 0
    have f1 := HE24.out.fr 1
    have f2 := HE24.out.fr 2
    have f3 := HE24.out.fr 3
    have hbr : b ≠ rc := by have := HE.out.box.lt; have := HRC.out; omega
    have cr : ((((X24.setCell ⟨b, 0, none⟩ (.map (some (rc + 1)))).setCell ⟨b, 1, none⟩ (.int .i64 s)).setCell ⟨b, 2, none⟩ (.string dkn)).setCell ⟨b, 3, none⟩ (.int .i64 dkn.size)).cell? ⟨rc, 0, none⟩ = some (.int .i64 0) := by
      rw [World.cell?_setCell_far _ _ _ _ hbr, World.cell?_setCell_far _ _ _ _ hbr, World.cell?_setCell_far _ _ _ _ hbr, World.cell?_setCell_far _ _ _ _ hbr]
      exact H24.out.2.2.1.cell
    have fr := H24.out.2.2.1.frozen
    gi_wp2_with fail
    clear q5 k0 k1 k2 k3 e0 e1 e2 e3 f0 f1 f2 f3 cr fr
    obtain ⟨X26, h26⟩ : ∃ X26, X26 = ((((X24.setCell ⟨b, 0, none⟩ (.map (some (rc + 1)))).setCell ⟨b, 1, none⟩ (.int .i64 s)).setCell ⟨b, 2, none⟩ (.string dkn)).setCell ⟨b, 3, none⟩ (.int .i64 dkn.size)).setCell ⟨rc, 0, none⟩ (.int .i64 0) := ⟨_, rfl⟩
    rw [← h26]
    obtain ⟨k26, x26, r26⟩ := ck_stores HE24.out hbr H24.out.2.2.2.2 H24.out.2.2.1 h26
    have m26 : Marked W.heap.size Ds X26 := H24.out.2.2.2.2.kept k26 (fun D hD => by
      rintro (rfl | rfl)
      · exact HE24.out.no_mark (H24.out.2.2.2.2 _ hD).2 (.inl rfl)
      · have h2 := (H24.out.2.2.2.2 _ hD).2
        rw [show X24.heap[D]? = _ from H24.out.2.2.1] at h2
        cases h2)
    clear h26
    refine leaves_marks Ds W.heap.size X26 HS.out.2.2 m26 fun W' hk hb => ?_
    have hkk : Kept (fun k => k ∈ Ds) X26 W' := ⟨hb.os, hb.tape, hb.output, hb.size, fun k _ h2 => hk k h2⟩
    have hnb : b ∉ Ds := fun hm => by have := (H24.out.2.2.2.2 _ hm).1; have := HE.out.box.lt; omega
    have hnr : rc ∉ Ds := fun hm => by
      have h2 := (H24.out.2.2.2.2 _ hm).2
      rw [show X24.heap[rc]? = _ from H24.out.2.2.1] at h2
      cases h2
    have rW : W'.cell? ⟨rc, 0, none⟩ = some (.int .i64 0) := (boxed_kept r26 hkk hnr).cell
    refine ⟨.int .i64 0, by simp [results, Try.results16, go_sem, rW], rfl, ?_⟩
    have kW : Kept (fun k => k = b ∨ k = rc ∨ k ∈ Ds) X24 W' := Kept.trans (S := fun k => k = b ∨ k = rc ∨ k ∈ Ds) ⟨k26.os, k26.tape, k26.output, k26.size, fun k h hs => k26.block k h (fun e => hs (e.elim .inl (fun e => .inr (.inl e))))⟩ hkk (fun k hk => .inl (.inr (.inr hk)))
    have xW : Box W' b [.map (some (rc + 1)), .int .i64 s, .string dkn, .int .i64 dkn.size] := by
      have e := hkk.block b x26.lt hnb
      exact ⟨fun j v hv => (World.cell?_of_block (a := ⟨b, 0 + j, none⟩) e).trans (x26.rng j v hv), fun o => (World.frozen?_of_block (a := ⟨b, o, none⟩) e).trans (x26.free o), Nat.lt_of_lt_of_le x26.lt hkk.size⟩
    have hS2 := HS.out.1
    have htk : ks.take i = ks := by rw [HTN.out, List.take_length]
    rw [htk] at hS2
    have hM : 30 + totW T keep ks ≤ 16777216 := by have := HN.out.2.2.2.2.2.tot; rw [← HKS.out.1] at this; omega
    rw [HTN.out] at hS2
    exact ck_end HE.out HN.out.2.2.1 HN.out.1 hS2 HKS.out.2.2 (by rw [HKS.out.1, (sortB_perm _).length_eq, List.length_map]) hM H24.out.1 H24.out.2.2.2.1 H24.out.2.2.2.2 kW xW
end Go.Proofs.Ytpcjmceakelilaa
/- Engine: the law's 'scan'. -/
namespace Go.Proofs.Ytpcjmceakelilaa
open Go.ChangeShapes Go.WideShapes Go.ChangeAt Go.RowKit Go.Deep Go.ChangeMaps Go.Shelf Go.Sort
set_option linter.unusedVariables false
set_option linter.unusedSimpArgs false
attribute [local go_sem] Oper.semAt_some
attribute [local go_sem, local simp] wide_fn
attribute [local go_sem] eql69
def ScanOut (L : List (Bs × Bs)) (w : World) (e : Ending) (W' : World) : Prop :=
  ∃ v, e = .returned v ∧ W'.ownsRow w.heap.size 51 2 v L.length (prS L) ∧ Below w.heap.size w W'
def ExB (T : TypeId) : Prop := T = 29 ∨ T = 51
theorem exB : ExOK ExB := by
  refine ⟨?_, ?_, ?_, ?_, ?_⟩ <;> (rintro (h | h) <;> cases h)
theorem kpo_app {n₀ c c' B : Nat} {t e : TypeId} {Ex : TypeId → Prop} {size k : Nat} {v u : Value} {xs : List Value} {W w1 : World} {tmp : Obj} (hv : Boxed W B t v) (hrow : W.ownsRow c e size v k xs) (hg : (W.alloc tmp).grownBy w1 v.ownBlock) (ht : Ex t) (he : Ex e) (hn : n₀ ≤ B) (hnc : n₀ ≤ c) (hk : KeepsFrom c' W (w1.setCell ⟨B, 0, none⟩ u)) :
    KpO n₀ c' Ex W (w1.setCell ⟨B, 0, none⟩ u) := by
  have hlt := hv.lt
  have hal : ∀ i, i < W.heap.size → (W.alloc tmp).heap[i]? = W.heap[i]? := fun i hi => heap_alloc_old W tmp hi
  have hown := hrow.lt
  have key : ∀ i, i < W.heap.size → i ≠ B → v.ownBlock ≠ some i → (w1.setCell ⟨B, 0, none⟩ u).heap[i]? = W.heap[i]? := fun i hi hiB hio => by
    show (w1.heap.modify B _)[i]? = _
    rw [Array.getElem?_modify, if_neg (fun e => hiB e.symm)]
    exact (hg.block i (by rw [World.size_alloc]; omega) (fun e => hio e.symm)).trans (hal i hi)
  have hsz : W.heap.size ≤ w1.heap.size := Nat.le_trans (by rw [World.size_alloc]; omega) hg.size
  refine ⟨⟨hg.os, hg.tape, hg.output, by show W.heap.size ≤ (w1.heap.modify B _).size; rw [Array.size_modify]; exact hsz, fun i hi => key i (by omega) (by omega) (fun e => by have := (hown i e).1; omega)⟩, fun i cs T fr hi hT => ?_, hk⟩
  have hil := (Array.getElem?_eq_some_iff.1 hi).1
  rw [key i hil (fun e2 => ?_) (fun e2 => ?_)]
  · exact hi
  · rw [e2, show W.heap[B]? = _ from hv] at hi
    cases hi
    exact hT ht
  · rcases hrow.2 with ⟨rfl, _⟩ | ⟨g, cap, cur, rfl, _, hb2, _⟩
    · simp [Value.ownBlock] at e2
    · have : g = i := by simpa [Value.ownBlock] using e2
      subst this
      rw [hb2] at hi
      cases hi
      exact hT he
set_option maxRecDepth 100000 in
set_option maxHeartbeats 3200000 in
theorem scan_law_in (n B be mt tc : Nat) (T : List Tb) (st sy : Int) (dk : Bs) (tb lo hi : Bs) (t : Int) (back : Bool) (w : World) (h : Egs B w be mt T tc st dk sy) (hT : ∀ u ∈ T, u.E.length ≤ 100000) (h1 : 2 ≤ n) (hL : (scanO (tbOf T tb) lo hi t back).length ≤ 100000) :
    CallsIn Fence.wide n Try.prog 11 #[.pointer (some ⟨be, 0, none⟩), .string tb, .string lo, .string hi, .int .i64 t, .bool back] w (ScanOut (scanO (tbOf T tb) lo hi t back) w) := by
  have HH := Lib.hid h
  have h1' : 1 ≤ n := by omega
  have hro : Fence.wide.round = none := rfl
  obtain ⟨i0, hi0, hz0, hz1, hz2⟩ := info_parts infoB
  clear h
  refine callsIn_of_wp_marks Try.func11 rfl trivial ?_ rfl
  simp only [Try.ntmps11, List.size_toArray, List.length_cons, List.length_nil, Nat.reduceAdd, Nat.reduceSub, Array.replicate_succ, Array.replicate_zero, List.push_toArray, List.append_toArray, List.nil_append, List.cons_append]
  gi_wp2_with (gi_at_call 20; refine (callsIn_wide.2 (eseekP _ _ _ _ _ _ _)).mono ?_; rintro e w' ⟨rfl, hcb, hsz, hbl⟩)

  have hsz2 : w'.heap.size = w.heap.size + 7 := by rw [hsz]; simp
  have hbl0 : Below w.heap.size w w' := ((Below.refl _ w).alloc (Nat.le_refl _) _).trans (hbl.mono (by simp))
  have bO : Boxed w' w.heap.size 29 (.slice none 0 0) := (hbl.block _ (by simp)).trans (Boxed.new w 29 (.slice none 0 0))
  have hcb2 : EBox w' (w.heap.size + 1) (.pointer (some ⟨be, 0, none⟩)) tb lo hi t back := by simpa using hcb
  have hst := escan_seq (n - 1) w.heap.size (w'.heap.size + 2) (w.heap.size + 1) B be mt tc T st sy dk tb lo hi t back ExB exB w' (HH.out.below hbl0) (fun k hk => (HH.out.foot hk).2) hbl0.size (Nat.le_refl _) hT hcb2 (by omega) (by omega)
  clear hcb hsz hbl hcb2
  refine rangeO (by omega) (gf := 32) (lb := #[.pointer (some ⟨w.heap.size + 1, 0, none⟩), .pointer (some ⟨w.heap.size + 2, 0, none⟩), .pointer (some ⟨w.heap.size + 3, 0, none⟩), .pointer (some ⟨w.heap.size + 4, 0, none⟩), .pointer (some ⟨w.heap.size + 5, 0, none⟩), .pointer (some ⟨w.heap.size + 6, 0, none⟩)]) rfl (enters_of Try.func32 (by kernel_rfl) rfl)
    hst (Below.refl _ _) (fun h k => h.t k) (fun W => ⟨Below.refl _ _, fun _ _ _ _ h _ => h, KeepsFrom.refl _ _⟩) (fun W o o' h ho hw => KpO.put (by omega) (by omega) h ho) (fun _ => rfl)
    (fun pre W => (∃ v, Boxed W w.heap.size 29 v ∧ W.ownsRow (w.heap.size + 7) 51 2 v pre.length (prS pre) ∧ True) ∧ Below w.heap.size w' W)
    (OwnFrom.and (Own.from (holdsRow_own (β := List (Bs × Bs)) (w.heap.size + 7) w.heap.size 29 51 2 (fun pre => pre.length) prS (fun _ _ => True)) _) (ownFrom_below (by omega) (by omega)))
    ⟨⟨_, bO, World.ownsRow_nil _ _ _ _, trivial⟩, Below.refl _ _⟩
    (fun x => { tmps := #[.pointer (some ⟨be, 0, none⟩), .string tb, .string lo, .string hi, .int .i64 t, .bool back, undef, undef, undef, undef, undef, undef, .slice none 0 0, .pointer (some ⟨w.heap.size, 0, none⟩), (.func (.func 32) #[] #[.pointer (some ⟨w.heap.size + 1, 0, none⟩), .pointer (some ⟨w.heap.size + 2, 0, none⟩), .pointer (some ⟨w.heap.size + 3, 0, none⟩), .pointer (some ⟨w.heap.size + 4, 0, none⟩), .pointer (some ⟨w.heap.size + 5, 0, none⟩), .pointer (some ⟨w.heap.size + 6, 0, none⟩)]), .string x.1, .string x.2, .pointer (some ⟨be, 0, none⟩), .string tb, .string lo, .string hi, .int .i64 t, .bool back, (.func (.func 32) #[] #[.pointer (some ⟨w.heap.size + 1, 0, none⟩), .pointer (some ⟨w.heap.size + 2, 0, none⟩), .pointer (some ⟨w.heap.size + 3, 0, none⟩), .pointer (some ⟨w.heap.size + 4, 0, none⟩), .pointer (some ⟨w.heap.size + 5, 0, none⟩), .pointer (some ⟨w.heap.size + 6, 0, none⟩)]), (.func (.func 32) #[] #[.pointer (some ⟨w.heap.size + 1, 0, none⟩), .pointer (some ⟨w.heap.size + 2, 0, none⟩), .pointer (some ⟨w.heap.size + 3, 0, none⟩), .pointer (some ⟨w.heap.size + 4, 0, none⟩), .pointer (some ⟨w.heap.size + 5, 0, none⟩), .pointer (some ⟨w.heap.size + 6, 0, none⟩)]), .bool false, undef, undef, (.func (.func 32) #[] #[.pointer (some ⟨w.heap.size + 1, 0, none⟩), .pointer (some ⟨w.heap.size + 2, 0, none⟩), .pointer (some ⟨w.heap.size + 3, 0, none⟩), .pointer (some ⟨w.heap.size + 4, 0, none⟩), .pointer (some ⟨w.heap.size + 5, 0, none⟩), .pointer (some ⟨w.heap.size + 6, 0, none⟩)]), .string x.1, .string x.2, undef, undef, undef, undef, undef, undef, undef], defers := [] })
    ?assign ?body ?done
  case assign =>
    rintro l pre ⟨k, s⟩ W K hlt hK
    unfold encP
    gi_wp2
    exact hK
  case body =>
    rintro l pre ⟨k, s⟩ W ⟨⟨v, hv, hrow, _⟩, hB⟩ hlt
    have hc := hv.cell
    have hl63 : pre.length ≤ 100000 := by omega
    obtain ⟨va, vc, rfl⟩ : ∃ a c, v = .slice a pre.length c := by
      rcases hrow.2 with ⟨rfl, h0⟩ | ⟨g, cap, cur, rfl, _⟩
      · exact ⟨none, 0, by rw [h0]⟩
      · exact ⟨_, _, rfl⟩
    have hrow0 := own_base hrow (show w.heap.size ≤ w.heap.size + 7 by omega)
    gi_wp2_with (gi_at_builtin; refine wpListIn_append_own _ rfl _ _ 29 rfl (w.heap.size + 7) 51 i0 (.agg #[.string ⟨#[]⟩, .string ⟨#[]⟩]) 2 32 Try.underlying29 hi0 hz0 hz1 hz2 rfl (by decide) _ _ _ rfl (World.ownsRow.alloc hrow _) ⟨W.heap.size, 0, none⟩ 1 1 [.string k, .string s] rfl rfl (two_cells_new _ _ _ _) (by simp [Value.oneCell']) (by unfold maxLen; omega) (by omega) (by have := hB.size; simp; omega) ?_; intro v' w1 hown' hgrow _; obtain ⟨g', cap', rfl⟩ := ownsRow_succ hown'; obtain ⟨hv1, hv2, hr2, hk2, hb2⟩ := hv.appended (by decide) hrow0 (by have := hB.size; omega) (Nat.le_refl _) (own_base hown' (show w.heap.size ≤ w.heap.size + 7 by omega)) hgrow; have hc1 := hv1.cell; have hf1 := hv1.frozen)
    have hkp := kpo_app (n₀ := w.heap.size) (c' := w'.heap.size + 2) (Ex := ExB) (u := .slice (some ⟨g', 0, none⟩) (pre.length + 1) cap') hv hrow hgrow (.inl rfl) (.inr rfl) (Nat.le_refl _) (by omega) (hk2.from _)
    refine ⟨hk2.from _, hkp, ⟨⟨_, hv2, ?_⟩, hB.trans hb2⟩⟩
    rw [prS_snoc, List.length_append]
    exact ⟨hown'.kept (grownBy_setCell' w1 w.heap.size _) (.inr (hv1.not_row (by decide) hown').symm), trivial⟩
  case done =>
    rintro D ys W hD rfl ⟨⟨v, hv, hrow, _⟩, hB⟩ hK
    have hc := hv.cell
    gi_wp2
    refine ⟨by simp, .inl ⟨_, _, rfl, run_takeDeferred hK, ?_⟩⟩
    exact ⟨_, results_tmp rfl _ _ _, v, rfl, ownsRow_putObj (own_base hrow (show w.heap.size ≤ w.heap.size + 7 by omega)) _ hK rfl, hbl0.trans (hB.trans (belowK_b (w := w) (Nat.le_refl _) W D _ _ (by omega) hK rfl rfl))⟩
end Go.Proofs.Ytpcjmceakelilaa
/- Engine: the law's 'same', of equal rows. -/
namespace Go.Proofs.Ytpcjmceakelilaa
open Go.ChangeShapes Go.WideShapes Go.ChangeAt Go.RowKit Go.Deep Go.ChangeMaps Go.Shelf Go.Sort
set_option linter.unusedVariables false
set_option linter.unusedSimpArgs false
theorem und3' : Try.prog.underlying 3 = some (.int .i64) := by kernel_rfl
theorem und4' : Try.prog.underlying 4 = some .bool := by kernel_rfl
theorem und45' : Try.prog.underlying 51 = some (.array 2 9) := by kernel_rfl
theorem cells9 : Try.prog.cellsOf 9 = 1 := by kernel_rfl
theorem pk {v : Bool} {a c : Bs} : (a.toList == c.toList) = decide (a = c) := by
  rw [ByteArray.toList_eq, ByteArray.toList_eq]
  obtain ⟨⟨x⟩⟩ := a
  obtain ⟨⟨y⟩⟩ := c
  by_cases h : x = y
  · subst h; simp
  · have h2 : ¬ (ByteArray.mk ⟨x⟩ = ByteArray.mk ⟨y⟩) := fun e => h (by cases e; rfl)
    rw [decide_eq_false h2]
    simpa using h
theorem dec2 (x y : Bs × Bs) : (decide (x.1 = y.1) && decide (x.2 = y.2)) = decide (x = y) := by
  obtain ⟨a, b⟩ := x
  obtain ⟨c, d⟩ := y
  by_cases h1 : a = c <;> by_cases h2 : b = d <;> simp [h1, h2]
theorem eq45 (a b c e : Bs) (w : World) : (Op.equalIn 10000 51 (.agg #[.string a, .string b]) (.agg #[.string c, .string e])).run Try.prog w = .ok (decide (a = c) && decide (b = e)) w := by
  have hi : ∃ i, Try.prog.info? 9 = some i := info_of_underlying und9'
  obtain ⟨i, hi⟩ := hi
  rw [run_equalIn_array w 9999 _ _ und45' hi, cells9]
  have p0 : (part 9 #[.string a, .string b] 0).run Try.prog w = .ok (.string a) w := run_part_plain w key9 rfl
  have p1 : (part 9 #[.string a, .string b] 1).run Try.prog w = .ok (.string b) w := run_part_plain w key9 rfl
  have q0 : (part 9 #[.string c, .string e] 0).run Try.prog w = .ok (.string c) w := run_part_plain w key9 rfl
  have q1 : (part 9 #[.string c, .string e] 1).run Try.prog w = .ok (.string e) w := run_part_plain w key9 rfl
  have e1 := run_equalIn_string w 9998 9 a c und9'
  have e2 := run_equalIn_string w 9998 9 b e und9'
  rw [pk (v := true)] at e1 e2
  show (Op.eqItems 9999 9 1 #[.string a, .string b] #[.string c, .string e] [0, 1]).run Try.prog w = _
  simp only [Op.eqItems, Sem.run_bind, Nat.zero_mul, Nat.one_mul, p0, q0, p1, q1, Result.andThen_ok, e1, e2]
  cases h1 : decide (a = c) <;> cases h2 : decide (b = e) <;> simp [e1, e2, h1, h2, p1, q1]
attribute [local go_sem] eq45
def RowS (W : World) (v : Value) (L : List (Bs × Bs)) : Prop := ∃ a c, v = .slice a L.length c ∧ L.length ≤ 9223372036854775807 ∧ (0 < L.length → ∃ g, a = some ⟨g, 0, none⟩ ∧ L.length ≤ c ∧ c ≤ 9223372036854775807 ∧ g < W.heap.size ∧ ∀ j (h : j < L.length), W.cell? ⟨g, j * 2, none⟩ = some (.string L[j].1) ∧ W.cell? ⟨g, j * 2 + 1, none⟩ = some (.string L[j].2))
theorem prS_at : ∀ (L : List (Bs × Bs)) (j : Nat) (h : j < L.length), (prS L)[j * 2]? = some (.string L[j].1) ∧ (prS L)[j * 2 + 1]? = some (.string L[j].2)
  | x :: L, 0, _ => ⟨rfl, rfl⟩
  | x :: L, j + 1, h => by
    have := prS_at L j (by simpa using h)
    have e : prS (x :: L) = .string x.1 :: .string x.2 :: prS L := rfl
    rw [e, show (j + 1) * 2 = j * 2 + 1 + 1 by omega]
    simpa using this
theorem rowS_of {B : Nat} {W : World} {v : Value} {L : List (Bs × Bs)} (h : W.ownsRow B 51 2 v L.length (prS L)) : RowS W v L := by
  rcases h.2 with ⟨hv, h0⟩ | ⟨g, c, cur, rfl, h1, h2, h3, h4, _⟩
  · exact ⟨none, 0, by rw [hv, h0], by omega, fun hp => by omega⟩
  · refine ⟨_, c, rfl, by unfold maxLen at h4; omega, fun _ => ⟨g, rfl, h3, by unfold maxLen at h4; omega, (Array.getElem?_eq_some_iff.1 h2).1, fun j hj => ?_⟩⟩
    rw [h.cellAt (j * 2) (by omega), h.cellAt (j * 2 + 1) (by omega)]
    exact prS_at L j hj
theorem RowS.below {W W' : World} {v : Value} {L : List (Bs × Bs)} (h : RowS W v L) (hb : Below W.heap.size W W') : RowS W' v L := by
  obtain ⟨a, c, h1, h2, h3⟩ := h
  refine ⟨a, c, h1, h2, fun h0 => ?_⟩
  obtain ⟨g, e, g1, g2, g3, g4⟩ := h3 h0
  exact ⟨g, e, g1, g2, Nat.lt_of_lt_of_le g3 hb.size, fun j hj => ⟨(hb.cell (p := ⟨g, j * 2, none⟩) g3).trans (g4 j hj).1, (hb.cell (p := ⟨g, j * 2 + 1, none⟩) g3).trans (g4 j hj).2⟩⟩
attribute [local go_sem] Oper.semAt_some
attribute [local go_sem, local simp] wide_fn
set_option maxRecDepth 100000 in
set_option maxHeartbeats 1600000 in
theorem same_any (v u : Value) (L : List (Bs × Bs)) (W : World) (h1 : RowS W v L) (h2 : RowS W u L) :
    Calls Try.prog 15 #[v, u] W fun e W' => e = .returned (.bool true) ∧ Below W.heap.size W W' := by
  obtain ⟨a, c, rfl, hL, hc⟩ := h1
  obtain ⟨b, d, rfl, hM, hd⟩ := h2
  have HC := Lib.hid (And.intro hc hd)
  clear hc hd
  obtain ⟨n, hn⟩ : ∃ n, n = L.length := ⟨_, rfl⟩
  rw [← hn]
  rw [← hn] at hL hM
  have HN := Lib.hid hn
  clear hn
  go_enter Try.func15, Try.ntmps15
  go_wp2_with fail
  go_loopw [13] (fun i wr => ∃ j q : Nat, i = .int .i64 j ∧ j ≤ n ∧ wr = W.drewN q) (fun i wr => n - iv i)
  case atStart => exact ⟨0, 0, rfl, Nat.zero_le _, rfl⟩
  case round =>
    obtain ⟨j, q, rfl, hj, rfl⟩ := hrel
    by_cases hlast : j = n
    · subst hlast
      go_wp2_with fail
      go_ret
      exact ⟨rfl, rfl, rfl, rfl, Nat.le_refl _, fun _ _ => rfl⟩
    · have hjn : j < n := by omega
      obtain ⟨g, rfl, g1, g2, g3, g4⟩ := HC.out.1 (by rw [← HN.out]; omega)
      obtain ⟨k, rfl, k1, k2, k3, k4⟩ := HC.out.2 (by rw [← HN.out]; omega)
      have hjL : j < L.length := by rw [← HN.out]; exact hjn
      rw [← HN.out] at g1 k1
      obtain ⟨c0, c1⟩ := g4 j hjL
      obtain ⟨d0, d1⟩ := k4 j hjL
      have hw1 : IntKind.i64.wrap ((j : Int) + 1) = ((j + 1 : Nat) : Int) := by rw [IntKind.wrap_i64]; omega
      clear g4 k4 hlast
      generalize L[j] = x at *
      have t1 : (decide (x.1 = x.1) && decide (x.2 = x.2)) = true := by simp
      go_wp2_with fail
      go_quiet (fail)
      go_wp2_with fail
      go_roundw
      case rel => exact ⟨j + 1, _, by first | rfl | (push_cast; rfl), hjn, rfl⟩
      case measure => show n - (((j + 1 : Nat) : Int).toNat) < n - ((j : Int)).toNat; omega
end Go.Proofs.Ytpcjmceakelilaa
/- Engine: calls that came in. -/
namespace Go.Proofs.Ytpcjmceakelilaa
open Go.ChangeShapes Go.WideShapes Go.ChangeAt Go.RowKit Go.ChangeMaps Go.Deep Go.Shelf Go.Sort
set_option linter.unusedVariables false
set_option linter.unusedSimpArgs false
theorem addr_plain {w : World} {a : Addr} {v : Value} (h : w.cell? (a.add 0) = some v) : ∃ B o, a = ⟨B, o, none⟩ := by
  have e : a.add 0 = a := by simp [Addr.add]
  rw [e] at h
  obtain ⟨B, o, s⟩ := a
  cases s with
  | none => exact ⟨B, o, rfl⟩
  | some s =>
    unfold World.cell? at h
    split at h
    · simp at h
    · simp at h
/-- changes that came in -/
def ChsArg (w : World) (v : Value) (L : List Chg) : Prop :=
  ∃ a c, v = .slice a L.length c ∧ (0 < L.length → ∃ B o, a = some ⟨B, o, none⟩ ∧ B < w.heap.size ∧ ∀ j (h : j < L.length), w.cell? ⟨B, o + j * 4, none⟩ = some (.string L[j].1) ∧ w.cell? ⟨B, o + j * 4 + 1, none⟩ = some (.string L[j].2.1) ∧ w.cell? ⟨B, o + j * 4 + 2, none⟩ = some (.string L[j].2.2.1) ∧ w.cell? ⟨B, o + j * 4 + 3, none⟩ = some (.bool L[j].2.2.2))
theorem ChsArg.below {w w' : World} {v : Value} {L : List Chg} (h : ChsArg w v L) (hb : Below w.heap.size w w') : ChsArg w' v L := by
  obtain ⟨a, c, rfl, h⟩ := h
  refine ⟨a, c, rfl, fun h0 => ?_⟩
  obtain ⟨B, o, h1, h2, h3⟩ := h h0
  exact ⟨B, o, h1, Nat.lt_of_lt_of_le h2 hb.size, fun j hj => ⟨(hb.cell (p := ⟨B, o + j * 4, none⟩) h2).trans (h3 j hj).1, (hb.cell (p := ⟨B, o + j * 4 + 1, none⟩) h2).trans (h3 j hj).2.1, (hb.cell (p := ⟨B, o + j * 4 + 2, none⟩) h2).trans (h3 j hj).2.2.1, (hb.cell (p := ⟨B, o + j * 4 + 3, none⟩) h2).trans (h3 j hj).2.2.2⟩⟩
def chl (x : Chg) : List Value := [.string x.1, .string x.2.1, .string x.2.2.1, .bool x.2.2.2]
set_option maxRecDepth 100000 in
theorem ch_of_trod {H : Type} {enc : TypeId × Value → H} {w : World} {fuel : Nat} {cs : List Value} {x : DataW H × List MemPlace} {base : Nat} {spare : Nat → Bool} {held : Bool} (h : DataW.trod enc Try.prog w base spare held fuel 57 cs = some x) : ∃ s, cs = chl s := by
  obtain ⟨xs, n', _, _, hl, hxs, hf⟩ := DataW.trod_struct Try.underlying57 h
  have hc : Try.prog.cellsOf 57 = 4 := by kernel_rfl
  rw [hc] at hl
  have hx5 : xs.length = 4 := hxs
  have h0 := hf 0 { name := "Table", type := 9, offset := 0, embedded := false, tag := "", pkgPath := "", byteOffset := 0 } rfl
  have h1 := hf 1 { name := "Key", type := 9, offset := 1, embedded := false, tag := "", pkgPath := "", byteOffset := 16 } rfl
  have h2 := hf 2 { name := "Value", type := 9, offset := 2, embedded := false, tag := "", pkgPath := "", byteOffset := 32 } rfl
  have h4 := hf 3 { name := "Delete", type := 4, offset := 3, embedded := false, tag := "", pkgPath := "", byteOffset := 48 } rfl
  rw [List.getElem?_eq_getElem (by omega)] at h0 h1 h2 h4
  have e4 : Try.prog.cellsOf 4 = 1 := by kernel_rfl
  have e9 : Try.prog.cellsOf 9 = 1 := by kernel_rfl
  dsimp only at h0 h1 h2 h4
  rw [e4] at h4
  rw [e9] at h0 h1 h2
  obtain ⟨t, ht, _⟩ := DataW.trod_string Try.underlying9 h0
  obtain ⟨s, hs, _⟩ := DataW.trod_string Try.underlying9 h1
  obtain ⟨u, hu, _⟩ := DataW.trod_string Try.underlying9 h2
  obtain ⟨z, hz, _⟩ := DataW.trod_bool Try.underlying4 h4
  match cs, hl with
  | [a, b, c, d], _ =>
    simp at ht hs hu hz
    exact ⟨⟨t, s, u, z⟩, by rw [ht, hs, hu, hz]; rfl⟩
set_option maxRecDepth 100000 in
theorem chs_of_trod {H : Type} {enc : TypeId × Value → H} {w : World} {fuel : Nat} {v : Value} {x : DataW H × List MemPlace} {spare : Nat → Bool} {held : Bool} (h : DataW.trod enc Try.prog w 0 spare held fuel 23 [v] = some x) : ∃ ss, ChsArg w v ss := by
  rcases DataW.trod_slice Try.underlying23 h with ⟨hcs, hx⟩ | ⟨a, len0, cap, el, re, n, _, hcs, hx, _, hl, hm, hel, hi, _⟩
  · simp at hcs
    subst hcs
    exact ⟨[], ⟨none, 0, rfl, fun h => by simp at h⟩⟩
  · simp at hcs
    subst hcs
    by_cases h0 : len0 = 0
    · subst h0; exact ⟨[], ⟨_, _, rfl, fun h => by simp at h⟩⟩
    · have hc : Try.prog.cellsOf 57 = 4 := by kernel_rfl
      rw [hc] at hi
      have fn : ∀ i : Nat, ∃ s : Chg, i < len0 → w.cells? 0 (a.add (i * 4)) 4 = some (chl s) := fun i => by
        by_cases hil : i < len0
        · have := hi i hil
          rw [List.getElem?_eq_getElem (by omega)] at this
          obtain ⟨cs, h1, h2⟩ := Option.bind_eq_some_iff.1 this
          obtain ⟨s, rfl⟩ := ch_of_trod h2
          exact ⟨s, fun _ => h1⟩
        · exact ⟨⟨ByteArray.empty, ByteArray.empty, ByteArray.empty, false⟩, fun h => absurd h hil⟩
      obtain ⟨F, hF⟩ := Classical.axiomOfChoice fn
      have hat : ∀ j, j < len0 → ∀ i (hi : i < 4), w.cell? (a.add (j * 4 + i)) = some ((chl (F j))[i]'hi) := fun j hj i hi => by
        obtain ⟨_, _, hat⟩ := World.cells?_some (hF j hj)
        have h3 := hat i hi
        have e : (a.add (j * 4)).add i = a.add (j * 4 + i) := by
          generalize j * 4 = m
          by_cases h1 : i = 0 <;> by_cases h2 : m = 0 <;> simp [Addr.add, h1, h2, Nat.add_assoc]
        rw [e] at h3
        rw [h3]
        exact List.getElem?_eq_getElem (l := chl (F j)) hi
      have hc0 := hat 0 (by omega) 0 (by omega)
      obtain ⟨B, o, rfl⟩ := addr_plain hc0
      have hB : B < w.heap.size := by
        rcases Nat.lt_or_ge B w.heap.size with h | h
        · exact h
        · rw [addr_add'] at hc0
          simp [World.cell?, Array.getElem?_eq_none h] at hc0
      refine ⟨(List.range len0).map F, ⟨some ⟨B, o, none⟩, cap, by simp, fun _ => ⟨B, o, rfl, hB, fun j hj => ?_⟩⟩⟩
      simp at hj
      have a0 := hat j hj 0 (by omega)
      have a1 := hat j hj 1 (by omega)
      have a2 := hat j hj 2 (by omega)
      have a3 := hat j hj 3 (by omega)
      rw [addr_add'] at a0 a1 a2 a3
      simp only [List.getElem_map, List.getElem_range]
      exact ⟨a0, a1, a2, a3⟩
/-- a call -/
structure Opx where
  kind : Int
  lv : Value
  L : List Chg
  stamp : Int
  table : Bs
  key : Bs
  lo : Bs
  hi : Bs
  back : Bool
def opx (x : Opx) : List Value := [.int .i64 x.kind, x.lv, .int .i64 x.stamp, .string x.table, .string x.key, .string x.lo, .string x.hi, .bool x.back]
set_option maxRecDepth 100000 in
theorem op_of_trod {H : Type} {enc : TypeId × Value → H} {w : World} {fuel : Nat} {cs : List Value} {x : DataW H × List MemPlace} {spare : Nat → Bool} {held : Bool} (h : DataW.trod enc Try.prog w 0 spare held fuel 25 cs = some x) : ∃ s, cs = opx s ∧ ChsArg w s.lv s.L := by
  obtain ⟨xs, n', _, _, hl, hxs, hf⟩ := DataW.trod_struct Try.underlying25 h
  have hc : Try.prog.cellsOf 25 = 8 := by kernel_rfl
  rw [hc] at hl
  have hx5 : xs.length = 8 := hxs
  have h0 := hf 0 { name := "Kind", type := 3, offset := 0, embedded := false, tag := "", pkgPath := "", byteOffset := 0 } rfl
  have h1 := hf 1 { name := "L", type := 23, offset := 1, embedded := false, tag := "", pkgPath := "", byteOffset := 8 } rfl
  have h2 := hf 2 { name := "Stamp", type := 3, offset := 2, embedded := false, tag := "", pkgPath := "", byteOffset := 32 } rfl
  have h3 := hf 3 { name := "Table", type := 9, offset := 3, embedded := false, tag := "", pkgPath := "", byteOffset := 40 } rfl
  have h4 := hf 4 { name := "Key", type := 9, offset := 4, embedded := false, tag := "", pkgPath := "", byteOffset := 56 } rfl
  have h5 := hf 5 { name := "Lo", type := 9, offset := 5, embedded := false, tag := "", pkgPath := "", byteOffset := 72 } rfl
  have h6 := hf 6 { name := "Hi", type := 9, offset := 6, embedded := false, tag := "", pkgPath := "", byteOffset := 88 } rfl
  have h7 := hf 7 { name := "Back", type := 4, offset := 7, embedded := false, tag := "", pkgPath := "", byteOffset := 104 } rfl
  rw [List.getElem?_eq_getElem (by omega)] at h0 h1 h2 h3 h4 h5 h6 h7
  have e3 : Try.prog.cellsOf 3 = 1 := by kernel_rfl
  have e4 : Try.prog.cellsOf 4 = 1 := by kernel_rfl
  have e9 : Try.prog.cellsOf 9 = 1 := by kernel_rfl
  have eL : Try.prog.cellsOf 23 = 1 := by kernel_rfl
  dsimp only at h0 h1 h2 h3 h4 h5 h6 h7
  rw [e3] at h0 h2
  rw [e4] at h7
  rw [e9] at h3 h4 h5 h6
  rw [eL] at h1
  obtain ⟨t0, g0, _⟩ := DataW.trod_int Try.underlying3 h0
  obtain ⟨t2, g2, _⟩ := DataW.trod_int Try.underlying3 h2
  obtain ⟨t3, g3, _⟩ := DataW.trod_string Try.underlying9 h3
  obtain ⟨t4, g4, _⟩ := DataW.trod_string Try.underlying9 h4
  obtain ⟨t5, g5, _⟩ := DataW.trod_string Try.underlying9 h5
  obtain ⟨t6, g6, _⟩ := DataW.trod_string Try.underlying9 h6
  obtain ⟨t7, g7, _⟩ := DataW.trod_bool Try.underlying4 h7
  match cs, hl with
  | [a, b, c, d, e, f, g, i], _ =>
    simp only [List.drop_succ_cons, List.drop_zero, List.take_succ_cons, List.take_zero] at h1
    obtain ⟨L, hL⟩ := chs_of_trod h1
    simp at g0 g2 g3 g4 g5 g6 g7
    exact ⟨⟨t0, b, L, t2, t3, t4, t5, t6, t7⟩, by rw [g0, g2, g3, g4, g5, g6, g7]; rfl, hL⟩
/-- calls that came in -/
def OpsArg (w : World) (v : Value) (ss : List Opx) : Prop :=
  ∃ a c, v = .slice a ss.length c ∧ (0 < ss.length → ∃ B o, a = some ⟨B, o, none⟩ ∧ B < w.heap.size ∧ ∀ j (h : j < ss.length), ChsArg w ss[j].lv ss[j].L ∧ ∀ i (hi : i < 8), w.cell? ⟨B, o + j * 8 + i, none⟩ = some ((opx ss[j])[i]'hi))
theorem OpsArg.below {w w' : World} {v : Value} {ss : List Opx} (h : OpsArg w v ss) (hb : Below w.heap.size w w') : OpsArg w' v ss := by
  obtain ⟨a, c, rfl, h⟩ := h
  refine ⟨a, c, rfl, fun h0 => ?_⟩
  obtain ⟨B, o, h1, h2, h3⟩ := h h0
  exact ⟨B, o, h1, Nat.lt_of_lt_of_le h2 hb.size, fun j hj => ⟨(h3 j hj).1.below hb, fun i hi => (hb.cell (p := ⟨B, o + j * 8 + i, none⟩) h2).trans ((h3 j hj).2 i hi)⟩⟩
set_option maxRecDepth 100000 in
theorem opsArg_of {H : Type} {enc : TypeId × Value → H} {w : World} {v : Value} {d : DataW H} {ps : List MemPlace} {r : Reach} {b0 : Nat}
    (hv : Value.okWide Try.prog w r b0 22 v) (h : DataW.Trod enc Try.prog w 0 (fun _ => true) true 22 v d ps) : ∃ ss, OpsArg w v ss := by
  obtain ⟨a0, len0, cap0, rfl⟩ := okWide_slice Try.underlying22 hv
  obtain ⟨fuel, hf⟩ := h
  rcases DataW.trod_slice Try.underlying22 hf with ⟨hcs, hx⟩ | ⟨a, len, cap, el, re, n, _, hcs, hx, _, hl, hm, hel, hi, _⟩
  · simp [Value.cells] at hcs
    obtain ⟨rfl, rfl, rfl⟩ := hcs
    exact ⟨[], ⟨none, 0, rfl, fun h => by simp at h⟩⟩
  · simp [Value.cells] at hcs
    obtain ⟨rfl, rfl, rfl⟩ := hcs
    by_cases h0 : len0 = 0
    · subst h0; exact ⟨[], ⟨_, _, rfl, fun h => by simp at h⟩⟩
    · have hc : Try.prog.cellsOf 25 = 8 := by kernel_rfl
      rw [hc] at hi
      have fn : ∀ i : Nat, ∃ s : Opx, i < len0 → w.cells? 0 (a.add (i * 8)) 8 = some (opx s) ∧ ChsArg w s.lv s.L := fun i => by
        by_cases hil : i < len0
        · have := hi i hil
          rw [List.getElem?_eq_getElem (by omega)] at this
          obtain ⟨cs, h1, h2⟩ := Option.bind_eq_some_iff.1 this
          obtain ⟨s, rfl, hL⟩ := op_of_trod h2
          exact ⟨s, fun _ => ⟨h1, hL⟩⟩
        · exact ⟨⟨0, undef, [], 0, ByteArray.empty, ByteArray.empty, ByteArray.empty, ByteArray.empty, false⟩, fun h => absurd h hil⟩
      obtain ⟨F, hF⟩ := Classical.axiomOfChoice fn
      have hat : ∀ j, j < len0 → ∀ i (hi : i < 8), w.cell? (a.add (j * 8 + i)) = some ((opx (F j))[i]'hi) := fun j hj i hi => by
        obtain ⟨_, _, hat⟩ := World.cells?_some (hF j hj).1
        have h3 := hat i hi
        have e : (a.add (j * 8)).add i = a.add (j * 8 + i) := by
          generalize j * 8 = m
          by_cases h1 : i = 0 <;> by_cases h2 : m = 0 <;> simp [Addr.add, h1, h2, Nat.add_assoc]
        rw [e] at h3
        rw [h3]
        exact List.getElem?_eq_getElem (l := opx (F j)) hi
      have hc0 := hat 0 (by omega) 0 (by omega)
      obtain ⟨B, o, rfl⟩ := addr_plain hc0
      have hB : B < w.heap.size := by
        rcases Nat.lt_or_ge B w.heap.size with h | h
        · exact h
        · rw [addr_add'] at hc0
          simp [World.cell?, Array.getElem?_eq_none h] at hc0
      refine ⟨(List.range len0).map F, ⟨some ⟨B, o, none⟩, cap0, by simp, fun _ => ⟨B, o, rfl, hB, fun j hj => ?_⟩⟩⟩
      simp at hj
      simp only [List.getElem_map, List.getElem_range]
      refine ⟨(hF j hj).2, fun i hi => ?_⟩
      have a0 := hat j hj i hi
      rw [addr_add', ← Nat.add_assoc] at a0
      exact a0
set_option maxRecDepth 100000 in
theorem opArg_of {H : Type} {enc : TypeId × Value → H} {w : World} {v : Value} {d : DataW H} {ps : List MemPlace} {r : Reach} {b0 : Nat}
    (hv : Value.okWide Try.prog w r b0 25 v) (h : DataW.Trod enc Try.prog w 0 (fun _ => true) true 25 v d ps) : ∃ s : Opx, v = .agg (opx s).toArray ∧ ChsArg w s.lv s.L := by
  obtain ⟨cs, rfl, _⟩ := okWide_struct Try.underlying25 hv
  obtain ⟨fuel, hf⟩ := h
  obtain ⟨s, hs, hL⟩ := op_of_trod hf
  refine ⟨s, ?_, hL⟩
  have e : cs.toList = opx s := hs
  rw [← e]
end Go.Proofs.Ytpcjmceakelilaa
/- Engine: the law's 'beyond'. -/
namespace Go.Proofs.Ytpcjmceakelilaa
open Go.ChangeShapes Go.WideShapes Go.ChangeAt Go.RowKit Go.ChangeMaps Go.Deep Go.Shelf Go.Sort
set_option linter.unusedVariables false
set_option linter.unusedSimpArgs false
attribute [local go_sem] Oper.semAt_some
/-- a call's cells -/
structure OpAt (w : World) (B o : Nat) (x : Opx) : Prop where
  c0 : w.cell? ⟨B, o, none⟩ = some (.int .i64 x.kind)
  c1 : w.cell? ⟨B, o + 1, none⟩ = some x.lv
  c2 : w.cell? ⟨B, o + 2, none⟩ = some (.int .i64 x.stamp)
  c3 : w.cell? ⟨B, o + 3, none⟩ = some (.string x.table)
  c4 : w.cell? ⟨B, o + 4, none⟩ = some (.string x.key)
  c5 : w.cell? ⟨B, o + 5, none⟩ = some (.string x.lo)
  c6 : w.cell? ⟨B, o + 6, none⟩ = some (.string x.hi)
  c7 : w.cell? ⟨B, o + 7, none⟩ = some (.bool x.back)
theorem OpAt.of {w : World} {B o : Nat} {x : Opx} (h : ∀ i (hi : i < 8), w.cell? ⟨B, o + i, none⟩ = some ((opx x)[i]'hi)) : OpAt w B o x :=
  ⟨h 0 (by omega), h 1 (by omega), h 2 (by omega), h 3 (by omega), h 4 (by omega), h 5 (by omega), h 6 (by omega), h 7 (by omega)⟩
theorem OpAt.below {w w' : World} {B o : Nat} {x : Opx} (h : OpAt w B o x) {n : Nat} (hb : Below n w w') (hB : B < n) : OpAt w' B o x :=
  ⟨(hb.cell (p := ⟨B, _, none⟩) hB).trans h.c0, (hb.cell (p := ⟨B, _, none⟩) hB).trans h.c1, (hb.cell (p := ⟨B, _, none⟩) hB).trans h.c2, (hb.cell (p := ⟨B, _, none⟩) hB).trans h.c3, (hb.cell (p := ⟨B, _, none⟩) hB).trans h.c4, (hb.cell (p := ⟨B, _, none⟩) hB).trans h.c5, (hb.cell (p := ⟨B, _, none⟩) hB).trans h.c6, (hb.cell (p := ⟨B, _, none⟩) hB).trans h.c7⟩
/-- a call that the statements look at -/
def Near (x : Opx) : Prop := x.L.length ≤ 64 ∨ 256 < x.L.length ∧ x.L.length ≤ 264
def BeyondOut (ss : List Opx) (W : World) (e : Ending) (W' : World) : Prop := ∃ d : Bool, e = .returned (.bool d) ∧ (d = false → ss.length ≤ 64 ∧ ∀ x ∈ ss, Near x) ∧ Below W.heap.size W W'
set_option maxRecDepth 100000 in
set_option maxHeartbeats 3200000 in
theorem beyond_any (v : Value) (ss : List Opx) (W : World) (h : OpsArg W v ss) : Calls Try.prog 6 #[v] W (BeyondOut ss W) := by
  obtain ⟨a, c, rfl, h⟩ := h
  have HH := Lib.hid h
  clear h
  by_cases hl : ss.length ≤ 64
  · obtain ⟨n, hn⟩ : ∃ n, n = ss.length := ⟨_, rfl⟩
    rw [← hn] at hl
    rw [← hn]
    have HN := Lib.hid hn
    have z1 : decide ((64 : Int) < (n : Int)) = false := decide_eq_false (by omega)
    clear hn
    go_enter Try.func6, Try.ntmps6
    go_wp2_with fail
    go_loopw [10] (fun i wr => ∃ (j : Nat), i = .int .i64 j ∧ j ≤ n ∧ Hid ((∀ x ∈ ss.take j, Near x) ∧ Below W.heap.size W wr)) (fun i wr => n - iv i)
    case atStart => exact ⟨0, rfl, Nat.zero_le _, Lib.hid ⟨fun x hx => (by cases hx), Below.refl _ _⟩⟩
    case round =>
      obtain ⟨j, rfl, hj, HX⟩ := hrel
      by_cases hlast : j = n
      · subst hlast
        go_wp2_with fail
        go_ret
        exact ⟨_, rfl, fun _ => ⟨by rw [← HN.out]; exact hl, by have := HX.out.1; rwa [HN.out, List.take_length] at this⟩, HX.out.2⟩
      · have hjn : j < n := by omega
        obtain ⟨g, o, rfl, hg, hc⟩ := HH.out (by rw [← HN.out]; omega)
        have hjl : j < ss.length := by rw [← HN.out]; exact hjn
        obtain ⟨hca, hc8⟩ := hc j hjl
        obtain ⟨la, lc, hlv, _⟩ := hca
        have HM := Lib.hid (show ss.take (j + 1) = ss.take j ++ [ss[j]] from List.take_succ_eq_append_getElem hjl)
        have ho := (OpAt.of hc8).below HX.out.2 hg
        clear hc8 hc hlast
        generalize ss[j] = x at *
        obtain ⟨q0, q1, q2, q3, q4, q5, q6, q7⟩ := ho
        rw [hlv] at q1
        have HM2 := Lib.hid (show ∃ m, m = x.L.length from ⟨_, rfl⟩)
        obtain ⟨m, hm⟩ := HM2.out
        rw [← hm] at q1
        have HML := Lib.hid hm
        clear hm HM2 hlv
        have hw1 : IntKind.i64.wrap ((j : Int) + 1) = ((j + 1 : Nat) : Int) := by rw [IntKind.wrap_i64]; omega
        have HXN (h : m ≤ 64 ∨ 256 < m ∧ m ≤ 264) (w' : World) (hb : Below wr.heap.size wr w') : Hid ((∀ x ∈ ss.take (j + 1), Near x) ∧ Below W.heap.size W w') := Lib.hid ⟨fun y hy => by
          rw [HM.out] at hy
          rcases List.mem_append.1 hy with hy | hy
          · exact HX.out.1 y hy
          · rw [List.mem_singleton.1 hy]; unfold Near; rw [← HML.out]; exact h, HX.out.2.trans (hb.mono HX.out.2.size)⟩
        have HXN' := Lib.hid HXN
        clear HXN
        by_cases m1 : m ≤ 64
        · have d1 : decide ((64 : Int) < (m : Int)) = false := decide_eq_false (by omega)
          have d2 : decide ((264 : Int) < (m : Int)) = false := decide_eq_false (by omega)
          go_wp2_with fail
          go_roundw
          case rel => exact ⟨j + 1, by first | rfl | (push_cast; rfl) | (rw [hw1]), hjn, HXN'.out (.inl m1) _ ((Below.refl _ _).alloc (Nat.le_refl _) _)⟩
          case measure => show n - (((j + 1 : Nat) : Int).toNat) < n - ((j : Int)).toNat; omega
        · have d1 : decide ((64 : Int) < (m : Int)) = true := decide_eq_true (by omega)
          by_cases m2 : m ≤ 256
          · have d3 : decide ((m : Int) ≤ (256 : Int)) = true := decide_eq_true (by omega)
            go_wp2_with fail
            go_ret
            exact ⟨_, rfl, fun h => (by cases h), HX.out.2.trans (((Below.refl _ _).alloc (Nat.le_refl _) _).mono HX.out.2.size)⟩
          · have d3 : decide ((m : Int) ≤ (256 : Int)) = false := decide_eq_false (by omega)
            by_cases m3 : m ≤ 264
            · have d2 : decide ((264 : Int) < (m : Int)) = false := decide_eq_false (by omega)
              go_wp2_with fail
              go_roundw
              case rel => exact ⟨j + 1, by first | rfl | (push_cast; rfl) | (rw [hw1]), hjn, HXN'.out (.inr ⟨by omega, m3⟩) _ ((Below.refl _ _).alloc (Nat.le_refl _) _)⟩
              case measure => show n - (((j + 1 : Nat) : Int).toNat) < n - ((j : Int)).toNat; omega
            · have d2 : decide ((264 : Int) < (m : Int)) = true := decide_eq_true (by omega)
              go_wp2_with fail
              go_ret
              exact ⟨_, rfl, fun h => (by cases h), HX.out.2.trans (((Below.refl _ _).alloc (Nat.le_refl _) _).mono HX.out.2.size)⟩
  · have z1 : decide ((64 : Int) < ((ss.length : Nat) : Int)) = true := decide_eq_true (by omega)
    go_enter Try.func6, Try.ntmps6
    go_wp2_with fail
    go_ret
    exact ⟨_, rfl, fun h => (by cases h), Below.refl _ _⟩
end Go.Proofs.Ytpcjmceakelilaa
/- Engine: the law's 'changes'. -/
namespace Go.Proofs.Ytpcjmceakelilaa
open Go.ChangeShapes Go.WideShapes Go.ChangeAt Go.RowKit Go.ChangeMaps Go.Deep Go.Shelf Go.Sort
set_option linter.unusedVariables false
set_option linter.unusedSimpArgs false
attribute [local go_sem] Oper.semAt_some
def prC (L : List Chg) : List Value := L.flatMap chl
theorem prC_snoc (L : List Chg) (x : Chg) : prC (L ++ [x]) = prC L ++ chl x := by simp [prC]
theorem prC_at : ∀ (L : List Chg) (j : Nat) (h : j < L.length), (prC L)[j * 4]? = some (.string L[j].1) ∧ (prC L)[j * 4 + 1]? = some (.string L[j].2.1) ∧ (prC L)[j * 4 + 2]? = some (.string L[j].2.2.1) ∧ (prC L)[j * 4 + 3]? = some (.bool L[j].2.2.2)
  | x :: L, 0, _ => ⟨rfl, rfl, rfl, rfl⟩
  | x :: L, j + 1, h => by
    have := prC_at L j (by simpa using h)
    have e : prC (x :: L) = .string x.1 :: .string x.2.1 :: .string x.2.2.1 :: .bool x.2.2.2 :: prC L := rfl
    rw [e, show (j + 1) * 4 = j * 4 + 1 + 1 + 1 + 1 by omega]
    simpa using this
theorem chAt_own {B : Nat} {W : World} {v : Value} {L : List Chg} (h : W.ownsRow B 58 4 v L.length (prC L)) : ChAt W v L := by
  rcases h.2 with ⟨hv, h0⟩ | ⟨g, c, cur, rfl, h1, h2, h3, h4, _⟩
  · exact .inl ⟨hv, List.eq_nil_of_length_eq_zero h0⟩
  · refine .inr ⟨g, c, rfl, h3, by unfold maxLen at h4; omega, (Array.getElem?_eq_some_iff.1 h2).1, fun j hj => ?_⟩
    rw [h.cellAt (j * 4) (by omega), h.cellAt (j * 4 + 1) (by omega), h.cellAt (j * 4 + 2) (by omega), h.cellAt (j * 4 + 3) (by omega)]
    exact prC_at L j hj
theorem infoC : (Try.prog.info? 58).map (fun i => (i.zero, i.size, i.bytes)) = some (some (.agg #[.string ⟨#[]⟩, .string ⟨#[]⟩, .string ⟨#[]⟩, .bool false]), 4, 56) := by kernel_rfl
def ChangesOut (L : List Chg) (W : World) (e : Ending) (W' : World) : Prop := ∃ v, e = .returned v ∧ W'.ownsRow W.heap.size 58 4 v L.length (prC L) ∧ Below W.heap.size W W'
set_option maxRecDepth 100000 in
set_option maxHeartbeats 3200000 in
theorem changes_any (v : Value) (L : List Chg) (W : World) (h : ChsArg W v L) (hL : L.length ≤ 100000) : Calls Try.prog 13 #[v] W (ChangesOut L W) := by
  obtain ⟨i0, hi0, hz0, hz1, hz2⟩ := info_parts infoC
  obtain ⟨a, c, rfl, h⟩ := h
  have HH := Lib.hid h
  clear h
  obtain ⟨n, hn⟩ : ∃ n, n = L.length := ⟨_, rfl⟩
  rw [← hn] at hL
  rw [← hn]
  have HN := Lib.hid hn
  clear hn
  go_enter Try.func13, Try.ntmps13
  go_wp2_with fail
  go_loopw [3, 8] (fun u s wr => ∃ (q : Nat) (ua : Option Addr) (uc : Nat), q ≤ n ∧ u = .slice ua q uc ∧ s = .int .i64 q ∧ Hid (wr.ownsRow W.heap.size 58 4 (.slice ua q uc) q (prC (L.take q)) ∧ Below W.heap.size W wr)) (fun _ s _ => n - iv s)
  case atStart => exact ⟨0, none, 0, Nat.zero_le _, rfl, rfl, Lib.hid ⟨⟨rfl, .inl ⟨rfl, rfl⟩⟩, Below.refl _ _⟩⟩
  case round =>
    obtain ⟨q, ua, uc, hq, rfl, rfl, HX⟩ := hrel
    by_cases hlt : q < n
    · obtain ⟨g, o, rfl, hg, hc⟩ := HH.out (by rw [← HN.out]; omega)
      have hjl : q < L.length := by rw [← HN.out]; exact hlt
      obtain ⟨c0, c1, c2, c3⟩ := hc q hjl
      have q0 := (HX.out.2.cell (p := ⟨g, o + q * 4, none⟩) hg).trans c0
      have q1 := (HX.out.2.cell (p := ⟨g, o + q * 4 + 1, none⟩) hg).trans c1
      have q2 := (HX.out.2.cell (p := ⟨g, o + q * 4 + 2, none⟩) hg).trans c2
      have q3 := (HX.out.2.cell (p := ⟨g, o + q * 4 + 3, none⟩) hg).trans c3
      have HT := Lib.hid (show L.take (q + 1) = L.take q ++ [L[q]] from List.take_succ_eq_append_getElem hjl)
      clear hc c0 c1 c2 c3
      generalize L[q] = x at *
      obtain ⟨xt, xk, xv, xd⟩ := x
      dsimp only at q0 q1 q2 q3
      have hw1 : IntKind.i64.wrap ((q : Int) + 1) = ((q + 1 : Nat) : Int) := by rw [IntKind.wrap_i64]; omega
      go_wp2_with (at_builtin; refine wpList_append_own _ rfl _ _ 36 rfl W.heap.size 58 i0 (.agg #[.string ⟨#[]⟩, .string ⟨#[]⟩, .string ⟨#[]⟩, .bool false]) 4 56 Try.underlying36 hi0 hz0 hz1 hz2 rfl (by decide) _ _ _ rfl ((HX.out.1.alloc _).alloc _) ⟨wr.heap.size + 1, 0, none⟩ 1 1 [.string xt, .string xk, .string xv, .bool xd] rfl rfl ?c1 ?c2 ?c3 ?c4 ?c5 ?_)
      case c1 =>
        intro j z hz
        rw [addr_add', Nat.zero_add]
        have := (Box.new (wr.alloc (.cells #[.string xt, .string xk, .string xv, .bool xd] 57)) [.string xt, .string xk, .string xv, .bool xd] 58).cell j z hz
        rwa [World.size_alloc] at this
      case c2 => first | rfl | (intro u hu; simp only [List.mem_cons, List.not_mem_nil, or_false] at hu; rcases hu with rfl | rfl | rfl | rfl <;> rfl)
      case c3 => unfold maxLen; omega
      case c4 => omega
      case c5 => have := HX.out.2.size; first | omega | (simp; omega)
      intro v' w2 hown2 hgrow _
      have hb2 : Below W.heap.size W w2 := ((HX.out.2.alloc HX.out.2.size _).alloc (by have := HX.out.2.size; simp; omega) _).grown hgrow (by have := HX.out.2.size; simp; omega) (fun k hk => (HX.out.1.lt k hk).1)
      have hown3 : w2.ownsRow W.heap.size 58 4 v' (q + 1) (prC (L.take (q + 1))) := by
        rw [HT.out, prC_snoc]
        exact hown2
      obtain ⟨g2, cap2, rfl⟩ := ownsRow_succ hown3
      have HX2 := Lib.hid (And.intro hown3 hb2)
      clear hown2 hgrow hb2 hown3
      go_wp2_with fail
      go_roundw
      case rel => exact ⟨q + 1, _, _, by omega, by first | rfl | (push_cast; rfl), by first | rfl | (push_cast; rfl), HX2⟩
      case measure => show n - (((q + 1 : Nat) : Int).toNat) < n - ((q : Int)).toNat; omega
    · have hqn : q = n := by omega
      subst hqn
      have HE : Hid (L.take q = L) := List.take_of_length_le (by rw [← HN.out]; omega)
      go_wp2_with fail
      go_ret
      exact ⟨_, rfl, by have := HX.out.1; rw [HE.out] at this; rw [← HN.out]; exact this, HX.out.2⟩
end Go.Proofs.Ytpcjmceakelilaa
