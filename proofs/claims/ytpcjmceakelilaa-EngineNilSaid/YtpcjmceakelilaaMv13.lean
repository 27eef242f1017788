/- Mvcc: Clone. -/
import Derived.Test.YtpcjmceakelilaaMv12
namespace Go.Proofs.Ytpcjmceakelilaa
open Go.ChangeShapes Go.WideShapes Go.ChangeAt Go.RowKit Go.Deep Go.ChangeMaps Go.Shelf
set_option linter.unusedVariables false
set_option linter.unusedSimpArgs false
/-- what a copy holds, of what has been met -/
structure Cpy (E EC : List En) (seen : Array Nat) : Prop where
  back : ∀ e' ∈ EC, ∃ e ∈ E, e'.key = e.key ∧ e'.vs = e.vs ∧ seen.contains e.born = true
  forth : ∀ e ∈ E, seen.contains e.born = true → ∃ e' ∈ EC, e'.key = e.key ∧ e'.vs = e.vs
theorem Cpy.start (E : List En) : Cpy E [] #[] := ⟨fun e he => (by cases he), fun e he h => by simp at h⟩
theorem Cpy.put {E EC : List En} {seen : Array Nat} {c cc : Nat} (h : Cpy E EC seen) (hE : EnOK E c) {x : En} (hx : x ∈ E) (hs : seen.contains x.born = false) (v : Value) :
    Cpy E (putE EC cc x.key v x.vs) (seen.push x.born) := by
  have hl : lkE EC x.key = none := by
    cases hl : lkE EC x.key with
    | none => rfl
    | some y =>
      obtain ⟨h1, h2⟩ := lkE_mem hl
      obtain ⟨e, he, h3, _, h5⟩ := h.back y h1
      have := nodup_inj hE.keys he hx (by rw [← h3, h2])
      subst this
      rw [hs] at h5; cases h5
  have e1 : putE EC cc x.key v x.vs = EC ++ [⟨x.key, x.vs, v, cc⟩] := by unfold putE; rw [hl]
  rw [e1]
  refine ⟨fun e' he' => ?_, fun e he hse => ?_⟩
  · rcases List.mem_append.1 he' with he' | he'
    · obtain ⟨e, he, h1, h2, h3⟩ := h.back e' he'
      exact ⟨e, he, h1, h2, by rw [contains_push, h3, Bool.true_or]⟩
    · rw [List.mem_singleton.1 he']
      exact ⟨x, hx, rfl, rfl, by rw [contains_push, beq_self_eq_true, Bool.or_true]⟩
  · by_cases hex : e = x
    · subst hex; exact ⟨_, List.mem_append_right _ (List.mem_singleton.2 rfl), rfl, rfl⟩
    · have hb : (e.born == x.born) = false := beq_eq_false_iff_ne.2 (fun e2 => hex (nodup_inj hE.borns he hx e2))
      rw [contains_push, hb, Bool.or_false] at hse
      obtain ⟨e', he', h1, h2⟩ := h.forth e he hse
      exact ⟨e', List.mem_append_left _ he', h1, h2⟩
/-- the state in the loop of Clone -/
structure CW (B0 S m r clock C mc : Nat) (E : List En) (W : World) (seen : Array Nat) (EC : List En) (cc : Nat) (X : World) : Prop where
  cpy : Cpy E EC seen
  sto : Sto B0 X C mc EC cc
  it : IterAt X r m clock seen clock
  b : Below W.heap.size W X
  rr : W.heap.size ≤ r
  off : ∀ j, Foot C mc EC j → j ≠ r
def CloneOut (E : List En) (W : World) (e : Ending) (W' : World) : Prop :=
  ∃ C mc EC cc seen, e = .returned (.pointer (some ⟨C, 0, none⟩)) ∧ Sto W.heap.size W' C mc EC cc ∧ Cpy E EC seen ∧ (∀ e ∈ E, seen.contains e.born = true) ∧ Below W.heap.size W W'
set_option maxRecDepth 100000 in
set_option maxHeartbeats 3200000 in
theorem clone_any (B S m clock : Nat) (E : List En) (W : World) (h : Sto B W S m E clock) :
    Calls Try.prog 28 #[.pointer (some ⟨S, 0, none⟩)] W (CloneOut E W) := by
  have HH := Lib.hid h
  clear h
  go_enter Try.func28, Try.ntmps28
  go_wp2_with fail
  refine (new_any W).mono ?_
  rintro e W1 ⟨rfl, hs1, hb1⟩
  have h1 := HH.out.below hb1
  have a0 := h1.c0
  have hrg := run_range_E h1.map
  have hcw : CW W.heap.size S m W1.heap.size clock (W.heap.size + 1) W.heap.size E W #[] [] 0 (W1.alloc (.mapIter (some m) clock #[] clock)) :=
    ⟨Cpy.start E, hs1.below ((Below.refl _ W1).alloc (Nat.le_refl _) _), heap_alloc_new W1 _, hb1.alloc hb1.size _, hb1.size, fun j hj e => by have := (hs1.foot hj).2; omega⟩
  have H0 := Lib.hid hcw
  clear hs1 hb1 h1 hcw
  generalize W.heap.size + 1 = C at *
  generalize hmc : W.heap.size = mc at H0
  have HMC := Lib.hid hmc
  clear hmc
  go_wp2_with fail
  clear a0 hrg
  generalize W1.heap.size = r at H0 ⊢
  generalize W1.alloc (.mapIter (some m) clock #[] clock) = W2 at H0 ⊢
  go_loopw [] (fun wr => ∃ seen EC cc, CW W.heap.size S m r clock C mc E W seen EC cc wr) (fun wr => unseen E (wr.iterSeen r))
  case atStart => exact ⟨#[], [], 0, by rw [HMC.out]; exact H0.out⟩
  case round =>
    clear H0
    obtain ⟨seen, EC, cc, hcw⟩ := hrel
    have HC := Lib.hid hcw
    have hm : MapAt wr m E clock := (HH.out.below hcw.b).map
    have hms := iterSeen_at hcw.it
    rcases run_next_E hm hcw.it HH.out.ok.lt (Nat.le_refl _) 0 with ⟨hall, hrun⟩ | ⟨x, hx, hsx, W2', hW2, hrun⟩
    · have HA := Lib.hid hall
      clear hall hms hcw hm
      go_wp2_with fail
      go_ret
      exact ⟨C, mc, EC, cc, seen, rfl, HC.out.sto, HC.out.cpy, HA.out, HC.out.b⟩
    · obtain ⟨W3, hW3⟩ : ∃ W3, W3 = setBlock W2' r (.mapIter (some m) clock (seen.push x.born) clock) := ⟨_, rfl⟩
      rw [← hW3] at hrun
      have hk3 : Kept (fun j => j = r) wr W3 := by rw [hW3]; exact setBlock_kept (kept_drew' (Kept.refl _ wr) hW2) r _ (.inl rfl)
      have hit3 : IterAt W3 r m clock (seen.push x.born) clock := by rw [hW3]; exact iter_set (iter_drew hcw.it hW2)
      have hb3 : Below W.heap.size W W3 := hcw.b.trans (hk3.below hcw.b.size (fun j e => by rw [e]; exact hcw.rr))
      have hs3 : Sto W.heap.size W3 C mc EC cc := hcw.sto.kept hk3 (fun j hj e => hcw.off j hj e)
      have hSW := HH.out.below hb3
      have hent := run_entry_E hSW.map hit3 hx HH.out.ok.borns
      obtain ⟨hrow, hne, hasc, hbd, hlen⟩ := hSW.rows x hx
      obtain ⟨g, vc, hval, hgc, hcc, hgl, hcell⟩ := hrow.get (List.length_pos_iff.2 hne)
      rw [hval] at hrun hent
      have hmeas := unseen_push E seen x hsx HH.out.ok.borns hx
      have HM := Lib.hid (And.intro hmeas hms)
      have HX := Lib.hid (And.intro hx (And.intro hsx (And.intro hne (And.intro hasc (And.intro hbd hlen)))))
      have H3 := Lib.hid (And.intro hit3 (And.intro hb3 (And.intro hcw.cpy (And.intro hcw.rr hcw.off))))
      have HCS : Hid (Sto W.heap.size W3.drew C mc EC cc) := Lib.hid hs3.drew
      have HCE := Lib.hid (show ∀ j u, (vrv x.vs)[j]? = some u → W3.drew.cell? ⟨g, j, none⟩ = some u from fun j u hj => by
        have := vr_piece (W := W3) (g := g) (M := x.vs) 0 (fun i hi => ⟨by omega, by simp⟩) hcell j u hj
        rw [Nat.zero_mul, Nat.zero_add] at this
        exact this)
      have c0 : W3.drew.cell? ⟨C, 0, none⟩ = some (.map (some mc)) := hs3.c0
      have hm3 : MapAt W3.drew mc EC cc := hs3.map
      obtain ⟨k, hk⟩ : ∃ k, k = x.key := ⟨_, rfl⟩
      obtain ⟨ln, hln⟩ : ∃ ln, ln = x.vs.length := ⟨_, rfl⟩
      rw [← hk] at hrun hent
      rw [← hln] at hrun hent hlen
      have HLN := Lib.hid hln
      have HKK := Lib.hid hk
      have c0' : W3.cell? ⟨C, 0, none⟩ = some (.map (some mc)) := hs3.c0
      clear hcw hm hms hx hsx hW3 hW2 hk3 hit3 hb3 hs3 hSW hrow hne hasc hbd hcell hval hmeas hk hln HC
      go_wp2_with fail
      refine wp_region_ordW 8 7 [(0, 0), (1, 0), (2, 0), (3, 1), (4, 0), (5, 0), (6, 2), (7, 3)] (fun X => X.cell? ⟨C, 0, none⟩ = some (.map (some mc)) ∧ MapAt X mc EC cc) (by kernel_rfl) (by kernel_rfl) ⟨c0, hm3⟩ (fun c a d v w h => by cases d <;> exact h) ?_
      apply wpOrd_read0
      case hi => rfl
      case hw => rfl
      case hy => (intro w; go_simp; try rfl)
      intro K hK; go_simp; refine hK _ _ ?_; clear hK K
      apply wpOrd_read0
      case hi => rfl
      case hw => rfl
      case hy => (intro w; go_simp; try rfl)
      intro K hK; go_simp; refine hK _ _ ?_; clear hK K
      apply wpOrd_read0
      case hi => rfl
      case hw => rfl
      case hy => (intro w; go_simp; try rfl)
      intro K hK; go_simp; refine hK _ _ ?_; clear hK K
      apply wpOrd_read1
      case hi => rfl
      case hw => rfl
      case hy => (intro w hw; obtain ⟨h1, h2⟩ := hw; go_simp; try rfl)
      intro K hK; go_simp; refine hK _ _ ?_; clear hK K
      apply wpOrd_read0
      case hi => rfl
      case hw => rfl
      case hy => (intro w; go_simp; try rfl)
      intro K hK; go_simp; refine hK _ _ ?_; clear hK K
      apply wpOrd_read0
      case hi => rfl
      case hw => rfl
      case hy => (intro w; go_simp; try rfl)
      intro K hK; go_simp; refine hK _ _ ?_; clear hK K
      apply wpOrd_eff2
      case hi => rfl
      case hw => rfl
      intro K hK
      go_simp
      refine (cloneV g 0 ln vc x.vs _ HLN.out.symm (by omega) (fun j u hj => by rw [Nat.zero_add]; exact HCE.out j u hj)).mono ?_
      rintro e W4 ⟨v, rfl, hrow, hb⟩
      have hst4 := HCS.out.below hb
      have hup := run_upd hst4.map hst4.ok.keys k v x.vs
      have b0 := hst4.c0
      have m4 := hst4.map
      have HB := Lib.hid (And.intro hrow (And.intro hb hst4))
      clear hrow hb hst4
      refine hK _ _ ⟨b0, m4⟩ ?_
      clear hK K
      apply wpOrd_eff3
      case hi => rfl
      case hw => rfl
      intro K hK
      go_simp
      refine hK _ _ (wpOrd_nil ?_)
      clear hK K

      try clear c0 hm3 hup b0 m4 hrun hent c0'
      have HF := Lib.hid (show CW W.heap.size S m r clock C mc E W (seen.push x.born) (putE EC cc k v x.vs) (putC EC cc k) (setBlock W4 mc (.map (esOf (putE EC cc k v x.vs)) (putC EC cc k))) from by
        obtain ⟨x1, x2, x3, x4, x5, x6⟩ := HX.out
        obtain ⟨y1, y2, y3, y4, y5⟩ := H3.out
        obtain ⟨hrow, hb, hst4⟩ := HB.out
        have hmc4 := HCS.out.map.lt
        have hkk := HKK.out
        have hput := HCS.out.put (kept_below hb) k v x.vs (fun _ h => h.elim) (fun _ h => h.elim) (hrow.base y2.size) x3 x4 x5 x6 (fun j hj => by
          have h1 := (hrow.lt j hj).1
          exact ⟨fun e => by have := HCS.out.box.lt; omega, fun e => by omega, fun e he _ e2 => by have := ((HCS.out.rows e he).1.lt j e2).2; omega⟩)
        have hks : Kept (fun j => j = mc) W4 (setBlock W4 mc (.map (esOf (putE EC cc k v x.vs)) (putC EC cc k))) := setBlock_kept (Kept.refl _ W4) mc _ (.inl rfl)
        have hmr := y5 mc (.inr (.inl rfl))
        have hbw : Below W.heap.size W W4 := y2.drew.trans (hb.mono y2.size)
        refine ⟨by rw [hkk]; exact y3.put HH.out.ok x1 x2 v, hput, (IterAt.kept (W := W3.drew) y1 (kept_below hb) (fun h => h)).kept hks (fun e => hmr e.symm), hbw.trans (hks.below hbw.size (fun j e => by rw [e]; exact HCS.out.bm)), y4, fun j hj => ?_⟩
        rcases hj with hj | hj | ⟨e, he, hj⟩
        · exact y5 j (.inl hj)
        · exact y5 j (.inr (.inl hj))
        · rcases putE_mem HCS.out.ok.keys he with ⟨he, _⟩ | ⟨_, e2, _⟩
          · exact y5 j (.inr (.inr ⟨e, he, hj⟩))
          · rw [e2] at hj
            have h1 := (hrow.lt j hj).1
            have h2 : r < W3.heap.size := y1.lt
            have h3 : W3.drew.heap.size = W3.heap.size := rfl
            intro e; omega)
      go_wp2_with fail
      go_roundw
      case rel => exact ⟨_, _, _, HF.out⟩
      case measure => rw [iterSeen_at HF.out.it, HM.out.2]; exact HM.out.1
end Go.Proofs.Ytpcjmceakelilaa
