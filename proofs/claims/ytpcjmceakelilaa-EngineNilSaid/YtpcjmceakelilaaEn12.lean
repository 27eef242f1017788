/- Engine: add: the versions of a commit. -/
import Derived.Test.YtpcjmceakelilaaEn11
namespace Go.Proofs.Ytpcjmceakelilaa
open Go.ChangeShapes Go.WideShapes Go.ChangeAt Go.RowKit Go.Deep Go.ChangeMaps Go.Shelf
set_option linter.unusedVariables false
set_option linter.unusedSimpArgs false
/-- the version that a change adds -/
def verOf (s : Int) (x : Chg) : Ver := (s, if x.2.2.2 = true then ⟨#[]⟩ else x.2.2.1, x.2.2.2)
def add1 (A : Bs → Bs → List Ver) (s : Int) (x : Chg) : Bs → Bs → List Ver := fun tb => if tb = x.1 then addA (A x.1) x.2.1 (verOf s x) else A tb
def addsA (A : Bs → Bs → List Ver) (s : Int) (L : List Chg) : Bs → Bs → List Ver := L.foldl (fun A x => add1 A s x) A
theorem addsA_snoc (A : Bs → Bs → List Ver) (s : Int) (L : List Chg) (x : Chg) : addsA A s (L ++ [x]) = add1 (addsA A s L) s x := by simp [addsA]
/-- the tables are not too great -/
def Bud (T : List Tb) (N : Nat) : Prop := T.length ≤ N ∧ ∀ t ∈ T, total t.E ≤ N
/-- the time after some changes -/
def stOf (st s : Int) (k : Nat) : Int := if k = 0 then st else max st s
theorem stOf_succ (st s : Int) (k : Nat) : max (stOf st s k) s = stOf st s (k + 1) := by
  unfold stOf
  rw [if_neg (Nat.succ_ne_zero k)]
  split
  · rfl
  · omega
theorem addB_any {B S m clock : Nat} {E : List En} (ky vl : Bs) (dl : Bool) (s : Int) (x : Chg) (hx : x = (x.1, ky, vl, dl)) (W : World) (h : Sto B W S m E clock) (hB : B ≤ W.heap.size) (hT : total E < 5000) (e : Ending) (W' : World) :
    PutOut B S m E ky (verOf s x) W e W' → ∃ n : Int, e = .returned (.int .i64 n) ∧ Done B S m E (addA (lkL E) ky (verOf s x)) W W' := fun ⟨h1, h2⟩ => ⟨_, h1, h2⟩
theorem updT_len (T : List Tb) (k : Bs) (E : List En) (c : Nat) : (updT T k E c).length = T.length := by simp [updT]
theorem adds_step {B b mt tc : Nat} {F : Nat → Prop} {W W5 W6 : World} {T2 : List Tb} {st sy s : Int} {dk : Bs} {t2 : Tb} {x : Chg} {M : Nat} (h : ETurn B b F W W5 mt T2 tc st dk sy) (ht : tbOf T2 x.1 = some t2) (hd : Done B t2.S t2.m t2.E (addA (lkL t2.E) x.2.1 (verOf s x)) W5 W6) (h1 : T2.length ≤ M + 1) (h2 : ∀ t ∈ T2, total t.E ≤ M) :
    ∃ T3 tc3, ETurn B b F W W6 mt T3 tc3 st dk sy ∧ cont T3 = add1 (cont T2) s x ∧ Bud T3 (M + 1) := by
  obtain ⟨E', c', hT, hl⟩ := hd
  obtain ⟨hm, hk⟩ := tbOf_mem ht
  refine ⟨_, _, h.trans (h.egs.turn hm hT), ?_, by rw [updT_len]; exact h1, fun t ht2 => ?_⟩
  · rw [hk, cont_upd ht, hl]
    funext q
    unfold add1
    by_cases hq : q = x.1
    · rw [if_pos hq, if_pos hq]
      congr 2
      unfold cont
      rw [ht]
    · rw [if_neg hq, if_neg hq]
  · rcases updT_mem ht2 with ⟨h3, _⟩ | ⟨u, hu, hk2, rfl⟩
    · have := h2 t h3; omega
    · have e : u = t2 := nodup_inj h.egs.keys hu hm hk2
      subst e
      have := total_le (h.egs.sto u hu).gd hT.1.gd x.2.1 (fun k => by rw [hl]; exact addA_len _ _ _ k)
      have := h2 u hu
      show total E' ≤ _
      omega
def AddsOut (B b mt : Nat) (T : List Tb) (st : Int) (dk : Bs) (sy : Int) (s : Int) (L : List Chg) (N : Nat) (W W' : World) : Prop :=
  ∃ T' tc', ETurn B b (FootE b mt T) W W' mt T' tc' (stOf st s L.length) dk sy ∧ cont T' = addsA (cont T) s L ∧ Bud T' (N + L.length)
set_option maxRecDepth 100000 in
set_option maxHeartbeats 4000000 in
theorem add_walk {B b mt tc : Nat} {T : List Tb} {st sy : Int} {dk : Bs} (s : Int) (v : Value) (L : List Chg) (N : Nat) (W : World) (h : Egs B W b mt T tc st dk sy) (hv : ChAt W v L) (hvF : ∀ k, v.ownBlock = some k → ¬ FootE b mt T k) (hN : Bud T N) (hNL : N + L.length < 5000) (hB : B ≤ W.heap.size) :
    Calls Try.prog 24 #[.pointer (some ⟨b, 0, none⟩), v, .int .i64 s] W fun e W' => e = .returned (.tuple #[]) ∧ AddsOut B b mt T st dk sy s L N W W' := by
  obtain ⟨va, vc, rfl⟩ := hv.len
  have HV := Lib.hid (And.intro hv hvF)
  have HE := Lib.hid h
  have HN := Lib.hid (And.intro hN (And.intro hNL hB))
  clear hv h hvF hN
  have hL5 : L.length < 5000 := by omega
  clear hNL hB
  go_enter Try.func24, Try.ntmps24
  go_wp2_with fail
  go_loopw [11] (fun i wr => ∃ k : Nat, k ≤ L.length ∧ i = .int .i64 k ∧ Hid (∃ T' tc', ETurn B b (FootE b mt T) W wr mt T' tc' (stOf st s k) dk sy ∧ cont T' = addsA (cont T) s (L.take k) ∧ Bud T' (N + k))) (fun i _ => L.length - (intOf i).toNat)
  case atStart => exact ⟨0, Nat.zero_le _, rfl, Lib.hid ⟨T, tc, ETurn.same HE.out (Below.refl _ _), rfl, HN.out.1⟩⟩
  case round =>
    obtain ⟨k, hk, rfl, HX⟩ := hrel
    by_cases hlt : k < L.length
    · have HTK := Lib.hid (show L.take (k + 1) = L.take k ++ [L[k]] by rw [List.take_succ_eq_append_getElem hlt])
      obtain ⟨g, rfl, v1, v2, hgl, a0, a1, a2, a3⟩ := ch_get HV.out.1 hlt
      obtain ⟨T1, tc1, hT1, hc1, hb1⟩ := HX.out
      have hgF : ¬ FootE b mt T g := HV.out.2 g rfl
      have b0 := cell_kept2 hT1.kept hgl hgF a0
      have b1 := cell_kept2 hT1.kept hgl hgF a1
      have b2 := cell_kept2 hT1.kept hgl hgF a2
      have b3 := cell_kept2 hT1.kept hgl hgF a3
      generalize L[k] = x at *
      obtain ⟨tb, ky, vl, dl⟩ := x
      simp only at b0 b1 b2 b3
      have hT2 := hT1.below ((Below.refl _ wr).alloc (Nat.le_refl _) (.cells #[.string tb, .string ky, .string vl, .bool dl] 58))
      have HT2 := Lib.hid hT2
      have HCB := Lib.hid (And.intro hc1 hb1)
      have HSZ := Lib.hid hT1.kept.size
      have HCF := Lib.hid (fun hf : FootE b mt T1 wr.heap.size => Nat.lt_irrefl _ (hT1.egs.foot hf).2)
      have q0 := hT2.egs.c0
      have hlk := fun q => run_lookT (hT2.egs.drewN q).map tb
      clear a0 a1 a2 a3 hT1 hT2 hc1 hb1 hgF HX
      go_wp2_with fail
      clear b0 b1 b2 b3
      go_quiet (fail)
      have hTd := HT2.out.below (show Below _ _ ((wr.alloc (.cells #[.string tb, .string ky, .string vl, .bool dl] 58)).drewN nq) from ⟨rfl, rfl, rfl, Nat.le_refl _, fun _ _ => rfl⟩)
      have hcl : wr.heap.size < ((wr.alloc (.cells #[.string tb, .string ky, .string vl, .bool dl] 58)).drewN nq).heap.size := by simp
      have hcb : ((wr.alloc (.cells #[.string tb, .string ky, .string vl, .bool dl] 58)).drewN nq).heap[wr.heap.size]? = some (.cells #[.string tb, .string ky, .string vl, .bool dl] 58 (0, 0)) := heap_alloc_new wr _
      have hcF : ¬ FootE b mt T1 wr.heap.size := HCF.out
      clear hlk q0 HT2
      generalize ((wr.alloc (.cells #[.string tb, .string ky, .string vl, .bool dl] 58)).drewN nq) = Wd at *
      generalize hcc : wr.heap.size = cb at *
      obtain ⟨d0, d1, d2, d3⟩ : Wd.cell? ⟨cb, 0, none⟩ = some (.string tb) ∧ Wd.cell? ⟨cb, 1, none⟩ = some (.string ky) ∧ Wd.cell? ⟨cb, 2, none⟩ = some (.string vl) ∧ Wd.cell? ⟨cb, 3, none⟩ = some (.bool dl) := ⟨Lib.cell_of_heap hcb 0, Lib.cell_of_heap hcb 1, Lib.cell_of_heap hcb 2, Lib.cell_of_heap hcb 3⟩
      have HTD := Lib.hid hTd
      have HCX := Lib.hid (And.intro hcl (And.intro hcb hcF))
      clear hTd hcl hcb hcF hcc
      cases hto : tbOf T1 tb with
      | none =>
        have HTO := Lib.hid hto
        clear hto
        dsimp only [tbP]
        go_wp2_with fail
        refine (new_any Wd).mono ?_
        rintro e w2 ⟨rfl, hs2, hb2⟩
        have e0 := (hb2.cell (p := ⟨cb, 0, none⟩) HCX.out.1).trans d0
        have hT3 := HTD.out.below hb2
        have q0 := hT3.egs.c0
        obtain ⟨t2, ht2⟩ : ∃ t2 : Tb, t2 = ⟨tb, Wd.heap.size + 1, Wd.heap.size, [], 0, tc1⟩ := ⟨_, rfl⟩
        have hup := run_newT (hT3.egs.drew).map t2 (by rw [ht2]; exact HTO.out) (by rw [ht2])
        rw [ht2] at hup
        simp only at hup
        have HS2 := Lib.hid (And.intro hs2 (And.intro hb2 hT3))
        clear hs2 hb2 hT3
        go_wp2_with fail
        go_region
        have PK : Hid (∃ T2 tc2 t2, ETurn B b (FootE b mt T) W (setBlock w2.drew mt (.map (esOf (ens (T1 ++ [⟨tb, Wd.heap.size + 1, Wd.heap.size, [], 0, tc1⟩]))) (tc1 + 1))) mt T2 tc2 (stOf st s k) dk sy ∧ tbOf T2 tb = some t2 ∧ t2.S = Wd.heap.size + 1 ∧ cont T2 = cont T1 ∧ T2.length ≤ N + k + 1 ∧ ∀ t ∈ T2, total t.E ≤ N + k) := by
          refine Lib.hid ⟨T1 ++ [⟨tb, Wd.heap.size + 1, Wd.heap.size, [], 0, tc1⟩], tc1 + 1, ⟨tb, Wd.heap.size + 1, Wd.heap.size, [], 0, tc1⟩, HTD.out.trans (HTD.out.egs.add (t := ⟨tb, Wd.heap.size + 1, Wd.heap.size, [], 0, tc1⟩) HTO.out rfl (show Below Wd.heap.size Wd w2.drew from HS2.out.2.1.trans ⟨rfl, rfl, rfl, Nat.le_refl _, fun _ _ => rfl⟩) HS2.out.1.drew (Nat.le_trans HN.out.2.2 HTD.out.kept.size)), ?_, rfl, ?_, ?_, fun t ht => ?_⟩
          · unfold tbOf
            rw [List.find?_append, show T1.find? (fun t => decide (tb = t.key)) = none from HTO.out]
            simp
          · rw [cont_add (t := ⟨tb, Wd.heap.size + 1, Wd.heap.size, [], 0, tc1⟩) HTO.out]
            funext q
            by_cases hq : q = tb
            · rw [if_pos hq, hq]
              unfold cont
              rw [HTO.out]
              rfl
            · rw [if_neg hq]
          · rw [List.length_append]; have := HCB.out.2.1; simp; omega
          · rcases List.mem_append.1 ht with ht | ht
            · exact HCB.out.2.2 t ht
            · rw [List.mem_singleton.1 ht]; exact Nat.zero_le _
        have f1 := (HS2.out.2.1.cell (p := ⟨cb, 1, none⟩) HCX.out.1).trans d1
        have f2 := (HS2.out.2.1.cell (p := ⟨cb, 2, none⟩) HCX.out.1).trans d2
        have f3 := (HS2.out.2.1.cell (p := ⟨cb, 3, none⟩) HCX.out.1).trans d3
        have hcm : cb ≠ mt := fun e => HCX.out.2.2 (by rw [e]; exact .inr (.inl rfl))
        have hkk : Kept (fun j => j = mt) w2.drew (setBlock w2.drew mt (.map (esOf (ens (T1 ++ [⟨tb, Wd.heap.size + 1, Wd.heap.size, [], 0, tc1⟩]))) (tc1 + 1))) := setBlock_kept (Kept.refl _ _) mt _ (.inl rfl)
        have hcs : cb < w2.drew.heap.size := Nat.lt_of_lt_of_le HCX.out.1 HS2.out.2.1.size
        have g1 := cell_kept2 hkk hcs hcm f1
        have g2 := cell_kept2 hkk hcs hcm f2
        have g3 := cell_kept2 hkk hcs hcm f3
        clear f1 f2 f3 hcm hkk hcs hup q0 e0 d0 d1 d2 d3 HS2 ht2 t2
        generalize setBlock w2.drew mt (.map (esOf (ens (T1 ++ [⟨tb, Wd.heap.size + 1, Wd.heap.size, [], 0, tc1⟩]))) (tc1 + 1)) = W5 at *
        generalize Wd.heap.size + 1 = S2 at *
        cases dl with
        | true =>
          have HQ : Hid (Calls Try.prog 40 #[.pointer (some ⟨S2, 0, none⟩), .string ky, .int .i64 s] W5 fun e W6 => ∃ n : Int, e = .returned (.int .i64 n) ∧ Hid (∃ T3 tc3, ETurn B b (FootE b mt T) W W6 mt T3 tc3 (stOf st s k) dk sy ∧ cont T3 = addsA (cont T) s (L.take (k + 1)) ∧ Bud T3 (N + (k + 1)))) := by
            obtain ⟨T2, tc2, t2, p1, p2, p3, p4, p5, p6⟩ := PK.out
            obtain ⟨p7, p8⟩ := tbOf_mem p2
            rw [← p3]
            refine Lib.hid ((del_any B t2.S t2.m t2.clock t2.E ky s W5 (p1.egs.sto t2 p7) (Nat.le_trans HN.out.2.2 p1.kept.size) (by have := p6 t2 p7; have := HN.out.2.1; omega)).mono ?_)
            rintro e W6 ⟨h1, h2⟩
            rw [HTK.out, addsA_snoc, ← HCB.out.1, ← p4]
            exact ⟨_, h1, Lib.hid (adds_step (x := (tb, ky, vl, true)) p1 p2 h2 p5 p6)⟩
          go_wp2_with fail
          refine HQ.out.mono ?_
          rintro e W6 ⟨n6, rfl, HT6⟩
          obtain ⟨T3, tc3, hT3, hc3, hb3⟩ := HT6.out
          have r1 := hT3.egs.c1
          have r2 := hT3.egs.fr 1
          have HT7 := Lib.hid (And.intro hT3 (And.intro hc3 hb3))
          clear hT3 hc3 hb3 HQ PK HT6 HTD HTO HCX g1 g2 g3
          go_wp2_with fail
          go_roundw
          case rel => exact ⟨k + 1, by omega, by go_num, Lib.hid ⟨T3, tc3, by rw [← stOf_succ]; exact HT7.out.1.setStamp _ (.inl rfl), HT7.out.2.1, HT7.out.2.2⟩⟩
          case measure => simp [intOf]; omega
        | false =>
          have HQ : Hid (Calls Try.prog 41 #[.pointer (some ⟨S2, 0, none⟩), .string ky, .string vl, .int .i64 s] W5 fun e W6 => ∃ n : Int, e = .returned (.int .i64 n) ∧ Hid (∃ T3 tc3, ETurn B b (FootE b mt T) W W6 mt T3 tc3 (stOf st s k) dk sy ∧ cont T3 = addsA (cont T) s (L.take (k + 1)) ∧ Bud T3 (N + (k + 1)))) := by
            obtain ⟨T2, tc2, t2, p1, p2, p3, p4, p5, p6⟩ := PK.out
            obtain ⟨p7, p8⟩ := tbOf_mem p2
            rw [← p3]
            refine Lib.hid ((put_any B t2.S t2.m t2.clock t2.E ky vl s W5 (p1.egs.sto t2 p7) (Nat.le_trans HN.out.2.2 p1.kept.size) (by have := p6 t2 p7; have := HN.out.2.1; omega)).mono ?_)
            rintro e W6 ⟨h1, h2⟩
            rw [HTK.out, addsA_snoc, ← HCB.out.1, ← p4]
            exact ⟨_, h1, Lib.hid (adds_step (x := (tb, ky, vl, false)) p1 p2 h2 p5 p6)⟩
          go_wp2_with fail
          refine HQ.out.mono ?_
          rintro e W6 ⟨n6, rfl, HT6⟩
          obtain ⟨T3, tc3, hT3, hc3, hb3⟩ := HT6.out
          have r1 := hT3.egs.c1
          have r2 := hT3.egs.fr 1
          have HT7 := Lib.hid (And.intro hT3 (And.intro hc3 hb3))
          clear hT3 hc3 hb3 HQ PK HT6 HTD HTO HCX g1 g2 g3
          go_wp2_with fail
          go_roundw
          case rel => exact ⟨k + 1, by omega, by go_num, Lib.hid ⟨T3, tc3, by rw [← stOf_succ]; exact HT7.out.1.setStamp _ (.inl rfl), HT7.out.2.1, HT7.out.2.2⟩⟩
          case measure => simp [intOf]; omega
      | some t2 =>
        have HTO := Lib.hid hto
        clear hto
        obtain ⟨S2, hS2⟩ : ∃ S2, S2 = t2.S := ⟨_, rfl⟩
        have PK : Hid (∃ T2 tc2 t2, ETurn B b (FootE b mt T) W Wd mt T2 tc2 (stOf st s k) dk sy ∧ tbOf T2 tb = some t2 ∧ t2.S = S2 ∧ cont T2 = cont T1 ∧ T2.length ≤ N + k + 1 ∧ ∀ t ∈ T2, total t.E ≤ N + k) :=
          Lib.hid ⟨T1, tc1, t2, HTD.out, HTO.out, hS2.symm, rfl, by have := HCB.out.2.1; omega, HCB.out.2.2⟩
        dsimp only [tbP]
        rw [← hS2]
        have g1 := d1
        have g2 := d2
        have g3 := d3
        clear hS2 d0 d1 d2 d3
        generalize Wd = W5 at *
        cases dl with
        | true =>
          have HQ : Hid (Calls Try.prog 40 #[.pointer (some ⟨S2, 0, none⟩), .string ky, .int .i64 s] W5 fun e W6 => ∃ n : Int, e = .returned (.int .i64 n) ∧ Hid (∃ T3 tc3, ETurn B b (FootE b mt T) W W6 mt T3 tc3 (stOf st s k) dk sy ∧ cont T3 = addsA (cont T) s (L.take (k + 1)) ∧ Bud T3 (N + (k + 1)))) := by
            obtain ⟨T2, tc2, t2, p1, p2, p3, p4, p5, p6⟩ := PK.out
            obtain ⟨p7, p8⟩ := tbOf_mem p2
            rw [← p3]
            refine Lib.hid ((del_any B t2.S t2.m t2.clock t2.E ky s W5 (p1.egs.sto t2 p7) (Nat.le_trans HN.out.2.2 p1.kept.size) (by have := p6 t2 p7; have := HN.out.2.1; omega)).mono ?_)
            rintro e W6 ⟨h1, h2⟩
            rw [HTK.out, addsA_snoc, ← HCB.out.1, ← p4]
            exact ⟨_, h1, Lib.hid (adds_step (x := (tb, ky, vl, true)) p1 p2 h2 p5 p6)⟩
          go_wp2_with fail
          refine HQ.out.mono ?_
          rintro e W6 ⟨n6, rfl, HT6⟩
          obtain ⟨T3, tc3, hT3, hc3, hb3⟩ := HT6.out
          have r1 := hT3.egs.c1
          have r2 := hT3.egs.fr 1
          have HT7 := Lib.hid (And.intro hT3 (And.intro hc3 hb3))
          clear hT3 hc3 hb3 HQ PK HT6 HTD HTO HCX g1 g2 g3
          go_wp2_with fail
          go_roundw
          case rel => exact ⟨k + 1, by omega, by go_num, Lib.hid ⟨T3, tc3, by rw [← stOf_succ]; exact HT7.out.1.setStamp _ (.inl rfl), HT7.out.2.1, HT7.out.2.2⟩⟩
          case measure => simp [intOf]; omega
        | false =>
          have HQ : Hid (Calls Try.prog 41 #[.pointer (some ⟨S2, 0, none⟩), .string ky, .string vl, .int .i64 s] W5 fun e W6 => ∃ n : Int, e = .returned (.int .i64 n) ∧ Hid (∃ T3 tc3, ETurn B b (FootE b mt T) W W6 mt T3 tc3 (stOf st s k) dk sy ∧ cont T3 = addsA (cont T) s (L.take (k + 1)) ∧ Bud T3 (N + (k + 1)))) := by
            obtain ⟨T2, tc2, t2, p1, p2, p3, p4, p5, p6⟩ := PK.out
            obtain ⟨p7, p8⟩ := tbOf_mem p2
            rw [← p3]
            refine Lib.hid ((put_any B t2.S t2.m t2.clock t2.E ky vl s W5 (p1.egs.sto t2 p7) (Nat.le_trans HN.out.2.2 p1.kept.size) (by have := p6 t2 p7; have := HN.out.2.1; omega)).mono ?_)
            rintro e W6 ⟨h1, h2⟩
            rw [HTK.out, addsA_snoc, ← HCB.out.1, ← p4]
            exact ⟨_, h1, Lib.hid (adds_step (x := (tb, ky, vl, false)) p1 p2 h2 p5 p6)⟩
          go_wp2_with fail
          refine HQ.out.mono ?_
          rintro e W6 ⟨n6, rfl, HT6⟩
          obtain ⟨T3, tc3, hT3, hc3, hb3⟩ := HT6.out
          have r1 := hT3.egs.c1
          have r2 := hT3.egs.fr 1
          have HT7 := Lib.hid (And.intro hT3 (And.intro hc3 hb3))
          clear hT3 hc3 hb3 HQ PK HT6 HTD HTO HCX g1 g2 g3
          go_wp2_with fail
          go_roundw
          case rel => exact ⟨k + 1, by omega, by go_num, Lib.hid ⟨T3, tc3, by rw [← stOf_succ]; exact HT7.out.1.setStamp _ (.inl rfl), HT7.out.2.1, HT7.out.2.2⟩⟩
          case measure => simp [intOf]; omega
    · have e : k = L.length := by omega
      have HL := Lib.hid (show L.take k = L from List.take_of_length_le (by omega))
      go_wp2_with fail
      go_end0
      obtain ⟨T', tc', h1, h2, h3⟩ := HX.out
      rw [HL.out] at h2
      rw [e] at h1 h3
      exact ⟨rfl, T', tc', h1, h2, h3⟩
end Go.Proofs.Ytpcjmceakelilaa
