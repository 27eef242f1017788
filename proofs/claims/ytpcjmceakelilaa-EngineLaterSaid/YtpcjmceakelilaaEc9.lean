/- Merged texts: En31, En32, En33, En34, Close2. -/
import Derived.Test.YtpcjmceakelilaaEc8
import Derived.Test.YtpcjmceakelilaaRows
import Derived.ProofKit
import Derived.Below
import Derived.ChangeSame
import Derived.WideKeyArgs
import Derived.OpenShut
/- Engine: what the tables hold: its weight on the disk; reads at a time (plain). -/
namespace Go.Proofs.Ytpcjmceakelilaa
open Go.ChangeShapes Go.WideShapes Go.ChangeAt Go.RowKit Go.ChangeMaps Go.Deep Go.Shelf Go.Sort
set_option linter.unusedVariables false
set_option linter.unusedSimpArgs false
/-- what is held at a place -/
def cw (A : Bs → Bs → List Ver) (p : Bs × Bs) : Nat := ((A p.1 p.2).map fun v => wv p.1 (p.2, v)).sum
def gv (tb k : Bs) (v : Ver) : Prop := tb.size ≤ 20000 ∧ k.size ≤ 20000 ∧ v.2.1.size ≤ 20000 ∧ 1 ≤ v.1 ∧ v.1 ≤ 1099511627776 ∧ wv tb (k, v) ≤ 65544
structure WtI (A : Bs → Bs → List Ver) (K : Nat) : Prop where
  good : ∀ tb k, ∀ v ∈ A tb k, gv tb k v
  sum : ∀ P : List (Bs × Bs), P.Nodup → (P.map (cw A)).sum ≤ K
theorem sum_le_of {α : Type} {f g : α → Nat} : ∀ l : List α, (∀ x ∈ l, f x ≤ g x) → (l.map f).sum ≤ (l.map g).sum
  | [], _ => Nat.le_refl _
  | x :: l, h => by
    have h1 := h x (List.mem_cons_self ..)
    have h2 := sum_le_of l (fun y hy => h y (List.mem_cons_of_mem _ hy))
    simp only [List.map_cons, List.sum_cons]
    omega
theorem sum_subl {f : Ver → Nat} {a b : List Ver} (h : a.Sublist b) : (a.map f).sum ≤ (b.map f).sum := by
  induction h with
  | slnil => exact Nat.le_refl _
  | cons x _ ih => simp only [List.map_cons, List.sum_cons]; omega
  | cons_cons x _ ih => simp only [List.map_cons, List.sum_cons]; omega
theorem WtI.sub {A A' : Bs → Bs → List Ver} {K : Nat} (h : WtI A K) (hs : ∀ tb k, (A' tb k).Sublist (A tb k)) : WtI A' K :=
  ⟨fun tb k v hv => h.good tb k v ((hs tb k).subset hv), fun P hP => Nat.le_trans (sum_le_of P fun p _ => sum_subl (hs p.1 p.2)) (h.sum P hP)⟩
theorem WtI.roll {A : Bs → Bs → List Ver} {K : Nat} (h : WtI A K) (s : Int) : WtI (rollT A s) K := h.sub fun tb k => List.take_sublist _ _
theorem WtI.prune {A : Bs → Bs → List Ver} {K : Nat} (h : WtI A K) (s : Int) : WtI (pruneT A s) K := h.sub fun tb k => List.drop_sublist _ _
theorem WtI.mono {A : Bs → Bs → List Ver} {K K' : Nat} (h : WtI A K) (hK : K ≤ K') : WtI A K' := ⟨h.good, fun P hP => Nat.le_trans (h.sum P hP) hK⟩
theorem wtI_nil : WtI (fun _ _ => []) 0 := by
  refine ⟨fun tb k v hv => (by cases hv), fun P hP => Nat.le_of_eq ?_⟩
  clear hP
  induction P with
  | nil => rfl
  | cons p P ih => simp only [List.map_cons, List.sum_cons, ih]; rfl
theorem sum_bump {α : Type} [DecidableEq α] {f g : α → Nat} (q : α) (w : Nat) (hq : g q ≤ f q + w) (h : ∀ x, x ≠ q → g x ≤ f x) : ∀ P : List α, P.Nodup → (P.map g).sum ≤ (P.map f).sum + w ∧ (q ∉ P → (P.map g).sum ≤ (P.map f).sum)
  | [], _ => ⟨by simp, fun _ => Nat.le_refl _⟩
  | x :: P, hn => by
    obtain ⟨h1, h2⟩ := List.nodup_cons.1 hn
    obtain ⟨i1, i2⟩ := sum_bump q w hq h P h2
    simp only [List.map_cons, List.sum_cons]
    by_cases e : x = q
    · subst e
      have := i2 h1
      exact ⟨by omega, fun hc => absurd (List.mem_cons_self ..) hc⟩
    · have := h x e
      exact ⟨by omega, fun hc => by have := i2 (fun hm => hc (List.mem_cons_of_mem _ hm)); omega⟩
theorem WtI.put {A : Bs → Bs → List Ver} {K w : Nat} (h : WtI A K) (s : Int) (x : Chg) (hg : gv x.1 x.2.1 (verOf s x)) (hw : wv x.1 (x.2.1, verOf s x) ≤ w) : WtI (add1 A s x) (K + w) := by
  have key : ∀ tb k, add1 A s x tb k = A tb k ∨ tb = x.1 ∧ k = x.2.1 ∧ add1 A s x tb k = A tb k ++ [verOf s x] := fun tb k => by
    unfold add1
    by_cases e : tb = x.1
    · rw [if_pos e]
      unfold addA
      split
      · show (if k = x.2.1 then _ else _) = _ ∨ _
        by_cases e2 : k = x.2.1
        · exact .inr ⟨e, e2, by rw [e, e2]; simp⟩
        · rw [if_neg e2, e]; exact .inl rfl
      · rw [e]; exact .inl rfl
    · rw [if_neg e]; exact .inl rfl
  refine ⟨fun tb k v hv => ?_, fun P hP => ?_⟩
  · rcases key tb k with e | ⟨e1, e2, e⟩
    · rw [e] at hv; exact h.good tb k v hv
    · rw [e] at hv
      rcases List.mem_append.1 hv with hv | hv
      · exact h.good tb k v hv
      · rw [List.mem_singleton.1 hv, e1, e2]; exact hg
  · refine Nat.le_trans (sum_bump (f := cw A) (x.1, x.2.1) w ?_ (fun p hp => ?_) P hP).1 (Nat.add_le_add_right (h.sum P hP) _)
    · rcases key x.1 x.2.1 with e | ⟨_, _, e⟩
      · unfold cw; dsimp only; rw [e]; omega
      · unfold cw
        simp only [e, List.map_append, List.sum_append, List.map_cons, List.map_nil, List.sum_cons, List.sum_nil]
        omega
    · rcases key p.1 p.2 with e | ⟨e1, e2, _⟩
      · unfold cw; rw [e]; exact Nat.le_refl _
      · exact absurd (Prod.ext e1 e2) hp
theorem WtI.adds (s : Int) (w : Chg → Nat) : ∀ (L : List Chg) {A : Bs → Bs → List Ver} {K : Nat}, WtI A K → (∀ x ∈ L, gv x.1 x.2.1 (verOf s x) ∧ wv x.1 (x.2.1, verOf s x) ≤ w x) → WtI (addsA A s L) (K + (L.map w).sum)
  | [], A, K, h, _ => by simpa [addsA] using h
  | x :: L, A, K, h, hL => by
    have h1 := h.put s x (hL x (List.mem_cons_self ..)).1 (hL x (List.mem_cons_self ..)).2
    have h2 := WtI.adds s w L h1 (fun y hy => hL y (List.mem_cons_of_mem _ hy))
    have e : K + ((x :: L).map w).sum = K + w x + (L.map w).sum := by simp only [List.map_cons, List.sum_cons]; omega
    rw [e]
    exact h2
theorem numB_one : (numB 1).length = 1 := by unfold numB; rw [vlq_small (by omega)]; rfl
theorem strB_nil : (strB ⟨#[]⟩).length = 1 := by
  unfold strB numB
  rw [vlq_small (by decide)]
  rfl
theorem strB_pos (s : Bs) : 1 ≤ (strB s).length := by unfold strB; rw [List.length_append]; have := numB_pos s.size; omega
theorem chB_ver (s : Int) (x : Chg) : (chB (chgV x.1 (x.2.1, verOf s x))).length ≤ (chB x).length := by
  unfold chgV verOf chB
  dsimp only
  simp only [List.length_append, List.length_cons]
  by_cases h : x.2.2.2 = true
  · rw [if_pos h, strB_nil]; have := strB_pos x.2.2.1; omega
  · rw [if_neg h]; omega
theorem recB_one (k s : Nat) (x : Chg) (hk : k = 1 ∨ k = 3) : (recB k s [x]).length = 2 + (numB s).length + (chB x).length := by
  unfold recB
  rw [if_pos hk]
  simp only [List.length_cons, List.length_append, List.length_nil, chsB, List.flatMap_cons, List.flatMap_nil, Nat.zero_add, numB_one]
  omega
theorem chsB_sum (L : List Chg) : (chsB L).length = (L.map fun x => (chB x).length).sum := by
  unfold chsB
  rw [List.length_flatMap]
theorem le_sum {α : Type} {f : α → Nat} : ∀ (l : List α) (x : α), x ∈ l → f x ≤ (l.map f).sum
  | y :: l, x, h => by
    simp only [List.map_cons, List.sum_cons]
    rcases List.mem_cons.1 h with rfl | h
    · omega
    · have := le_sum (f := f) l x h; omega
theorem sum_plus {α : Type} {f : α → Nat} (c : Nat) : ∀ l : List α, (l.map fun x => f x + c).sum = (l.map f).sum + c * l.length
  | [] => by simp
  | x :: l => by
    have := sum_plus (f := f) c l
    simp only [List.map_cons, List.sum_cons, List.length_cons, Nat.mul_add, Nat.mul_one] at this ⊢
    omega
/-- a commit that fits -/
theorem WtI.commit {A : Bs → Bs → List Ver} {K : Nat} {s : Int} {L : List Chg} {dk : Bs} (h : WtI A K) (hr : refC A s L = 0) (hf : Fits dk 1 s.toNat L) (hL : L.length ≤ 64) : WtI (addsA A s L) (K + 70000) := by
  obtain ⟨r1, r2, r3, r4, r5⟩ := refC_zero hr
  have hlen : (recB 1 s.toNat L).length = 1 + (numB s.toNat).length + (numB L.length).length + (L.map fun x => (chB x).length).sum := by
    unfold recB
    rw [if_pos (.inl rfl)]
    simp only [List.length_cons, List.length_append, chsB_sum]
    omega
  have hns := numB_len s.toNat (by omega)
  have hf1 := hf.1
  have hw : ∀ x ∈ L, wv x.1 (x.2.1, verOf s x) ≤ (chB x).length + 19 ∧ wv x.1 (x.2.1, verOf s x) ≤ 65544 := fun x hx => by
    have h1 := chB_ver s x
    have h2 := le_sum (f := fun x => (chB x).length) L x hx
    have h3 := numB_pos L.length
    unfold wv
    rw [recB_one 3 _ _ (.inr rfl), show ((x.2.1, verOf s x) : Bs × Ver).2.1 = s from rfl]
    omega
  refine (WtI.adds s (fun x => (chB x).length + 19) L h fun x hx => ⟨⟨(r4.2 x hx).1, (r4.2 x hx).2.1, ?_, r1, r2, (hw x hx).2⟩, (hw x hx).1⟩).mono ?_
  · show (if x.2.2.2 = true then _ else _ : Bs).size ≤ 20000
    split
    · exact Nat.zero_le _
    · exact (r4.2 x hx).2.2
  · have h5 := sum_plus (f := fun x : Chg => (chB x).length) 19 L
    omega
/-- the places of some tables -/
theorem ckOK_of {B W b mt tc st dk sy} {T : List Tb} {K : Nat} (h : Egs B W b mt T tc st dk sy) (hw : WtI (cont T) K) (hK : K ≤ 16000000) (keep : Int) : CkOK T keep := by
  have hp := hw.prune keep
  refine ⟨fun tb p hp2 => ?_, ?_⟩
  · unfold ysT at hp2
    cases e : tbOf T tb with
    | none => rw [e] at hp2; cases hp2
    | some t =>
      rw [e] at hp2
      obtain ⟨k, hk, hv⟩ := List.mem_flatMap.1 hp2
      obtain ⟨v, hv2, rfl⟩ := List.mem_map.1 hv
      have hm : v ∈ pruneT (cont T) keep tb k := by
        unfold pruneT cont
        rw [e]
        exact hv2
      exact hp.good tb k v hm
  · obtain ⟨P, hP⟩ : ∃ P : Bs → List (Bs × Bs), P = fun tb => match tbOf T tb with
      | some t => (ordE t.E).map fun k => (tb, k)
      | none => [] := ⟨_, rfl⟩
    have hP1 : ∀ tb, ∀ q ∈ P tb, q.1 = tb := fun tb q hq => by
      rw [hP] at hq
      dsimp only at hq
      split at hq
      · obtain ⟨k, _, rfl⟩ := List.mem_map.1 hq; rfl
      · cases hq
    have hPn : ∀ tb, (P tb).Nodup := fun tb => by
      rw [hP]
      dsimp only
      split
      · rename_i t e
        have g := (h.sto t (tbOf_mem e).1).gd
        have hn : (ordE t.E).Nodup := (sortB_perm _).nodup_iff.2 g.keys
        exact List.Pairwise.map _ (fun a b hab he => hab (by cases he; rfl)) hn
      · exact List.nodup_nil
    have hsum : ∀ tb, sumW tb (ysT T keep tb) = ((P tb).map (cw (pruneT (cont T) keep))).sum := fun tb => by
      rw [hP]
      unfold ysT sumW
      dsimp only
      cases e : tbOf T tb with
      | none => rfl
      | some t =>
        dsimp only
        rw [List.map_map]
        have : ∀ ks : List Bs, ((ks.flatMap fun k => (pruneF keep (lkL t.E k)).map fun x => (k, x)).map (wv tb)).sum = (ks.map (cw (pruneT (cont T) keep) ∘ fun k => (tb, k))).sum := fun ks => by
          induction ks with
          | nil => rfl
          | cons k ks ih =>
            simp only [List.flatMap_cons, List.map_append, List.sum_append, List.map_cons, List.sum_cons, ih, List.map_map]
            congr 1
            unfold cw pruneT cont
            simp only [e, Function.comp]
            rfl
        exact this _
    have hall : ∀ ks : List Bs, ks.Nodup → (ks.flatMap P).Nodup ∧ totW T keep ks = ((ks.flatMap P).map (cw (pruneT (cont T) keep))).sum := fun ks => by
      induction ks with
      | nil => exact fun _ => ⟨List.nodup_nil, rfl⟩
      | cons k ks ih =>
        intro hn
        obtain ⟨n1, n2⟩ := List.nodup_cons.1 hn
        obtain ⟨i1, i2⟩ := ih n2
        refine ⟨?_, ?_⟩
        · rw [List.flatMap_cons]
          refine List.nodup_append.2 ⟨hPn k, i1, fun a ha b hb e => ?_⟩
          subst e
          obtain ⟨k2, hk2, hb2⟩ := List.mem_flatMap.1 hb
          have e1 := hP1 k a ha
          have e2 := hP1 k2 a hb2
          exact n1 (by rw [← e1, e2]; exact hk2)
        · rw [List.flatMap_cons, List.map_append, List.sum_append, ← i2, ← hsum]
          simp [totW]
    have hks : (sortB (T.map (·.key))).Nodup := (sortB_perm _).nodup_iff.2 h.keys
    obtain ⟨j1, j2⟩ := hall _ hks
    have := hp.sum _ j1
    omega
end Go.Proofs.Ytpcjmceakelilaa
/- Engine: reads at a time depend on what is held at that time (plain). -/
namespace Go.Proofs.Ytpcjmceakelilaa
open Go.ChangeShapes Go.WideShapes Go.ChangeAt Go.RowKit Go.ChangeMaps Go.Deep Go.Shelf Go.Sort
set_option linter.unusedVariables false
set_option linter.unusedSimpArgs false
theorem valAt_roll {L M : List Ver} {t : Int} (h : rollF t L = rollF t M) : valAt L t = valAt M t := by
  have hl : upto L t = upto M t := by
    have := congrArg List.length h
    unfold rollF at this
    rw [List.length_take, List.length_take] at this
    have h1 := upto_le L t
    have h2 := upto_le M t
    omega
  by_cases h0 : upto L t = 0
  · rw [valAt_zero h0, valAt_zero (by rw [← hl]; exact h0)]
  · have h1 : L[upto L t - 1]? = M[upto M t - 1]? := by
      have h2 := congrArg (fun l => l[upto L t - 1]?) h
      dsimp only [rollF] at h2
      rw [List.getElem?_take, List.getElem?_take, if_pos (by omega), if_pos (by omega)] at h2
      rw [h2, hl]
    unfold valAt
    rw [h1, hl]
theorem valAt_nil' (t : Int) : valAt [] t = none := by simp [valAt]
theorem scan_val {E E' : List En} (g : Gd E) (g' : Gd E') {t : Int} (h : ∀ k, valAt (lkL E k) t = valAt (lkL E' k) t) (back : Bool) : scanK E t (scanT E ⟨#[]⟩ ⟨#[]⟩ back) = scanK E' t (scanT E' ⟨#[]⟩ ⟨#[]⟩ back) := by
  have hf : (fun k => (valAt (lkL E' k) t).map fun v => (k, v)) = fun k => (valAt (lkL E k) t).map fun v => (k, v) := funext fun k => by rw [h]
  have hD : (ordE E).filter (fun k => (valAt (lkL E k) t).isSome) = (ordE E').filter (fun k => (valAt (lkL E k) t).isSome) := by
    have m1 : ∀ k, (valAt (lkL E k) t).isSome = true → k ∈ ordE E := fun k hk => (ord_keys g k).2 fun e => by rw [e, valAt_nil'] at hk; cases hk
    have m2 : ∀ k, (valAt (lkL E k) t).isSome = true → k ∈ ordE E' := fun k hk => (ord_keys g' k).2 fun e => by rw [h, e, valAt_nil'] at hk; cases hk
    have s1 : ((ordE E).filter fun k => (valAt (lkL E k) t).isSome).Pairwise fun a b => lB a b = true := (ord_srt g).filter _
    have s2 : ((ordE E').filter fun k => (valAt (lkL E k) t).isSome).Pairwise fun a b => lB a b = true := (ord_srt g').filter _
    have n1 : ((ordE E).filter fun k => (valAt (lkL E k) t).isSome).Nodup := s1.imp fun {a b} h e => by subst e; rw [lB_irrefl] at h; cases h
    have n2 : ((ordE E').filter fun k => (valAt (lkL E k) t).isSome).Nodup := s2.imp fun {a b} h e => by subst e; rw [lB_irrefl] at h; cases h
    refine List.Perm.eq_of_pairwise (le := fun a b => lB a b = true) (fun x y _ _ h1 h2 => by rw [lB_asymm h1] at h2; cases h2) s1 s2 ((List.perm_ext_iff_of_nodup n1 n2).2 fun k => ?_)
    simp only [List.mem_filter]
    exact ⟨fun hk => ⟨m2 k hk.2, hk.2⟩, fun hk => ⟨m1 k hk.2, hk.2⟩⟩
  have hs : ∀ l : List Bs, l.filterMap (fun k => (valAt (lkL E k) t).map fun v => (k, v)) = (l.filter fun k => (valAt (lkL E k) t).isSome).filterMap fun k => (valAt (lkL E k) t).map fun v => (k, v) := fun l => by
    rw [List.filterMap_filter]
    refine filterMap_same _ fun k => ?_
    cases e : valAt (lkL E k) t with
    | none => rfl
    | some v => rfl
  have hm : (ordE E).filterMap (fun k => (valAt (lkL E k) t).map fun v => (k, v)) = (ordE E').filterMap (fun k => (valAt (lkL E k) t).map fun v => (k, v)) := by rw [hs, hD, ← hs]
  rw [scanT_all, scanT_all]
  unfold scanK
  rw [hf]
  cases back with
  | false => exact hm
  | true =>
    simp only [if_true]
    rw [List.filterMap_reverse, List.filterMap_reverse, hm]
def eOf (o : Option Tb) : List En := match o with
  | some u => u.E
  | none => []
theorem ordE_nil : ordE [] = [] := by
  have h : (ordE []).length = 0 := by
    rw [(show (ordE []).Perm (([] : List En).map (fun e : En => e.key)) from sortB_perm _).length_eq]; rfl
  exact List.eq_nil_of_length_eq_zero h
theorem scanO_eq (o : Option Tb) (lo hi : Bs) (t : Int) (back : Bool) : scanO o lo hi t back = scanK (eOf o) t (scanT (eOf o) lo hi back) := by
  cases o with
  | some u => rfl
  | none =>
    unfold scanO eOf scanT
    dsimp only
    rw [ordE_nil]
    cases back <;> rfl
theorem eOf_cont (T : List Tb) (tb : Bs) : lkL (eOf (tbOf T tb)) = cont T tb := by
  unfold eOf cont
  cases tbOf T tb with
  | some u => rfl
  | none => rfl
theorem gd_nil : Gd [] := ⟨List.nodup_nil, fun e he => by cases he⟩
section
variable {B b mt tc B' b' mt' tc' : Nat} {W W' : World} {T T' : List Tb} {st sy st' sy' : Int} {dk dk' : Bs}
theorem Egs.gdO (h : Egs B W b mt T tc st dk sy) (tb : Bs) : Gd (eOf (tbOf T tb)) := by
  unfold eOf
  cases e : tbOf T tb with
  | some u => exact (h.sto u (tbOf_mem e).1).gd
  | none => exact gd_nil
theorem scanO_same (h : Egs B W b mt T tc st dk sy) (h' : Egs B' W' b' mt' T' tc' st' dk' sy') {t : Int} (tb : Bs) (hv : ∀ k, valAt (cont T tb k) t = valAt (cont T' tb k) t) (back : Bool) : scanO (tbOf T tb) ⟨#[]⟩ ⟨#[]⟩ t back = scanO (tbOf T' tb) ⟨#[]⟩ ⟨#[]⟩ t back := by
  rw [scanO_eq, scanO_eq]
  exact scan_val (h.gdO tb) (h'.gdO tb) (fun k => by rw [eOf_cont, eOf_cont]; exact hv k) back
theorem Egs.lenE (h : Egs B W b mt T tc st dk sy) {N : Nat} (hN : Bud T N) : ∀ u ∈ T, u.E.length ≤ N := fun u hu =>
  Nat.le_trans (len_total (fun e he => ((h.sto u hu).rows e he).2.1)) (hN.2 u hu)
theorem Egs.scanLen (h : Egs B W b mt T tc st dk sy) {N : Nat} (hN : Bud T N) (tb lo hi : Bs) (t : Int) (back : Bool) : (scanO (tbOf T tb) lo hi t back).length ≤ N := by
  rw [scanO_eq]
  refine Nat.le_trans (scan_len (h.gdO tb) t lo hi back) ?_
  unfold eOf
  cases e : tbOf T tb with
  | some u => exact h.lenE hN u (tbOf_mem e).1
  | none => exact Nat.zero_le _
end
theorem adds_late (t s : Int) (hs : t < s) : ∀ (L : List Chg) (A : Bs → Bs → List Ver) (tb k : Bs), valAt (addsA A s L tb k) t = valAt (A tb k) t
  | [], _, _, _ => rfl
  | x :: L, A, tb, k => by
    show valAt (addsA (add1 A s x) s L tb k) t = _
    rw [adds_late t s hs L]
    refine valAt_roll ?_
    unfold add1
    by_cases e : tb = x.1
    · rw [if_pos e, e]
      exact roll_add _ _ _ _ (by show t < s; exact hs) _
    · rw [if_neg e]
/-- an engine at work: j calls behind -/
structure EWk (B b j : Nat) (W0 W : World) (mt : Nat) (T : List Tb) (tc : Nat) (st : Int) (dk : Bs) (sy : Int) : Prop where
  egs : Egs B W b mt T tc st dk sy
  bud : Bud T (64 * j)
  disk : dk.size ≤ 16777216
  st0 : 0 ≤ st ∧ st ≤ 1099511627776
  wt : WtI (cont T) (70000 * j)
  low : Below B W0 W
  bw : B ≤ W.heap.size
section
variable {B b j mt tc : Nat} {W0 W W' : World} {T : List Tb} {st sy : Int} {dk : Bs}
theorem EWk.below (h : EWk B b j W0 W mt T tc st dk sy) (hb : Below W.heap.size W W') : EWk B b j W0 W' mt T tc st dk sy :=
  ⟨h.egs.below hb, h.bud, h.disk, h.st0, h.wt, h.low.trans (hb.mono h.bw), Nat.le_trans h.bw hb.size⟩
theorem EWk.more (h : EWk B b j W0 W mt T tc st dk sy) : EWk B b (j + 1) W0 W mt T tc st dk sy :=
  ⟨h.egs, ⟨Nat.le_trans h.bud.1 (by omega), fun t ht => Nat.le_trans (h.bud.2 t ht) (by omega)⟩, h.disk, h.st0, h.wt.mono (by omega), h.low, h.bw⟩
theorem EWk.turn (h : EWk B b j W0 W mt T tc st dk sy) {mt' tc' : Nat} {T' : List Tb} {st' sy' : Int} {dk' : Bs} (ht : ETurn B b (FootE b mt T) W W' mt' T' tc' st' dk' sy') (hb : Bud T' (64 * (j + 1))) (hd : dk'.size ≤ 16777216) (hs : 0 ≤ st' ∧ st' ≤ 1099511627776) (hw : WtI (cont T') (70000 * (j + 1))) : EWk B b (j + 1) W0 W' mt' T' tc' st' dk' sy' :=
  ⟨ht.egs, hb, hd, hs, hw, h.low.trans (ht.low h.bw (fun k hk => (h.egs.foot hk).1)), Nat.le_trans h.bw ht.kept.size⟩
end
theorem addD_fits {dk : Bs} {k s : Nat} {L : List Chg} (h : Fits dk k s L) : (addD dk k s L).size ≤ 16777216 := by rw [addD_size]; exact h.2
end Go.Proofs.Ytpcjmceakelilaa
/- Engine: the law's 'call'. -/
namespace Go.Proofs.Ytpcjmceakelilaa
open Go.ChangeShapes Go.WideShapes Go.ChangeAt Go.RowKit Go.ChangeMaps Go.Deep Go.Shelf Go.Sort
set_option linter.unusedVariables false
set_option linter.unusedSimpArgs false
attribute [local go_sem] Oper.semAt_some
attribute [local go_sem, local simp] wide_fn
set_option maxRecDepth 100000 in
set_option maxHeartbeats 1600000 in
theorem ckpt_bad (b : Nat) (keep : Int) (hk : ¬ (0 ≤ keep ∧ keep ≤ 1099511627776)) (W : World) : Calls Try.prog 16 #[.pointer (some ⟨b, 0, none⟩), .int .i64 keep] W fun e W' => e = .returned (.int .i64 1) ∧ Below W.heap.size W W' := by
  have r1 : (decide (0 ≤ keep) && decide (keep ≤ 1099511627776)) = false := by
    by_cases h0 : 0 ≤ keep
    · rw [decide_eq_true h0, decide_eq_false (fun h1 => hk ⟨h0, h1⟩)]; rfl
    · rw [decide_eq_false h0]; rfl
  clear hk
  go_enter Try.func16, Try.ntmps16
  go_wp2_with fail
  refine (inRange_any _ _).mono ?_
  rintro e w1 ⟨rfl, rfl⟩
  go_wp2_with fail
  refine bodyPost_ret (v := .int .i64 1) (by simp [results, Try.results16, go_sem]) rfl ⟨rfl, ?_⟩
  exact (Below.refl _ W).alloc (Nat.le_refl _) _
def CallOut (B b j : Nat) (W0 : World) (e : Ending) (W' : World) : Prop :=
  ∃ v, e = .returned v ∧ ∃ mt' T' tc' st' dk' sy', EWk B b (j + 1) W0 W' mt' T' tc' st' dk' sy'
theorem EWk.commit {B b j mt tc : Nat} {W0 W W' : World} {T : List Tb} {st sy : Int} {dk : Bs} {s : Int} {L : List Chg} (h : EWk B b j W0 W mt T tc st dk sy) (hL : L.length ≤ 256 → L.length ≤ 64) (hc : ComOut B b mt T st dk sy s L (64 * j) W W') : ∃ mt' T' tc' st' dk' sy', EWk B b (j + 1) W0 W' mt' T' tc' st' dk' sy' := by
  rcases hc with ⟨_, hb⟩ | ⟨_, h0, hf, T', tc', ht, hct, hbd⟩
  · exact ⟨_, _, _, _, _, _, (h.below hb).more⟩
  · obtain ⟨r1, r2, r3, r4, r5⟩ := refC_zero h0
    have hl := hL r3
    refine ⟨_, _, _, _, _, _, h.turn ht ⟨by have := hbd.1; omega, fun t ht => by have := hbd.2 t ht; omega⟩ (addD_fits hf) ?_ ?_⟩
    · have := h.st0
      unfold stOf
      split <;> omega
    · rw [hct]
      exact (h.wt.commit h0 hf hl).mono (by omega)
theorem EWk.turn0 {B b j mt tc : Nat} {W0 W W' : World} {T : List Tb} {st sy sy' : Int} {dk : Bs} (h : EWk B b j W0 W mt T tc st dk sy) (ht : ETurn B b (FootE b mt T) W W' mt T tc st dk sy') : EWk B b j W0 W' mt T tc st dk sy' :=
  ⟨ht.egs, h.bud, h.disk, h.st0, h.wt, h.low.trans (ht.low h.bw (fun k hk => (h.egs.foot hk).1)), Nat.le_trans h.bw ht.kept.size⟩
theorem EWk.roll {B b j mt tc : Nat} {W0 W W' : World} {T : List Tb} {st sy s : Int} {dk : Bs} (h : EWk B b j W0 W mt T tc st dk sy) (hr : RbOut B b mt T st dk sy s (64 * j) W W') : ∃ mt' T' tc' st' dk' sy', EWk B b (j + 1) W0 W' mt' T' tc' st' dk' sy' := by
  rcases hr with ⟨h0, T', tc', dk', ht, hd, hc, hb⟩ | hb
  · exact ⟨_, _, _, _, _, _, h.turn ht ⟨by have := hb.1; omega, fun t ht => by have := hb.2 t ht; omega⟩ hd (by have := h.st0; omega) (by rw [hc]; exact (h.wt.roll s).mono (by omega))⟩
  · exact ⟨_, _, _, _, _, _, (h.below hb).more⟩
theorem EWk.ckpt {B b j mt tc : Nat} {W0 W W' : World} {T : List Tb} {st sy s : Int} {dk : Bs} (h : EWk B b j W0 W mt T tc st dk sy) (hr : CkOut B b mt T st s (64 * j) W W') : ∃ mt' T' tc' st' dk' sy', EWk B b (j + 1) W0 W' mt' T' tc' st' dk' sy' := by
  obtain ⟨mt', T', tc', dk', ht, hd, hc, hb⟩ := hr
  exact ⟨_, _, _, _, _, _, h.turn ht ⟨by have := hb.1; omega, fun t ht => by have := hb.2 t ht; omega⟩ hd h.st0 (by rw [hc]; exact (h.wt.prune s).mono (by omega))⟩
set_option maxRecDepth 100000 in
set_option maxHeartbeats 6400000 in
theorem call_in {B b j mt tc : Nat} {W0 W : World} {T : List Tb} {st sy : Int} {dk : Bs} (n : Nat) (h1 : 4 ≤ n) (x : Opx) (hj : j < 64) (hx : Near x) (hc : ChsArg W x.lv x.L) (h : EWk B b j W0 W mt T tc st dk sy) :
    CallsIn Fence.wide n Try.prog 8 #[.pointer (some ⟨b, 0, none⟩), .agg #[.int .i64 x.kind, x.lv, .int .i64 x.stamp, .string x.table, .string x.key, .string x.lo, .string x.hi, .bool x.back]] W (CallOut B b j W0) := by
  obtain ⟨kd, lv, L, s, tb, ky, lo, hi, bk⟩ := x
  dsimp only at hc ⊢
  have h1' : 1 ≤ n := by omega
  have hx' : L.length ≤ 64 ∨ 256 < L.length ∧ L.length ≤ 264 := hx
  have H := Lib.hid (And.intro hj (And.intro hx' (And.intro hc h)))
  clear hx hx' hc h
  obtain ⟨la, lc, hlv, _⟩ := H.out.2.2.1
  subst hlv
  refine callsIn_of_wp Try.func8 rfl trivial ?_ rfl
  simp only [Try.ntmps8, List.size_toArray, List.length_cons, List.length_nil, Nat.reduceAdd, Nat.reduceSub, Array.replicate_succ, Array.replicate_zero, List.push_toArray, List.append_toArray, List.nil_append, List.cons_append]
  have hb1 : Below W.heap.size W (W.alloc (.cells #[.int .i64 kd, .slice la L.length lc, .int .i64 s, .string tb, .string ky, .string lo, .string hi, .bool bk] 25)) := (Below.refl _ _).alloc (Nat.le_refl _) _
  have HB1 := Lib.hid hb1
  clear hb1
  by_cases k0 : kd = 0
  · subst k0
    gi_wp2_with fail
    have HB1d := Lib.hid (show Below W.heap.size W (W.alloc (.cells #[.int .i64 0, .slice la L.length lc, .int .i64 s, .string tb, .string ky, .string lo, .string hi, .bool bk] 25)).drew from ((Below.refl _ _).alloc (Nat.le_refl _) _).drew)
    have p1 : (W.alloc (.cells #[.int .i64 0, .slice la L.length lc, .int .i64 s, .string tb, .string ky, .string lo, .string hi, .bool bk] 25)).drew.cell? ⟨W.heap.size, 1, none⟩ = some (.slice la L.length lc) := Lib.cell_of_heap (heap_alloc_new W _) 1
    have p2 : (W.alloc (.cells #[.int .i64 0, .slice la L.length lc, .int .i64 s, .string tb, .string ky, .string lo, .string hi, .bool bk] 25)).drew.cell? ⟨W.heap.size, 2, none⟩ = some (.int .i64 s) := Lib.cell_of_heap (heap_alloc_new W _) 2
    have HPL := Lib.hid (show W.heap.size < (W.alloc (.cells #[.int .i64 0, .slice la L.length lc, .int .i64 s, .string tb, .string ky, .string lo, .string hi, .bool bk] 25)).drew.heap.size by show _ < (W.alloc _).heap.size; simp)
    refine wpIn_wide.2 ?_
    refine wp_region_ordW 8 6 [(0, 0), (1, 0), (2, 1), (4, 0), (5, 1), (3, 2), (6, 3), (7, 0)] (fun X => X.cell? ⟨W.heap.size, 1, none⟩ = some (.slice la L.length lc) ∧ X.cell? ⟨W.heap.size, 2, none⟩ = some (.int .i64 s)) (by kernel_rfl) (by kernel_rfl) ⟨p1, p2⟩ (fun c a d v w h => by cases d <;> exact h) ?_
    generalize (W.alloc (.cells #[.int .i64 0, .slice la L.length lc, .int .i64 s, .string tb, .string ky, .string lo, .string hi, .bool bk] 25)).drew = W1 at *
    apply wpOrd_read0
    case hi => rfl
    case hw => rfl
    case hy => (intro w; go_simp; try rfl)
    intro K hK; go_simp; refine hK _ _ ?_; clear hK K
    apply wpOrd_read0
    case hi => rfl
    case hw => rfl
    case hy => (intro w; go_simp; try rfl)
    intro K hK; go_simp; refine hK _ _ ?_; clear hK K
    apply wpOrd_read1
    case hi => rfl
    case hw => rfl
    case hy => (intro w hw; obtain ⟨h1, h2⟩ := hw; go_simp; try rfl)
    intro K hK; go_simp; refine hK _ _ ?_; clear hK K
    apply wpOrd_read0
    case hi => rfl
    case hw => rfl
    case hy => (intro w; go_simp; try rfl)
    intro K hK; go_simp; refine hK _ _ ?_; clear hK K
    apply wpOrd_read1
    case hi => rfl
    case hw => rfl
    case hy => (intro w hw; obtain ⟨h1, h2⟩ := hw; go_simp; try rfl)
    intro K hK; go_simp; refine hK _ _ ?_; clear hK K
    apply wpOrd_eff2
    case hi => rfl
    case hw => rfl
    intro K hK
    go_simp
    refine (changes_any _ L _ (H.out.2.2.1.below HB1d.out) (by have := H.out.2.1; omega)).mono ?_
    rintro e w2 ⟨v2, rfl, ho2, hb2⟩
    have s1 := (hb2.cell (p := ⟨W.heap.size, 1, none⟩) HPL.out).trans p1
    have s2 := (hb2.cell (p := ⟨W.heap.size, 2, none⟩) HPL.out).trans p2
    go_simp
    refine hK _ _ ⟨s1, s2⟩ ?_
    clear hK K
    have HE2 := Lib.hid ((H.out.2.2.2.below HB1d.out).below hb2)
    have hvF : ∀ k, v2.ownBlock = some k → ¬ FootE b mt T k := fun k hk hf => by
      have h2 := (ho2.lt k hk).1
      have h3 := ((H.out.2.2.2.below HB1d.out).egs.foot hf).2
      omega
    apply wpOrd_eff3
    case hi => rfl
    case hw => rfl
    intro K hK
    go_simp
    refine (commit_any s v2 L (64 * j) w2 HE2.out.egs (chAt_own ho2) hvF HE2.out.bud (fun _ => by have := H.out.1; have := H.out.2.1; omega) HE2.out.bw (Nat.le_trans HE2.out.disk (by omega))).mono ?_
    rintro e w3 ⟨rfl, hc3⟩
    go_simp
    refine hK _ _ ?_
    clear hK K
    apply wpOrd_read0
    case hi => rfl
    case hw => rfl
    case hy => (intro w; go_simp; try rfl)
    intro K hK; go_simp; refine hK _ _ (wpOrd_nil ?_); clear hK K
    have HEND := Lib.hid (show ∃ mt' T' tc' st' dk' sy', EWk B b (j + 1) W0 w3 mt' T' tc' st' dk' sy' from HE2.out.commit (by have := H.out.1; have := H.out.2.1; omega) hc3)
    clear hc3 s1 s2 ho2 hb2 hvF HE2 HB1d HPL p1 p2
    generalize comC (cont T) dk s L = r
    by_cases hr : r = 0
    · subst hr
      go_wp2_with fail
      gi_wp2_with fail
      go_ret
      exact ⟨_, rfl, HEND.out⟩
    · have hr1 : (r == 0) = false := by simpa using hr
      go_wp2_with fail
      gi_wp2_with fail
      go_ret
      obtain ⟨_, _, _, _, _, _, h⟩ := HEND.out
      exact ⟨_, rfl, _, _, _, _, _, _, h.below ((Below.refl _ _).alloc (Nat.le_refl _) _)⟩
  by_cases k1 : kd = 1
  · subst k1
    have HBK := Lib.hid (H.out.2.2.2.below HB1.out)
    gi_wp2_with (first
      | (gi_at_call 19; refine (callsIn_wide.2 (eget_any HBK.out.egs tb ky s)).mono ?_; rintro e w2 ⟨rfl, hb2⟩; have HEND := Lib.hid (show EWk B b (j + 1) W0 w2 mt T tc st dk sy from (HBK.out.below hb2).more)))
    all_goals
      go_ret
      first
      | exact ⟨_, rfl, _, _, _, _, _, _, HEND.out⟩
      | exact ⟨_, rfl, _, _, _, _, _, _, HEND.out.below ((Below.refl _ _).alloc (Nat.le_refl _) _)⟩
  by_cases k2 : kd = 2
  · subst k2
    have HBK := Lib.hid (H.out.2.2.2.below HB1.out)
    gi_wp2_with (first
      | (gi_at_call 11; refine (scan_law_in (n - 1) B b mt tc T st sy dk tb lo hi s bk _ HBK.out.egs (fun u hu => Nat.le_trans (HBK.out.egs.lenE HBK.out.bud u hu) (by have := H.out.1; omega)) (by omega) (Nat.le_trans (HBK.out.egs.scanLen HBK.out.bud tb lo hi s bk) (by have := H.out.1; omega))).mono ?_; rintro e w2 ⟨v2, rfl, ho2, hb2⟩))
    have HEND := Lib.hid (show EWk B b (j + 1) W0 w2 mt T tc st dk sy from (HBK.out.below hb2).more)
    clear hb2 ho2
    gi_wp2_with fail
    go_ret
    exact ⟨_, rfl, _, _, _, _, _, _, HEND.out⟩
  by_cases k3 : kd = 3
  · subst k3
    have HBK := Lib.hid (H.out.2.2.2.below HB1.out)
    gi_wp2_with (first
      | (gi_at_call 21; refine (callsIn_wide.2 (erollback_any s (64 * j) _ HBK.out.egs HBK.out.bud (by have := H.out.1; omega) HBK.out.bw (Nat.le_trans HBK.out.disk (by omega)))).mono ?_; rintro e w2 ⟨r, rfl, hr2⟩; have HEND := Lib.hid (HBK.out.roll hr2); clear hr2))
    all_goals
      go_ret
      obtain ⟨_, _, _, _, _, _, h⟩ := HEND.out
      first
      | exact ⟨_, rfl, _, _, _, _, _, _, h⟩
      | exact ⟨_, rfl, _, _, _, _, _, _, h.below ((Below.refl _ _).alloc (Nat.le_refl _) _)⟩
  by_cases k4 : kd = 4
  · subst k4
    have HBK := Lib.hid (H.out.2.2.2.below HB1.out)
    by_cases hs : 0 ≤ s ∧ s ≤ 1099511627776
    · gi_wp2_with (first
        | (gi_at_call 16; refine (ckpt_in (n - 1) (by omega) s (64 * j) _ HBK.out.egs HBK.out.bud (by have := H.out.1; omega) HBK.out.bw hs HBK.out.st0 (ckOK_of HBK.out.egs HBK.out.wt (by have := H.out.1; omega) s)).mono ?_; rintro e w2 ⟨rfl, hr2⟩))
      have HEND := Lib.hid (HBK.out.ckpt hr2)
      clear hr2
      gi_wp2_with fail
      go_ret
      exact ⟨_, rfl, HEND.out⟩
    · gi_wp2_with (first
        | (gi_at_call 16; refine (callsIn_wide.2 (ckpt_bad b s hs _)).mono ?_; rintro e w2 ⟨rfl, hb2⟩))
      have HEND := Lib.hid (HBK.out.below hb2).more
      clear hb2
      gi_wp2_with fail
      go_ret
      exact ⟨_, rfl, _, _, _, _, _, _, HEND.out.below ((Below.refl _ _).alloc (Nat.le_refl _) _)⟩
  by_cases k5 : kd = 5
  · subst k5
    have HBK := Lib.hid (H.out.2.2.2.below HB1.out)
    gi_wp2_with (first
      | (gi_at_call 18; refine (callsIn_wide.2 (sync_any HBK.out.egs)).mono ?_; rintro e w2 ⟨rfl, hr2⟩))
    have HEND := Lib.hid (HBK.out.more.turn0 hr2)
    clear hr2
    gi_wp2_with fail
    go_ret
    exact ⟨_, rfl, _, _, _, _, _, _, HEND.out⟩
  · have e0 : (kd == 0) = false := by simpa using k0
    have e1 : (kd == 1) = false := by simpa using k1
    have e2 : (kd == 2) = false := by simpa using k2
    have e3 : (kd == 3) = false := by simpa using k3
    have e4 : (kd == 4) = false := by simpa using k4
    have e5 : (kd == 5) = false := by simpa using k5
    have HEND := Lib.hid (H.out.2.2.2.below HB1.out).more
    gi_wp2_with fail
    go_ret
    exact ⟨_, rfl, _, _, _, _, _, _, HEND.out⟩
end Go.Proofs.Ytpcjmceakelilaa
/- Engine: the law of checkpoints. -/
namespace Go.Proofs.Ytpcjmceakelilaa
open Go.ChangeShapes Go.WideShapes Go.ChangeAt Go.RowKit Go.ChangeMaps Go.Deep Go.Shelf Go.Sort
set_option linter.unusedVariables false
set_option linter.unusedSimpArgs false
attribute [local go_sem] Oper.semAt_some
attribute [local go_sem, local simp] wide_fn
theorem EWk.start {w1 w2 : World} (h : Egs w1.heap.size w2 (w1.heap.size + 1) w1.heap.size [] 0 0 ⟨#[]⟩ 0) (hb : Below w1.heap.size w1 w2) : EWk w1.heap.size (w1.heap.size + 1) 0 w1 w2 w1.heap.size [] 0 0 ⟨#[]⟩ 0 :=
  ⟨h, ⟨Nat.le_refl _, fun t ht => by cases ht⟩, by decide, by omega, wtI_nil, hb, hb.size⟩
section
variable {B b j mt tc : Nat} {W0 W : World} {T : List Tb} {st sy : Int} {dk : Bs}
theorem EWk.scan (h : EWk B b j W0 W mt T tc st dk sy) (hj : j ≤ 65) (n : Nat) (h1 : 2 ≤ n) (tb lo hi : Bs) (t : Int) (back : Bool) :
    CallsIn Fence.wide n Try.prog 11 #[.pointer (some ⟨b, 0, none⟩), .string tb, .string lo, .string hi, .int .i64 t, .bool back] W fun e W' => ∃ v, e = .returned v ∧ SRow W.heap.size W' v (scanO (tbOf T tb) lo hi t back) ∧ Below W.heap.size W W' :=
  (scan_law_in n B b mt tc T st sy dk tb lo hi t back W h.egs (fun u hu => Nat.le_trans (h.egs.lenE h.bud u hu) (by omega)) h1 (Nat.le_trans (h.egs.scanLen h.bud tb lo hi t back) (by omega))).mono fun e W' ⟨v, he, hr, hb⟩ => ⟨v, he, hr, hb⟩
end
theorem EWk.ckptT {B b j mt tc : Nat} {W0 W W' : World} {T : List Tb} {st sy s : Int} {dk : Bs} (h : EWk B b j W0 W mt T tc st dk sy) {mt' tc' : Nat} {T' : List Tb} {dk' : Bs} (ht : ETurn B b (FootE b mt T) W W' mt' T' tc' st dk' dk'.size) (hd : dk'.size ≤ 16777216) (hc : cont T' = pruneT (cont T) s) (hb : Bud T' (64 * j)) : EWk B b (j + 1) W0 W' mt' T' tc' st dk' dk'.size :=
  h.turn ht ⟨by have := hb.1; omega, fun t ht => by have := hb.2 t ht; omega⟩ hd h.st0 (by rw [hc]; exact (h.wt.prune s).mono (by omega))
set_option maxRecDepth 100000 in
set_option maxHeartbeats 6400000 in
theorem law_ckpts_in (n : Nat) (h1 : 8 ≤ n) (v : Value) (l : List Opx) (keep stamp : Int) (W : World) (h : OpsArg W v l) :
    CallsIn Fence.wide n Try.prog 4 #[v, .int .i64 keep, .int .i64 stamp] W (YesOut W) := by
  have h1' : 1 ≤ n := by omega
  have HH := Lib.hid h
  obtain ⟨a0, c0, rfl, _⟩ := h
  refine callsIn_of_wp Try.func4 rfl trivial ?_ rfl
  simp only [Try.ntmps4, List.size_toArray, List.length_cons, List.length_nil, Nat.reduceAdd, Nat.reduceSub, Array.replicate_succ, Array.replicate_zero, List.push_toArray, List.append_toArray, List.nil_append, List.cons_append]
  gi_wp2_with (first
    | (gi_at_call 6; refine (callsIn_wide.2 (beyond_any _ l _ HH.out)).mono ?_; rintro e w1 ⟨d, rfl, hd, hb1⟩; have HD := Lib.hid (And.intro hd hb1); clear hd hb1)
    | (gi_at_call 7; refine (callsIn_wide.2 (enew_any _)).mono ?_; rintro e w2 ⟨rfl, hE2, hb2⟩))
  · go_ret
    exact ⟨rfl, HD.out.2⟩
  have HNR := Lib.hid (HD.out.1 (by first | rfl | assumption))
  have HB1 := Lib.hid HD.out.2
  have HE0 := Lib.hid (EWk.start hE2 hb2)
  clear hE2 hb2 HD
  obtain ⟨B, hB⟩ : ∃ B, B = w1.heap.size := ⟨_, rfl⟩
  have HBB := Lib.hid (show W.heap.size ≤ B by rw [hB]; exact HB1.out.size)
  have HO1 := Lib.hid (HH.out.below HB1.out)
  rw [← hB] at HE0 ⊢
  have HBE := Lib.hid hB
  clear hB
  obtain ⟨m, hm⟩ : ∃ m, m = l.length := ⟨_, rfl⟩
  have hm64 : m ≤ 64 := by rw [hm]; exact HNR.out.1
  rw [← hm]
  have HM := Lib.hid hm
  clear hm
  gi_loopw [21] (fun i wr => ∃ j : Nat, i = .int .i64 j ∧ j ≤ m ∧ Hid (∃ mt T tc st dk sy, EWk B (B + 1) j w1 wr mt T tc st dk sy)) (fun i wr => m - iv i)
  case atStart => exact ⟨0, rfl, Nat.zero_le _, Lib.hid ⟨_, _, _, _, _, _, HE0.out⟩⟩
  case round =>
    obtain ⟨j, rfl, hj, HX⟩ := hrel
    by_cases hlast : j = m
    · subst hlast
      obtain ⟨mt, T, tc, st, dk, sy, hX⟩ := HX.out
      have H5 := Lib.hid hX
      clear hX HX HE0
      have HLOW := Lib.hid (show ∀ X mt T tc st dk sy, EWk B (B + 1) j w1 X mt T tc st dk sy → Below W.heap.size W X from fun X mt T tc st dk sy h => HB1.out.trans (h.low.mono HBB.out))
      have HJ := Lib.hid (show j ≤ 64 by omega)
      by_cases hk : 0 ≤ keep ∧ keep ≤ 1099511627776
      · have z1 : decide (keep < 0) = false := decide_eq_false (by omega)
        have z2 : decide ((1099511627776 : Int) < keep) = false := decide_eq_false (by omega)
        have HK := Lib.hid hk
        clear hk
        gi_wp2_with (first
          | (gi_at_call_has 11 (Value.string ⟨#[116]⟩); refine (H5.out.scan (Nat.le_succ_of_le HJ.out) (n - 1) (by omega) ⟨#[116]⟩ _ _ _ _).mono ?_; rintro e w5 ⟨v5, rfl, hr5, hb5⟩; have H6 := Lib.hid (And.intro (H5.out.below hb5) hr5); clear hr5 hb5)
          | (gi_at_call_has 11 (Value.string ⟨#[117]⟩); refine (H6.out.1.scan (Nat.le_succ_of_le HJ.out) (n - 1) (by omega) ⟨#[117]⟩ _ _ _ _).mono ?_; rintro e w6 ⟨v6, rfl, hr6, hb6⟩; have H7 := Lib.hid (And.intro (H6.out.1.below hb6) (And.intro (H6.out.2.below hb6) hr6)); clear hr6 hb6))
        have HS := Lib.hid (fun (X : World) (hX : Below w6.heap.size w6 X) => H7.out.1.below hX)
        refine (callsIn_wide.2 (stamp_any H7.out.1.egs)).mono ?_
        rintro e w7 ⟨rfl, hw⟩
        obtain rfl := hw.symm
        gi_wp2_with fail
        refine (ckpt_in (n - 1) (by omega) keep (64 * j) _ H7.out.1.egs H7.out.1.bud (by have := HJ.out; omega) H7.out.1.bw HK.out H7.out.1.st0 (ckOK_of H7.out.1.egs H7.out.1.wt (by have := HJ.out; omega) keep)).mono ?_
        rintro e w8 ⟨rfl, mt', T', tc', dk', ht, hd', hct, hbd⟩
        have H8 := Lib.hid (And.intro (H7.out.1.ckptT ht hd' hct hbd) (And.intro hct (And.intro (H7.out.2.1.kept ht.kept (fun k hk => (H5.out.egs.foot hk).2)) (H7.out.2.2.kept ht.kept (fun k hk => (H6.out.1.egs.foot hk).2)))))
        clear ht hd' hct hbd HS
        gi_wp2_with fail
        refine (callsIn_wide.2 (stamp_any H8.out.1.egs)).mono ?_
        rintro e w9 ⟨rfl, hw⟩
        obtain rfl := hw.symm
        gi_wp2_with fail
        refine (callsIn_wide.2 (synced_any H8.out.1.egs)).mono ?_
        rintro e w9 ⟨rfl, hw⟩
        obtain rfl := hw.symm
        gi_wp2_with fail
        refine (callsIn_wide.2 (disk_any H8.out.1.egs)).mono ?_
        rintro e w9 ⟨rfl, hw⟩
        obtain rfl := hw.symm
        have HL8 := Lib.hid (HB1.out.trans (H8.out.1.low.mono HBB.out))
        by_cases hsk : stamp < keep
        · have z3 : decide (stamp < keep) = true := decide_eq_true hsk
          gi_wp2_with (first
            | (gi_at_call 14; refine (callsIn_wide.2 (awake_any _)).mono ?_; rintro e w9 ⟨rfl, hb9⟩; have H9 := Lib.hid hb9; clear hb9))
          go_ret
          exact ⟨rfl, HL8.out.trans (H9.out.mono HL8.out.size)⟩
        · have z3 : decide (stamp < keep) = false := decide_eq_false hsk
          have hcv : ∀ tb k, valAt (cont T tb k) stamp = valAt (cont T' tb k) stamp := fun tb k => by
            rw [H8.out.2.1]
            exact (valAt_prune _ (by omega)).symm
          have ET := Lib.hid (scanO_same H7.out.1.egs H8.out.1.egs ⟨#[116]⟩ (hcv _) false)
          have EU := Lib.hid (scanO_same H7.out.1.egs H8.out.1.egs ⟨#[117]⟩ (hcv _) true)
          clear hcv hsk
          gi_wp2_with (first
            | (gi_at_call_has 11 (Value.string ⟨#[116]⟩); refine (H8.out.1.scan (by have := HJ.out; omega) (n - 1) (by omega) ⟨#[116]⟩ _ _ _ _).mono ?_; rintro e w9 ⟨v9, rfl, hr9, hb9⟩; rw [← ET.out] at hr9; have H9 := Lib.hid (And.intro (H8.out.1.below hb9) (And.intro (H8.out.2.2.1.below hb9) (And.intro (H8.out.2.2.2.below hb9) (And.intro hr9 hb9)))); clear hr9 hb9)
            | (gi_at_call_has 15 v9; refine (callsIn_wide.2 (same_any v5 v9 _ _ (rowS_of H9.out.2.1) (rowS_of H9.out.2.2.2.1))).mono ?_; rintro e w10 ⟨rfl, hb10⟩; have H10 := Lib.hid (And.intro (H9.out.1.below hb10) (And.intro (H9.out.2.2.1.below hb10) (H9.out.2.2.2.2.trans (hb10.mono H9.out.2.2.2.2.size)))); clear hb10))
          have HL10 := Lib.hid (HL8.out.trans (H10.out.2.2.mono HL8.out.size))
          gi_wp2_with (first
            | (gi_at_call_has 11 (Value.string ⟨#[117]⟩); refine (H10.out.1.scan (by have := HJ.out; omega) (n - 1) (by omega) ⟨#[117]⟩ _ _ _ _).mono ?_; rintro e w11 ⟨v11, rfl, hr11, hb11⟩; rw [← EU.out] at hr11; have H11 := Lib.hid (And.intro (H10.out.2.1.below hb11) (And.intro hr11 hb11)); clear hr11 hb11)
            | (gi_at_call_has 15 v11; refine (callsIn_wide.2 (same_any v6 v11 _ _ (rowS_of H11.out.1) (rowS_of H11.out.2.1))).mono ?_; rintro e w12 ⟨rfl, hb12⟩; have H12 := Lib.hid (H11.out.2.2.trans (hb12.mono H11.out.2.2.size)); clear hb12)
            | (gi_at_call 14; refine (callsIn_wide.2 (awake_any _)).mono ?_; rintro e w13 ⟨rfl, hb13⟩; have H13 := Lib.hid hb13; clear hb13))
          go_ret
          have h12 := HL10.out.trans (H12.out.mono HL10.out.size)
          exact ⟨rfl, h12.trans (H13.out.mono h12.size)⟩
      · have HK := Lib.hid hk
        have hz : (keep < 0) ∨ (¬ keep < 0 ∧ 1099511627776 < keep) := by omega
        gi_wp2_with (first
          | (gi_at_call_has 11 (Value.string ⟨#[116]⟩); refine (H5.out.scan (Nat.le_succ_of_le HJ.out) (n - 1) (by omega) ⟨#[116]⟩ _ _ _ _).mono ?_; rintro e w5 ⟨v5, rfl, hr5, hb5⟩; have H6 := Lib.hid (And.intro (H5.out.below hb5) hr5); clear hr5 hb5)
          | (gi_at_call_has 11 (Value.string ⟨#[117]⟩); refine (H6.out.1.scan (Nat.le_succ_of_le HJ.out) (n - 1) (by omega) ⟨#[117]⟩ _ _ _ _).mono ?_; rintro e w6 ⟨v6, rfl, hr6, hb6⟩; have H7 := Lib.hid (H6.out.1.below hb6); clear hr6 hb6))
        refine (callsIn_wide.2 (stamp_any H7.out.egs)).mono ?_
        rintro e w7 ⟨rfl, hw⟩
        obtain rfl := hw.symm
        gi_wp2_with fail
        refine (callsIn_wide.2 (ckpt_bad (B + 1) keep HK.out _)).mono ?_
        rintro e w8 ⟨rfl, hb8⟩
        have HL8 := Lib.hid (show Below W.heap.size W w8 from HB1.out.trans ((H7.out.below hb8).low.mono HBB.out))
        clear hb8 hk
        rcases hz with hz | ⟨hz1, hz2⟩
        · have z1 : decide (keep < 0) = true := decide_eq_true hz
          gi_wp2_with (first
            | (gi_at_call 14; refine (callsIn_wide.2 (awake_any _)).mono ?_; rintro e w9 ⟨rfl, hb9⟩; have H9 := Lib.hid hb9; clear hb9))
          go_ret
          exact ⟨rfl, HL8.out.trans (H9.out.mono HL8.out.size)⟩
        · have z1 : decide (keep < 0) = false := decide_eq_false (by omega)
          have z2 : decide ((1099511627776 : Int) < keep) = true := decide_eq_true hz2
          gi_wp2_with (first
            | (gi_at_call 14; refine (callsIn_wide.2 (awake_any _)).mono ?_; rintro e w9 ⟨rfl, hb9⟩; have H9 := Lib.hid hb9; clear hb9))
          go_ret
          exact ⟨rfl, HL8.out.trans (H9.out.mono HL8.out.size)⟩
    · have hjm : j < m := by omega
      obtain ⟨mt, T, tc, st, dk, sy, hX⟩ := HX.out
      have HW := Lib.hid hX
      obtain ⟨a1, c1, he1, hop⟩ := HO1.out
      obtain rfl : a0 = a1 := by cases he1; rfl
      obtain ⟨g, o, rfl, hg, hc⟩ := hop (by rw [← HM.out]; omega)
      have hjl : j < l.length := by rw [← HM.out]; exact hjm
      obtain ⟨hca, hc8⟩ := hc j hjl
      have ho := (OpAt.of hc8).below hX.low (by rw [HBE.out]; exact hg)
      have HCA := Lib.hid (hca.below (HBE.out ▸ hX.low))
      have HNX := Lib.hid (HNR.out.2 _ (List.getElem_mem hjl))
      clear hc hc8 hca hop he1 hX HX HE0 hlast
      generalize l[j] = x at *
      obtain ⟨kd, lv, L, s, tb, ky, lo, hi, bk⟩ := x
      obtain ⟨la, lc, hlv, _⟩ := HCA.out
      dsimp only at hlv
      subst hlv
      obtain ⟨q0, q1, q2, q3, q4, q5, q6, q7⟩ := ho
      dsimp only at q0 q1 q2 q3 q4 q5 q6 q7
      have hw1 : IntKind.i64.wrap ((j : Int) + 1) = ((j + 1 : Nat) : Int) := by rw [IntKind.wrap_i64]; omega
      obtain ⟨A, hA⟩ : ∃ A, A = Obj.cells #[.int .i64 kd, .slice la L.length lc, .int .i64 s, .string tb, .string ky, .string lo, .string hi, .bool bk] 25 (0, 0) := ⟨_, rfl⟩
      have hbA : Below wr.heap.size wr (wr.alloc A) := (Below.refl _ _).alloc (Nat.le_refl _) _
      have HC := Lib.hid (call_in (n - 1) (by omega) ⟨kd, .slice la L.length lc, L, s, tb, ky, lo, hi, bk⟩ (by omega) HNX.out (HCA.out.below hbA) (HW.out.below hbA))
      rw [hA] at HC
      clear hbA hA
      gi_wp2_with (first
        | (gi_at_call 8; refine HC.out.mono ?_; rintro e w3 ⟨vv, rfl, hE3⟩; have HE3 := Lib.hid hE3; clear hE3))
      go_roundw
      case rel => exact ⟨j + 1, by first | rfl | (push_cast; rfl), hjm, HE3⟩
      case measure => show m - (((j + 1 : Nat) : Int).toNat) < m - ((j : Int)).toNat; omega
theorem law_ckpts (v : Value) (l : List Opx) (keep stamp : Int) (W : World) (h : OpsArg W v l) : Calls Try.prog 4 #[v, .int .i64 keep, .int .i64 stamp] W (YesOut W) := callsIn_wide.1 (law_ckpts_in 8 (Nat.le_refl _) v l keep stamp W h)
end Go.Proofs.Ytpcjmceakelilaa
/- The step from a law's contract to its row, where the law only makes memory; whatever the parameters' types. -/
namespace Go.Proofs.Ytpcjmceakelilaa
open Go.RowKit Go.WideShapes Go.ChangeShapes
section
variable {H : Type} {enc : TypeId × Value → H} {P : Program}
theorem post_of_below2 {f : Func} {s : ChangeSpec} {apart fresh handsOn again : Bool} {W W' : World} {args : Array Value} {v : Value} {ds gs : List (DataW H)} {before pa pv : List MemPlace}
    (hW : DataW.Whole enc P f.params.toList s.vars apart W args.toList ds gs before)
    (hres : ∀ (b : Nat) (sp : Nat → Bool) (hd : Bool), DataW.TrodAll enc P W' b sp hd f.resultTypes.toList (v.resultList f.resultTypes.size) (s.fn H (ds ++ gs)).results [])
    (hargs : ∀ sp : Nat → Bool, (∀ p ∈ before, sp p.block = true) → DataW.TrodAll enc P W' 0 sp true f.params.toList args.toList (s.fn H (ds ++ gs)).args pa)
    (hvars : ∀ sp : Nat → Bool, (∀ p ∈ before, sp p.block = true) → DataW.TrodVars enc P W' sp s.vars (s.fn H (ds ++ gs)).vars pv)
    (hps : before = pa ++ pv) (hb : Below W.heap.size W W')
    (hok : ∀ (j : Nat) (t : TypeId) (r : Value), f.resultTypes[j]? = some t → (v.resultList f.resultTypes.size)[j]? = some r → Value.okWide P W' .any 0 t r) :
    s.post enc P f apart fresh handsOn again W args v W' := by
  have hlt : ∀ p ∈ before, p.block < W.heap.size := fun p hp => hW.lt p hp
  have hold : ∀ p ∈ before, (fun b => decide (b < W.heap.size)) p.block = true := fun p hp => by simpa using hlt p hp
  refine ⟨ds, gs, before, [], pa, pv, hW, hres _ _ _, hargs _ hold, hvars _ hold, World.keptBut_mono (fun p hp => ⟨hp, ?_⟩) (hb.frame (· ∈ before)), fun _ => ?_⟩
  · rw [hps, List.mem_append] at hp
    exact Or.inr hp
  · obtain ⟨_, _, _, _, _, hz, hn⟩ := hW
    refine ⟨hok, _, _, ([] ++ pa) ++ pv, ⟨[] ++ pa, pv, trodAll_append (hargs _ (fun _ _ => rfl)) (hres _ _ _), hvars _ (fun _ _ => rfl), rfl, ?_, ?_⟩, ?_⟩
    · intro b off hp
      have hin : MemPlace.cell b off ∈ before := by rw [hps]; simpa using hp
      rw [hb.frozen (hlt _ hin)]
      exact hz b off hin
    · intro ha
      have := hn ha
      rw [hps] at this
      simpa using this
    · intro p hp _
      rw [hps]
      simpa using hp
end

section
variable {H : Type} {enc : TypeId × Value → H} {P : Program}
theorem trodAll_stays (hl : laidOutB P = true) {W W' : World} {sp : Nat → Bool} (hb : Below W.heap.size W W') :
    ∀ (ts : List TypeId) (vs : List Value) (ds : List (DataW H)) (ps : List MemPlace), ts.all (fun t => P.readableRec t && decide (t < P.types.size)) = true →
      DataW.TrodAll enc P W 0 (fun _ => true) true ts vs ds ps → (∀ p ∈ ps, p.block < W.heap.size) → (∀ p ∈ ps, sp p.block = true) → DataW.TrodAll enc P W' 0 sp true ts vs ds ps
  | [], vs, ds, ps, _, h, _, _ => by
    obtain ⟨rfl, rfl, rfl⟩ := trodAll_nil h
    exact trodAll_mk0
  | t :: ts, vs, ds, ps, ha, h, hlt, hs => by
    obtain ⟨v, vs', d, ds', p, q, rfl, rfl, rfl, h1, h2⟩ := trodAll_cons h
    simp only [List.all_cons, Bool.and_eq_true, decide_eq_true_eq] at ha
    exact trodAll_cons_mk (WideElems.Trod_stays hl ha.1.1 ha.1.2 h1 (fun x hx => hb.same (hlt x (List.mem_append_left _ hx))) (fun x hx => hs x (List.mem_append_left _ hx)))
      (trodAll_stays hl hb ts vs' ds' q ha.2 h2 (fun x hx => hlt x (List.mem_append_right _ hx)) (fun x hx => hs x (List.mem_append_right _ hx)))
/-- a law that returned true and only made memory meets its row -/
theorem post_law {f : Func} {s : ChangeSpec} {apart fresh handsOn again : Bool} {W W' : World} {args : Array Value} {ds gs : List (DataW H)} {before : List MemPlace} {T : TypeId}
    (hl : laidOutB P = true) (hp : f.params.toList.all (fun t => P.readableRec t && decide (t < P.types.size)) = true) (hv : s.vars = [])
    (hW : DataW.Whole enc P f.params.toList s.vars apart W args.toList ds gs before)
    (hfn : s.fn H ds = { results := [.lit (.bool true)], args := ds }) (hrt : f.resultTypes = #[T]) (hT : P.underlying T = some .bool) (hb : Below W.heap.size W W') :
    s.post enc P f apart fresh handsOn again W args (.bool true) W' := by
  have hW' := hW
  have hlt : ∀ p ∈ before, p.block < W.heap.size := fun p hp => hW.lt p hp
  obtain ⟨p, q, hA, hV, hpq, _, _⟩ := hW
  rw [hv] at hV
  obtain ⟨rfl, rfl⟩ := trodVars_none hV
  rw [List.append_nil] at hpq
  subst hpq
  have hfn' : s.fn H (ds ++ []) = { results := [.lit (.bool true)], args := ds } := by rw [List.append_nil]; exact hfn
  refine post_of_below2 (pa := before) (pv := []) hW' ?_ ?_ ?_ (by simp) hb ?_
  · intro b sp hd
    rw [hfn', hrt]
    exact trodAll_cons_mk (shut_bool hT _) trodAll_mk0
  · intro sp hsp
    rw [hfn']
    exact trodAll_stays hl hb _ _ _ _ hp hA hlt hsp
  · intro sp hsp
    rw [hfn', hv]
    rfl
  · exact ok_one hrt rfl (okWide_bool_mk hT _)
end
end Go.Proofs.Ytpcjmceakelilaa
