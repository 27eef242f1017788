/- Mvcc: the iterator that All returns. -/
import Derived.Test.YtpcjmceakelilaaMv14
import Derived.RangeFuncNested
import Derived.RangeFuncBound
import Derived.RangeFuncLeaves
import Derived.RangeFuncBox
import Derived.Shelf.Abstract
import Derived.OwnWalkIn
import Derived.TacticsInMore
import Derived.LoopNIn
import Derived.LoopIn
import Derived.OrdersIn
import Derived.Sort.QuietIn
namespace Go.Proofs.Ytpcjmceakelilaa
open Go.ChangeShapes Go.WideShapes Go.ChangeAt Go.RowKit Go.Deep Go.ChangeMaps Go.Shelf Go.Sort
set_option linter.unusedVariables false
set_option linter.unusedSimpArgs false
attribute [local go_sem] Oper.semAt_some
theorem wide_fn (k : Nat) : Fence.wide.fn k = True := rfl
attribute [local go_sem, local simp] wide_fn
def iv : Value → Nat
  | .int _ n => n.toNat
  | _ => 0
/-- rows of keys are kept -/
def KeepsStr (W W' : World) : Prop := ∀ (k : Nat) (cs : Array Value) (fr : Nat × Nat), W.heap[k]? = some (Obj.cells cs 9 fr) → W'.heap[k]? = some (Obj.cells cs 9 fr)
/-- what a round keeps: what lies below n₀, rows of keys, the blocks from b to c -/
def KpS (n₀ b c : Nat) (W W' : World) : Prop := Below n₀ W W' ∧ KeepsStr W W' ∧ ∀ k, b ≤ k → k < c → k < W.heap.size → W'.heap[k]? = W.heap[k]?
theorem KeepsStr.trans {A B C : World} (h : KeepsStr A B) (k : KeepsStr B C) : KeepsStr A C := fun i cs fr hi => k i cs fr (h i cs fr hi)
theorem KeepsStr.below {W W' : World} (h : Below W.heap.size W W') : KeepsStr W W' := fun k cs fr hk => (h.block k (Array.getElem?_eq_some_iff.1 hk).1).trans hk
theorem KpS.t {n₀ b c : Nat} {A B C : World} (h : KpS n₀ b c A B) (k : KpS n₀ b c B C) : KpS n₀ b c A C :=
  ⟨h.1.trans k.1, h.2.1.trans k.2.1, fun i h1 h2 h3 => (k.2.2 i h1 h2 (Nat.lt_of_lt_of_le h3 h.1.size)).trans (h.2.2 i h1 h2 h3)⟩
theorem KpS.below {n₀ b c : Nat} {W W' : World} (h : Below W.heap.size W W') (hn : n₀ ≤ W.heap.size) : KpS n₀ b c W W' := ⟨h.mono hn, KeepsStr.below h, fun k _ _ h3 => h.block k h3⟩
theorem KRow.str {B : Nat} {W W' : World} {v : Value} {ks : List Bs} (h : KRow B W v ks) (hk : KeepsStr W W') : KRow B W' v ks := by
  refine ⟨h.1, ?_⟩
  rcases h.2 with h1 | ⟨g, c, cur, rfl, h1, h2, h3⟩
  · exact .inl h1
  · exact .inr ⟨g, c, cur, rfl, h1, hk g cur _ h2, h3⟩
/-- the keys in order -/
def ordE (E : List En) : List Bs := sortB (E.map (·.key))
theorem sortB_congr {a b : List Bs} (h : a.Perm b) (hn : b.Nodup) : sortB a = sortB b := by
  have hna : a.Nodup := h.nodup_iff.2 hn
  refine List.Perm.eq_of_pairwise (le := fun a b => lB a b = true) (fun x y _ _ h1 h2 => ?_) (sortB_srt hna) (sortB_srt hn) ((sortB_perm a).trans (h.trans (sortB_perm b).symm))
  rw [lB_asymm h1] at h2; cases h2
/-- what All yields -/
def allK (E : List En) (ts : List Bs) : List (Bs × Ver) := ts.flatMap fun k => (lkL E k).map fun x => (k, x)
def encA (x : Bs × Ver) : Array Value := #[.string x.1, .agg #[.int .i64 x.2.1, .string x.2.2.1, .bool x.2.2.2]]
theorem allK_snoc (E : List En) (ts : List Bs) (k : Bs) : allK E (ts ++ [k]) = allK E ts ++ (lkL E k).map fun x => (k, x) := by simp [allK]
theorem allK_pre (E : List En) (ts : List Bs) {i j : Nat} (hi : i < ts.length) : allK E (ts.take i) ++ ((lkL E ts[i]).take j).map (fun x => (ts[i], x)) <+: allK E ts := by
  have h1 : allK E ts = allK E (ts.take i) ++ ((lkL E ts[i]).map (fun x => (ts[i], x)) ++ allK E (ts.drop (i + 1))) := by
    have e : ts = ts.take i ++ (ts[i] :: ts.drop (i + 1)) := by rw [List.getElem_cons_drop, List.take_append_drop]
    refine (congrArg (allK E) e).trans ?_
    unfold allK
    rw [List.flatMap_append, List.flatMap_cons]
  rw [h1]
  refine (List.prefix_append_right_inj _).2 ?_
  refine List.IsPrefix.trans ?_ (List.prefix_append _ _)
  exact (List.take_prefix _ _).map _
def SeqOut {α : Type} (ys : List α) (J Jx : List α → World → Prop) (e : Ending) (W' : World) : Prop :=
  (∃ v, e = .returned v) ∧ ((∃ xs, xs = ys ∧ J xs W') ∨ (∃ pre, pre <+: ys ∧ Jx pre W'))
theorem filter_seen_push {E : List En} {seen : Array Nat} {x : En} (hn : (E.map (·.born)).Nodup) (hx : x ∈ E) (hs : seen.contains x.born = false) :
    ((E.filter fun e => (seen.push x.born).contains e.born).map (·.key)).Perm ((E.filter fun e => seen.contains e.born).map (·.key) ++ [x.key]) := by
  have key : (E.filter fun e => (seen.push x.born).contains e.born).Perm ((E.filter fun e => seen.contains e.born) ++ [x]) := by
    induction E with
    | nil => cases hx
    | cons a E ih =>
      have hn' := List.nodup_cons.1 hn
      rcases List.mem_cons.1 hx with rfl | hx'
      · have h1 : (seen.push x.born).contains x.born = true := by rw [contains_push, beq_self_eq_true, Bool.or_true]
        have h2 : (E.filter fun e => (seen.push x.born).contains e.born) = E.filter fun e => seen.contains e.born := by
          refine List.filter_congr (fun e he => ?_)
          have : (e.born == x.born) = false := beq_eq_false_iff_ne.2 (fun e2 => hn'.1 (List.mem_map.2 ⟨e, he, e2⟩))
          rw [contains_push, this, Bool.or_false]
        rw [List.filter_cons, if_pos h1, List.filter_cons, if_neg (by rw [hs]; simp), h2]
        exact (List.perm_append_singleton x _).symm
      · have hne : (a.born == x.born) = false := beq_eq_false_iff_ne.2 (fun e2 => hn'.1 (List.mem_map.2 ⟨x, hx', e2.symm⟩))
        have h1 : (seen.push x.born).contains a.born = seen.contains a.born := by rw [contains_push, hne, Bool.or_false]
        have h2 := ih hn'.2 hx'
        rw [List.filter_cons, List.filter_cons, h1]
        split
        · exact h2.cons a
        · exact h2
  have := key.map (·.key)
  rwa [List.map_append] at this
/-- where an iterator over the keys stands -/
structure AS {α : Type} (n₀ r bt c S : Nat) (ts : List Bs) (v : Value) (J : List α → World → Prop) (W0 : World) (pre : List α) (X : World) : Prop where
  j : J pre X
  b : Below n₀ W0 X
  kr : KRow r X v ts
  cb : X.cell? ⟨bt, 0, none⟩ = some (.pointer (some ⟨S, 0, none⟩))
  bl : bt < X.heap.size
  nX : n₀ ≤ X.heap.size
theorem AS.below {α : Type} {n₀ r bt c S : Nat} {ts : List Bs} {v : Value} {J : List α → World → Prop} {W0 X X' : World} {pre : List α} (h : AS n₀ r bt c S ts v J W0 pre X) (hJ : ∀ pre W W', J pre W → Below W.heap.size W W' → J pre W') (hb : Below X.heap.size X X') : AS n₀ r bt c S ts v J W0 pre X' :=
  ⟨hJ _ _ _ h.j hb, h.b.trans (hb.mono h.nX), h.kr.str (KeepsStr.below hb), (hb.cell (p := ⟨bt, 0, none⟩) h.bl).trans h.cb, Nat.lt_of_lt_of_le h.bl hb.size, Nat.le_trans h.nX hb.size⟩
theorem AS.next {α : Type} {n₀ r bt c S : Nat} {ts : List Bs} {v : Value} {J : List α → World → Prop} {W0 X X' : World} {pre pre' : List α} (h : AS n₀ r bt c S ts v J W0 pre X) (hj : J pre' X') (hk : KpS n₀ bt c X X') (hc : bt < c) : AS n₀ r bt c S ts v J W0 pre' X' :=
  ⟨hj, h.b.trans hk.1, h.kr.str hk.2.1, by rw [World.cell?_of_block (a := ⟨bt, 0, none⟩) (hk.2.2 bt (Nat.le_refl _) hc h.bl)]; exact h.cb, Nat.lt_of_lt_of_le h.bl hk.1.size, Nat.le_trans h.nX hk.1.size⟩
theorem infoS : (Try.prog.info? 9).map (fun i => (i.zero, i.size, i.bytes)) = some (some (.string ⟨#[]⟩), 1, 16) := by kernel_rfl
set_option maxRecDepth 100000 in
set_option maxHeartbeats 3200000 in
theorem all1_any (m l n₀ c N bt B S mp clock : Nat) (E : List En) (J Jx : List (Bs × Ver) → World → Prop)
    (hY : ∀ m pre (x : Bs × Ver) W, J pre W → pre.length < N → YieldAt Fence.wide m Try.prog l (encA x) W fun e W' =>
      (e = .returned (.bool true) ∧ J (pre ++ [x]) W' ∧ KpS n₀ bt c W W') ∨ (e = .returned (.bool false) ∧ Jx (pre ++ [x]) W'))
    (hJ : ∀ pre W W', J pre W → Below W.heap.size W W' → J pre W') (hbc : bt < c)
    (W0 : World) (hst : Sto B W0 S mp E clock) (hfoot : ∀ k, Foot S mp E k → k < n₀) (hn0 : n₀ ≤ W0.heap.size) (hT : E.length ≤ 100000) (c1 : W0.cell? ⟨bt, 0, none⟩ = some (.pointer (some ⟨S, 0, none⟩))) (hbl : bt < W0.heap.size) (hj : J [] W0) (hN : (allK E (ordE E)).length ≤ N) :
    CallsIn Fence.wide m Try.prog 48 #[.func (.yield l) #[] #[], .pointer (some ⟨bt, 0, none⟩)] W0 (SeqOut (allK E (ordE E)) J Jx) := by
  have HH := Lib.hid hst
  have HYJ := Lib.hid (And.intro hY hJ)
  have H1 := Lib.hid (And.intro hfoot (And.intro hn0 (And.intro hj hN)))
  have hrg := run_range_E hst.map
  have a0 := hst.c0
  obtain ⟨i0, hi0, hz0, hz1, hz2⟩ := info_parts infoS
  clear hY hJ hst hfoot hn0 hj hN
  refine callsIn_of_wp Try.func48 rfl trivial ?_ rfl
  simp only [Try.ntmps48, List.size_toArray, List.length_cons, List.length_nil, Nat.reduceAdd, Nat.reduceSub, Array.replicate_succ, Array.replicate_zero, List.push_toArray, List.append_toArray, List.nil_append, List.cons_append]
  gi_wp2
  obtain ⟨r, hr⟩ : ∃ r, r = W0.heap.size := ⟨_, rfl⟩
  have hit : IterAt (W0.alloc (.mapIter (some mp) clock #[] clock)) r mp clock #[] clock := by rw [hr]; exact heap_alloc_new W0 _
  have hb1 : Below W0.heap.size W0 (W0.alloc (.mapIter (some mp) clock #[] clock)) := (Below.refl _ W0).alloc (Nat.le_refl _) _
  have H0 := Lib.hid (And.intro hit hb1)
  rw [← hr]
  have HR := Lib.hid hr
  have hbr : bt < r := by omega
  clear hit hb1 hr a0 hrg
  generalize W0.alloc (.mapIter (some mp) clock #[] clock) = W1 at H0 ⊢
  gi_loopw [3] (fun v wr => ∃ (seen : Array Nat) (ks : List Bs), KRow (r + 1) wr v ks ∧ ks.Perm ((E.filter fun e => seen.contains e.born).map (·.key)) ∧ IterAt wr r mp clock seen clock ∧ Below W0.heap.size W0 wr) (fun v wr => unseen E (wr.iterSeen r))
  case atStart => exact ⟨#[], [], KRow.nil _ _, by simp, H0.out.1, H0.out.2⟩
  case round =>
    clear H0
    obtain ⟨seen, ks, hkr, hperm, hit, hb⟩ := hrel
    have hsW := HH.out.below hb
    have hms := iterSeen_at hit
    obtain ⟨va, vc, rfl⟩ := hkr.len
    have hkl : ks.length ≤ 100000 := by
      rw [hperm.length_eq, List.length_map]
      exact Nat.le_trans (List.length_filter_le _ _) hT
    rcases run_next_E hsW.map hit hsW.ok.lt (Nat.le_refl _) 0 with ⟨hall, hrun⟩ | ⟨x, hx, hsx, W2, hW2, hrun⟩
    · have hperm2 : ks.Perm (E.map (·.key)) := by
        rw [List.filter_eq_self.2 (fun e he => hall e he)] at hperm
        exact hperm
      have HS := Lib.hid (And.intro (sortB_congr hperm2 HH.out.ok.keys) (And.intro hb hkr))
      have hsl : (sortB ks).length = ks.length := (sortB_perm ks).length_eq
      have HSL := Lib.hid hsl
      clear hall hms hperm hit hsW hperm2 hsl hb
      gi_wp2
      refine ⟨fun h => (by cases h), (callsIn_wide.2 (sort_keys (r + 1) (.slice va ks.length vc) ks wr hkr (by omega))).mono ?_⟩
      rintro e W3 ⟨rfl, hkr3, hk3⟩
      have hlt : ks.length = (ordE E).length := by rw [← HSL.out, HS.out.1]; rfl
      have hkr4 : KRow (r + 1) W3 (.slice va ks.length vc) (ordE E) := by
        have := hkr3
        rw [HS.out.1] at this
        exact this
      have hb4 : Below W0.heap.size W0 W3 := HS.out.2.1.trans (hk3.below HS.out.2.1.size (fun j e => by have := (HS.out.2.2.lt j e).1; have := HR.out; omega))
      have has : AS n₀ (r + 1) bt c S (ordE E) (.slice va ks.length vc) J W0 [] W3 :=
        ⟨HYJ.out.2 _ _ _ H1.out.2.2.1 hb4, hb4.mono H1.out.2.1, hkr4, (hb4.cell (p := ⟨bt, 0, none⟩) hbl).trans c1, Nat.lt_of_lt_of_le hbl hb4.size, Nat.le_trans H1.out.2.1 hb4.size⟩
      have HA := Lib.hid has
      clear hkr3 hk3 hkr4 hb4 has hkr HS HSL c1
      generalize ks.length = tn at *
      have htl : tn ≤ 100000 := hkl
      obtain ⟨ts, hts⟩ : ∃ ts, ts = ordE E := ⟨_, rfl⟩
      rw [← hts] at HA hlt
      have HTS := Lib.hid hts
      clear hts hkl
      gi_wp2
      gi_loopw [28] (fun i wr => ∃ n : Nat, i = .int .i64 n ∧ n ≤ tn ∧ Hid (AS n₀ (r + 1) bt c S ts (.slice va tn vc) J W0 (allK E (ts.take n)) wr)) (fun i wr => tn - iv i)
      case atStart => exact ⟨0, rfl, Nat.zero_le _, HA⟩
      case round =>
        clear HA
        obtain ⟨n, rfl, hn, HA⟩ := hrel
        by_cases hlast : n = tn
        · subst hlast
          have e : ts.take n = ts := List.take_of_length_le (by omega)
          gi_wp2
          go_end0
          exact ⟨⟨_, rfl⟩, .inl ⟨_, rfl, by have := HA.out.j; rw [e, HTS.out] at this; exact this⟩⟩
        · have hnl : n < ts.length := by omega
          have hnt : n < tn := by omega
          obtain ⟨kg, kc, cur, hve, _, _, _, _, hkc⟩ := HA.out.kr.get (by omega)
          have hka : va = some ⟨kg, 0, none⟩ := by cases hve; rfl
          subst hka
          have ck := hkc n hnl
          have cb := HA.out.cb
          have hst := HH.out.kept (T := fun k => ¬ k < n₀) ⟨HA.out.b.os, HA.out.b.tape, HA.out.b.output, HA.out.b.size, fun j hj hs => HA.out.b.block j (Decidable.not_not.1 hs)⟩ (fun j hj hs => hs (H1.out.1 j hj))
          have a0 := hst.c0
          have hlk := run_look hst.map ts[n]
          obtain ⟨hrow, hasc, hbd, hlen⟩ := hst.row ts[n]
          obtain ⟨la, lc, hlv⟩ := hrow.len
          rw [hlv] at hlk
          have HL := Lib.hid hlv
          have HPRE := Lib.hid (fun j => allK_pre E ts (i := n) (j := j) hnl)
          have HSN := Lib.hid (show allK E (ts.take (n + 1)) = allK E (ts.take n) ++ (lkL E ts[n]).map (fun x => (ts[n], x)) from by rw [List.take_succ_eq_append_getElem hnl, allK_snoc])
          clear hkc hve hrow hasc hbd hlast hlv hst
          have hw1 : IntKind.i64.wrap ((n : Int) + 1) = ((n + 1 : Nat) : Int) := by rw [IntKind.wrap_i64]; omega
          generalize ts[n] = key at *
          obtain ⟨ln, hln⟩ : ∃ ln, ln = (lkL E key).length := ⟨_, rfl⟩
          rw [← hln] at hlk hlen
          have HLN := Lib.hid hln
          clear hln
          gi_wp2
          clear ck a0 hlk cb
          gi_loopw [39] (fun i wr => ∃ j : Nat, i = .int .i64 j ∧ j ≤ ln ∧ Hid (AS n₀ (r + 1) bt c S ts (.slice (some ⟨kg, 0, none⟩) tn vc) J W0 (allK E (ts.take n) ++ ((lkL E key).take j).map (fun x => (key, x))) wr)) (fun i wr => ln - iv i)
          case atStart => exact ⟨0, rfl, Nat.zero_le _, Lib.hid (by rw [List.take_zero, List.map_nil, List.append_nil]; exact HA.out)⟩
          case round =>
            clear HA
            obtain ⟨j, rfl, hj, HA⟩ := hrel
            by_cases hjl : j = ln
            · subst hjl
              have HA2 : Hid (AS n₀ (r + 1) bt c S ts (.slice (some ⟨kg, 0, none⟩) tn vc) J W0 (allK E (ts.take (n + 1))) wr) := Lib.hid (by
                rw [HSN.out]
                have := HA.out
                rw [HLN.out, List.take_length] at this
                exact this)
              clear HA
              gi_wp2
              go_roundw
              case rel => exact ⟨n + 1, by first | rfl | (push_cast; rfl), hnt, HA2⟩
              case measure => show tn - (((n + 1 : Nat) : Int).toNat) < tn - ((n : Int)).toNat; omega
            · have hjlt : j < ln := by omega
              have hst := HH.out.kept (T := fun k => ¬ k < n₀) ⟨HA.out.b.os, HA.out.b.tape, HA.out.b.output, HA.out.b.size, fun j hj hs => HA.out.b.block j (Decidable.not_not.1 hs)⟩ (fun j hj hs => hs (H1.out.1 j hj))
              have hrow := (hst.row key).1
              have hjL : j < (lkL E key).length := by rw [← HLN.out]; exact hjlt
              obtain ⟨g, gc, hve, _, _, hgl, hcell⟩ := hrow.get (by omega)
              have hla : la = some ⟨g, 0, none⟩ := by have := HL.out; rw [hve] at this; cases this; rfl
              subst hla
              obtain ⟨e0, e1, e2⟩ := hcell j hjL
              have HPJ := Lib.hid (show (allK E (ts.take n) ++ ((lkL E key).take (j + 1)).map (fun x => (key, x))) = (allK E (ts.take n) ++ ((lkL E key).take j).map (fun x => (key, x))) ++ [(key, (lkL E key)[j])] from by
                rw [List.take_succ_eq_append_getElem hjL, List.map_append, List.append_assoc]; rfl)
              have hpl : (allK E (ts.take n) ++ ((lkL E key).take j).map (fun x => (key, x))).length < N := by
                have h1 := (HPRE.out (j + 1)).length_le
                rw [HPJ.out, List.length_append] at h1
                have h2 := H1.out.2.2.2
                rw [← HTS.out] at h2
                simp only [List.length_cons, List.length_nil] at h1
                omega
              have HPL := Lib.hid hpl
              have HXV := Lib.hid (rfl : (lkL E key)[j] = (lkL E key)[j])
              obtain ⟨x, hx⟩ : ∃ x, x = (lkL E key)[j] := ⟨_, rfl⟩
              rw [← hx] at e0 e1 e2 HPJ
              have HST := Lib.hid (And.intro hst hgl)
              clear hcell hve hrow hx hpl hst HXV hgl
              have hw2 : IntKind.i64.wrap ((j : Int) + 1) = ((j + 1 : Nat) : Int) := by rw [IntKind.wrap_i64]; omega
              obtain ⟨xs, xv, xd⟩ := x
              have HB8 := Lib.hid (show Below wr.heap.size wr (wr.alloc (.cells #[.int .i64 xs, .string xv, .bool xd] 72)) from (Below.refl _ _).alloc (Nat.le_refl _) _)
              have HA8 := Lib.hid (HA.out.below HYJ.out.2 HB8.out)
              obtain ⟨f1, t1, a1, b1, hy1, hR1⟩ := HYJ.out.1 (m - 1) _ (key, xs, xv, xd) _ HA8.out.j HPL.out
              have hy : (Instr.yield l #[.string key, .agg #[.int .i64 xs, .string xv, .bool xd]]).run Try.prog _ = .ok (.round l f1 t1 a1 b1) _ := hy1
              have HR1 := Lib.hid hR1
              clear hR1 hy1
              gi_wp2
              refine ⟨fun h => (by cases h), HR1.out.mono ?_⟩
              clear HR1 hy
              rintro e W5 (⟨rfl, hJ2, hk2⟩ | ⟨rfl, hx2⟩)
              · have HA5 : Hid (AS n₀ (r + 1) bt c S ts (.slice (some ⟨kg, 0, none⟩) tn vc) J W0 (allK E (ts.take n) ++ ((lkL E key).take (j + 1)).map (fun x => (key, x))) W5) := Lib.hid (by rw [HPJ.out]; exact HA8.out.next hJ2 hk2 hbc)
                clear hJ2 hk2 HA HA8 HB8
                gi_wp2
                go_roundw
                case rel => exact ⟨j + 1, by first | rfl | (push_cast; rfl), hjlt, HA5⟩
                case measure => show ln - (((j + 1 : Nat) : Int).toNat) < ln - ((j : Int)).toNat; omega
              · gi_wp2
                refine bodyPost_ret (results_none rfl _ _ _) rfl ?_
                exact ⟨⟨_, rfl⟩, .inr ⟨_, by rw [← HTS.out, ← HPJ.out]; exact HPRE.out (j + 1), hx2⟩⟩
    · obtain ⟨W3, hW3⟩ : ∃ W3, W3 = setBlock W2 r (.mapIter (some mp) clock (seen.push x.born) clock) := ⟨_, rfl⟩
      rw [← hW3] at hrun
      have hk3 : Kept (fun j => j = r) wr W3 := by rw [hW3]; exact setBlock_kept (kept_drew' (Kept.refl _ wr) hW2) r _ (.inl rfl)
      have hit3 : IterAt W3 r mp clock (seen.push x.born) clock := by rw [hW3]; exact iter_set (iter_drew hit hW2)
      have hb3 : Below W0.heap.size W0 W3 := hb.trans (hk3.below hb.size (fun j e => by rw [e, HR.out]; exact Nat.le_refl _))
      have hkr3 : KRow (r + 1) W3 (.slice va ks.length vc) ks := hkr.same (fun k hk => hk3.block k (hkr.lt k hk).2 (fun e => by have := (hkr.lt k hk).1; omega))
      have hent := run_entry_E (HH.out.below hb3).map hit3 hx HH.out.ok.borns
      obtain ⟨xa, xc, hval⟩ := (HH.out.rows x hx).1.len
      rw [hval] at hrun hent
      have hmeas := unseen_push E seen x hsx HH.out.ok.borns hx
      have HM := Lib.hid (And.intro hmeas hms)
      have HP := Lib.hid ((hperm.append_right [x.key]).trans (filter_seen_push HH.out.ok.borns hx hsx).symm)
      have H3 := Lib.hid (And.intro hit3 hb3)
      obtain ⟨k, hk⟩ : ∃ k, k = x.key := ⟨_, rfl⟩
      rw [← hk] at hrun hent HP
      clear hms hperm hit hsW hkr hb hmeas hW3 hW2 hk3 hit3 hb3 hval hsx hx hk
      gi_wp2_with (gi_at_builtin; refine wpListIn_append_own _ rfl _ _ 60 rfl (r + 1) 9 i0 (.string ⟨#[]⟩) 1 16 Try.underlying60 hi0 hz0 hz1 hz2 rfl (by decide) _ _ _ rfl (World.ownsRow.alloc hkr3 _) ⟨W3.heap.size, 0, none⟩ 1 1 [.string k] rfl rfl (cell_one_new _ _ _) (by simp [Value.oneCell']) (by unfold maxLen; omega) (by omega) (by have := H3.out.1.lt; simp; omega) ?_; intro v' w4 hown' hgrow _)
      have hk4 : Kept (fun j => (Value.slice va ks.length vc).ownBlock = some j) (W3.alloc (.cells #[.string k] 9)) w4 := ⟨hgrow.os, hgrow.tape, hgrow.output, hgrow.size, fun j hj hs => hgrow.block j hj (fun e => hs e.symm)⟩
      have hnr : ¬ (Value.slice va ks.length vc).ownBlock = some r := fun e => by have := (hkr3.lt r e).1; omega
      have hit4 : IterAt w4 r mp clock (seen.push x.born) clock := (IterAt.kept (W := W3.alloc (.cells #[.string k] 9)) (H3.out.1.kept ((Kept.refl (fun _ => False) W3).alloc _) (fun h => h)) hk4 hnr)
      refine ⟨⟨seen.push x.born, ks ++ [k], ?_, HP.out, hit4, (H3.out.2.alloc H3.out.2.size _).trans (hk4.below (by have := H3.out.2.size; simp; omega) (fun j e => by have := (hkr3.lt j e).1; have := HR.out; omega))⟩, ?_⟩
      · unfold KRow
        rw [List.length_append, List.map_append]
        exact hown'
      · rw [iterSeen_at hit4, HM.out.2]
        exact HM.out.1
end Go.Proofs.Ytpcjmceakelilaa
