/- Merged texts: Enb, Enc, End, Ene, Enf, Eng, Enh, Eni, Enj, En1. -/
import Derived.Test.YtpcjmceakelilaaEc3
import Derived.Shelf.Strings.BuilderX
import Derived.Lib.Strings
import Derived.Lib.Slices
import Derived.Lib.Walk
import Derived.Lib.Builder
import Derived.Lib.AppendStr
import Derived.Lib.UnsafeStr
import Derived.Lib.MakeNoZero
import Derived.Laws.Externs
import Derived.Laws.IdiomCopy
import Derived.Laws.BitsLemmas
/- Mvcc: the iterator that Scan returns. -/
namespace Go.Proofs.Ytpcjmceakelilaa
open Go.ChangeShapes Go.WideShapes Go.ChangeAt Go.RowKit Go.Deep Go.ChangeMaps Go.Shelf Go.Sort
set_option linter.unusedVariables false
set_option linter.unusedSimpArgs false
attribute [local go_sem] Oper.semAt_some
attribute [local go_sem, local simp] wide_fn
theorem rev_keys (B : Nat) (v : Value) (ks : List Bs) (w : World) (hv : KRow B w v ks) (hl : ks.length ≤ 1000000) :
    Calls Try.prog 50 #[v] w fun e w' => e = .returned (.tuple #[]) ∧ KRow B w' v ks.reverse ∧ Kept (fun k => v.ownBlock = some k) w w' := by
  have hsl : ks.reverse.length = ks.length := List.length_reverse
  rcases hv.2 with ⟨rfl, h0⟩ | ⟨g, cap, cur, rfl, hbase, hb, h1, h2, h3, h4⟩
  · have hn : ks = [] := List.eq_nil_of_length_eq_zero h0
    subst hn
    refine (Try.slices_Reverse_string_empty _ _ _).mono ?_
    rintro e w1 ⟨rfl, rfl⟩
    exact ⟨rfl, hv, Kept.refl _ _⟩
  · by_cases hz : ks.length = 0
    · have hn : ks = [] := List.eq_nil_of_length_eq_zero hz
      subst hn
      refine (Try.slices_Reverse_string_empty _ _ _).mono ?_
      rintro e w1 ⟨rfl, rfl⟩
      exact ⟨rfl, hv, Kept.refl _ _⟩
    · have hm : (ks.map toL).length = ks.length := List.length_map ..
      have hh : Holds encStr w g 0 (ks.map toL).toArray := holds_of_block hb (by rw [Nat.mul_one] at h4; rw [hm, h4, keys_enc])
      have hc := Try.slices_Reverse_string g 0 cap (ks.map toL) w hh (by omega)
      rw [hm] at hc
      refine hc.mono ?_
      rintro e w1 ⟨rfl, n, rfl⟩
      have hms : (ks.map toL).reverse.length = (ks.map toL).length := List.length_reverse
      have e0 : putRow encStr (Sort.ahead w n) g 0 (ks.map toL).reverse.toArray = grow (putRow encStr (Sort.ahead w n) g 0 (ks.map toL).reverse.toArray) #[] := by simp [grow]; rfl
      rw [e0]
      have hg : w.grownBy (grow (putRow encStr (Sort.ahead w n) g 0 (ks.map toL).reverse.toArray) #[]) (some g) := grownBy_sorted _
      have hO := ownsRow_sorted (n := n) (os := #[]) hms hbase hb (by rw [hm]; exact h1) h2 h3
      refine ⟨rfl, ?_, ⟨hg.os, hg.tape, hg.output, hg.size, fun k hk hs => hg.block k hk (fun e => hs e.symm)⟩⟩
      unfold KRow
      rw [hsl, keys_enc, List.map_reverse]
      rw [hm] at hO
      exact hO
/-- whether a key is in a range -/
def inR (lo hi k : Bs) : Bool := !Op.bytesLess k.toList lo.toList && (hi.toList.isEmpty || Op.bytesLess k.toList hi.toList)
/-- the keys that a scan goes through -/
def scanT (E : List En) (lo hi : Bs) (back : Bool) : List Bs := if back = true then ((ordE E).filter (inR lo hi)).reverse else (ordE E).filter (inR lo hi)
/-- what a scan yields -/
def scanK (E : List En) (t : Int) (ts : List Bs) : List (Bs × Bs) := ts.filterMap fun k => (valAt (lkL E k) t).map fun v => (k, v)
def encP (x : Bs × Bs) : Array Value := #[.string x.1, .string x.2]
theorem scanK_snoc (E : List En) (t : Int) (ts : List Bs) (k : Bs) : scanK E t (ts ++ [k]) = scanK E t ts ++ ((valAt (lkL E k) t).map fun v => (k, v)).toList := by
  unfold scanK
  rw [List.filterMap_append]
  congr 1
theorem scanK_pre (E : List En) (t : Int) (ts : List Bs) (i : Nat) : scanK E t (ts.take i) <+: scanK E t ts := by
  refine ⟨scanK E t (ts.drop i), ?_⟩
  unfold scanK
  rw [← List.filterMap_append, List.take_append_drop]
/-- where a scan stands -/
structure SS {α : Type} (n₀ r bt c : Nat) (ts : List Bs) (v : Value) (J : List α → World → Prop) (W0 : World) (pre : List α) (X : World) : Prop where
  j : J pre X
  b : Below n₀ W0 X
  kr : KRow r X v ts
  bx : ∀ k, bt ≤ k → k < c → X.heap[k]? = W0.heap[k]?
  nX : n₀ ≤ X.heap.size
  cX : c ≤ X.heap.size
theorem SS.below {α : Type} {n₀ r bt c : Nat} {ts : List Bs} {v : Value} {J : List α → World → Prop} {W0 X X' : World} {pre : List α} (h : SS n₀ r bt c ts v J W0 pre X) (hJ : ∀ pre W W', J pre W → Below W.heap.size W W' → J pre W') (hb : Below X.heap.size X X') : SS n₀ r bt c ts v J W0 pre X' :=
  ⟨hJ _ _ _ h.j hb, h.b.trans (hb.mono h.nX), h.kr.str (KeepsStr.below hb), fun k h1 h2 => (hb.block k (by have := h.cX; omega)).trans (h.bx k h1 h2), Nat.le_trans h.nX hb.size, Nat.le_trans h.cX hb.size⟩
theorem SS.next {α : Type} {n₀ r bt c : Nat} {ts : List Bs} {v : Value} {J : List α → World → Prop} {W0 X X' : World} {pre pre' : List α} (h : SS n₀ r bt c ts v J W0 pre X) (hj : J pre' X') (hk : KpS n₀ bt c X X') : SS n₀ r bt c ts v J W0 pre' X' :=
  ⟨hj, h.b.trans hk.1, h.kr.str hk.2.1, fun k h1 h2 => (hk.2.2 k h1 h2 (by have := h.cX; omega)).trans (h.bx k h1 h2), Nat.le_trans h.nX hk.1.size, Nat.le_trans h.cX hk.1.size⟩
theorem SS.cell {α : Type} {n₀ r bt c : Nat} {ts : List Bs} {v : Value} {J : List α → World → Prop} {W0 X : World} {pre : List α} (h : SS n₀ r bt c ts v J W0 pre X) {k : Nat} {u : Value} (h1 : bt ≤ k) (h2 : k < c) (hc : W0.cell? ⟨k, 0, none⟩ = some u) : X.cell? ⟨k, 0, none⟩ = some u := by
  rw [World.cell?_of_block (a := ⟨k, 0, none⟩) (h.bx k h1 h2)]; exact hc
theorem filter_seen_range {E : List En} {seen : Array Nat} {x : En} (f : Bs → Bool) {ks : List Bs} (hp : ks.Perm (((E.filter fun e => seen.contains e.born).map (·.key)).filter f)) (hn : (E.map (·.born)).Nodup) (hx : x ∈ E) (hs : seen.contains x.born = false) :
    (if f x.key = true then ks ++ [x.key] else ks).Perm (((E.filter fun e => (seen.push x.born).contains e.born).map (·.key)).filter f) := by
  have h1 := (filter_seen_push hn hx hs).filter f
  rw [List.filter_append] at h1
  refine List.Perm.trans ?_ h1.symm
  by_cases hf : f x.key = true
  · rw [if_pos hf, List.filter_cons, if_pos hf]
    exact hp.append_right _
  · rw [if_neg hf, List.filter_cons, if_neg hf]
    simpa using hp
theorem sorted_filter {a : List Bs} {E : List En} (f : Bs → Bool) (hn : (E.map (·.key)).Nodup) (h : a.Perm ((E.map (·.key)).filter f)) : sortB a = (ordE E).filter f := by
  have hna : ((E.map (·.key)).filter f).Nodup := List.filter_sublist.nodup hn
  have h1 : (sortB a).Pairwise fun a b => lB a b = true := sortB_srt (h.nodup_iff.2 hna)
  have h2 : ((ordE E).filter f).Pairwise fun a b => lB a b = true := List.Pairwise.sublist List.filter_sublist (sortB_srt hn)
  refine List.Perm.eq_of_pairwise (le := fun a b => lB a b = true) (fun x y _ _ h1 h2 => ?_) h1 h2 ((sortB_perm a).trans (h.trans ((sortB_perm (E.map (·.key))).filter f).symm))
  rw [lB_asymm h1] at h2; cases h2
set_option maxRecDepth 100000 in
set_option maxHeartbeats 6400000 in
theorem scan1_any (m l n₀ N b B S mp clock : Nat) (E : List En) (lo hi : Bs) (t : Int) (back : Bool) (J Jx : List (Bs × Bs) → World → Prop)
    (hY : ∀ m pre (x : Bs × Bs) W, J pre W → pre.length < N → YieldAt Fence.wide m Try.prog l (encP x) W fun e W' =>
      (e = .returned (.bool true) ∧ J (pre ++ [x]) W' ∧ KpS n₀ b (b + 5) W W') ∨ (e = .returned (.bool false) ∧ Jx (pre ++ [x]) W'))
    (hJ : ∀ pre W W', J pre W → Below W.heap.size W W' → J pre W')
    (W0 : World) (hst : Sto B W0 S mp E clock) (hfoot : ∀ k, Foot S mp E k → k < n₀) (hn0 : n₀ ≤ W0.heap.size) (hT : E.length ≤ 100000)
    (c1 : W0.cell? ⟨b, 0, none⟩ = some (.pointer (some ⟨S, 0, none⟩))) (c2 : W0.cell? ⟨b + 1, 0, none⟩ = some (.string lo)) (c3 : W0.cell? ⟨b + 2, 0, none⟩ = some (.string hi)) (c4 : W0.cell? ⟨b + 4, 0, none⟩ = some (.bool back)) (c5 : W0.cell? ⟨b + 3, 0, none⟩ = some (.int .i64 t))
    (hbl : b + 5 ≤ W0.heap.size) (hj : J [] W0) (hN : (scanK E t (scanT E lo hi back)).length ≤ N) :
    CallsIn Fence.wide m Try.prog 49 #[.func (.yield l) #[] #[], .pointer (some ⟨b, 0, none⟩), .pointer (some ⟨b + 1, 0, none⟩), .pointer (some ⟨b + 2, 0, none⟩), .pointer (some ⟨b + 4, 0, none⟩), .pointer (some ⟨b + 3, 0, none⟩)] W0 (SeqOut (scanK E t (scanT E lo hi back)) J Jx) := by
  have HH := Lib.hid hst
  have HYJ := Lib.hid (And.intro hY hJ)
  have H1 := Lib.hid (And.intro hfoot (And.intro hn0 (And.intro hj hN)))
  have hrg := run_range_E hst.map
  have a0 := hst.c0
  obtain ⟨i0, hi0, hz0, hz1, hz2⟩ := info_parts infoS
  have HC := Lib.hid (And.intro c1 (And.intro c2 (And.intro c3 (And.intro c4 c5))))
  clear hY hJ hst hfoot hn0 hj hN c2 c3 c4 c5
  refine callsIn_of_wp Try.func49 rfl trivial ?_ rfl
  simp only [Try.ntmps49, List.size_toArray, List.length_cons, List.length_nil, Nat.reduceAdd, Nat.reduceSub, Array.replicate_succ, Array.replicate_zero, List.push_toArray, List.append_toArray, List.nil_append, List.cons_append]
  gi_wp2
  obtain ⟨r, hr⟩ : ∃ r, r = W0.heap.size := ⟨_, rfl⟩
  have hit : IterAt (W0.alloc (.mapIter (some mp) clock #[] clock)) r mp clock #[] clock := by rw [hr]; exact heap_alloc_new W0 _
  have hb1 : Below W0.heap.size W0 (W0.alloc (.mapIter (some mp) clock #[] clock)) := (Below.refl _ W0).alloc (Nat.le_refl _) _
  have H0 := Lib.hid (And.intro hit hb1)
  rw [← hr]
  have HR := Lib.hid hr
  clear hit hb1 hr a0 hrg c1
  generalize W0.alloc (.mapIter (some mp) clock #[] clock) = W1 at H0 ⊢
  gi_loopw [7] (fun v wr => ∃ (seen : Array Nat) (ks : List Bs), KRow (r + 1) wr v ks ∧ ks.Perm (((E.filter fun e => seen.contains e.born).map (·.key)).filter (inR lo hi)) ∧ IterAt wr r mp clock seen clock ∧ Below W0.heap.size W0 wr) (fun v wr => unseen E (wr.iterSeen r))
  case atStart => exact ⟨#[], [], KRow.nil _ _, by simp, H0.out.1, H0.out.2⟩
  case round =>
    clear H0
    obtain ⟨seen, ks, hkr, hperm, hit, hb⟩ := hrel
    have hsW := HH.out.below hb
    have hms := iterSeen_at hit
    obtain ⟨va, vc, rfl⟩ := hkr.len
    have hkl : ks.length ≤ 100000 := by
      rw [hperm.length_eq]
      refine Nat.le_trans (List.length_filter_le _ _) ?_
      rw [List.length_map]
      exact Nat.le_trans (List.length_filter_le _ _) hT
    rcases run_next_E hsW.map hit hsW.ok.lt (Nat.le_refl _) 0 with ⟨hall, hrun⟩ | ⟨x, hx, hsx, W2, hW2, hrun⟩
    · have hperm2 : ks.Perm ((E.map (·.key)).filter (inR lo hi)) := by
        rw [List.filter_eq_self.2 (fun e he => hall e he)] at hperm
        exact hperm
      have HS := Lib.hid (And.intro (sorted_filter (inR lo hi) HH.out.ok.keys hperm2) (And.intro hb hkr))
      have hsl : (sortB ks).length = ks.length := (sortB_perm ks).length_eq
      have HSL := Lib.hid hsl
      clear hall hms hperm hit hsW hperm2 hsl hb
      gi_wp2
      refine ⟨fun h => (by cases h), (callsIn_wide.2 (sort_keys (r + 1) (.slice va ks.length vc) ks wr hkr (by omega))).mono ?_⟩
      rintro e W3 ⟨rfl, hkr3, hk3⟩
      have hlt : ks.length = ((ordE E).filter (inR lo hi)).length := by rw [← HSL.out, HS.out.1]
      have hkr4 : KRow (r + 1) W3 (.slice va ks.length vc) ((ordE E).filter (inR lo hi)) := by
        have := hkr3
        rw [HS.out.1] at this
        exact this
      have hb4 : Below W0.heap.size W0 W3 := HS.out.2.1.trans (hk3.below HS.out.2.1.size (fun j e => by have := (HS.out.2.2.lt j e).1; have := HR.out; omega))
      have cb4 : W3.cell? ⟨b + 4, 0, none⟩ = some (.bool back) := (hb4.cell (p := ⟨b + 4, 0, none⟩) (by show b + 4 < _; omega)).trans HC.out.2.2.2.1
      clear hkr3 hk3 hkr HS HSL
      generalize ks.length = tn at *
      have htl : tn ≤ 100000 := hkl
      clear hkl
      obtain ⟨F0, hF0⟩ : ∃ F0, F0 = (ordE E).filter (inR lo hi) := ⟨_, rfl⟩
      rw [← hF0] at hlt hkr4
      rcases (show back = false ∨ back = true from by cases back <;> simp) with hbk | hbk
      · skip
        rw [hbk] at cb4
        have hTS0 : F0 = scanT E lo hi back := by rw [hbk, hF0]; rfl
        have HX := Lib.hid (And.intro hb4 hkr4)
        have HTS := Lib.hid hTS0
        clear hb4 hkr4 hF0 hTS0
        have HBK := Lib.hid hbk
        clear hbk
        obtain ⟨ts, hts⟩ : ∃ ts, ts = F0 := ⟨_, rfl⟩
        rw [← hts] at hlt HX HTS
        have HLT := Lib.hid hlt
        clear hts hlt
        have has : SS n₀ (r + 1) b (b + 5) ts (.slice va tn vc) J W0 (scanK E t (ts.take 0)) W3 :=
          ⟨HYJ.out.2 _ _ _ H1.out.2.2.1 HX.out.1, HX.out.1.mono H1.out.2.1, HX.out.2, fun k h1 h2 => HX.out.1.block k (by omega), Nat.le_trans H1.out.2.1 HX.out.1.size, Nat.le_trans hbl HX.out.1.size⟩
        have HA := Lib.hid has
        clear has HX
        gi_wp2
        gi_loopw [47] (fun i wr => ∃ n : Nat, i = .int .i64 n ∧ n ≤ tn ∧ Hid (SS n₀ (r + 1) b (b + 5) ts (.slice va tn vc) J W0 (scanK E t (ts.take n)) wr)) (fun i wr => tn - iv i)
        case atStart => exact ⟨0, rfl, Nat.zero_le _, HA⟩
        case round =>
          clear HA
          obtain ⟨n, rfl, hn, HA⟩ := hrel
          by_cases hlast : n = tn
          · subst hlast
            have e : ts.take n = ts := List.take_of_length_le (by have := HLT.out; omega)
            gi_wp2
            go_end0
            exact ⟨⟨_, rfl⟩, .inl ⟨_, rfl, by have := HA.out.j; rw [e, HTS.out] at this; exact this⟩⟩
          · have hnl : n < ts.length := by have := HLT.out; omega
            have hnt : n < tn := by omega
            obtain ⟨kg, kc, cur, hve, _, _, _, _, hkc⟩ := HA.out.kr.get (by omega)
            have hka : va = some ⟨kg, 0, none⟩ := by cases hve; rfl
            subst hka
            have ck := hkc n hnl
            have cb := HA.out.cell (k := b) (Nat.le_refl _) (by omega) HC.out.1
            have cs := HA.out.cell (k := b + 3) (by omega) (by omega) HC.out.2.2.2.2
            have hst := HH.out.kept (T := fun k => ¬ k < n₀) ⟨HA.out.b.os, HA.out.b.tape, HA.out.b.output, HA.out.b.size, fun j hj hs => HA.out.b.block j (Decidable.not_not.1 hs)⟩ (fun j hj hs => hs (H1.out.1 j hj))
            have HPRE := Lib.hid (scanK_pre E t ts (n + 1))
            have HSN := Lib.hid (show scanK E t (ts.take (n + 1)) = scanK E t (ts.take n) ++ ((valAt (lkL E ts[n]) t).map fun v => (ts[n], v)).toList from by rw [List.take_succ_eq_append_getElem hnl, scanK_snoc])
            have HST := Lib.hid hst
            clear hkc hve hlast hst
            have hw1 : IntKind.i64.wrap ((n : Int) + 1) = ((n + 1 : Nat) : Int) := by rw [IntKind.wrap_i64]; omega
            generalize ts[n] = key at *
            gi_wp2
            refine ⟨fun h => (by cases h), (callsIn_wide.2 (get_any _ _ _ _ _ _ _ _ HST.out)).mono ?_⟩
            rintro e W5 ⟨rfl, hb5⟩
            have HA5 := Lib.hid (HA.out.below HYJ.out.2 hb5)
            clear HA HST hb5 ck cb cs
            cases hval : valAt (lkL E key) t with
            | none =>
              have HA6 : Hid (SS n₀ (r + 1) b (b + 5) ts (.slice (some ⟨kg, 0, none⟩) tn vc) J W0 (scanK E t (ts.take (n + 1))) W5) := Lib.hid (by rw [HSN.out, hval]; simpa using HA5.out)
              clear HA5
              gi_wp2
              go_roundw
              case rel => exact ⟨n + 1, by first | rfl | (push_cast; rfl), hnt, HA6⟩
              case measure => show tn - (((n + 1 : Nat) : Int).toNat) < tn - ((n : Int)).toNat; omega
            | some v =>
              have HPJ : Hid (scanK E t (ts.take (n + 1)) = scanK E t (ts.take n) ++ [(key, v)]) := Lib.hid (by rw [HSN.out, hval]; rfl)
              have hpl : (scanK E t (ts.take n)).length < N := by
                have h1 := HPRE.out.length_le
                rw [HPJ.out, List.length_append] at h1
                have h2 := H1.out.2.2.2
                rw [← HTS.out] at h2
                simp only [List.length_cons, List.length_nil] at h1
                omega
              clear HSN hval
              obtain ⟨f1, t1, a1, b1, hy1, hR1⟩ := HYJ.out.1 (m - 1) _ (key, v) _ HA5.out.j hpl
              have hy : (Instr.yield l #[.string key, .string v]).run Try.prog _ = .ok (.round l f1 t1 a1 b1) _ := hy1
              have HR1 := Lib.hid hR1
              clear hR1 hy1 hpl
              gi_wp2
              refine ⟨fun h => (by cases h), HR1.out.mono ?_⟩
              clear HR1 hy
              rintro e W6 (⟨rfl, hJ2, hk2⟩ | ⟨rfl, hx2⟩)
              · have HA6 : Hid (SS n₀ (r + 1) b (b + 5) ts (.slice (some ⟨kg, 0, none⟩) tn vc) J W0 (scanK E t (ts.take (n + 1))) W6) := Lib.hid (by rw [HPJ.out]; exact HA5.out.next hJ2 hk2)
                clear hJ2 hk2 HA5
                gi_wp2
                go_roundw
                case rel => exact ⟨n + 1, by first | rfl | (push_cast; rfl), hnt, HA6⟩
                case measure => show tn - (((n + 1 : Nat) : Int).toNat) < tn - ((n : Int)).toNat; omega
              · gi_wp2
                refine bodyPost_ret (results_none rfl _ _ _) rfl ?_
                exact ⟨⟨_, rfl⟩, .inr ⟨_, by rw [← HTS.out, ← HPJ.out]; exact HPRE.out, hx2⟩⟩
      · skip
        rw [hbk] at cb4
        have hTS0 : F0.reverse = scanT E lo hi back := by rw [hbk, hF0]; rfl
        have HX0 := Lib.hid hb4
        have HTS0 := Lib.hid hTS0
        have HBK := Lib.hid hbk
        have HLT0 := Lib.hid hlt
        clear hbk hb4 hF0 hTS0 hlt
        gi_wp2
        refine ⟨fun h => (by cases h), (callsIn_wide.2 (rev_keys (r + 1) (.slice va tn vc) F0 W3 hkr4 (by have := HLT0.out; omega))).mono ?_⟩
        rintro e W3b ⟨rfl, hkr5, hk5⟩
        have HX := Lib.hid (And.intro (HX0.out.trans (hk5.below HX0.out.size (fun j e => by have := (hkr4.lt j e).1; have := HR.out; omega))) hkr5)
        have hlt : tn = F0.reverse.length := by rw [List.length_reverse]; exact HLT0.out
        have HTS := HTS0
        clear hkr4 hkr5 hk5 HX0 HTS0 cb4
        generalize F0.reverse = F0 at *
        obtain ⟨ts, hts⟩ : ∃ ts, ts = F0 := ⟨_, rfl⟩
        rw [← hts] at hlt HX HTS
        have HLT := Lib.hid hlt
        clear hts hlt
        have has : SS n₀ (r + 1) b (b + 5) ts (.slice va tn vc) J W0 (scanK E t (ts.take 0)) W3b :=
          ⟨HYJ.out.2 _ _ _ H1.out.2.2.1 HX.out.1, HX.out.1.mono H1.out.2.1, HX.out.2, fun k h1 h2 => HX.out.1.block k (by omega), Nat.le_trans H1.out.2.1 HX.out.1.size, Nat.le_trans hbl HX.out.1.size⟩
        have HA := Lib.hid has
        clear has HX
        gi_wp2
        gi_loopw [47] (fun i wr => ∃ n : Nat, i = .int .i64 n ∧ n ≤ tn ∧ Hid (SS n₀ (r + 1) b (b + 5) ts (.slice va tn vc) J W0 (scanK E t (ts.take n)) wr)) (fun i wr => tn - iv i)
        case atStart => exact ⟨0, rfl, Nat.zero_le _, HA⟩
        case round =>
          clear HA
          obtain ⟨n, rfl, hn, HA⟩ := hrel
          by_cases hlast : n = tn
          · subst hlast
            have e : ts.take n = ts := List.take_of_length_le (by have := HLT.out; omega)
            gi_wp2
            go_end0
            exact ⟨⟨_, rfl⟩, .inl ⟨_, rfl, by have := HA.out.j; rw [e, HTS.out] at this; exact this⟩⟩
          · have hnl : n < ts.length := by have := HLT.out; omega
            have hnt : n < tn := by omega
            obtain ⟨kg, kc, cur, hve, _, _, _, _, hkc⟩ := HA.out.kr.get (by omega)
            have hka : va = some ⟨kg, 0, none⟩ := by cases hve; rfl
            subst hka
            have ck := hkc n hnl
            have cb := HA.out.cell (k := b) (Nat.le_refl _) (by omega) HC.out.1
            have cs := HA.out.cell (k := b + 3) (by omega) (by omega) HC.out.2.2.2.2
            have hst := HH.out.kept (T := fun k => ¬ k < n₀) ⟨HA.out.b.os, HA.out.b.tape, HA.out.b.output, HA.out.b.size, fun j hj hs => HA.out.b.block j (Decidable.not_not.1 hs)⟩ (fun j hj hs => hs (H1.out.1 j hj))
            have HPRE := Lib.hid (scanK_pre E t ts (n + 1))
            have HSN := Lib.hid (show scanK E t (ts.take (n + 1)) = scanK E t (ts.take n) ++ ((valAt (lkL E ts[n]) t).map fun v => (ts[n], v)).toList from by rw [List.take_succ_eq_append_getElem hnl, scanK_snoc])
            have HST := Lib.hid hst
            clear hkc hve hlast hst
            have hw1 : IntKind.i64.wrap ((n : Int) + 1) = ((n + 1 : Nat) : Int) := by rw [IntKind.wrap_i64]; omega
            generalize ts[n] = key at *
            gi_wp2
            refine ⟨fun h => (by cases h), (callsIn_wide.2 (get_any _ _ _ _ _ _ _ _ HST.out)).mono ?_⟩
            rintro e W5 ⟨rfl, hb5⟩
            have HA5 := Lib.hid (HA.out.below HYJ.out.2 hb5)
            clear HA HST hb5 ck cb cs
            cases hval : valAt (lkL E key) t with
            | none =>
              have HA6 : Hid (SS n₀ (r + 1) b (b + 5) ts (.slice (some ⟨kg, 0, none⟩) tn vc) J W0 (scanK E t (ts.take (n + 1))) W5) := Lib.hid (by rw [HSN.out, hval]; simpa using HA5.out)
              clear HA5
              gi_wp2
              go_roundw
              case rel => exact ⟨n + 1, by first | rfl | (push_cast; rfl), hnt, HA6⟩
              case measure => show tn - (((n + 1 : Nat) : Int).toNat) < tn - ((n : Int)).toNat; omega
            | some v =>
              have HPJ : Hid (scanK E t (ts.take (n + 1)) = scanK E t (ts.take n) ++ [(key, v)]) := Lib.hid (by rw [HSN.out, hval]; rfl)
              have hpl : (scanK E t (ts.take n)).length < N := by
                have h1 := HPRE.out.length_le
                rw [HPJ.out, List.length_append] at h1
                have h2 := H1.out.2.2.2
                rw [← HTS.out] at h2
                simp only [List.length_cons, List.length_nil] at h1
                omega
              clear HSN hval
              obtain ⟨f1, t1, a1, b1, hy1, hR1⟩ := HYJ.out.1 (m - 1) _ (key, v) _ HA5.out.j hpl
              have hy : (Instr.yield l #[.string key, .string v]).run Try.prog _ = .ok (.round l f1 t1 a1 b1) _ := hy1
              have HR1 := Lib.hid hR1
              clear hR1 hy1 hpl
              gi_wp2
              refine ⟨fun h => (by cases h), HR1.out.mono ?_⟩
              clear HR1 hy
              rintro e W6 (⟨rfl, hJ2, hk2⟩ | ⟨rfl, hx2⟩)
              · have HA6 : Hid (SS n₀ (r + 1) b (b + 5) ts (.slice (some ⟨kg, 0, none⟩) tn vc) J W0 (scanK E t (ts.take (n + 1))) W6) := Lib.hid (by rw [HPJ.out]; exact HA5.out.next hJ2 hk2)
                clear hJ2 hk2 HA5
                gi_wp2
                go_roundw
                case rel => exact ⟨n + 1, by first | rfl | (push_cast; rfl), hnt, HA6⟩
                case measure => show tn - (((n + 1 : Nat) : Int).toNat) < tn - ((n : Int)).toNat; omega
              · gi_wp2
                refine bodyPost_ret (results_none rfl _ _ _) rfl ?_
                exact ⟨⟨_, rfl⟩, .inr ⟨_, by rw [← HTS.out, ← HPJ.out]; exact HPRE.out, hx2⟩⟩
    · obtain ⟨W3, hW3⟩ : ∃ W3, W3 = setBlock W2 r (.mapIter (some mp) clock (seen.push x.born) clock) := ⟨_, rfl⟩
      rw [← hW3] at hrun
      have hk3 : Kept (fun j => j = r) wr W3 := by rw [hW3]; exact setBlock_kept (kept_drew' (Kept.refl _ wr) hW2) r _ (.inl rfl)
      have hit3 : IterAt W3 r mp clock (seen.push x.born) clock := by rw [hW3]; exact iter_set (iter_drew hit hW2)
      have hb3 : Below W0.heap.size W0 W3 := hb.trans (hk3.below hb.size (fun j e => by rw [e, HR.out]; exact Nat.le_refl _))
      have hkr3 : KRow (r + 1) W3 (.slice va ks.length vc) ks := hkr.same (fun k hk => hk3.block k (hkr.lt k hk).2 (fun e => by have := (hkr.lt k hk).1; omega))
      have hent := run_entry_E (HH.out.below hb3).map hit3 hx HH.out.ok.borns
      obtain ⟨xa, xc, hval⟩ := (HH.out.rows x hx).1.len
      rw [hval] at hrun hent
      have hmeas := unseen_push E seen x hsx HH.out.ok.borns hx
      have HM := Lib.hid (And.intro hmeas hms)
      have HP := Lib.hid (filter_seen_range (inR lo hi) hperm HH.out.ok.borns hx hsx)
      have H3 := Lib.hid (And.intro hit3 hb3)
      obtain ⟨k, hk⟩ : ∃ k, k = x.key := ⟨_, rfl⟩
      rw [← hk] at hrun hent HP
      have q2 : W3.cell? ⟨b + 1, 0, none⟩ = some (.string lo) := (hb3.cell (p := ⟨b + 1, 0, none⟩) (by show b + 1 < _; omega)).trans HC.out.2.1
      have q3 : W3.cell? ⟨b + 2, 0, none⟩ = some (.string hi) := (hb3.cell (p := ⟨b + 2, 0, none⟩) (by show b + 2 < _; omega)).trans HC.out.2.2.1
      clear hms hperm hit hsW hkr hb hmeas hW3 hW2 hk3 hit3 hb3 hval hsx hx hk
      gi_wp2_with (gi_at_builtin; refine wpListIn_append_own _ rfl _ _ 60 rfl (r + 1) 9 i0 (.string ⟨#[]⟩) 1 16 Try.underlying60 hi0 hz0 hz1 hz2 rfl (by decide) _ _ _ rfl (World.ownsRow.alloc hkr3 _) ⟨W3.heap.size, 0, none⟩ 1 1 [.string k] rfl rfl (cell_one_new _ _ _) (by simp [Value.oneCell']) (by unfold maxLen; omega) (by omega) (by have := H3.out.1.lt; simp; omega) ?_; intro v' w4 hown' hgrow _)
      · rename_i g1
        have hin : inR lo hi k = false := by unfold inR; rw [g1]; rfl
        have HPo := HP.out
        rw [if_neg (by rw [hin]; decide)] at HPo
        refine ⟨⟨seen.push x.born, ks, hkr3, HPo, H3.out.1, H3.out.2⟩, ?_⟩
        rw [iterSeen_at H3.out.1, HM.out.2]
        exact HM.out.1
      · rename_i g1 g2 _
        have hin : inR lo hi k = true := by unfold inR; rw [Bool.eq_false_iff.2 g1, g2]; rfl
        have HPi := HP.out
        rw [if_pos hin] at HPi
        have hk4 : Kept (fun j => (Value.slice va ks.length vc).ownBlock = some j) (W3.alloc (.cells #[.string k] 9)) w4 := ⟨hgrow.os, hgrow.tape, hgrow.output, hgrow.size, fun j hj hs => hgrow.block j hj (fun e => hs e.symm)⟩
        have hnr : ¬ (Value.slice va ks.length vc).ownBlock = some r := fun e => by have := (hkr3.lt r e).1; omega
        have hit4 : IterAt w4 r mp clock (seen.push x.born) clock := (IterAt.kept (W := W3.alloc (.cells #[.string k] 9)) (H3.out.1.kept ((Kept.refl (fun _ => False) W3).alloc _) (fun h => h)) hk4 hnr)
        refine ⟨⟨seen.push x.born, ks ++ [k], ?_, HPi, hit4, (H3.out.2.alloc H3.out.2.size _).trans (hk4.below (by have := H3.out.2.size; simp; omega) (fun j e => by have := (hkr3.lt j e).1; have := HR.out; omega))⟩, ?_⟩
        · unfold KRow
          rw [List.length_append, List.map_append]
          exact hown'
        · rw [iterSeen_at hit4, HM.out.2]
          exact HM.out.1
      · rename_i g1 g2 g3 _
        have hin : inR lo hi k = true := by unfold inR; rw [Bool.eq_false_iff.2 g1]; simpa using g3
        have HPi := HP.out
        rw [if_pos hin] at HPi
        have hk4 : Kept (fun j => (Value.slice va ks.length vc).ownBlock = some j) (W3.alloc (.cells #[.string k] 9)) w4 := ⟨hgrow.os, hgrow.tape, hgrow.output, hgrow.size, fun j hj hs => hgrow.block j hj (fun e => hs e.symm)⟩
        have hnr : ¬ (Value.slice va ks.length vc).ownBlock = some r := fun e => by have := (hkr3.lt r e).1; omega
        have hit4 : IterAt w4 r mp clock (seen.push x.born) clock := (IterAt.kept (W := W3.alloc (.cells #[.string k] 9)) (H3.out.1.kept ((Kept.refl (fun _ => False) W3).alloc _) (fun h => h)) hk4 hnr)
        refine ⟨⟨seen.push x.born, ks ++ [k], ?_, HPi, hit4, (H3.out.2.alloc H3.out.2.size _).trans (hk4.below (by have := H3.out.2.size; simp; omega) (fun j e => by have := (hkr3.lt j e).1; have := HR.out; omega))⟩, ?_⟩
        · unfold KRow
          rw [List.length_append, List.map_append]
          exact hown'
        · rw [iterSeen_at hit4, HM.out.2]
          exact HM.out.1
      · rename_i g1 g2 g3
        have hin : inR lo hi k = false := by unfold inR; rw [Bool.eq_false_iff.2 g1, g3.1, g3.2]; rfl
        have HPo := HP.out
        rw [if_neg (by rw [hin]; decide)] at HPo
        refine ⟨⟨seen.push x.born, ks, hkr3, HPo, H3.out.1, H3.out.2⟩, ?_⟩
        rw [iterSeen_at H3.out.1, HM.out.2]
        exact HM.out.1
end Go.Proofs.Ytpcjmceakelilaa
/- Mvcc: Scan, apart from a law. -/
namespace Go.Proofs.Ytpcjmceakelilaa
open Go.ChangeShapes Go.WideShapes Go.ChangeAt Go.RowKit Go.Deep Go.ChangeMaps Go.Shelf Go.Sort
set_option linter.unusedVariables false
set_option linter.unusedSimpArgs false
attribute [local go_sem] Oper.semAt_some
attribute [local go_sem, local simp] wide_fn
def prS (L : List (Bs × Bs)) : List Value := L.flatMap fun x => [.string x.1, .string x.2]
theorem prS_snoc (L : List (Bs × Bs)) (x : Bs × Bs) : prS (L ++ [x]) = prS L ++ [.string x.1, .string x.2] := by simp [prS]
theorem infoB : (Try.prog.info? 51).map (fun i => (i.zero, i.size, i.bytes)) = some (some (.agg #[.string ⟨#[]⟩, .string ⟨#[]⟩]), 2, 32) := by kernel_rfl
/-- the boxes that Scan makes -/
structure SBox (W : World) (b S : Nat) (lo hi : Bs) (t : Int) (back : Bool) : Prop where
  c0 : W.cell? ⟨b, 0, none⟩ = some (.pointer (some ⟨S, 0, none⟩))
  c1 : W.cell? ⟨b + 1, 0, none⟩ = some (.string lo)
  c2 : W.cell? ⟨b + 2, 0, none⟩ = some (.string hi)
  c3 : W.cell? ⟨b + 4, 0, none⟩ = some (.bool back)
  c4 : W.cell? ⟨b + 3, 0, none⟩ = some (.int .i64 t)
theorem seek_in (n S : Nat) (lo hi : Bs) (t : Int) (back : Bool) (w : World) :
    CallsIn Fence.wide n Try.prog 33 #[.pointer (some ⟨S, 0, none⟩), .string lo, .string hi, .int .i64 t, .bool back] w fun e w' => e = .returned (.func (.func 49) #[] #[.pointer (some ⟨w.heap.size, 0, none⟩), .pointer (some ⟨w.heap.size + 1, 0, none⟩), .pointer (some ⟨w.heap.size + 2, 0, none⟩), .pointer (some ⟨w.heap.size + 4, 0, none⟩), .pointer (some ⟨w.heap.size + 3, 0, none⟩)]) ∧ SBox w' w.heap.size S lo hi t back ∧ w'.heap.size = w.heap.size + 5 ∧ Below w.heap.size w w' ∧ KeepsOthers w w' := by
  refine callsIn_of_wp Try.func33 rfl trivial ?_ rfl
  simp only [Try.ntmps33, List.size_toArray, List.length_cons, List.length_nil, Nat.reduceAdd, Nat.reduceSub, Array.replicate_succ, Array.replicate_zero, List.push_toArray, List.append_toArray, List.nil_append, List.cons_append]
  gi_wp2
  go_ret
  have b0 := Boxed.new w 65 (.pointer (some ⟨S, 0, none⟩))
  have b1 := Boxed.new (w.alloc (.cells #[.pointer (some ⟨S, 0, none⟩)] 65)) 9 (.string lo)
  have b2 := Boxed.new ((w.alloc (.cells #[.pointer (some ⟨S, 0, none⟩)] 65)).alloc (.cells #[.string lo] 9)) 9 (.string hi)
  have b3 := Boxed.new (((w.alloc (.cells #[.pointer (some ⟨S, 0, none⟩)] 65)).alloc (.cells #[.string lo] 9)).alloc (.cells #[.string hi] 9)) 3 (.int .i64 t)
  have b4 := Boxed.new ((((w.alloc (.cells #[.pointer (some ⟨S, 0, none⟩)] 65)).alloc (.cells #[.string lo] 9)).alloc (.cells #[.string hi] 9)).alloc (.cells #[.int .i64 t] 3)) 4 (.bool back)
  simp only [World.size_alloc] at b1 b2 b3 b4
  refine ⟨rfl, ⟨((((b0.alloc _).alloc _).alloc _).alloc _).cell, (((b1.alloc _).alloc _).alloc _).cell, ((b2.alloc _).alloc _).cell, b4.cell, (b3.alloc _).cell⟩, by simp, ?_, ?_⟩
  · exact (((((Below.refl _ w).alloc (Nat.le_refl _) _).alloc (by simp) _).alloc (by simp; omega) _).alloc (by simp; omega) _).alloc (by simp; omega) _
  · exact ((((KeepsOthers.alloc _ _).trans (KeepsOthers.alloc _ _)).trans (KeepsOthers.alloc _ _)).trans (KeepsOthers.alloc _ _)).trans (KeepsOthers.alloc _ _)
theorem und69 : (Try.prog.underlying 46).map (fun d => match d with | .func _ _ _ => true | _ => false) = some true := by kernel_rfl
theorem eql69 (f : Fn) (a b : Array Value) (w : World) : (binOp .eql 46 (.func f a b) .nilFunc).run Try.prog w = .ok (.bool false) w := eql_nilFunc und69 f a b w
attribute [local go_sem] eql69
theorem SBox.below {W W' : World} {b S : Nat} {lo hi : Bs} {t : Int} {back : Bool} (h : SBox W b S lo hi t back) (hb : Below W.heap.size W W') (hl : b + 5 ≤ W.heap.size) : SBox W' b S lo hi t back :=
  ⟨(hb.cell (p := ⟨b, 0, none⟩) (by show b < _; omega)).trans h.c0, (hb.cell (p := ⟨b + 1, 0, none⟩) (by show b + 1 < _; omega)).trans h.c1, (hb.cell (p := ⟨b + 2, 0, none⟩) (by show b + 2 < _; omega)).trans h.c2, (hb.cell (p := ⟨b + 4, 0, none⟩) (by show b + 4 < _; omega)).trans h.c3, (hb.cell (p := ⟨b + 3, 0, none⟩) (by show b + 3 < _; omega)).trans h.c4⟩
theorem stops_scan (n n₀ B S mp clock b : Nat) (E : List En) (lo hi : Bs) (t : Int) (back : Bool) (W : World) (h : Sto B W S mp E clock) (hfoot : ∀ k, Foot S mp E k → k < n₀) (hn0 : n₀ ≤ W.heap.size) (hT : E.length ≤ 100000) (c : SBox W b S lo hi t back) (hbl : b + 5 ≤ W.heap.size) :
    SeqStopsK Fence.wide n Try.prog 49 #[.pointer (some ⟨b, 0, none⟩), .pointer (some ⟨b + 1, 0, none⟩), .pointer (some ⟨b + 2, 0, none⟩), .pointer (some ⟨b + 4, 0, none⟩), .pointer (some ⟨b + 3, 0, none⟩)] encP (KpS n₀ b (b + 5)) (fun xs => xs = scanK E t (scanT E lo hi back)) (fun pre => pre <+: scanK E t (scanT E lo hi back)) (scanK E t (scanT E lo hi back)).length W := fun l J Jx W1 hW hJ _ hY h0 =>
  have c' := c.below hW hbl
  scan1_any n l n₀ _ b B S mp clock E lo hi t back J Jx (fun m pre x W hj hl => yieldAt_any (hY pre x W hj hl)) (fun pre W W' hj hb => abides_below hJ pre W W' hj hb) W1 (h.below hW) hfoot (Nat.le_trans hn0 hW.size) hT c'.c0 c'.c1 c'.c2 c'.c3 c'.c4 (Nat.le_trans hbl hW.size) h0 (Nat.le_refl _)
theorem two_cells_new (W : World) (a b : Value) (t : TypeId) : ∀ j z, [a, b][j]? = some z → (W.alloc (.cells #[a, b] t)).cell? ((⟨W.heap.size, 0, none⟩ : Addr).add j) = some z := fun j z hz => by
  rw [addr_add', Nat.zero_add]
  exact (Box.new W [a, b] t).cell j z hz
end Go.Proofs.Ytpcjmceakelilaa
/- Mvcc: a store is known by what its keys hold (plain). -/
namespace Go.Proofs.Ytpcjmceakelilaa
open Go.ChangeShapes Go.WideShapes Go.ChangeAt Go.RowKit Go.Deep Go.ChangeMaps Go.Shelf Go.Sort
set_option linter.unusedVariables false
set_option linter.unusedSimpArgs false
structure Gd (E : List En) : Prop where
  keys : (E.map (·.key)).Nodup
  ne : ∀ e ∈ E, e.vs ≠ []
theorem Sto.gd {B S m clock : Nat} {W : World} {E : List En} (h : Sto B W S m E clock) : Gd E := ⟨h.ok.keys, fun e he => (h.rows e he).2.1⟩
theorem lkL_of {E : List En} (hn : (E.map (·.key)).Nodup) {e : En} (he : e ∈ E) : lkL E e.key = e.vs := by unfold lkL; rw [lkE_of_mem hn he]
theorem lkL_absent {E : List En} {k : Bs} (h : ∀ e ∈ E, e.key ≠ k) : lkL E k = [] := by
  unfold lkL
  cases hl : lkE E k with
  | none => rfl
  | some x => exact absurd (lkE_mem hl).2 (h _ (lkE_mem hl).1)
theorem lkL_some {E : List En} {k : Bs} (h : lkL E k ≠ []) : ∃ e ∈ E, e.key = k ∧ e.vs = lkL E k := by
  unfold lkL at h ⊢
  cases hl : lkE E k with
  | none => rw [hl] at h; exact absurd rfl h
  | some x => exact ⟨x, (lkE_mem hl).1, (lkE_mem hl).2, rfl⟩
theorem mem_keys {E : List En} (g : Gd E) (k : Bs) : k ∈ E.map (·.key) ↔ lkL E k ≠ [] := by
  constructor
  · intro h
    obtain ⟨e, he, rfl⟩ := List.mem_map.1 h
    rw [lkL_of g.keys he]
    exact g.ne e he
  · intro h
    obtain ⟨e, he, hk, _⟩ := lkL_some h
    exact List.mem_map.2 ⟨e, he, hk⟩
theorem ord_same {E E' : List En} (g : Gd E) (g' : Gd E') (h : lkL E = lkL E') : ordE E = ordE E' := by
  unfold ordE
  refine sortB_congr ?_ g'.keys
  exact (List.perm_ext_iff_of_nodup g.keys g'.keys).2 fun k => by rw [mem_keys g, mem_keys g', h]
/-- what All yields -/
def vw (E : List En) : List (Bs × Ver) := allK E (ordE E)
theorem vw_same {E E' : List En} (g : Gd E) (g' : Gd E') (h : lkL E = lkL E') : vw E = vw E' := by
  unfold vw allK
  rw [ord_same g g' h, h]
/-- what Scan yields -/
theorem total_vw {E : List En} (g : Gd E) : total E = (vw E).length := by
  have h1 : total E = ((E.map (·.key)).flatMap fun k => (lkL E k).map fun x => (k, x)).length := by
    rw [List.length_flatMap, List.map_map]
    unfold total
    congr 1
    refine List.map_congr_left fun e he => ?_
    show e.vs.length = ((lkL E e.key).map _).length
    rw [lkL_of g.keys he, List.length_map]
  rw [h1]
  exact (List.Perm.flatMap_right _ (sortB_perm (E.map (·.key))).symm).length_eq
theorem total_same {E E' : List En} (g : Gd E) (g' : Gd E') (h : lkL E = lkL E') : total E = total E' := by rw [total_vw g, total_vw g', vw_same g g' h]
theorem swept_lk {E E' : List En} {f : List Ver → List Ver} {seen : Array Nat} (hs : Swp E E' f seen) (hall : ∀ e ∈ E, seen.contains e.born = true) (g : Gd E) (g' : Gd E') (f0 : f [] = []) : lkL E' = fun k => f (lkL E k) := by
  have hsw : ∀ e ∈ E, sw f seen e = f e.vs := fun e he => by unfold sw; rw [if_pos (hall e he)]
  funext k
  by_cases h : ∃ e ∈ E, e.key = k
  · obtain ⟨e, he, rfl⟩ := h
    rw [lkL_of g.keys he]
    by_cases hf : f e.vs = []
    · rw [hf]
      refine lkL_absent fun e' he' hk => ?_
      obtain ⟨e2, he2, h1, _, h3⟩ := hs.back e' he'
      have : e2 = e := nodup_inj g.keys he2 he (by rw [← h1, hk])
      subst this
      exact g'.ne e' he' (by rw [h3, hsw _ he2, hf])
    · obtain ⟨e', he', h1, _, h3⟩ := hs.forth e he (by rw [hsw e he]; exact hf)
      rw [← h1, lkL_of g'.keys he', h3, hsw e he]
  · have h' : ∀ e ∈ E, e.key ≠ k := fun e he hk => h ⟨e, he, hk⟩
    rw [lkL_absent h', f0]
    refine lkL_absent fun e' he' hk => ?_
    obtain ⟨e, he, h1, _⟩ := hs.back e' he'
    exact h' e he (by rw [← h1, hk])
theorem cpy_lk {E E' : List En} {seen : Array Nat} (hs : Cpy E E' seen) (hall : ∀ e ∈ E, seen.contains e.born = true) (g : Gd E) (g' : Gd E') : lkL E' = lkL E := by
  funext k
  by_cases h : ∃ e ∈ E, e.key = k
  · obtain ⟨e, he, rfl⟩ := h
    obtain ⟨e', he', h1, h2⟩ := hs.forth e he (hall e he)
    rw [lkL_of g.keys he, ← h1, lkL_of g'.keys he', h2]
  · have h' : ∀ e ∈ E, e.key ≠ k := fun e he hk => h ⟨e, he, hk⟩
    rw [lkL_absent h']
    refine lkL_absent fun e' he' hk => ?_
    obtain ⟨e, he, h1, _⟩ := hs.back e' he'
    exact h' e he (by rw [← h1, hk])
theorem mem_put_self (E : List En) (c : Nat) (k : Bs) (val : Value) (vs : List Ver) : ∃ e ∈ putE E c k val vs, e.key = k ∧ e.vs = vs := by
  unfold putE
  cases hl : lkE E k with
  | some x =>
    obtain ⟨h1, h2⟩ := lkE_mem hl
    exact ⟨_, List.mem_map.2 ⟨x, h1, rfl⟩, by rw [if_pos h2]; exact h2, by rw [if_pos h2]⟩
  | none => exact ⟨_, List.mem_append_right _ (List.mem_singleton.2 rfl), rfl, rfl⟩
theorem mem_put_other {E : List En} {c : Nat} {k : Bs} {val : Value} {vs : List Ver} {e : En} (he : e ∈ E) (hk : e.key ≠ k) : e ∈ putE E c k val vs := by
  unfold putE
  cases hl : lkE E k with
  | some x => exact List.mem_map.2 ⟨e, he, by rw [if_neg hk]⟩
  | none => exact List.mem_append_left _ he
theorem put_lk {E : List En} {c : Nat} (h : EnOK E c) (k : Bs) (val : Value) (vs : List Ver) : lkL (putE E c k val vs) = fun k' => if k' = k then vs else lkL E k' := by
  have hn := (h.put k val vs).keys
  funext k'
  by_cases hk : k' = k
  · subst hk
    obtain ⟨e, he, h1, h2⟩ := mem_put_self E c k' val vs
    have h3 := lkL_of hn he
    rw [h1] at h3
    rw [if_pos rfl, h3, h2]
  · rw [if_neg hk]
    by_cases he : ∃ e ∈ E, e.key = k'
    · obtain ⟨e, he, rfl⟩ := he
      rw [lkL_of h.keys he, lkL_of hn (mem_put_other he hk)]
    · rw [lkL_absent (fun e h1 h2 => he ⟨e, h1, h2⟩)]
      refine lkL_absent fun e h1 h2 => ?_
      rcases putE_mem h.keys h1 with ⟨h3, _⟩ | ⟨h3, _⟩
      · exact he ⟨e, h3, h2⟩
      · exact hk (by rw [← h2, h3])
end Go.Proofs.Ytpcjmceakelilaa
/- Mvcc: what a call does to what the keys hold (plain). -/
namespace Go.Proofs.Ytpcjmceakelilaa
open Go.ChangeShapes Go.WideShapes Go.ChangeAt Go.RowKit Go.Deep Go.ChangeMaps Go.Shelf Go.Sort
set_option linter.unusedVariables false
set_option linter.unusedSimpArgs false
theorem sum_sub (f : Bs → Nat) : ∀ (l l' : List Bs), l.Nodup → (∀ x ∈ l, f x ≠ 0 → x ∈ l') → (l.map f).sum ≤ (l'.map f).sum
  | [], _, _, _ => Nat.zero_le _
  | a :: l, l', hn, h => by
    obtain ⟨h1, h2⟩ := List.nodup_cons.1 hn
    by_cases h0 : f a = 0
    · have := sum_sub f l l' h2 (fun x hx => h x (List.mem_cons_of_mem _ hx))
      simpa [h0] using this
    · have ha := h a (List.mem_cons_self ..) h0
      obtain ⟨u, v, rfl⟩ := List.append_of_mem ha
      have := sum_sub f l (u ++ v) h2 (fun x hx hx0 => by
        have h3 := h x (List.mem_cons_of_mem _ hx) hx0
        rcases List.mem_append.1 h3 with h3 | h3
        · exact List.mem_append_left _ h3
        · rcases List.mem_cons.1 h3 with h3 | h3
          · exact absurd (by rw [← h3]; exact hx) h1
          · exact List.mem_append_right _ h3)
      simp only [List.map_cons, List.sum_cons, List.map_append, List.sum_append] at this ⊢
      omega
theorem sum_add (f g : Bs → Nat) : ∀ l : List Bs, (l.map fun x => f x + g x).sum = (l.map f).sum + (l.map g).sum
  | [] => rfl
  | a :: l => by simp only [List.map_cons, List.sum_cons, sum_add f g l]; omega
theorem sum_mono (f g : Bs → Nat) (h : ∀ x, f x ≤ g x) : ∀ l : List Bs, (l.map f).sum ≤ (l.map g).sum
  | [] => Nat.le_refl _
  | a :: l => by have := sum_mono f g h l; have := h a; simp only [List.map_cons, List.sum_cons]; omega
theorem sum_ind (k : Bs) : ∀ l : List Bs, l.Nodup → (l.map fun x => if x = k then 1 else 0).sum ≤ 1
  | [], _ => Nat.zero_le _
  | a :: l, hn => by
    obtain ⟨h1, h2⟩ := List.nodup_cons.1 hn
    by_cases h : a = k
    · have : (l.map fun x => if x = k then 1 else 0).sum ≤ (([] : List Bs).map fun x => if x = k then 1 else 0).sum := sum_sub _ l [] h2 (fun x hx hx0 => by
        by_cases e : x = k
        · exact absurd (by rw [h, ← e]; exact hx) h1
        · rw [if_neg e] at hx0; exact absurd rfl hx0)
      simp only [List.map_cons, List.sum_cons, if_pos h, List.map_nil, List.sum_nil] at this ⊢
      omega
    · have := sum_ind k l h2
      simp only [List.map_cons, List.sum_cons, if_neg h] at this ⊢
      omega
theorem total_keys {E : List En} (g : Gd E) : total E = ((E.map (·.key)).map fun k => (lkL E k).length).sum := by
  unfold total
  rw [List.map_map]
  congr 1
  refine List.map_congr_left fun e he => ?_
  show e.vs.length = (lkL E e.key).length
  rw [lkL_of g.keys he]
theorem total_le {E E' : List En} (g : Gd E) (g' : Gd E') (k0 : Bs) (h : ∀ k, (lkL E' k).length ≤ (lkL E k).length + if k = k0 then 1 else 0) : total E' ≤ total E + 1 := by
  rw [total_keys g, total_keys g']
  have h1 := sum_mono _ _ h (E'.map (·.key))
  rw [sum_add (fun k => (lkL E k).length) (fun k => if k = k0 then 1 else 0)] at h1
  have h2 := sum_ind k0 (E'.map (·.key)) g'.keys
  have h3 := sum_sub (fun k => (lkL E k).length) (E'.map (·.key)) (E.map (·.key)) g'.keys (fun x _ hx => (mem_keys g x).2 (fun e => hx (by show (lkL E x).length = 0; rw [e]; rfl)))
  omega
theorem le_total {E : List En} {e : En} (he : e ∈ E) : e.vs.length ≤ total E := by
  unfold total
  obtain ⟨a, b, rfl⟩ := List.append_of_mem he
  simp only [List.map_append, List.map_cons, List.sum_append, List.sum_cons]
  omega
theorem lk_total (E : List En) (k : Bs) : (lkL E k).length ≤ total E := by
  by_cases h : lkL E k = []
  · rw [h]; exact Nat.zero_le _
  · obtain ⟨e, he, _, hv⟩ := lkL_some h
    rw [← hv]; exact le_total he
theorem len_total : ∀ {E : List En}, (∀ e ∈ E, e.vs ≠ []) → E.length ≤ total E
  | [], _ => Nat.zero_le _
  | e :: E, h => by
    have h1 := len_total (E := E) (fun x hx => h x (List.mem_cons_of_mem _ hx))
    have h2 : 0 < e.vs.length := List.length_pos_iff.2 (h e (List.mem_cons_self ..))
    unfold total at h1 ⊢
    simp only [List.map_cons, List.sum_cons, List.length_cons]
    omega
/-- a call -/
structure Opv where
  kind : Int
  key : Bs
  value : Bs
  stamp : Int
  back : Bool
/-- whether a time serves for a key -/
def okT (L : List Ver) (s : Int) : Prop := ¬ s < 1 ∧ ¬ 1099511627776 < s ∧ ¬ s ≤ lastT L
instance (L : List Ver) (s : Int) : Decidable (okT L s) := by unfold okT; exact inferInstance
def addA (A : Bs → List Ver) (k : Bs) (x : Ver) : Bs → List Ver := if okT (A k) x.1 then fun k' => if k' = k then A k ++ [x] else A k' else A
def stepA (A : Bs → List Ver) (x : Opv) : Bs → List Ver :=
  if x.kind = 1 then addA A x.key (x.stamp, x.value, false)
  else if x.kind = 2 then addA A x.key (x.stamp, ⟨#[]⟩, true)
  else if x.kind = 5 then fun k => rollF x.stamp (A k)
  else if x.kind = 6 then fun k => pruneF x.stamp (A k)
  else A
def runA (A : Bs → List Ver) (l : List Opv) : Bs → List Ver := l.foldl stepA A
theorem roll_len (t : Int) (L : List Ver) : (rollF t L).length ≤ L.length := by unfold rollF; rw [List.length_take]; omega
theorem prune_len (t : Int) (L : List Ver) : (pruneF t L).length ≤ L.length := by unfold pruneF; rw [List.length_drop]; omega
theorem addA_len (A : Bs → List Ver) (k : Bs) (x : Ver) (k' : Bs) : (addA A k x k').length ≤ (A k').length + if k' = k then 1 else 0 := by
  unfold addA
  split
  · by_cases h : k' = k
    · subst h; simp
    · simp [h]
  · omega
theorem stepA_len (A : Bs → List Ver) (x : Opv) (k : Bs) : (stepA A x k).length ≤ (A k).length + if k = x.key then 1 else 0 := by
  unfold stepA
  split
  · exact addA_len A x.key _ k
  · split
    · exact addA_len A x.key _ k
    · split
      · exact Nat.le_trans (roll_len _ _) (by omega)
      · split
        · exact Nat.le_trans (prune_len _ _) (by omega)
        · omega
theorem roll_nil (t : Int) : rollF t [] = [] := by simp [rollF]
theorem prune_nil (t : Int) : pruneF t [] = [] := by simp [pruneF]
end Go.Proofs.Ytpcjmceakelilaa
/- Mvcc: calls on a store. -/
namespace Go.Proofs.Ytpcjmceakelilaa
open Go.ChangeShapes Go.WideShapes Go.ChangeAt Go.RowKit Go.Deep Go.ChangeMaps Go.Shelf Go.Sort
set_option linter.unusedVariables false
set_option linter.unusedSimpArgs false
theorem Turned.pre {B S m clock' : Nat} {E E' : List En} {W W1 W' : World} (hb : Below W.heap.size W W1) (h : Turned B S m E W1 W' E' clock') : Turned B S m E W W' E' clock' :=
  ⟨h.1, fun j hj => (h.2.1 j hj).imp id (fun h2 => Nat.le_trans hb.size h2), (show Kept (Foot S m E) W W1 from ⟨hb.os, hb.tape, hb.output, hb.size, fun j hj _ => hb.block j hj⟩).trans h.2.2 (fun j hj => .inl hj)⟩
theorem Turned.same {B S m clock : Nat} {E : List En} {W W' : World} (h : Sto B W S m E clock) (hb : Below W.heap.size W W') : Turned B S m E W W' E clock :=
  ⟨h.below hb, fun j hj => .inl hj, ⟨hb.os, hb.tape, hb.output, hb.size, fun j hj _ => hb.block j hj⟩⟩
/-- a store that has been changed, and what its keys hold -/
def Done (B S m : Nat) (E : List En) (A : Bs → List Ver) (W W' : World) : Prop := ∃ E' clock', Turned B S m E W W' E' clock' ∧ lkL E' = A
theorem Done.pre {B S m : Nat} {E : List En} {A : Bs → List Ver} {W W1 W' : World} (hb : Below W.heap.size W W1) (h : Done B S m E A W1 W') : Done B S m E A W W' := by
  obtain ⟨E', c', h1, h2⟩ := h
  exact ⟨E', c', h1.pre hb, h2⟩
def PutOut (B S m : Nat) (E : List En) (k : Bs) (x : Ver) (W : World) (e : Ending) (W' : World) : Prop :=
  e = .returned (.int .i64 (if okT (lkL E k) x.1 then 0 else 1)) ∧ Done B S m E (addA (lkL E) k x) W W'
theorem add_any (B S m clock : Nat) (E : List En) (k : Bs) (s : Int) (vl : Bs) (dl : Bool) (W : World) (h : Sto B W S m E clock) (hB : B ≤ W.heap.size) (hT : total E < 5000) :
    Calls Try.prog 58 #[.pointer (some ⟨S, 0, none⟩), .string k, .agg #[.int .i64 s, .string vl, .bool dl]] W (PutOut B S m E k (s, vl, dl) W) := by
  by_cases ho : okT (lkL E k) s
  · have hl := lk_total E k
    refine (add_ok B S m clock E k s vl dl W h hB ho.1 ho.2.1 ho.2.2 (by omega)).mono ?_
    rintro e W' ⟨rfl, val, ht⟩
    refine ⟨by rw [if_pos ho], _, _, ht, ?_⟩
    rw [put_lk h.ok]
    unfold addA
    rw [if_pos ho]
  · refine (add_bad B S m clock E k s vl dl W h (by unfold okT at ho; omega)).mono ?_
    rintro e W' ⟨rfl, hb⟩
    refine ⟨by rw [if_neg ho], E, clock, .same h hb, ?_⟩
    unfold addA
    rw [if_neg ho]
theorem put_any (B S m clock : Nat) (E : List En) (k vl : Bs) (s : Int) (W : World) (h : Sto B W S m E clock) (hB : B ≤ W.heap.size) (hT : total E < 5000) :
    Calls Try.prog 41 #[.pointer (some ⟨S, 0, none⟩), .string k, .string vl, .int .i64 s] W (PutOut B S m E k (s, vl, false) W) :=
  put_of S k vl s W _ _ (add_any B S m clock E k s vl false W h hB hT)
theorem del_any (B S m clock : Nat) (E : List En) (k : Bs) (s : Int) (W : World) (h : Sto B W S m E clock) (hB : B ≤ W.heap.size) (hT : total E < 5000) :
    Calls Try.prog 40 #[.pointer (some ⟨S, 0, none⟩), .string k, .int .i64 s] W (PutOut B S m E k (s, ⟨#[]⟩, true) W) :=
  del_of S k s W _ _ (add_any B S m clock E k s ⟨#[]⟩ true W h hB hT)
theorem swept_done {B S m clock : Nat} {E : List En} {f : List Ver → List Ver} {W W' : World} (h : Sto B W S m E clock) (f0 : f [] = []) (hs : Swept B S m clock E f W W') : Done B S m E (fun k => f (lkL E k)) W W' := by
  obtain ⟨E', seen, hall, hsw, ht⟩ := hs
  exact ⟨E', clock, ht, swept_lk hsw hall h.gd ht.1.gd f0⟩
/-- a store at work -/
structure Wk (B S m : Nat) (E : List En) (clock : Nat) (A : Bs → List Ver) (N : Nat) (W0 W : World) : Prop where
  sto : Sto B W S m E clock
  lk : lkL E = A
  tot : total E ≤ N
  low : Below B W0 W
  bw : B ≤ W.heap.size
theorem Wk.step {B S m N clock clock' : Nat} {E E' : List En} {x : Opv} {A : Bs → List Ver} {W0 W W' : World} (h : Wk B S m E clock A N W0 W) (ht : Turned B S m E W W' E' clock') (hl : lkL E' = stepA (lkL E) x) : Wk B S m E' clock' (stepA A x) (N + 1) W0 W' :=
  ⟨ht.1, by rw [hl, h.lk], by
    have := total_le h.sto.gd ht.1.gd x.key (fun k => by rw [hl]; exact stepA_len _ x k)
    have := h.tot
    omega, h.low.trans (ht.2.2.below h.bw (fun k hk => (h.sto.foot hk).1)), Nat.le_trans h.bw ht.2.2.size⟩
def noA : Bs → List Ver := fun _ => []
theorem runA_snoc (A : Bs → List Ver) (l : List Opv) (x : Opv) : runA A (l ++ [x]) = stepA (runA A l) x := by simp [runA]
end Go.Proofs.Ytpcjmceakelilaa
/- Mvcc: a store at work. -/
namespace Go.Proofs.Ytpcjmceakelilaa
open Go.ChangeShapes Go.WideShapes Go.ChangeAt Go.RowKit Go.Deep Go.ChangeMaps Go.Shelf Go.Sort
set_option linter.unusedVariables false
set_option linter.unusedSimpArgs false
section
variable {B S m N clock : Nat} {E : List En} {A : Bs → List Ver} {W0 W : World}
/-- a store at work after a step -/
def WkS (B S m : Nat) (x : Opv) (A : Bs → List Ver) (N : Nat) (E : List En) (W0 W W' : World) : Prop := ∃ E' clock', Wk B S m E' clock' (stepA A x) (N + 1) W0 W' ∧ Turned B S m E W W' E' clock'
theorem Wk.put (h : Wk B S m E clock A N W0 W) (hN : N < 5000) (k vl : Bs) (s : Int) (n : Int) (hn : (if okT (A k) s then (0 : Int) else 1) = n) :
    Calls Try.prog 41 #[.pointer (some ⟨S, 0, none⟩), .string k, .string vl, .int .i64 s] W fun e W' => e = .returned (.int .i64 n) ∧ WkS B S m ⟨1, k, vl, s, false⟩ A N E W0 W W' := by
  refine (put_any B S m clock E k vl s W h.sto h.bw (by have := h.tot; omega)).mono ?_
  rintro e W' ⟨rfl, E', c', ht, hl⟩
  refine ⟨?_, E', c', h.step (x := ⟨1, k, vl, s, false⟩) ht hl, ht⟩
  rw [h.lk]
  show Ending.returned (.int .i64 (if okT (A k) s then (0 : Int) else 1)) = _
  rw [hn]
theorem Wk.del (h : Wk B S m E clock A N W0 W) (hN : N < 5000) (k : Bs) (s : Int) (n : Int) (hn : (if okT (A k) s then (0 : Int) else 1) = n) :
    Calls Try.prog 40 #[.pointer (some ⟨S, 0, none⟩), .string k, .int .i64 s] W fun e W' => e = .returned (.int .i64 n) ∧ WkS B S m ⟨2, k, ⟨#[]⟩, s, false⟩ A N E W0 W W' := by
  refine (del_any B S m clock E k s W h.sto h.bw (by have := h.tot; omega)).mono ?_
  rintro e W' ⟨rfl, E', c', ht, hl⟩
  refine ⟨?_, E', c', h.step (x := ⟨2, k, ⟨#[]⟩, s, false⟩) ht hl, ht⟩
  rw [h.lk]
  show Ending.returned (.int .i64 (if okT (A k) s then (0 : Int) else 1)) = _
  rw [hn]
theorem sum_ord (g : Gd E) (f : List Ver → Nat) : (E.map fun e => f e.vs).sum = ((ordE E).map fun k => f (lkL E k)).sum := by
  have h1 : (E.map fun e => f e.vs) = (E.map (·.key)).map fun k => f (lkL E k) := by
    rw [List.map_map]
    refine List.map_congr_left fun e he => ?_
    show f e.vs = f (lkL E e.key)
    rw [lkL_of g.keys he]
  rw [h1]
  exact ((sortB_perm (E.map (·.key))).symm.map _).sum_nat
theorem ord_of (g : Gd E) (ks : List Bs) (hs : ks.Pairwise fun a b => lB a b = true) (hm : ∀ k, k ∈ ks ↔ lkL E k ≠ []) : ordE E = ks := by
  have hn : ks.Nodup := hs.imp fun {a b} h e => by subst e; rw [lB_irrefl] at h; cases h
  have hp : (ordE E).Perm ks := (show (ordE E).Perm (E.map (fun e : En => e.key)) from sortB_perm _).trans ((List.perm_ext_iff_of_nodup g.keys hn).2 fun k => by rw [mem_keys g, hm k])
  exact List.Perm.eq_of_pairwise (le := fun a b => lB a b = true) (fun x y _ _ h1 h2 => by rw [lB_asymm h1] at h2; cases h2) (sortB_srt g.keys) hs hp
theorem Wk.prune (h : Wk B S m E clock A N W0 W) (hN : N < 5000) (t : Int) :
    Calls Try.prog 29 #[.pointer (some ⟨S, 0, none⟩), .int .i64 t] W fun e W' => e = .returned (.int .i64 ((E.map fun e => pn e.vs t).sum : Nat)) ∧ WkS B S m ⟨6, ⟨#[]⟩, ⟨#[]⟩, t, false⟩ A N E W0 W W' := by
  refine (prune_any B S m clock E t W h.sto h.bw (by have := h.tot; omega)).mono ?_
  rintro e W' ⟨rfl, hs⟩
  obtain ⟨E', c', ht, hl⟩ := swept_done h.sto (prune_nil t) hs
  exact ⟨rfl, E', c', h.step (x := ⟨6, ⟨#[]⟩, ⟨#[]⟩, t, false⟩) ht hl, ht⟩
theorem Wk.roll (h : Wk B S m E clock A N W0 W) (hN : N < 5000) (t : Int) :
    Calls Try.prog 51 #[.pointer (some ⟨S, 0, none⟩), .int .i64 t] W fun e W' => e = .returned (.int .i64 ((E.map fun e => e.vs.length - upto e.vs t).sum : Nat)) ∧ WkS B S m ⟨5, ⟨#[]⟩, ⟨#[]⟩, t, false⟩ A N E W0 W W' := by
  refine (rollback_any B S m clock E t W h.sto h.bw (by have := h.tot; omega)).mono ?_
  rintro e W' ⟨rfl, hs⟩
  obtain ⟨E', c', ht, hl⟩ := swept_done h.sto (roll_nil t) hs
  exact ⟨rfl, E', c', h.step (x := ⟨5, ⟨#[]⟩, ⟨#[]⟩, t, false⟩) ht hl, ht⟩
theorem Wk.below (h : Wk B S m E clock A N W0 W) {W' : World} (hb : Below W.heap.size W W') : Wk B S m E clock A N W0 W' :=
  ⟨h.sto.below hb, h.lk, h.tot, h.low.trans (hb.mono h.bw), Nat.le_trans h.bw hb.size⟩
theorem Wk.clone (h : Wk B S m E clock A N W0 W) :
    Calls Try.prog 28 #[.pointer (some ⟨S, 0, none⟩)] W fun e W' => ∃ C mc EC cc, e = .returned (.pointer (some ⟨C, 0, none⟩)) ∧ Wk W.heap.size C mc EC cc A N W W' ∧ Below W.heap.size W W' := by
  refine (clone_any B S m clock E W h.sto).mono ?_
  rintro e W' ⟨C, mc, EC, cc, seen, rfl, hs, hc, hall, hb⟩
  have hl := cpy_lk hc hall h.sto.gd hs.gd
  exact ⟨C, mc, EC, cc, rfl, ⟨hs, by rw [hl, h.lk], by rw [total_same hs.gd h.sto.gd hl]; exact h.tot, hb, hb.size⟩, hb⟩
end
end Go.Proofs.Ytpcjmceakelilaa
/- Mvcc: pruning (plain). -/
namespace Go.Proofs.Ytpcjmceakelilaa
open Go.ChangeShapes Go.WideShapes Go.ChangeAt Go.RowKit Go.ChangeMaps Go.Deep Go.Shelf Go.Sort
set_option linter.unusedVariables false
set_option linter.unusedSimpArgs false
theorem inR_all (k : Bs) : inR ⟨#[]⟩ ⟨#[]⟩ k = true := by
  have e : (⟨#[]⟩ : Bs).toList = [] := by rw [ByteArray.toList_eq]
  unfold inR
  rw [e]
  cases k.toList <;> rfl
theorem scanT_all (E : List En) (back : Bool) : scanT E ⟨#[]⟩ ⟨#[]⟩ back = if back = true then (ordE E).reverse else ordE E := by
  unfold scanT
  rw [List.filter_eq_self.2 (fun k _ => inR_all k)]
theorem upto_drop : ∀ (L : List Ver) (n : Nat) (t : Int), n ≤ upto L t → upto (L.drop n) t = upto L t - n
  | [], n, t, h => by simp [upto]
  | a :: L, 0, t, h => by simp
  | a :: L, n + 1, t, h => by
    have e1 : upto (a :: L) t = if a.1 ≤ t then upto L t + 1 else 0 := rfl
    rw [e1] at h
    rw [e1, List.drop_succ_cons]
    by_cases ha : a.1 ≤ t
    · rw [if_pos ha] at h
      have := upto_drop L n t (by omega)
      rw [if_pos ha, this]
      omega
    · rw [if_neg ha] at h
      omega
theorem upto_mono : ∀ (L : List Ver) {s t : Int}, s ≤ t → upto L s ≤ upto L t
  | [], _, _, _ => Nat.le_refl _
  | a :: L, s, t, h => by
    show (if a.1 ≤ s then upto L s + 1 else 0) ≤ (if a.1 ≤ t then upto L t + 1 else 0)
    have := upto_mono L h
    by_cases h1 : a.1 ≤ s
    · rw [if_pos h1, if_pos (by omega)]; omega
    · rw [if_neg h1]; omega
theorem pn_upto (L : List Ver) (s : Int) : pn L s ≤ upto L s := by
  unfold pn
  split
  · split <;> omega
  · omega
/-- where all is pruned that is not after the time, the last one is a deletion -/
theorem pn_all {L : List Ver} {s : Int} (h : pn L s = upto L s) (h0 : upto L s ≠ 0) : ∃ x, L[upto L s - 1]? = some x ∧ x.2.2 = true := by
  unfold pn at h
  cases hx : L[upto L s - 1]? with
  | none => rw [hx] at h; exact absurd h.symm h0
  | some x =>
    rw [hx] at h
    refine ⟨x, rfl, ?_⟩
    by_cases hd : x.2.2 = true
    · exact hd
    · simp only [hd] at h
      simp at h
      omega
theorem valAt_zero {L : List Ver} {t : Int} (h : upto L t = 0) : valAt L t = none := by
  unfold valAt
  cases hx : L[upto L t - 1]? with
  | none => rfl
  | some x => simp [h]
theorem valAt_prune (L : List Ver) {s t : Int} (h : s ≤ t) : valAt (pruneF s L) t = valAt L t := by
  have h1 := pn_upto L s
  have h2 := upto_mono L h
  have hu : upto (pruneF s L) t = upto L t - pn L s := upto_drop L (pn L s) t (by omega)
  by_cases he : upto L t = pn L s
  · rw [valAt_zero (by omega)]
    by_cases h0 : upto L t = 0
    · rw [valAt_zero h0]
    · have e2 : upto L s = upto L t := by omega
      obtain ⟨x, hx, hd⟩ := pn_all (L := L) (s := s) (by omega) (by omega)
      unfold valAt
      rw [← e2, hx]
      simp [hd]
  · have hi : (pruneF s L)[upto (pruneF s L) t - 1]? = L[upto L t - 1]? := by
      rw [hu]
      unfold pruneF
      rw [List.getElem?_drop]
      congr 1
      omega
    unfold valAt
    rw [hi, hu]
    cases L[upto L t - 1]? with
    | none => rfl
    | some x => simp [show upto L t - pn L s ≠ 0 by omega, show upto L t ≠ 0 by omega]
theorem pn_prune (L : List Ver) (s : Int) : pn (pruneF s L) s = 0 := by
  have h1 := pn_upto L s
  have hu : upto (pruneF s L) s = upto L s - pn L s := upto_drop L (pn L s) s h1
  by_cases he : upto L s = pn L s
  · have := pn_upto (pruneF s L) s
    omega
  · have hi : (pruneF s L)[upto (pruneF s L) s - 1]? = L[upto L s - 1]? := by
      rw [hu]
      unfold pruneF
      rw [List.getElem?_drop]
      congr 1
      omega
    have hp : pn L s = match L[upto L s - 1]? with | some x => if x.2.2 = true then upto L s else upto L s - 1 | none => 0 := rfl
    show (match (pruneF s L)[upto (pruneF s L) s - 1]? with | some x => if x.2.2 = true then upto (pruneF s L) s else upto (pruneF s L) s - 1 | none => 0) = 0
    rw [hi, hu]
    cases hx : L[upto L s - 1]? with
    | none => rfl
    | some x =>
      rw [hx] at hp
      by_cases hd : x.2.2 = true
      · simp only [hd, if_true] at hp; omega
      · simp only [hd] at hp ⊢; simp at hp ⊢; omega
theorem ord_keys {E : List En} (g : Gd E) (k : Bs) : k ∈ ordE E ↔ lkL E k ≠ [] := by
  rw [(show (ordE E).Perm (E.map (fun e : En => e.key)) from sortB_perm _).mem_iff]
  exact mem_keys g k
theorem ord_srt {E : List En} (g : Gd E) : (ordE E).Pairwise fun a b => lB a b = true := sortB_srt g.keys
theorem ord_sweep {E E' : List En} {f : List Ver → List Ver} (g : Gd E) (g' : Gd E') (f0 : f [] = []) (h : lkL E' = fun k => f (lkL E k)) : ordE E' = (ordE E).filter fun k => !(f (lkL E k)).isEmpty := by
  refine ord_of g' _ (List.Pairwise.sublist List.filter_sublist (ord_srt g)) fun k => ?_
  rw [List.mem_filter, ord_keys g, h]
  constructor
  · rintro ⟨_, h2⟩ h3
    have h3 : f (lkL E k) = [] := h3
    simp [h3] at h2
  · intro h2
    have h2 : f (lkL E k) ≠ [] := h2
    refine ⟨fun e => h2 (by rw [e, f0]), ?_⟩
    cases hf : f (lkL E k) with
    | nil => exact absurd hf h2
    | cons a b => rfl
theorem sum_filter (f : Bs → Nat) (p : Bs → Bool) : ∀ l : List Bs, (∀ x ∈ l, p x = false → f x = 0) → ((l.filter p).map f).sum = (l.map f).sum
  | [], _ => rfl
  | a :: l, h => by
    have ih := sum_filter f p l (fun x hx => h x (List.mem_cons_of_mem _ hx))
    by_cases hp : p a = true
    · rw [List.filter_cons, if_pos hp, List.map_cons, List.map_cons, List.sum_cons, List.sum_cons, ih]
    · rw [List.filter_cons, if_neg hp, List.map_cons, List.sum_cons, ih, h a (List.mem_cons_self ..) (by simpa using hp), Nat.zero_add]
theorem total_sweep {E E' : List En} {f : List Ver → List Ver} (g : Gd E) (g' : Gd E') (f0 : f [] = []) (h : lkL E' = fun k => f (lkL E k)) : total E' = ((ordE E).map fun k => (f (lkL E k)).length).sum := by
  rw [show total E' = _ from sum_ord g' (fun L => L.length), ord_sweep g g' f0 h, h]
  refine sum_filter (fun k => (f (lkL E k)).length) _ _ fun x _ hx => ?_
  have : (f (lkL E x)).isEmpty = true := by simpa using hx
  show (f (lkL E x)).length = 0
  rw [List.isEmpty_iff.1 this]; rfl
theorem sum_part (f a b : Bs → Nat) (h : ∀ x, a x + b x = f x) : ∀ l : List Bs, (l.map a).sum + (l.map b).sum = (l.map f).sum
  | [] => rfl
  | x :: l => by have := sum_part f a b h l; have := h x; simp only [List.map_cons, List.sum_cons]; omega
theorem total_prune {E E' : List En} {s : Int} (g : Gd E) (g' : Gd E') (h : lkL E' = fun k => pruneF s (lkL E k)) : total E' + (E.map fun e => pn e.vs s).sum = total E := by
  rw [total_sweep g g' (prune_nil s) h, sum_ord g (fun L => pn L s), show total E = _ from sum_ord g (fun L => L.length)]
  refine sum_part _ _ _ (fun k => ?_) _
  show (pruneF s (lkL E k)).length + pn (lkL E k) s = (lkL E k).length
  have := pn_le (lkL E k) s
  unfold pruneF
  rw [List.length_drop]
  omega
theorem total_roll {E E' : List En} {s : Int} (g : Gd E) (g' : Gd E') (h : lkL E' = fun k => rollF s (lkL E k)) : total E' + (E.map fun e => e.vs.length - upto e.vs s).sum = total E := by
  rw [total_sweep g g' (roll_nil s) h, sum_ord g (fun L => L.length - upto L s), show total E = _ from sum_ord g (fun L => L.length)]
  refine sum_part _ _ _ (fun k => ?_) _
  show (rollF s (lkL E k)).length + ((lkL E k).length - upto (lkL E k) s) = (lkL E k).length
  have := upto_le (lkL E k) s
  unfold rollF
  rw [List.length_take]
  omega
theorem again_prune {E E' : List En} {s : Int} (g' : Gd E') (h : lkL E' = fun k => pruneF s (lkL E k)) : (E'.map fun e => pn e.vs s).sum = 0 := by
  rw [sum_ord g' (fun L => pn L s), h]
  have : ∀ l : List Bs, (l.map fun k => pn (pruneF s (lkL E k)) s).sum = 0 := fun l => by
    induction l with
    | nil => rfl
    | cons a l ih => simp only [List.map_cons, List.sum_cons, pn_prune, Nat.zero_add]; simpa [pn_prune] using ih
  exact this _
theorem filterMap_same {α β : Type} {f g : α → Option β} : ∀ (l : List α), (∀ x, f x = g x) → l.filterMap f = l.filterMap g := fun l h => by rw [show f = g from funext h]
theorem scan_prune {E E' : List En} {s t : Int} (g : Gd E) (g' : Gd E') (h : lkL E' = fun k => pruneF s (lkL E k)) (ht : s ≤ t) : scanK E' t (scanT E' ⟨#[]⟩ ⟨#[]⟩ false) = scanK E t (scanT E ⟨#[]⟩ ⟨#[]⟩ false) := by
  rw [scanT_all, scanT_all]
  simp only [Bool.false_eq_true, if_false]
  unfold scanK
  rw [ord_sweep g g' (prune_nil s) h, List.filterMap_filter, h]
  refine filterMap_same _ fun k => ?_
  show (if (!(pruneF s (lkL E k)).isEmpty) = true then (valAt (pruneF s (lkL E k)) t).map _ else none) = (valAt (lkL E k) t).map _
  by_cases he : pruneF s (lkL E k) = []
  · have hv := valAt_prune (lkL E k) ht
    rw [he] at hv
    rw [he, ← hv]
    simp [valAt, upto]
  · rw [valAt_prune _ ht, if_pos]
    cases hp : pruneF s (lkL E k) with
    | nil => exact absurd hp he
    | cons => rfl
theorem scan_len {E : List En} (g : Gd E) (t : Int) (lo hi : Bs) (back : Bool) : (scanK E t (scanT E lo hi back)).length ≤ E.length := by
  unfold scanK
  refine Nat.le_trans (List.length_filterMap_le _ _) ?_
  have h1 : ((ordE E).filter (inR lo hi)).length ≤ E.length := by
    refine Nat.le_trans (List.length_filter_le _ _) ?_
    rw [(show (ordE E).Perm (E.map (fun e : En => e.key)) from sortB_perm _).length_eq, List.length_map]
    exact Nat.le_refl _
  unfold scanT
  split
  · rw [List.length_reverse]; exact h1
  · exact h1
end Go.Proofs.Ytpcjmceakelilaa
/- Mvcc: rows that stand apart; late writes. -/
namespace Go.Proofs.Ytpcjmceakelilaa
open Go.ChangeShapes Go.WideShapes Go.ChangeAt Go.RowKit Go.Deep Go.ChangeMaps Go.Shelf Go.Sort
set_option linter.unusedVariables false
set_option linter.unusedSimpArgs false
theorem own_same {B : Nat} {W W' : World} {T : TypeId} {z n : Nat} {v : Value} {xs : List Value} (h : W.ownsRow B T z v n xs) (hk : ∀ k, v.ownBlock = some k → W'.heap[k]? = W.heap[k]?) : W'.ownsRow B T z v n xs := by
  refine ⟨h.1, ?_⟩
  rcases h.2 with h1 | ⟨g, c, cur, rfl, h1, h2, h3⟩
  · exact .inl h1
  · exact .inr ⟨g, c, cur, rfl, h1, by rw [hk g rfl]; exact h2, h3⟩
/-- a row of what was read, that stands apart -/
def SRow (B : Nat) (W : World) (v : Value) (L : List (Bs × Bs)) : Prop := W.ownsRow B 51 2 v L.length (prS L)
theorem SRow.below {B : Nat} {W W' : World} {v : Value} {L : List (Bs × Bs)} (h : SRow B W v L) (hb : Below W.heap.size W W') : SRow B W' v L :=
  own_same h (fun k hk => hb.block k (World.ownsRow.lt h k hk).2)
theorem SRow.kept {B : Nat} {W W' : World} {v : Value} {L : List (Bs × Bs)} {T : Nat → Prop} (h : SRow B W v L) (hk : Kept T W W') (hT : ∀ k, T k → k < B) : SRow B W' v L :=
  own_same h (fun k hk2 => hk.block k (World.ownsRow.lt h k hk2).2 (fun ht => by have := hT k ht; have := (World.ownsRow.lt h k hk2).1; omega))
end Go.Proofs.Ytpcjmceakelilaa
/- Mvcc: late writes. -/
namespace Go.Proofs.Ytpcjmceakelilaa
open Go.ChangeShapes Go.WideShapes Go.ChangeAt Go.RowKit Go.Deep Go.ChangeMaps Go.Shelf Go.Sort
set_option linter.unusedVariables false
set_option linter.unusedSimpArgs false
theorem upto_late : ∀ (L : List Ver) (x : Ver) (t : Int), t < x.1 → upto (L ++ [x]) t = upto L t
  | [], x, t, h => by
    show (if x.1 ≤ t then upto [] t + 1 else 0) = 0
    rw [if_neg (by omega)]
  | a :: L, x, t, h => by
    show (if a.1 ≤ t then upto (L ++ [x]) t + 1 else 0) = (if a.1 ≤ t then upto L t + 1 else 0)
    rw [upto_late L x t h]
theorem roll_late (L : List Ver) (x : Ver) (t : Int) (h : t < x.1) : rollF t (L ++ [x]) = rollF t L := by
  unfold rollF
  rw [upto_late L x t h]
  exact List.take_append_of_le_length (upto_le L t)
theorem upto_full : ∀ (L : List Ver) (t : Int), (∀ y ∈ L, y.1 ≤ t) → upto L t = L.length
  | [], _, _ => rfl
  | a :: L, t, h => by
    show (if a.1 ≤ t then upto L t + 1 else 0) = _
    rw [if_pos (h a (List.mem_cons_self ..)), upto_full L t (fun y hy => h y (List.mem_cons_of_mem _ hy))]
    rfl
theorem roll_full (L : List Ver) (t : Int) (h : ∀ y ∈ L, y.1 ≤ t) : rollF t L = L := by
  unfold rollF
  rw [upto_full L t h, List.take_length]
def isW (x : Opv) : Bool := x.kind == 1 || x.kind == 2
theorem step_w (A : Bs → List Ver) (x : Opv) (h : isW x = true) : ∃ y : Ver, y.1 = x.stamp ∧ stepA A x = addA A x.key y := by
  unfold isW at h
  by_cases h1 : x.kind = 1
  · exact ⟨(x.stamp, x.value, false), rfl, by unfold stepA; rw [if_pos h1]⟩
  · have h2 : x.kind = 2 := by simpa [h1] using h
    exact ⟨(x.stamp, ⟨#[]⟩, true), rfl, by unfold stepA; rw [if_neg h1, if_pos h2]⟩
theorem roll_add (A : Bs → List Ver) (k : Bs) (y : Ver) (t : Int) (h : t < y.1) (k' : Bs) : rollF t (addA A k y k') = rollF t (A k') := by
  unfold addA
  split
  · show rollF t (if k' = k then _ else _) = _
    split
    · rename_i e
      rw [roll_late _ _ _ h, e]
    · rfl
  · rfl
theorem run_late (t : Int) : ∀ (ws : List Opv) (A : Bs → List Ver), (∀ x ∈ ws, isW x = true ∧ t < x.stamp) → ∀ k, rollF t (runA A ws k) = rollF t (A k)
  | [], _, _, _ => rfl
  | x :: ws, A, h, k => by
    obtain ⟨y, hy, e⟩ := step_w A x (h x (List.mem_cons_self ..)).1
    show rollF t (runA (stepA A x) ws k) = _
    rw [run_late t ws _ (fun z hz => h z (List.mem_cons_of_mem _ hz)) k, e]
    exact roll_add A x.key y t (by rw [hy]; exact (h x (List.mem_cons_self ..)).2) k
theorem run_roll (t : Int) : ∀ (ws : List Opv) (A : Bs → List Ver), (∀ x ∈ ws, isW x = true) → ws.Pairwise (fun a b => a.stamp ≤ b.stamp) → (∀ k, ∀ y ∈ A k, y.1 ≤ t) →
    (fun k => rollF t (runA A ws k)) = runA A (ws.filter fun x => decide (x.stamp ≤ t))
  | [], A, _, _, hA => funext fun k => roll_full _ t (hA k)
  | x :: ws, A, hw, hs, hA => by
    obtain ⟨hs1, hs2⟩ := List.pairwise_cons.1 hs
    by_cases hx : x.stamp ≤ t
    · rw [List.filter_cons, if_pos (by simpa using hx)]
      show (fun k => rollF t (runA (stepA A x) ws k)) = runA (stepA A x) _
      obtain ⟨y, hy, e⟩ := step_w A x (hw x (List.mem_cons_self ..))
      refine run_roll t ws _ (fun z hz => hw z (List.mem_cons_of_mem _ hz)) hs2 fun k z hz => ?_
      rw [e] at hz
      unfold addA at hz
      split at hz
      · have hz : z ∈ (if k = x.key then A x.key ++ [y] else A k) := hz
        split at hz
        · rcases List.mem_append.1 hz with h | h
          · exact hA _ z h
          · rw [List.mem_singleton.1 h, hy]; exact hx
        · exact hA k z hz
      · exact hA k z hz
    · have hall : ∀ z ∈ x :: ws, isW z = true ∧ t < z.stamp := fun z hz => ⟨hw z hz, by
        rcases List.mem_cons.1 hz with rfl | hz
        · omega
        · have := hs1 z hz; omega⟩
      have hf : ((x :: ws).filter fun z => decide (z.stamp ≤ t)) = [] := List.filter_eq_nil_iff.2 fun z hz => by have := (hall z hz).2; simpa using this
      rw [hf]
      funext k
      rw [run_late t _ A hall k]
      exact roll_full _ t (hA k)
end Go.Proofs.Ytpcjmceakelilaa
/- Engine: strings.Builder: copyCheck, WriteByte, WriteString. -/
namespace Go.Proofs.Ytpcjmceakelilaa
open Go.ChangeShapes Go.WideShapes Go.ChangeAt Go.RowKit Go.Deep Go.Shelf
set_option linter.unusedVariables false
set_option linter.unusedSimpArgs false
/-- blocks that are neither a builder's nor bytes are kept -/
def KeepsX (w w' : World) : Prop := ∀ (k : Nat) (cs : Array Value) (T : TypeId) (fr : Nat × Nat), w.heap[k]? = some (Obj.cells cs T fr) → T ≠ 99 → T ≠ 5 → w'.heap[k]? = some (Obj.cells cs T fr)
theorem KeepsX.refl (w : World) : KeepsX w w := fun _ _ _ _ h _ _ => h
theorem KeepsX.trans {a b c : World} (h : KeepsX a b) (g : KeepsX b c) : KeepsX a c := fun k cs T fr h1 h2 h3 => g k cs T fr (h k cs T fr h1 h2 h3) h2 h3
theorem KeepsX.below {w w' : World} (h : Below w.heap.size w w') : KeepsX w w' := fun k cs T fr h1 _ _ => (h.block k (Array.getElem?_eq_some_iff.1 h1).1).trans h1
theorem KeepsX.set {w w' : World} (h : KeepsX w w') {b j : Nat} {v : Value} {cs : Array Value} {fr : Nat × Nat} (hb : w'.heap[b]? = some (Obj.cells cs 99 fr)) : KeepsX w (w'.setCell ⟨b, j, none⟩ v) := fun k cs2 T fr2 h1 h2 h3 => by
  have h4 := h k cs2 T fr2 h1 h2 h3
  rw [heap_setCell_other w' ⟨b, j, none⟩ k v (fun e => by rw [e] at h4; rw [hb] at h4; cases h4; exact h2 rfl)]
  exact h4
theorem KeepsX.grown {w w1 w2 : World} (h : KeepsX w w1) {B n : Nat} {v : Value} {xs : List Value} (hown : w1.ownsRow B 5 1 v n xs) {o : Obj} (hg : (w1.alloc o).grownBy w2 v.ownBlock) : KeepsX w w2 := fun k cs T fr h1 h2 h3 => by
  have h4 := h k cs T fr h1 h2 h3
  have hk := (Array.getElem?_eq_some_iff.1 h4).1
  rw [hg.block k (by rw [World.size_alloc]; omega) (fun e => ?_), heap_alloc_old _ _ hk]
  · exact h4
  · rcases hown.2 with ⟨rfl, _⟩ | ⟨g, cap, cur, rfl, _, e2, _⟩
    · simp [Value.ownBlock] at e
    · simp only [Value.ownBlock, Option.some.injEq] at e
      subst e
      rw [e2] at h4
      cases h4
      exact h3 rfl
theorem KeepsX.grown0 {w w1 w2 : World} (h : KeepsX w w1) {B n : Nat} {v : Value} {xs : List Value} (hown : w1.ownsRow B 5 1 v n xs) (hg : w1.grownBy w2 v.ownBlock) : KeepsX w w2 := fun k cs T fr h1 h2 h3 => by
  have h4 := h k cs T fr h1 h2 h3
  have hk := (Array.getElem?_eq_some_iff.1 h4).1
  rw [hg.block k hk (fun e => ?_)]
  · exact h4
  · rcases hown.2 with ⟨rfl, _⟩ | ⟨g, cap, cur, rfl, _, e2, _⟩
    · simp [Value.ownBlock] at e
    · simp only [Value.ownBlock, Option.some.injEq] at e
      subst e
      rw [e2] at h4
      cases h4
      exact h3 rfl
theorem KeepsX.alloc {w w' : World} (h : KeepsX w w') (o : Obj) : KeepsX w (w'.alloc o) := fun k cs T fr h1 h2 h3 => by
  have h4 := h k cs T fr h1 h2 h3
  rw [heap_alloc_old _ _ (Array.getElem?_eq_some_iff.1 h4).1]
  exact h4
set_option maxRecDepth 100000 in
theorem copyCheck_used (b : Nat) (w : World) (h0 : w.cell? ⟨b, 0, none⟩ = some (.pointer (some ⟨b, 0, none⟩))) :
    Calls Try.prog 65 #[.pointer (some ⟨b, 0, none⟩)] w fun e w' => e = .returned (.tuple #[]) ∧ w' = w := by
  obtain ⟨j, hj, _⟩ := Option.map_eq_some_iff.1 Try.Builder_Extra_169.sizeBuilder
  go_enter Try.func65, Try.ntmps65
  go_wp2
  rw [Lib.run_neq_ptr_same w _ Try.underlying96 hj]
  go_wp2
  go_end0
  exact ⟨rfl, rfl⟩
set_option maxRecDepth 100000 in
theorem copyCheck_fresh (b : Nat) (w : World) (h0 : w.cell? ⟨b, 0, none⟩ = some (.pointer none)) (hsh : w.shape? b = some (99, 2)) (hfz : w.frozen? ⟨b, 0, none⟩ = false) :
    Calls Try.prog 65 #[.pointer (some ⟨b, 0, none⟩)] w fun e w' => e = .returned (.tuple #[]) ∧ w' = w.setCell ⟨b, 0, none⟩ (.pointer (some ⟨b, 0, none⟩)) := by
  obtain ⟨j, hj, hjs⟩ := Option.map_eq_some_iff.1 Try.Builder_Extra_169.sizeBuilder
  go_enter Try.func65, Try.ntmps65
  go_wp2
  rw [Lib.run_to_unsafe w ⟨b, 0, none⟩ Try.underlying96 Try.underlying129 hj (by rw [hjs]; decide) hsh (Nat.zero_lt_succ 1)]
  simp only [Result.andThen]
  rw [Oper.upon_value]
  go_wp2
  rw [run_callFunc_extern Try.func79 (by kernel_rfl) (by kernel_rfl) (by kernel_rfl) (e := Extern.AbiNoEscape.same) (by kernel_rfl)]
  rw [Lib.run_noEscape]
  simp only [Result.andThen]
  rw [Oper.upon_value]
  go_wp2
  rw [Lib.run_from_unsafe w ⟨b, 0, none⟩ Try.underlying129 Try.underlying96 hj hsh Try.Builder_Extra_169.liesBuilder]
  simp only [Result.andThen]
  rw [Oper.upon_value]
  go_wp2
  go_end0
  exact ⟨rfl, rfl⟩
theorem copyCheck_any (B b : Nat) (bs : List Value) (w : World) (h : Lib.IsBuilder 99 5 B b bs w) :
    Calls Try.prog 65 #[.pointer (some ⟨b, 0, none⟩)] w fun e w' => e = .returned (.tuple #[]) ∧ (Lib.BuilderAt 99 5 B b (.pointer (some ⟨b, 0, none⟩)) bs w' ∧ Below B w w' ∧ KeepsX w w') := by
  rcases h with h | h
  · refine (copyCheck_fresh b w h.cell0 h.shape h.frozen0).mono ?_
    rintro e w' ⟨rfl, rfl⟩
    obtain ⟨_, v, hb, _⟩ := id h
    exact ⟨rfl, h.used _, (Below.refl B w).setCell (p := ⟨b, 0, none⟩) h.1 _, (KeepsX.refl w).set hb⟩
  · refine (copyCheck_used b w h.cell0).mono ?_
    rintro e w' ⟨rfl, rfl⟩
    exact ⟨rfl, h, Below.refl B _, KeepsX.refl _⟩
set_option maxRecDepth 100000 in
theorem writeByte_any (B b : Nat) (bs : List Value) (c : Int) (w : World) (h : Lib.IsBuilder 99 5 B b bs w) (hlen : bs.length + 1 ≤ 140737488355328) (hBw : B ≤ w.heap.size) :
    Calls Try.prog 53 #[.pointer (some ⟨b, 0, none⟩), .int .u8 c] w fun e w' => e = .returned .nilIface ∧ (Lib.BuilderAt 99 5 B b (.pointer (some ⟨b, 0, none⟩)) (bs ++ [.int .u8 c]) w' ∧ Below B w w' ∧ KeepsX w w') := by
  obtain ⟨i0, hi, hz0, hz1, hz2⟩ := info_parts Try.Builder_Extra_169.infoByte
  go_enter Try.func53, Try.ntmps53
  go_wp2_with (go_at_call 65; refine (copyCheck_any B b bs _ h).mono ?_)
  rintro e w1 ⟨rfl, h1, hb1, hx1⟩
  have HX1 := Lib.hid hx1
  clear hx1
  obtain ⟨hB, v, hbk, hown, hne⟩ := h1
  have c0 : w1.cell? ⟨b, 0, none⟩ = some (.pointer (some ⟨b, 0, none⟩)) := by rw [Lib.cell_of_heap hbk]; rfl
  have c1 : w1.cell? ⟨b, 1, none⟩ = some v := by rw [Lib.cell_of_heap hbk]; rfl
  go_wp2_with (at_builtin; refine wpList_append_own _ rfl _ _ 97 rfl B 5 i0 (.int .u8 0) 1 1 Try.underlying97 hi hz0 hz1 hz2 rfl (by decide) _ _ _ rfl (hown.alloc _) ⟨w1.heap.size, 0, none⟩ 1 1 [.int .u8 c] rfl rfl ?c1 ?c2 ?c3 ?c4 ?c5 ?_)
  case c1 =>
    intro j u hj
    match j, hj with
    | 0, hj => simp at hj; subst hj; simp [Addr.add]
  case c2 => intro u hu; simp at hu; subst hu; rfl
  case c3 => unfold maxLen; omega
  case c4 => omega
  case c5 => have := hb1.size; simp; omega
  intro v' w2 hown' hgrow _
  have hlt : b < w1.heap.size := by
    rcases Nat.lt_or_ge b w1.heap.size with h' | h'
    · exact h'
    · simp [Array.getElem?_eq_none h'] at hbk
  have hb2 : w2.heap[b]? = some (.cells #[.pointer (some ⟨b, 0, none⟩), v] 99 (0, 0)) := by
    rw [hgrow.block b (by simp; omega) (fun e => hne e.symm), Lib.alloc_old w1 _ b hlt]
    exact hbk
  have d0 : w2.cell? ⟨b, 0, none⟩ = some (.pointer (some ⟨b, 0, none⟩)) := by rw [Lib.cell_of_heap hb2]; rfl
  have d1 : w2.cell? ⟨b, 1, none⟩ = some v := by rw [Lib.cell_of_heap hb2]; rfl
  have f1 : w2.frozen? ⟨b, 1, none⟩ = false := Lib.frozen_of_heap hb2 1
  obtain ⟨g, cap, rfl⟩ : ∃ g cap, v' = .slice (some ⟨g, 0, none⟩) (bs.length + 1) cap := by
    rcases hown'.2 with ⟨_, h0⟩ | ⟨g, cap, cur, hv, _⟩
    · omega
    · exact ⟨g, cap, hv⟩
  go_wp2
  go_ret
  refine ⟨rfl, ?_, ?_, (HX1.out.grown hown hgrow).set hb2⟩
  · exact Lib.BuilderAt.put (T := 99) (e := 5) hB hb2 (bs' := bs ++ [.int .u8 c]) (by simpa using hown') Try.Builder_Extra_169.neB5
  · exact ((hb1.alloc (by have := hb1.size; omega) _).grown hgrow (by have := hb1.size; simp; omega) (fun k hk => (hown.lt k hk).1)).setCell (p := ⟨b, 1, none⟩) hB _
set_option maxRecDepth 100000 in
theorem writeStringB_any (B b : Nat) (bs : List Value) (s : ByteArray) (w : World) (h : Lib.IsBuilder 99 5 B b bs w) (hlen : bs.length + s.size ≤ 140737488355328) (hBw : B ≤ w.heap.size) :
    Calls Try.prog 54 #[.pointer (some ⟨b, 0, none⟩), .string s] w fun e w' => e = .returned (.tuple #[.int .i64 s.size, .nilIface]) ∧ (Lib.BuilderAt 99 5 B b (.pointer (some ⟨b, 0, none⟩)) (bs ++ Lib.strCells s) w' ∧ Below B w w' ∧ KeepsX w w') := by
  obtain ⟨i0, hi, hz0, hz1, hz2⟩ := info_parts Try.Builder_Extra_169.infoByte
  go_enter Try.func54, Try.ntmps54
  go_wp2_with (go_at_call 65; refine (copyCheck_any B b bs _ h).mono ?_)
  rintro e w1 ⟨rfl, h1, hb1, hx1⟩
  have HX1 := Lib.hid hx1
  clear hx1
  obtain ⟨hB, v, hbk, hown, hne⟩ := h1
  have c0 : w1.cell? ⟨b, 0, none⟩ = some (.pointer (some ⟨b, 0, none⟩)) := by rw [Lib.cell_of_heap hbk]; rfl
  have c1 : w1.cell? ⟨b, 1, none⟩ = some v := by rw [Lib.cell_of_heap hbk]; rfl
  go_wp2_with (at_builtin; refine Lib.wpList_append_own_string _ rfl _ _ 97 9 rfl B 5 i0 Try.underlying97 Try.underlying9 hi hz0 hz1 hz2 _ _ _ rfl hown s rfl ?c3 ?c4 ?c5 ?_)
  case c3 => unfold maxLen; omega
  case c4 => omega
  case c5 => have := hb1.size; omega
  intro v' w2 hown' hgrow _
  have hlt : b < w1.heap.size := by
    rcases Nat.lt_or_ge b w1.heap.size with h' | h'
    · exact h'
    · simp [Array.getElem?_eq_none h'] at hbk
  have hb2 : w2.heap[b]? = some (.cells #[.pointer (some ⟨b, 0, none⟩), v] 99 (0, 0)) := by
    rw [hgrow.block b hlt (fun e => hne e.symm)]
    exact hbk
  have d0 : w2.cell? ⟨b, 0, none⟩ = some (.pointer (some ⟨b, 0, none⟩)) := by rw [Lib.cell_of_heap hb2]; rfl
  have d1 : w2.cell? ⟨b, 1, none⟩ = some v := by rw [Lib.cell_of_heap hb2]; rfl
  have f1 : w2.frozen? ⟨b, 1, none⟩ = false := Lib.frozen_of_heap hb2 1
  obtain ⟨ao, n', cap, rfl⟩ : ∃ ao n' cap, v' = .slice ao n' cap := by
    rcases hown'.2 with ⟨hv, _⟩ | ⟨g, cap, cur, hv, _⟩
    · exact ⟨_, _, _, hv⟩
    · exact ⟨_, _, _, hv⟩
  go_wp2
  go_ret2
  refine ⟨rfl, ?_, ?_, (HX1.out.grown0 hown hgrow).set hb2⟩
  · exact Lib.BuilderAt.put (T := 99) (e := 5) hB hb2 (bs' := bs ++ Lib.strCells s) (by simpa [Lib.strCells_length] using hown') Try.Builder_Extra_169.neB5
  · exact (hb1.grown hgrow (by have := hb1.size; omega) (fun k hk => (hown.lt k hk).1)).setCell (p := ⟨b, 1, none⟩) hB _
end Go.Proofs.Ytpcjmceakelilaa
