/- Mvcc: the iterator that Scan returns. -/
import Derived.Test.YtpcjmceakelilaaEna
namespace Go.Proofs.Ytpcjmceakelilaa
open Go.ChangeShapes Go.WideShapes Go.ChangeAt Go.RowKit Go.Deep Go.ChangeMaps Go.Shelf Go.Sort
set_option linter.unusedVariables false
set_option linter.unusedSimpArgs false
attribute [local go_sem] Oper.semAt_some
attribute [local go_sem, local simp] wide_fn
theorem rev_keys (B : Nat) (v : Value) (ks : List Bs) (w : World) (hv : KRow B w v ks) (hl : ks.length ≤ 1000000) :
    Calls Try.prog 50 #[v] w fun e w' => e = .returned (.tuple #[]) ∧ KRow B w' v ks.reverse ∧ Kept (fun k => v.ownBlock = some k) w w' := by
  have hsl : ks.reverse.length = ks.length := List.length_reverse
  rcases hv.2 with ⟨rfl, h0⟩ | ⟨g, cap, cur, rfl, hbase, hb, h1, h2, h3, h4⟩
  · have hn : ks = [] := List.eq_nil_of_length_eq_zero h0
    subst hn
    refine (Try.slices_Reverse_string_empty _ _ _).mono ?_
    rintro e w1 ⟨rfl, rfl⟩
    exact ⟨rfl, hv, Kept.refl _ _⟩
  · by_cases hz : ks.length = 0
    · have hn : ks = [] := List.eq_nil_of_length_eq_zero hz
      subst hn
      refine (Try.slices_Reverse_string_empty _ _ _).mono ?_
      rintro e w1 ⟨rfl, rfl⟩
      exact ⟨rfl, hv, Kept.refl _ _⟩
    · have hm : (ks.map toL).length = ks.length := List.length_map ..
      have hh : Holds encStr w g 0 (ks.map toL).toArray := holds_of_block hb (by rw [Nat.mul_one] at h4; rw [hm, h4, keys_enc])
      have hc := Try.slices_Reverse_string g 0 cap (ks.map toL) w hh (by omega)
      rw [hm] at hc
      refine hc.mono ?_
      rintro e w1 ⟨rfl, n, rfl⟩
      have hms : (ks.map toL).reverse.length = (ks.map toL).length := List.length_reverse
      have e0 : putRow encStr (Sort.ahead w n) g 0 (ks.map toL).reverse.toArray = grow (putRow encStr (Sort.ahead w n) g 0 (ks.map toL).reverse.toArray) #[] := by simp [grow]; rfl
      rw [e0]
      have hg : w.grownBy (grow (putRow encStr (Sort.ahead w n) g 0 (ks.map toL).reverse.toArray) #[]) (some g) := grownBy_sorted _
      have hO := ownsRow_sorted (n := n) (os := #[]) hms hbase hb (by rw [hm]; exact h1) h2 h3
      refine ⟨rfl, ?_, ⟨hg.os, hg.tape, hg.output, hg.size, fun k hk hs => hg.block k hk (fun e => hs e.symm)⟩⟩
      unfold KRow
      rw [hsl, keys_enc, List.map_reverse]
      rw [hm] at hO
      exact hO
/-- whether a key is in a range -/
def inR (lo hi k : Bs) : Bool := !Op.bytesLess k.toList lo.toList && (hi.toList.isEmpty || Op.bytesLess k.toList hi.toList)
/-- the keys that a scan goes through -/
def scanT (E : List En) (lo hi : Bs) (back : Bool) : List Bs := if back = true then ((ordE E).filter (inR lo hi)).reverse else (ordE E).filter (inR lo hi)
/-- what a scan yields -/
def scanK (E : List En) (t : Int) (ts : List Bs) : List (Bs × Bs) := ts.filterMap fun k => (valAt (lkL E k) t).map fun v => (k, v)
def encP (x : Bs × Bs) : Array Value := #[.string x.1, .string x.2]
theorem scanK_snoc (E : List En) (t : Int) (ts : List Bs) (k : Bs) : scanK E t (ts ++ [k]) = scanK E t ts ++ ((valAt (lkL E k) t).map fun v => (k, v)).toList := by
  unfold scanK
  rw [List.filterMap_append]
  congr 1
theorem scanK_pre (E : List En) (t : Int) (ts : List Bs) (i : Nat) : scanK E t (ts.take i) <+: scanK E t ts := by
  refine ⟨scanK E t (ts.drop i), ?_⟩
  unfold scanK
  rw [← List.filterMap_append, List.take_append_drop]
/-- where a scan stands -/
structure SS {α : Type} (n₀ r bt c : Nat) (ts : List Bs) (v : Value) (J : List α → World → Prop) (W0 : World) (pre : List α) (X : World) : Prop where
  j : J pre X
  b : Below n₀ W0 X
  kr : KRow r X v ts
  bx : ∀ k, bt ≤ k → k < c → X.heap[k]? = W0.heap[k]?
  nX : n₀ ≤ X.heap.size
  cX : c ≤ X.heap.size
theorem SS.below {α : Type} {n₀ r bt c : Nat} {ts : List Bs} {v : Value} {J : List α → World → Prop} {W0 X X' : World} {pre : List α} (h : SS n₀ r bt c ts v J W0 pre X) (hJ : ∀ pre W W', J pre W → Below W.heap.size W W' → J pre W') (hb : Below X.heap.size X X') : SS n₀ r bt c ts v J W0 pre X' :=
  ⟨hJ _ _ _ h.j hb, h.b.trans (hb.mono h.nX), h.kr.str (KeepsStr.below hb), fun k h1 h2 => (hb.block k (by have := h.cX; omega)).trans (h.bx k h1 h2), Nat.le_trans h.nX hb.size, Nat.le_trans h.cX hb.size⟩
theorem SS.next {α : Type} {n₀ r bt c : Nat} {ts : List Bs} {v : Value} {J : List α → World → Prop} {W0 X X' : World} {pre pre' : List α} (h : SS n₀ r bt c ts v J W0 pre X) (hj : J pre' X') (hk : KpS n₀ bt c X X') : SS n₀ r bt c ts v J W0 pre' X' :=
  ⟨hj, h.b.trans hk.1, h.kr.str hk.2.1, fun k h1 h2 => (hk.2.2 k h1 h2 (by have := h.cX; omega)).trans (h.bx k h1 h2), Nat.le_trans h.nX hk.1.size, Nat.le_trans h.cX hk.1.size⟩
theorem SS.cell {α : Type} {n₀ r bt c : Nat} {ts : List Bs} {v : Value} {J : List α → World → Prop} {W0 X : World} {pre : List α} (h : SS n₀ r bt c ts v J W0 pre X) {k : Nat} {u : Value} (h1 : bt ≤ k) (h2 : k < c) (hc : W0.cell? ⟨k, 0, none⟩ = some u) : X.cell? ⟨k, 0, none⟩ = some u := by
  rw [World.cell?_of_block (a := ⟨k, 0, none⟩) (h.bx k h1 h2)]; exact hc
theorem filter_seen_range {E : List En} {seen : Array Nat} {x : En} (f : Bs → Bool) {ks : List Bs} (hp : ks.Perm (((E.filter fun e => seen.contains e.born).map (·.key)).filter f)) (hn : (E.map (·.born)).Nodup) (hx : x ∈ E) (hs : seen.contains x.born = false) :
    (if f x.key = true then ks ++ [x.key] else ks).Perm (((E.filter fun e => (seen.push x.born).contains e.born).map (·.key)).filter f) := by
  have h1 := (filter_seen_push hn hx hs).filter f
  rw [List.filter_append] at h1
  refine List.Perm.trans ?_ h1.symm
  by_cases hf : f x.key = true
  · rw [if_pos hf, List.filter_cons, if_pos hf]
    exact hp.append_right _
  · rw [if_neg hf, List.filter_cons, if_neg hf]
    simpa using hp
theorem sorted_filter {a : List Bs} {E : List En} (f : Bs → Bool) (hn : (E.map (·.key)).Nodup) (h : a.Perm ((E.map (·.key)).filter f)) : sortB a = (ordE E).filter f := by
  have hna : ((E.map (·.key)).filter f).Nodup := List.filter_sublist.nodup hn
  have h1 : (sortB a).Pairwise fun a b => lB a b = true := sortB_srt (h.nodup_iff.2 hna)
  have h2 : ((ordE E).filter f).Pairwise fun a b => lB a b = true := List.Pairwise.sublist List.filter_sublist (sortB_srt hn)
  refine List.Perm.eq_of_pairwise (le := fun a b => lB a b = true) (fun x y _ _ h1 h2 => ?_) h1 h2 ((sortB_perm a).trans (h.trans ((sortB_perm (E.map (·.key))).filter f).symm))
  rw [lB_asymm h1] at h2; cases h2
set_option maxRecDepth 100000 in
set_option maxHeartbeats 6400000 in
theorem scan1_any (m l n₀ N b B S mp clock : Nat) (E : List En) (lo hi : Bs) (t : Int) (back : Bool) (J Jx : List (Bs × Bs) → World → Prop)
    (hY : ∀ m pre (x : Bs × Bs) W, J pre W → pre.length < N → YieldAt Fence.wide m Try.prog l (encP x) W fun e W' =>
      (e = .returned (.bool true) ∧ J (pre ++ [x]) W' ∧ KpS n₀ b (b + 5) W W') ∨ (e = .returned (.bool false) ∧ Jx (pre ++ [x]) W'))
    (hJ : ∀ pre W W', J pre W → Below W.heap.size W W' → J pre W')
    (W0 : World) (hst : Sto B W0 S mp E clock) (hfoot : ∀ k, Foot S mp E k → k < n₀) (hn0 : n₀ ≤ W0.heap.size) (hT : E.length ≤ 100000)
    (c1 : W0.cell? ⟨b, 0, none⟩ = some (.pointer (some ⟨S, 0, none⟩))) (c2 : W0.cell? ⟨b + 1, 0, none⟩ = some (.string lo)) (c3 : W0.cell? ⟨b + 2, 0, none⟩ = some (.string hi)) (c4 : W0.cell? ⟨b + 4, 0, none⟩ = some (.bool back)) (c5 : W0.cell? ⟨b + 3, 0, none⟩ = some (.int .i64 t))
    (hbl : b + 5 ≤ W0.heap.size) (hj : J [] W0) (hN : (scanK E t (scanT E lo hi back)).length ≤ N) :
    CallsIn Fence.wide m Try.prog 49 #[.func (.yield l) #[] #[], .pointer (some ⟨b, 0, none⟩), .pointer (some ⟨b + 1, 0, none⟩), .pointer (some ⟨b + 2, 0, none⟩), .pointer (some ⟨b + 4, 0, none⟩), .pointer (some ⟨b + 3, 0, none⟩)] W0 (SeqOut (scanK E t (scanT E lo hi back)) J Jx) := by
  have HH := Lib.hid hst
  have HYJ := Lib.hid (And.intro hY hJ)
  have H1 := Lib.hid (And.intro hfoot (And.intro hn0 (And.intro hj hN)))
  have hrg := run_range_E hst.map
  have a0 := hst.c0
  obtain ⟨i0, hi0, hz0, hz1, hz2⟩ := info_parts infoS
  have HC := Lib.hid (And.intro c1 (And.intro c2 (And.intro c3 (And.intro c4 c5))))
  clear hY hJ hst hfoot hn0 hj hN c2 c3 c4 c5
  refine callsIn_of_wp Try.func49 rfl trivial ?_ rfl
  simp only [Try.ntmps49, List.size_toArray, List.length_cons, List.length_nil, Nat.reduceAdd, Nat.reduceSub, Array.replicate_succ, Array.replicate_zero, List.push_toArray, List.append_toArray, List.nil_append, List.cons_append]
  gi_wp2
  obtain ⟨r, hr⟩ : ∃ r, r = W0.heap.size := ⟨_, rfl⟩
  have hit : IterAt (W0.alloc (.mapIter (some mp) clock #[] clock)) r mp clock #[] clock := by rw [hr]; exact heap_alloc_new W0 _
  have hb1 : Below W0.heap.size W0 (W0.alloc (.mapIter (some mp) clock #[] clock)) := (Below.refl _ W0).alloc (Nat.le_refl _) _
  have H0 := Lib.hid (And.intro hit hb1)
  rw [← hr]
  have HR := Lib.hid hr
  clear hit hb1 hr a0 hrg c1
  generalize W0.alloc (.mapIter (some mp) clock #[] clock) = W1 at H0 ⊢
  gi_loopw [7] (fun v wr => ∃ (seen : Array Nat) (ks : List Bs), KRow (r + 1) wr v ks ∧ ks.Perm (((E.filter fun e => seen.contains e.born).map (·.key)).filter (inR lo hi)) ∧ IterAt wr r mp clock seen clock ∧ Below W0.heap.size W0 wr) (fun v wr => unseen E (wr.iterSeen r))
  case atStart => exact ⟨#[], [], KRow.nil _ _, by simp, H0.out.1, H0.out.2⟩
  case round =>
    clear H0
    obtain ⟨seen, ks, hkr, hperm, hit, hb⟩ := hrel
    have hsW := HH.out.below hb
    have hms := iterSeen_at hit
    obtain ⟨va, vc, rfl⟩ := hkr.len
    have hkl : ks.length ≤ 100000 := by
      rw [hperm.length_eq]
      refine Nat.le_trans (List.length_filter_le _ _) ?_
      rw [List.length_map]
      exact Nat.le_trans (List.length_filter_le _ _) hT
    rcases run_next_E hsW.map hit hsW.ok.lt (Nat.le_refl _) 0 with ⟨hall, hrun⟩ | ⟨x, hx, hsx, W2, hW2, hrun⟩
    · have hperm2 : ks.Perm ((E.map (·.key)).filter (inR lo hi)) := by
        rw [List.filter_eq_self.2 (fun e he => hall e he)] at hperm
        exact hperm
      have HS := Lib.hid (And.intro (sorted_filter (inR lo hi) HH.out.ok.keys hperm2) (And.intro hb hkr))
      have hsl : (sortB ks).length = ks.length := (sortB_perm ks).length_eq
      have HSL := Lib.hid hsl
      clear hall hms hperm hit hsW hperm2 hsl hb
      gi_wp2
      refine ⟨fun h => (by cases h), (callsIn_wide.2 (sort_keys (r + 1) (.slice va ks.length vc) ks wr hkr (by omega))).mono ?_⟩
      rintro e W3 ⟨rfl, hkr3, hk3⟩
      have hlt : ks.length = ((ordE E).filter (inR lo hi)).length := by rw [← HSL.out, HS.out.1]
      have hkr4 : KRow (r + 1) W3 (.slice va ks.length vc) ((ordE E).filter (inR lo hi)) := by
        have := hkr3
        rw [HS.out.1] at this
        exact this
      have hb4 : Below W0.heap.size W0 W3 := HS.out.2.1.trans (hk3.below HS.out.2.1.size (fun j e => by have := (HS.out.2.2.lt j e).1; have := HR.out; omega))
      have cb4 : W3.cell? ⟨b + 4, 0, none⟩ = some (.bool back) := (hb4.cell (p := ⟨b + 4, 0, none⟩) (by show b + 4 < _; omega)).trans HC.out.2.2.2.1
      clear hkr3 hk3 hkr HS HSL
      generalize ks.length = tn at *
      have htl : tn ≤ 100000 := hkl
      clear hkl
      obtain ⟨F0, hF0⟩ : ∃ F0, F0 = (ordE E).filter (inR lo hi) := ⟨_, rfl⟩
      rw [← hF0] at hlt hkr4
      rcases (show back = false ∨ back = true from by cases back <;> simp) with hbk | hbk
      · skip
        rw [hbk] at cb4
        have hTS0 : F0 = scanT E lo hi back := by rw [hbk, hF0]; rfl
        have HX := Lib.hid (And.intro hb4 hkr4)
        have HTS := Lib.hid hTS0
        clear hb4 hkr4 hF0 hTS0
        have HBK := Lib.hid hbk
        clear hbk
        obtain ⟨ts, hts⟩ : ∃ ts, ts = F0 := ⟨_, rfl⟩
        rw [← hts] at hlt HX HTS
        have HLT := Lib.hid hlt
        clear hts hlt
        have has : SS n₀ (r + 1) b (b + 5) ts (.slice va tn vc) J W0 (scanK E t (ts.take 0)) W3 :=
          ⟨HYJ.out.2 _ _ _ H1.out.2.2.1 HX.out.1, HX.out.1.mono H1.out.2.1, HX.out.2, fun k h1 h2 => HX.out.1.block k (by omega), Nat.le_trans H1.out.2.1 HX.out.1.size, Nat.le_trans hbl HX.out.1.size⟩
        have HA := Lib.hid has
        clear has HX
        gi_wp2
        gi_loopw [47] (fun i wr => ∃ n : Nat, i = .int .i64 n ∧ n ≤ tn ∧ Hid (SS n₀ (r + 1) b (b + 5) ts (.slice va tn vc) J W0 (scanK E t (ts.take n)) wr)) (fun i wr => tn - iv i)
        case atStart => exact ⟨0, rfl, Nat.zero_le _, HA⟩
        case round =>
          clear HA
          obtain ⟨n, rfl, hn, HA⟩ := hrel
          by_cases hlast : n = tn
          · subst hlast
            have e : ts.take n = ts := List.take_of_length_le (by have := HLT.out; omega)
            gi_wp2
            go_end0
            exact ⟨⟨_, rfl⟩, .inl ⟨_, rfl, by have := HA.out.j; rw [e, HTS.out] at this; exact this⟩⟩
          · have hnl : n < ts.length := by have := HLT.out; omega
            have hnt : n < tn := by omega
            obtain ⟨kg, kc, cur, hve, _, _, _, _, hkc⟩ := HA.out.kr.get (by omega)
            have hka : va = some ⟨kg, 0, none⟩ := by cases hve; rfl
            subst hka
            have ck := hkc n hnl
            have cb := HA.out.cell (k := b) (Nat.le_refl _) (by omega) HC.out.1
            have cs := HA.out.cell (k := b + 3) (by omega) (by omega) HC.out.2.2.2.2
            have hst := HH.out.kept (T := fun k => ¬ k < n₀) ⟨HA.out.b.os, HA.out.b.tape, HA.out.b.output, HA.out.b.size, fun j hj hs => HA.out.b.block j (Decidable.not_not.1 hs)⟩ (fun j hj hs => hs (H1.out.1 j hj))
            have HPRE := Lib.hid (scanK_pre E t ts (n + 1))
            have HSN := Lib.hid (show scanK E t (ts.take (n + 1)) = scanK E t (ts.take n) ++ ((valAt (lkL E ts[n]) t).map fun v => (ts[n], v)).toList from by rw [List.take_succ_eq_append_getElem hnl, scanK_snoc])
            have HST := Lib.hid hst
            clear hkc hve hlast hst
            have hw1 : IntKind.i64.wrap ((n : Int) + 1) = ((n + 1 : Nat) : Int) := by rw [IntKind.wrap_i64]; omega
            generalize ts[n] = key at *
            gi_wp2
            refine ⟨fun h => (by cases h), (callsIn_wide.2 (get_any _ _ _ _ _ _ _ _ HST.out)).mono ?_⟩
            rintro e W5 ⟨rfl, hb5⟩
            have HA5 := Lib.hid (HA.out.below HYJ.out.2 hb5)
            clear HA HST hb5 ck cb cs
            cases hval : valAt (lkL E key) t with
            | none =>
              have HA6 : Hid (SS n₀ (r + 1) b (b + 5) ts (.slice (some ⟨kg, 0, none⟩) tn vc) J W0 (scanK E t (ts.take (n + 1))) W5) := Lib.hid (by rw [HSN.out, hval]; simpa using HA5.out)
              clear HA5
              gi_wp2
              go_roundw
              case rel => exact ⟨n + 1, by first | rfl | (push_cast; rfl), hnt, HA6⟩
              case measure => show tn - (((n + 1 : Nat) : Int).toNat) < tn - ((n : Int)).toNat; omega
            | some v =>
              have HPJ : Hid (scanK E t (ts.take (n + 1)) = scanK E t (ts.take n) ++ [(key, v)]) := Lib.hid (by rw [HSN.out, hval]; rfl)
              have hpl : (scanK E t (ts.take n)).length < N := by
                have h1 := HPRE.out.length_le
                rw [HPJ.out, List.length_append] at h1
                have h2 := H1.out.2.2.2
                rw [← HTS.out] at h2
                simp only [List.length_cons, List.length_nil] at h1
                omega
              clear HSN hval
              obtain ⟨f1, t1, a1, b1, hy1, hR1⟩ := HYJ.out.1 (m - 1) _ (key, v) _ HA5.out.j hpl
              have hy : (Instr.yield l #[.string key, .string v]).run Try.prog _ = .ok (.round l f1 t1 a1 b1) _ := hy1
              have HR1 := Lib.hid hR1
              clear hR1 hy1 hpl
              gi_wp2
              refine ⟨fun h => (by cases h), HR1.out.mono ?_⟩
              clear HR1 hy
              rintro e W6 (⟨rfl, hJ2, hk2⟩ | ⟨rfl, hx2⟩)
              · have HA6 : Hid (SS n₀ (r + 1) b (b + 5) ts (.slice (some ⟨kg, 0, none⟩) tn vc) J W0 (scanK E t (ts.take (n + 1))) W6) := Lib.hid (by rw [HPJ.out]; exact HA5.out.next hJ2 hk2)
                clear hJ2 hk2 HA5
                gi_wp2
                go_roundw
                case rel => exact ⟨n + 1, by first | rfl | (push_cast; rfl), hnt, HA6⟩
                case measure => show tn - (((n + 1 : Nat) : Int).toNat) < tn - ((n : Int)).toNat; omega
              · gi_wp2
                refine bodyPost_ret (results_none rfl _ _ _) rfl ?_
                exact ⟨⟨_, rfl⟩, .inr ⟨_, by rw [← HTS.out, ← HPJ.out]; exact HPRE.out, hx2⟩⟩
      · skip
        rw [hbk] at cb4
        have hTS0 : F0.reverse = scanT E lo hi back := by rw [hbk, hF0]; rfl
        have HX0 := Lib.hid hb4
        have HTS0 := Lib.hid hTS0
        have HBK := Lib.hid hbk
        have HLT0 := Lib.hid hlt
        clear hbk hb4 hF0 hTS0 hlt
        gi_wp2
        refine ⟨fun h => (by cases h), (callsIn_wide.2 (rev_keys (r + 1) (.slice va tn vc) F0 W3 hkr4 (by have := HLT0.out; omega))).mono ?_⟩
        rintro e W3b ⟨rfl, hkr5, hk5⟩
        have HX := Lib.hid (And.intro (HX0.out.trans (hk5.below HX0.out.size (fun j e => by have := (hkr4.lt j e).1; have := HR.out; omega))) hkr5)
        have hlt : tn = F0.reverse.length := by rw [List.length_reverse]; exact HLT0.out
        have HTS := HTS0
        clear hkr4 hkr5 hk5 HX0 HTS0 cb4
        generalize F0.reverse = F0 at *
        obtain ⟨ts, hts⟩ : ∃ ts, ts = F0 := ⟨_, rfl⟩
        rw [← hts] at hlt HX HTS
        have HLT := Lib.hid hlt
        clear hts hlt
        have has : SS n₀ (r + 1) b (b + 5) ts (.slice va tn vc) J W0 (scanK E t (ts.take 0)) W3b :=
          ⟨HYJ.out.2 _ _ _ H1.out.2.2.1 HX.out.1, HX.out.1.mono H1.out.2.1, HX.out.2, fun k h1 h2 => HX.out.1.block k (by omega), Nat.le_trans H1.out.2.1 HX.out.1.size, Nat.le_trans hbl HX.out.1.size⟩
        have HA := Lib.hid has
        clear has HX
        gi_wp2
        gi_loopw [47] (fun i wr => ∃ n : Nat, i = .int .i64 n ∧ n ≤ tn ∧ Hid (SS n₀ (r + 1) b (b + 5) ts (.slice va tn vc) J W0 (scanK E t (ts.take n)) wr)) (fun i wr => tn - iv i)
        case atStart => exact ⟨0, rfl, Nat.zero_le _, HA⟩
        case round =>
          clear HA
          obtain ⟨n, rfl, hn, HA⟩ := hrel
          by_cases hlast : n = tn
          · subst hlast
            have e : ts.take n = ts := List.take_of_length_le (by have := HLT.out; omega)
            gi_wp2
            go_end0
            exact ⟨⟨_, rfl⟩, .inl ⟨_, rfl, by have := HA.out.j; rw [e, HTS.out] at this; exact this⟩⟩
          · have hnl : n < ts.length := by have := HLT.out; omega
            have hnt : n < tn := by omega
            obtain ⟨kg, kc, cur, hve, _, _, _, _, hkc⟩ := HA.out.kr.get (by omega)
            have hka : va = some ⟨kg, 0, none⟩ := by cases hve; rfl
            subst hka
            have ck := hkc n hnl
            have cb := HA.out.cell (k := b) (Nat.le_refl _) (by omega) HC.out.1
            have cs := HA.out.cell (k := b + 3) (by omega) (by omega) HC.out.2.2.2.2
            have hst := HH.out.kept (T := fun k => ¬ k < n₀) ⟨HA.out.b.os, HA.out.b.tape, HA.out.b.output, HA.out.b.size, fun j hj hs => HA.out.b.block j (Decidable.not_not.1 hs)⟩ (fun j hj hs => hs (H1.out.1 j hj))
            have HPRE := Lib.hid (scanK_pre E t ts (n + 1))
            have HSN := Lib.hid (show scanK E t (ts.take (n + 1)) = scanK E t (ts.take n) ++ ((valAt (lkL E ts[n]) t).map fun v => (ts[n], v)).toList from by rw [List.take_succ_eq_append_getElem hnl, scanK_snoc])
            have HST := Lib.hid hst
            clear hkc hve hlast hst
            have hw1 : IntKind.i64.wrap ((n : Int) + 1) = ((n + 1 : Nat) : Int) := by rw [IntKind.wrap_i64]; omega
            generalize ts[n] = key at *
            gi_wp2
            refine ⟨fun h => (by cases h), (callsIn_wide.2 (get_any _ _ _ _ _ _ _ _ HST.out)).mono ?_⟩
            rintro e W5 ⟨rfl, hb5⟩
            have HA5 := Lib.hid (HA.out.below HYJ.out.2 hb5)
            clear HA HST hb5 ck cb cs
            cases hval : valAt (lkL E key) t with
            | none =>
              have HA6 : Hid (SS n₀ (r + 1) b (b + 5) ts (.slice (some ⟨kg, 0, none⟩) tn vc) J W0 (scanK E t (ts.take (n + 1))) W5) := Lib.hid (by rw [HSN.out, hval]; simpa using HA5.out)
              clear HA5
              gi_wp2
              go_roundw
              case rel => exact ⟨n + 1, by first | rfl | (push_cast; rfl), hnt, HA6⟩
              case measure => show tn - (((n + 1 : Nat) : Int).toNat) < tn - ((n : Int)).toNat; omega
            | some v =>
              have HPJ : Hid (scanK E t (ts.take (n + 1)) = scanK E t (ts.take n) ++ [(key, v)]) := Lib.hid (by rw [HSN.out, hval]; rfl)
              have hpl : (scanK E t (ts.take n)).length < N := by
                have h1 := HPRE.out.length_le
                rw [HPJ.out, List.length_append] at h1
                have h2 := H1.out.2.2.2
                rw [← HTS.out] at h2
                simp only [List.length_cons, List.length_nil] at h1
                omega
              clear HSN hval
              obtain ⟨f1, t1, a1, b1, hy1, hR1⟩ := HYJ.out.1 (m - 1) _ (key, v) _ HA5.out.j hpl
              have hy : (Instr.yield l #[.string key, .string v]).run Try.prog _ = .ok (.round l f1 t1 a1 b1) _ := hy1
              have HR1 := Lib.hid hR1
              clear hR1 hy1 hpl
              gi_wp2
              refine ⟨fun h => (by cases h), HR1.out.mono ?_⟩
              clear HR1 hy
              rintro e W6 (⟨rfl, hJ2, hk2⟩ | ⟨rfl, hx2⟩)
              · have HA6 : Hid (SS n₀ (r + 1) b (b + 5) ts (.slice (some ⟨kg, 0, none⟩) tn vc) J W0 (scanK E t (ts.take (n + 1))) W6) := Lib.hid (by rw [HPJ.out]; exact HA5.out.next hJ2 hk2)
                clear hJ2 hk2 HA5
                gi_wp2
                go_roundw
                case rel => exact ⟨n + 1, by first | rfl | (push_cast; rfl), hnt, HA6⟩
                case measure => show tn - (((n + 1 : Nat) : Int).toNat) < tn - ((n : Int)).toNat; omega
              · gi_wp2
                refine bodyPost_ret (results_none rfl _ _ _) rfl ?_
                exact ⟨⟨_, rfl⟩, .inr ⟨_, by rw [← HTS.out, ← HPJ.out]; exact HPRE.out, hx2⟩⟩
    · obtain ⟨W3, hW3⟩ : ∃ W3, W3 = setBlock W2 r (.mapIter (some mp) clock (seen.push x.born) clock) := ⟨_, rfl⟩
      rw [← hW3] at hrun
      have hk3 : Kept (fun j => j = r) wr W3 := by rw [hW3]; exact setBlock_kept (kept_drew' (Kept.refl _ wr) hW2) r _ (.inl rfl)
      have hit3 : IterAt W3 r mp clock (seen.push x.born) clock := by rw [hW3]; exact iter_set (iter_drew hit hW2)
      have hb3 : Below W0.heap.size W0 W3 := hb.trans (hk3.below hb.size (fun j e => by rw [e, HR.out]; exact Nat.le_refl _))
      have hkr3 : KRow (r + 1) W3 (.slice va ks.length vc) ks := hkr.same (fun k hk => hk3.block k (hkr.lt k hk).2 (fun e => by have := (hkr.lt k hk).1; omega))
      have hent := run_entry_E (HH.out.below hb3).map hit3 hx HH.out.ok.borns
      obtain ⟨xa, xc, hval⟩ := (HH.out.rows x hx).1.len
      rw [hval] at hrun hent
      have hmeas := unseen_push E seen x hsx HH.out.ok.borns hx
      have HM := Lib.hid (And.intro hmeas hms)
      have HP := Lib.hid (filter_seen_range (inR lo hi) hperm HH.out.ok.borns hx hsx)
      have H3 := Lib.hid (And.intro hit3 hb3)
      obtain ⟨k, hk⟩ : ∃ k, k = x.key := ⟨_, rfl⟩
      rw [← hk] at hrun hent HP
      have q2 : W3.cell? ⟨b + 1, 0, none⟩ = some (.string lo) := (hb3.cell (p := ⟨b + 1, 0, none⟩) (by show b + 1 < _; omega)).trans HC.out.2.1
      have q3 : W3.cell? ⟨b + 2, 0, none⟩ = some (.string hi) := (hb3.cell (p := ⟨b + 2, 0, none⟩) (by show b + 2 < _; omega)).trans HC.out.2.2.1
      clear hms hperm hit hsW hkr hb hmeas hW3 hW2 hk3 hit3 hb3 hval hsx hx hk
      gi_wp2_with (gi_at_builtin; refine wpListIn_append_own _ rfl _ _ 60 rfl (r + 1) 9 i0 (.string ⟨#[]⟩) 1 16 Try.underlying60 hi0 hz0 hz1 hz2 rfl (by decide) _ _ _ rfl (World.ownsRow.alloc hkr3 _) ⟨W3.heap.size, 0, none⟩ 1 1 [.string k] rfl rfl (cell_one_new _ _ _) (by simp [Value.oneCell']) (by unfold maxLen; omega) (by omega) (by have := H3.out.1.lt; simp; omega) ?_; intro v' w4 hown' hgrow _)
      · rename_i g1
        have hin : inR lo hi k = false := by unfold inR; rw [g1]; rfl
        have HPo := HP.out
        rw [if_neg (by rw [hin]; decide)] at HPo
        refine ⟨⟨seen.push x.born, ks, hkr3, HPo, H3.out.1, H3.out.2⟩, ?_⟩
        rw [iterSeen_at H3.out.1, HM.out.2]
        exact HM.out.1
      · rename_i g1 g2 _
        have hin : inR lo hi k = true := by unfold inR; rw [Bool.eq_false_iff.2 g1, g2]; rfl
        have HPi := HP.out
        rw [if_pos hin] at HPi
        have hk4 : Kept (fun j => (Value.slice va ks.length vc).ownBlock = some j) (W3.alloc (.cells #[.string k] 9)) w4 := ⟨hgrow.os, hgrow.tape, hgrow.output, hgrow.size, fun j hj hs => hgrow.block j hj (fun e => hs e.symm)⟩
        have hnr : ¬ (Value.slice va ks.length vc).ownBlock = some r := fun e => by have := (hkr3.lt r e).1; omega
        have hit4 : IterAt w4 r mp clock (seen.push x.born) clock := (IterAt.kept (W := W3.alloc (.cells #[.string k] 9)) (H3.out.1.kept ((Kept.refl (fun _ => False) W3).alloc _) (fun h => h)) hk4 hnr)
        refine ⟨⟨seen.push x.born, ks ++ [k], ?_, HPi, hit4, (H3.out.2.alloc H3.out.2.size _).trans (hk4.below (by have := H3.out.2.size; simp; omega) (fun j e => by have := (hkr3.lt j e).1; have := HR.out; omega))⟩, ?_⟩
        · unfold KRow
          rw [List.length_append, List.map_append]
          exact hown'
        · rw [iterSeen_at hit4, HM.out.2]
          exact HM.out.1
      · rename_i g1 g2 g3 _
        have hin : inR lo hi k = true := by unfold inR; rw [Bool.eq_false_iff.2 g1]; simpa using g3
        have HPi := HP.out
        rw [if_pos hin] at HPi
        have hk4 : Kept (fun j => (Value.slice va ks.length vc).ownBlock = some j) (W3.alloc (.cells #[.string k] 9)) w4 := ⟨hgrow.os, hgrow.tape, hgrow.output, hgrow.size, fun j hj hs => hgrow.block j hj (fun e => hs e.symm)⟩
        have hnr : ¬ (Value.slice va ks.length vc).ownBlock = some r := fun e => by have := (hkr3.lt r e).1; omega
        have hit4 : IterAt w4 r mp clock (seen.push x.born) clock := (IterAt.kept (W := W3.alloc (.cells #[.string k] 9)) (H3.out.1.kept ((Kept.refl (fun _ => False) W3).alloc _) (fun h => h)) hk4 hnr)
        refine ⟨⟨seen.push x.born, ks ++ [k], ?_, HPi, hit4, (H3.out.2.alloc H3.out.2.size _).trans (hk4.below (by have := H3.out.2.size; simp; omega) (fun j e => by have := (hkr3.lt j e).1; have := HR.out; omega))⟩, ?_⟩
        · unfold KRow
          rw [List.length_append, List.map_append]
          exact hown'
        · rw [iterSeen_at hit4, HM.out.2]
          exact HM.out.1
      · rename_i g1 g2 g3
        have hin : inR lo hi k = false := by unfold inR; rw [Bool.eq_false_iff.2 g1, g3.1, g3.2]; rfl
        have HPo := HP.out
        rw [if_neg (by rw [hin]; decide)] at HPo
        refine ⟨⟨seen.push x.born, ks, hkr3, HPo, H3.out.1, H3.out.2⟩, ?_⟩
        rw [iterSeen_at H3.out.1, HM.out.2]
        exact HM.out.1
end Go.Proofs.Ytpcjmceakelilaa
