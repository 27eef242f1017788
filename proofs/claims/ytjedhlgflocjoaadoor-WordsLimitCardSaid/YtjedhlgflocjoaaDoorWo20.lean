/- Words: Parse. -/
import Derived.Test.YtjedhlgflocjoaaDoorWo19
namespace Wd
def tot : List Str → Nat
  | [] => 0
  | p :: ps => p.length + tot ps
theorem tot_cut : ∀ (l cur : Str), tot (cutQ cur l) ≤ cur.length + l.length
  | [], cur => by simp [cutQ, tot]
  | c :: t, cur => by
    unfold cutQ
    split
    · have := tot_cut t []
      simp [tot] at this ⊢
      omega
    · have := tot_cut t (cur ++ [c])
      simp at this ⊢
      omega
theorem len_cut : ∀ (l cur : Str), (cutQ cur l).length ≤ l.length + 1
  | [], cur => by simp [cutQ]
  | c :: t, cur => by
    unfold cutQ
    split
    · have := len_cut t []
      simp
      omega
    · have := len_cut t (cur ++ [c])
      simp
      omega
def inB (t : Nat) : Bool := t % 2 == 1
theorem inB_succ (t : Nat) : inB (t + 1) = !inB t := by
  unfold inB
  have h : t % 2 = 0 ∨ t % 2 = 1 := by omega
  rcases h with h | h
  · have : (t + 1) % 2 = 1 := by omega
    rw [h, this]; rfl
  · have : (t + 1) % 2 = 0 := by omega
    rw [h, this]; rfl
theorem yesOf_take (ws : List (Str × Bool)) (m : Nat) (h : m < ws.length) : yesOf (ws.take (m + 1)) = yesOf (ws.take m) ++ (if ws[m].2 then [] else [ws[m].1]) := by
  rw [List.take_succ_eq_append_getElem h]
  unfold yesOf
  rw [List.filter_append, List.map_append]
  cases hf : ws[m].2 <;> simp [hf]
theorem noOf_take (ws : List (Str × Bool)) (m : Nat) (h : m < ws.length) : noOf (ws.take (m + 1)) = noOf (ws.take m) ++ (if ws[m].2 then [ws[m].1] else []) := by
  rw [List.take_succ_eq_append_getElem h]
  unfold noOf
  rw [List.filter_append, List.map_append]
  cases hf : ws[m].2 <;> simp [hf]
end Wd
namespace Go.Proofs.YtjedhlgflocjoaaDoor
open Go.ChangeShapes Go.WideShapes Go.ChangeAt Go.RowKit Go.Sort
set_option linter.unusedVariables false
set_option linter.unusedSimpArgs false
/-- what Parse holds while it reads a part: u the parts, v the words of this part -/
structure In (w W : World) (a p b u v : Value) (A P B : List Wd.Str) (parts : List Wd.Str) (ws : List (Wd.Str × Bool)) : Prop where
  th : Th w W a p b A P B
  us : StrsAt W u parts
  uf : Fr u a p b
  vs : WordsAt W v ws
  vf : Fr v a p b
theorem In.keep {w W W' : World} {a p b u v : Value} {A P B parts : List Wd.Str} {ws : List (Wd.Str × Bool)} (h : In w W a p b u v A P B parts ws) (hb : Below W.heap.size W W') : In w W' a p b u v A P B parts ws :=
  ⟨h.th.keep hb, h.us.keep hb, h.uf, h.vs.keep hb, h.vf⟩
theorem In.stepA {w W W' : World} {a a' p b u v : Value} {A A' P B parts : List Wd.Str} {ws : List (Wd.Str × Bool)} (h : In w W a p b u v A P B parts ws) (hg : Grew W W' a a') (hs : SL w W' a' A') : In w W' a' p b u v A' P B parts ws :=
  ⟨h.th.stepA hg hs, (h.us.other hg h.uf.fa).1, ⟨(h.us.other hg h.uf.fa).2, h.uf.fp, h.uf.fb⟩, (h.vs.other hg h.vf.fa).1, ⟨(h.vs.other hg h.vf.fa).2, h.vf.fp, h.vf.fb⟩⟩
theorem In.stepP {w W W' : World} {a p p' b u v : Value} {A P P' B parts : List Wd.Str} {ws : List (Wd.Str × Bool)} (h : In w W a p b u v A P B parts ws) (hg : Grew W W' p p') (hs : SL w W' p' P') : In w W' a p' b u v A P' B parts ws :=
  ⟨h.th.stepP hg hs, (h.us.other hg h.uf.fp).1, ⟨h.uf.fa, (h.us.other hg h.uf.fp).2, h.uf.fb⟩, (h.vs.other hg h.vf.fp).1, ⟨h.vf.fa, (h.vs.other hg h.vf.fp).2, h.vf.fb⟩⟩
theorem In.stepB {w W W' : World} {a p b b' u v : Value} {A P B B' parts : List Wd.Str} {ws : List (Wd.Str × Bool)} (h : In w W a p b u v A P B parts ws) (hg : Grew W W' b b') (hs : SL w W' b' B') : In w W' a p b' u v A P B' parts ws :=
  ⟨h.th.stepB hg hs, (h.us.other hg h.uf.fb).1, ⟨h.uf.fa, h.uf.fp, (h.us.other hg h.uf.fb).2⟩, (h.vs.other hg h.vf.fb).1, ⟨h.vf.fa, h.vf.fp, (h.vs.other hg h.vf.fb).2⟩⟩
/-- between two parts -/
def Out (w W : World) (a p b u : Value) (parts : List Wd.Str) (goal : Wd.PQ) (t n : Nat) : Prop :=
  ∃ q : Wd.PQ, Th w W a p b q.need q.phr q.neg ∧ StrsAt W u parts ∧ Fr u a p b ∧ q.all (Wd.inB t) (parts.drop t) = goal ∧ q.need.length + Wd.tot (parts.drop t) ≤ n ∧ q.neg.length + Wd.tot (parts.drop t) ≤ n ∧ q.phr.length ≤ t
theorem Out.of_in {w W : World} {a p b u v : Value} {parts : List Wd.Str} {ws : List (Wd.Str × Bool)} {goal q : Wd.PQ} {t n : Nat} (h : In w W a p b u v q.need q.phr q.neg parts ws) (hg : q.all (Wd.inB t) (parts.drop t) = goal) (h1 : q.need.length + Wd.tot (parts.drop t) ≤ n) (h2 : q.neg.length + Wd.tot (parts.drop t) ≤ n) (h3 : q.phr.length ≤ t) : Out w W a p b u parts goal t n :=
  ⟨q, h.th, h.us, h.uf, hg, h1, h2, h3⟩
theorem words_cells {W : World} {g cap : Nat} {ws : List (Wd.Str × Bool)} (h : WordsAt W (.slice (some ⟨g, 0, none⟩) ws.length cap) ws) (m : Nat) (hm : m < ws.length) : W.cell? ⟨g, m * 2, none⟩ = some (.string (Wd.bs ws[m].1)) ∧ W.cell? ⟨g, m * 2 + 1, none⟩ = some (.bool ws[m].2) := by
  rcases h with ⟨h, _⟩ | ⟨g', c', e, _, hc⟩
  · cases h
  · injection e with e1
    injection e1 with e1
    injection e1 with e1
    subst e1
    exact hc m hm
set_option maxHeartbeats 4000000 in
theorem parse_any (s : ByteArray) (w : World) (hw : EnvB w) (hs : s.size ≤ 50000) : Calls Tryd.prog 18 #[.string s] w (ParseOut (Wd.parsed s.data.toList) w) := by
  have HSL := Lib.hid (size_list s)
  have HTOT : Hid (Wd.tot (Wd.cutQ [] s.data.toList) ≤ s.size) := Lib.hid (by have := Wd.tot_cut s.data.toList []; rw [size_list] at this; simpa using this)
  have HLEN : Hid ((Wd.cutQ [] s.data.toList).length ≤ s.size + 1) := Lib.hid (by have := Wd.len_cut s.data.toList []; rw [size_list] at this; exact this)
  have HG : Hid (Wd.PQ.none.all (Wd.inB 0) (Wd.cutQ [] s.data.toList) = Wd.parsed s.data.toList) := Lib.hid rfl
  have HW := Lib.hid hw
  have HSP := Lib.hid (split34_any s w hw hs)
  clear hw
  generalize Wd.parsed s.data.toList = goal at *
  generalize Wd.cutQ [] s.data.toList = parts at *
  go_enter Tryd.func18, Tryd.ntmps18
  go_wp2_with fail
  refine HSP.out.mono ?_
  rintro e w1 ⟨gu, cu, rfl, hat, hb1, hge⟩
  have HAT := Lib.hid hat
  have HB1 := Lib.hid hb1
  clear hat hb1 HSP hge
  have hlen := HLEN.out
  go_wp2_with fail
  go_loopw [5, 6, 7, 17] (fun a p b i wr => ∃ t : Nat, t ≤ parts.length ∧ i = .int .i64 t ∧ Out w wr a p b (.slice (some ⟨gu, 0, none⟩) parts.length cu) parts goal t s.size) (fun _ _ _ i _ => parts.length - (intOf i).toNat)
  case atStart => exact ⟨0, Nat.zero_le _, rfl, Wd.PQ.none, Th.start w w1 HB1.out, HAT.out, ⟨.inr (by simp [Value.ownBlock]), .inr (by simp [Value.ownBlock]), .inr (by simp [Value.ownBlock])⟩, HG.out, by have := HTOT.out; simpa [Wd.PQ.none] using this, by have := HTOT.out; simpa [Wd.PQ.none] using this, Nat.le_refl _⟩
  case round =>
    obtain ⟨t, ht, rfl, hO⟩ := hrel
    have HO := Lib.hid hO
    clear hO
    by_cases hlt : t < parts.length
    · obtain ⟨q, hth, hus, huf, hall, hn1, hn2, hn3⟩ := HO.out
      have hd : parts.drop t = parts[t] :: parts.drop (t + 1) := List.drop_eq_getElem_cons hlt
      rw [hd] at hall hn1 hn2
      have hcell : wr.cell? ⟨gu, t, none⟩ = some (.string (Wd.bs parts[t])) := by
        rcases hus with ⟨h, _⟩ | ⟨g', c', e, _, _, hc⟩
        · cases h
        · injection e with e1
          injection e1 with e1
          injection e1 with e1
          subst e1
          exact hc t hlt
      have HTH := Lib.hid hth
      have HUS := Lib.hid hus
      have HUF := Lib.hid huf
      have HALL := Lib.hid hall
      have HN : Hid (q.need.length + (parts[t].length + Wd.tot (parts.drop (t + 1))) ≤ s.size ∧ q.neg.length + (parts[t].length + Wd.tot (parts.drop (t + 1))) ≤ s.size ∧ q.phr.length ≤ t) := Lib.hid ⟨hn1, hn2, hn3⟩
      clear hth hus huf hall hn1 hn2 hn3 HO hd
      generalize hX : parts[t] = X at *
      clear hX
      have HXL : Hid (X.length ≤ 50000) := Lib.hid (by have := HN.out.1; omega)
      have HSPL : Hid (∀ W, Calls Tryd.prog 28 #[.string (Wd.bs X)] W (SplitOut (Wd.bs X) W)) := Lib.hid (fun W => split_any (Wd.bs X) W (by rw [Wd.bs_size]; have := HXL.out; omega))
      have HLOW : Hid (∀ W, Calls Tryd.prog 38 #[.string (Wd.bs X)] W fun e w' => e = .returned (.string (Wd.bs (Wd.lower X))) ∧ Below W.heap.size W w') := Lib.hid (fun W => lower_any (Wd.bs X) W (by rw [Wd.bs_size]; have := HXL.out; omega))
      have HWL : Hid ((Wd.words X).length ≤ X.length) := Lib.hid (Wd.words_len X)
      have HWE : Hid (∀ m (h : m < (Wd.words X).length), ((Wd.words X)[m].1).length ≤ 1000000) := Lib.hid (fun m h => Nat.le_trans (Wd.wordsG_each X [] false false X.length (by simp) _ (List.getElem_mem h)) (by have := HXL.out; omega))
      have HPHR : Hid (Lib.trimS (Wd.lower X) Wd.blanks = Wd.phraseOf X) := Lib.hid (Wd.lower_trm X).symm
      have HBL : Hid ((Wd.bs (Wd.lower X)).size ≤ 50000) := Lib.hid (by rw [Wd.bs_size, Wd.lower_length]; exact HXL.out)
      have HINS : Hid (q.inside X = { need := q.need ++ Wd.stemsOf (Wd.tokens X), phr := if Wd.phraseOf X = [] ∨ Wd.phraseOf X ∈ q.phr then q.phr else q.phr ++ [Wd.phraseOf X], neg := q.neg }) := Lib.hid rfl
      have HOUT : Hid (q.outside X = { need := q.need ++ Wd.stemsOf (Wd.yesOf (Wd.words X)), phr := q.phr, neg := q.neg ++ Wd.stemsOf (Wd.noOf (Wd.words X)) }) := Lib.hid rfl
      have HTK : Hid (Wd.tokens X = (Wd.words X).map (·.1)) := Lib.hid rfl
      have HSO : ∀ W, Hid (SplitOut (Wd.bs X) W = fun e w' => ∃ v, e = .returned v ∧ WL W w' v (Wd.words X)) := fun W => Lib.hid rfl
      generalize hbx : Wd.bs X = bx at *
      clear hbx
      generalize Wd.words X = ws at *
      cases hib : Wd.inB t with
      | true =>
        have hpar : ((t : Int) % 2 == 1) = true := by unfold Wd.inB at hib; rw [beq_iff_eq] at hib ⊢; omega
        rw [hib] at HALL
        have HNX : Hid (Wd.inB (t + 1) = false) := Lib.hid (by rw [Wd.inB_succ, hib]; rfl)
        clear hib
        go_wp2_with fail
        refine (HSPL.out _).mono ?_
        rw [(HSO _).out]
        rintro e w2 ⟨v, rfl, hv⟩
        have hvr := hv.reads
        have HIN0 : Hid (In w w2 u5 u6 u7 (.slice (some ⟨gu, 0, none⟩) parts.length cu) v (q.need ++ Wd.stemsOf ((ws.take 0).map (·.1))) q.phr q.neg parts ws) := Lib.hid (by
          have h0 : Wd.stemsOf [] = [] := rfl
          simp only [List.take_zero, List.map_nil, Wd.yesOf, Wd.noOf, List.filter_nil, h0, List.append_nil]
          exact ⟨HTH.out.keep hv.below, HUS.out.keep hv.below, HUF.out, hvr, ⟨apart_later (own_ge hv.own) HTH.out.sa.own, apart_later (own_ge hv.own) HTH.out.sp.own, apart_later (own_ge hv.own) HTH.out.sb.own⟩⟩)
        clear hv HTH HUS HUF HSPL
        have hwl := HWL.out
        have hxl := HXL.out
        rcases hvr with ⟨rfl, rfl⟩ | ⟨gv, cv, rfl, hgv, hcv⟩
        · go_wp2_with fail
          go_loop [5, 7, 28] (fun a b i => i = .int .i64 0 ∧ In w w2 a u6 b (.slice (some ⟨gu, 0, none⟩) parts.length cu) (.slice none 0 0) (q.need ++ Wd.stemsOf ((([] : List (Wd.Str × Bool))).map (·.1))) q.phr q.neg parts []) (fun _ _ _ => 0)
          case atStart => exact ⟨rfl, HIN0.out⟩
          case round =>
            obtain ⟨rfl, hine⟩ := hrel
            have HINE := Lib.hid hine
            clear hine HIN0
            go_wp2_with fail
            refine (HLOW.out _).mono ?_
            rintro e w4 ⟨rfl, hb4⟩
            have HIN4 := Lib.hid (HINE.out.keep hb4)
            clear hb4 HINE
            go_wp2_with fail
            refine (trim_any _ _ HBL.out).mono ?_
            rintro e w5 ⟨rfl, hb5⟩
            have hlw : (Wd.bs (Wd.lower X)).data.toList = Wd.lower X := rfl
            rw [hlw, HPHR.out]
            have HIN5 := Lib.hid (HIN4.out.keep hb5)
            clear hb5 HIN4 hlw
            have HAS : Hid (∀ W, StrsAt W u6 q.phr → Calls Tryd.prog 39 #[u6, .string (Wd.bs (Wd.phraseOf X))] W fun e w' => e = .returned (.bool (Wd.has q.phr (Wd.phraseOf X))) ∧ W = w') := Lib.hid (fun W h => contains_any u6 q.phr (Wd.bs (Wd.phraseOf X)) W h (by have := HN.out.2.2; omega))
            by_cases hp0 : Wd.phraseOf X = []
            · have HFIN : Hid (q.inside X = { q with need := q.need ++ Wd.stemsOf (Wd.tokens X) }) := Lib.hid (by rw [HINS.out, if_pos (.inl hp0)])
              rw [hp0]
              clear hp0 HAS
              have hem : (Wd.bs []).toList = [] := by rw [Lib.toList_data]; rfl
              have hem2 : (!(Wd.bs []).toList.isEmpty) = false := by rw [hem]; rfl
              go_wp2_with fail
              go_roundw
              case rel =>
                have hq : (q.inside X).all (Wd.inB (t + 1)) (parts.drop (t + 1)) = goal := by rw [HNX.out]; exact HALL.out
                rw [HFIN.out, HTK.out] at hq
                exact ⟨t + 1, by omega, by go_num, Out.of_in HIN5.out hq (by have h1 := Wd.stemsOf_len (([] : List (Wd.Str × Bool)).map (·.1)); have h2 := HN.out.1; have h3 : (([] : List (Wd.Str × Bool)).map (·.1)).length = ([] : List (Wd.Str × Bool)).length := List.length_map ..; have h4 := HWL.out; simp only [List.length_append]; omega) (by have h2 := HN.out.2.1; show q.neg.length + _ ≤ _; omega) (by have h2 := HN.out.2.2; show q.phr.length ≤ _; omega)⟩
              case measure => simp [intOf] <;> omega
            · have hem : (Wd.bs (Wd.phraseOf X)).toList.isEmpty = false := by rw [Lib.toList_data]; show (Wd.phraseOf X).isEmpty = false; cases h : Wd.phraseOf X with | nil => exact absurd h hp0 | cons _ _ => rfl
              cases hh : Wd.has q.phr (Wd.phraseOf X)
              case true =>
                have HFIN : Hid (q.inside X = { q with need := q.need ++ Wd.stemsOf (Wd.tokens X) }) := Lib.hid (by rw [HINS.out, if_pos (.inr (Wd.has_iff.1 hh))])
                rw [hh] at HAS
                clear hh hp0
                generalize Wd.bs (Wd.phraseOf X) = ph at *
                go_wp2_with fail
                refine (HAS.out _ HIN5.out.th.sp.reads).mono ?_
                rintro e w6 ⟨rfl, rfl⟩
                go_wp2_with fail
                go_roundw
                case rel =>
                  have hq : (q.inside X).all (Wd.inB (t + 1)) (parts.drop (t + 1)) = goal := by rw [HNX.out]; exact HALL.out
                  rw [HFIN.out, HTK.out] at hq
                  exact ⟨t + 1, by omega, by go_num, Out.of_in HIN5.out hq (by have h1 := Wd.stemsOf_len (([] : List (Wd.Str × Bool)).map (·.1)); have h2 := HN.out.1; have h3 : (([] : List (Wd.Str × Bool)).map (·.1)).length = ([] : List (Wd.Str × Bool)).length := List.length_map ..; have h4 := HWL.out; simp only [List.length_append]; omega) (by have h2 := HN.out.2.1; show q.neg.length + _ ≤ _; omega) (by have h2 := HN.out.2.2; show q.phr.length ≤ _; omega)⟩
                case measure => simp [intOf] <;> omega
              case false =>
                have HFIN : Hid (q.inside X = { q with need := q.need ++ Wd.stemsOf (Wd.tokens X), phr := q.phr ++ [Wd.phraseOf X] }) := Lib.hid (by rw [HINS.out, if_neg (fun h => by rcases h with h | h; exact hp0 h; rw [Wd.has_iff.2 h] at hh; cases hh)])
                rw [hh] at HAS
                clear hh hp0
                have hz5 : w.heap.size ≤ w5.heap.size := HIN5.out.th.below.size
                have HLP : Hid (q.phr.length ≤ 1000000) := Lib.hid (by have := HN.out.2.2; omega)
                go_wp2_with fail
                refine (HAS.out _ HIN5.out.th.sp.reads).mono ?_
                rintro e w6 ⟨rfl, rfl⟩
                go_wp2_with (with_reducible refine wpList_app 60 62 w.heap.size u6 q.phr (Wd.phraseOf X) w5.heap.size _ _ _ _ _ (HIN5.out.th.sp.alloc _).own ?_ ?_)
                · exact ⟨rfl, rfl, by simp [go_sem], HLP.out, by simp; omega⟩
                rintro v' w7 hown7 hgrow7 hblk7
                have HIN7 := Lib.hid ((HIN5.out.keep ((Below.refl _ _).alloc (Nat.le_refl _) _)).stepP ⟨hgrow7, hblk7⟩ ((HIN5.out.th.sp.alloc _).grown hown7 hgrow7))
                clear hown7 hgrow7 hblk7 hz5
                go_wp2_with fail
                go_roundw
                case rel =>
                  have hq : (q.inside X).all (Wd.inB (t + 1)) (parts.drop (t + 1)) = goal := by rw [HNX.out]; exact HALL.out
                  rw [HFIN.out, HTK.out] at hq
                  exact ⟨t + 1, by omega, by go_num, Out.of_in HIN7.out hq (by have h1 := Wd.stemsOf_len (([] : List (Wd.Str × Bool)).map (·.1)); have h2 := HN.out.1; have h3 : (([] : List (Wd.Str × Bool)).map (·.1)).length = ([] : List (Wd.Str × Bool)).length := List.length_map ..; have h4 := HWL.out; simp only [List.length_append]; omega) (by have h2 := HN.out.2.1; show q.neg.length + _ ≤ _; omega) (by have h2 := HN.out.2.2; show (q.phr ++ [_]).length ≤ _; simp only [List.length_append, List.length_singleton]; omega)⟩
                case measure => simp [intOf] <;> omega
        · clear hgv hcv
          go_wp2_with fail
          go_loopw [5, 7, 28] (fun a b i wz => ∃ m : Nat, m ≤ ws.length ∧ i = .int .i64 m ∧ In w wz a u6 b (.slice (some ⟨gu, 0, none⟩) parts.length cu) (.slice (some ⟨gv, 0, none⟩) ws.length cv) (q.need ++ Wd.stemsOf ((ws.take m).map (·.1))) q.phr q.neg parts ws) (fun _ _ i _ => ws.length - (intOf i).toNat)
          case atStart => exact ⟨0, Nat.zero_le _, rfl, HIN0.out⟩
          case round =>
            obtain ⟨m, hm, rfl, hin⟩ := hrel
            have HIN := Lib.hid hin
            clear hin HIN0
            by_cases hmt : m < ws.length
            · obtain ⟨hc1, hc2⟩ := words_cells HIN.out.vs m hmt
              have HXE : Hid (ws[m].1.length ≤ 1000000) := Lib.hid (HWE.out m hmt)
              have HTA : Hid ((q.need ++ Wd.stemsOf ((ws.take (m + 1)).map (·.1))) = (q.need ++ Wd.stemsOf ((ws.take m).map (·.1))) ++ Wd.stemsOf [ws[m].1]) := Lib.hid (by rw [List.map_take, stemsOf_take ws m hmt, List.map_take, List.append_assoc])
              have HLA : Hid ((q.need ++ Wd.stemsOf ((ws.take m).map (·.1))).length ≤ 1000000) := Lib.hid (by have h1 := Wd.stemsOf_len ((ws.take m).map (·.1)); have h2 := HN.out.1; have h3 : ((ws.take m).map (·.1)).length ≤ ws.length := (by rw [List.length_map, List.length_take]; omega); simp only [List.length_append]; omega)
              cases hf : ws[m].2 with
              | false =>
                rw [hf] at hc2
                generalize q.need ++ Wd.stemsOf ((ws.take m).map (·.1)) = A at *
                clear hf
                generalize ws[m].1 = x at *
                go_wp2_with fail
                refine (addStem_any w u5 A (Wd.bs x) _ (HIN.out.keep ((Below.refl _ _).alloc (Nat.le_refl _) _)).th.sa HLA.out HXE.out).mono ?_
                rintro e w3 ⟨v', rfl, hs3, hg3⟩
                have HIN3 := Lib.hid ((HIN.out.keep ((Below.refl _ _).alloc (Nat.le_refl _) _)).stepA hg3 hs3)
                clear hs3 hg3
                go_wp2_with fail
                go_roundw
                case rel => exact ⟨m + 1, by omega, by go_num, by rw [HTA.out]; exact HIN3.out⟩
                case measure => simp [intOf] <;> omega
              | true =>
                rw [hf] at hc2
                generalize q.need ++ Wd.stemsOf ((ws.take m).map (·.1)) = A at *
                clear hf
                generalize ws[m].1 = x at *
                go_wp2_with fail
                refine (addStem_any w u5 A (Wd.bs x) _ (HIN.out.keep ((Below.refl _ _).alloc (Nat.le_refl _) _)).th.sa HLA.out HXE.out).mono ?_
                rintro e w3 ⟨v', rfl, hs3, hg3⟩
                have HIN3 := Lib.hid ((HIN.out.keep ((Below.refl _ _).alloc (Nat.le_refl _) _)).stepA hg3 hs3)
                clear hs3 hg3
                go_wp2_with fail
                go_roundw
                case rel => exact ⟨m + 1, by omega, by go_num, by rw [HTA.out]; exact HIN3.out⟩
                case measure => simp [intOf] <;> omega
            · obtain rfl : m = ws.length := by omega
              have HTT : Hid (ws.take ws.length = ws) := Lib.hid (List.take_of_length_le (Nat.le_refl _))
              have hine := HIN.out
              rw [HTT.out] at hine
              have HINE := Lib.hid hine
              clear hine HIN HTT
              go_wp2_with fail
              refine (HLOW.out _).mono ?_
              rintro e w4 ⟨rfl, hb4⟩
              have HIN4 := Lib.hid (HINE.out.keep hb4)
              clear hb4 HINE
              go_wp2_with fail
              refine (trim_any _ _ HBL.out).mono ?_
              rintro e w5 ⟨rfl, hb5⟩
              have hlw : (Wd.bs (Wd.lower X)).data.toList = Wd.lower X := rfl
              rw [hlw, HPHR.out]
              have HIN5 := Lib.hid (HIN4.out.keep hb5)
              clear hb5 HIN4 hlw
              have HAS : Hid (∀ W, StrsAt W u6 q.phr → Calls Tryd.prog 39 #[u6, .string (Wd.bs (Wd.phraseOf X))] W fun e w' => e = .returned (.bool (Wd.has q.phr (Wd.phraseOf X))) ∧ W = w') := Lib.hid (fun W h => contains_any u6 q.phr (Wd.bs (Wd.phraseOf X)) W h (by have := HN.out.2.2; omega))
              by_cases hp0 : Wd.phraseOf X = []
              · have HFIN : Hid (q.inside X = { q with need := q.need ++ Wd.stemsOf (Wd.tokens X) }) := Lib.hid (by rw [HINS.out, if_pos (.inl hp0)])
                rw [hp0]
                clear hp0 HAS
                have hem : (Wd.bs []).toList = [] := by rw [Lib.toList_data]; rfl
                have hem2 : (!(Wd.bs []).toList.isEmpty) = false := by rw [hem]; rfl
                go_wp2_with fail
                go_roundw
                case rel =>
                  have hq : (q.inside X).all (Wd.inB (t + 1)) (parts.drop (t + 1)) = goal := by rw [HNX.out]; exact HALL.out
                  rw [HFIN.out, HTK.out] at hq
                  exact ⟨t + 1, by omega, by go_num, Out.of_in HIN5.out hq (by have h1 := Wd.stemsOf_len (ws.map (·.1)); have h2 := HN.out.1; have h3 : (ws.map (·.1)).length = ws.length := List.length_map ..; have h4 := HWL.out; simp only [List.length_append]; omega) (by have h2 := HN.out.2.1; show q.neg.length + _ ≤ _; omega) (by have h2 := HN.out.2.2; show q.phr.length ≤ _; omega)⟩
                case measure => simp [intOf] <;> omega
              · have hem : (Wd.bs (Wd.phraseOf X)).toList.isEmpty = false := by rw [Lib.toList_data]; show (Wd.phraseOf X).isEmpty = false; cases h : Wd.phraseOf X with | nil => exact absurd h hp0 | cons _ _ => rfl
                cases hh : Wd.has q.phr (Wd.phraseOf X)
                case true =>
                  have HFIN : Hid (q.inside X = { q with need := q.need ++ Wd.stemsOf (Wd.tokens X) }) := Lib.hid (by rw [HINS.out, if_pos (.inr (Wd.has_iff.1 hh))])
                  rw [hh] at HAS
                  clear hh hp0
                  generalize Wd.bs (Wd.phraseOf X) = ph at *
                  go_wp2_with fail
                  refine (HAS.out _ HIN5.out.th.sp.reads).mono ?_
                  rintro e w6 ⟨rfl, rfl⟩
                  go_wp2_with fail
                  go_roundw
                  case rel =>
                    have hq : (q.inside X).all (Wd.inB (t + 1)) (parts.drop (t + 1)) = goal := by rw [HNX.out]; exact HALL.out
                    rw [HFIN.out, HTK.out] at hq
                    exact ⟨t + 1, by omega, by go_num, Out.of_in HIN5.out hq (by have h1 := Wd.stemsOf_len (ws.map (·.1)); have h2 := HN.out.1; have h3 : (ws.map (·.1)).length = ws.length := List.length_map ..; have h4 := HWL.out; simp only [List.length_append]; omega) (by have h2 := HN.out.2.1; show q.neg.length + _ ≤ _; omega) (by have h2 := HN.out.2.2; show q.phr.length ≤ _; omega)⟩
                  case measure => simp [intOf] <;> omega
                case false =>
                  have HFIN : Hid (q.inside X = { q with need := q.need ++ Wd.stemsOf (Wd.tokens X), phr := q.phr ++ [Wd.phraseOf X] }) := Lib.hid (by rw [HINS.out, if_neg (fun h => by rcases h with h | h; exact hp0 h; rw [Wd.has_iff.2 h] at hh; cases hh)])
                  rw [hh] at HAS
                  clear hh hp0
                  have hz5 : w.heap.size ≤ w5.heap.size := HIN5.out.th.below.size
                  have HLP : Hid (q.phr.length ≤ 1000000) := Lib.hid (by have := HN.out.2.2; omega)
                  go_wp2_with fail
                  refine (HAS.out _ HIN5.out.th.sp.reads).mono ?_
                  rintro e w6 ⟨rfl, rfl⟩
                  go_wp2_with (with_reducible refine wpList_app 60 62 w.heap.size u6 q.phr (Wd.phraseOf X) w5.heap.size _ _ _ _ _ (HIN5.out.th.sp.alloc _).own ?_ ?_)
                  · exact ⟨rfl, rfl, by simp [go_sem], HLP.out, by simp; omega⟩
                  rintro v' w7 hown7 hgrow7 hblk7
                  have HIN7 := Lib.hid ((HIN5.out.keep ((Below.refl _ _).alloc (Nat.le_refl _) _)).stepP ⟨hgrow7, hblk7⟩ ((HIN5.out.th.sp.alloc _).grown hown7 hgrow7))
                  clear hown7 hgrow7 hblk7 hz5
                  go_wp2_with fail
                  go_roundw
                  case rel =>
                    have hq : (q.inside X).all (Wd.inB (t + 1)) (parts.drop (t + 1)) = goal := by rw [HNX.out]; exact HALL.out
                    rw [HFIN.out, HTK.out] at hq
                    exact ⟨t + 1, by omega, by go_num, Out.of_in HIN7.out hq (by have h1 := Wd.stemsOf_len (ws.map (·.1)); have h2 := HN.out.1; have h3 : (ws.map (·.1)).length = ws.length := List.length_map ..; have h4 := HWL.out; simp only [List.length_append]; omega) (by have h2 := HN.out.2.1; show q.neg.length + _ ≤ _; omega) (by have h2 := HN.out.2.2; show (q.phr ++ [_]).length ≤ _; simp only [List.length_append, List.length_singleton]; omega)⟩
                  case measure => simp [intOf] <;> omega
      | false =>
        have hpar : ((t : Int) % 2 == 1) = false := by unfold Wd.inB at hib; rw [beq_eq_false_iff_ne] at hib ⊢; omega
        rw [hib] at HALL
        have HNX : Hid (Wd.inB (t + 1) = true) := Lib.hid (by rw [Wd.inB_succ, hib]; rfl)
        clear hib
        go_wp2_with fail
        refine (HSPL.out _).mono ?_
        rw [(HSO _).out]
        rintro e w2 ⟨v, rfl, hv⟩
        have hvr := hv.reads
        have HIN0 : Hid (In w w2 u5 u6 u7 (.slice (some ⟨gu, 0, none⟩) parts.length cu) v (q.need ++ Wd.stemsOf (Wd.yesOf (ws.take 0))) q.phr (q.neg ++ Wd.stemsOf (Wd.noOf (ws.take 0))) parts ws) := Lib.hid (by
          have h0 : Wd.stemsOf [] = [] := rfl
          simp only [List.take_zero, List.map_nil, Wd.yesOf, Wd.noOf, List.filter_nil, h0, List.append_nil]
          exact ⟨HTH.out.keep hv.below, HUS.out.keep hv.below, HUF.out, hvr, ⟨apart_later (own_ge hv.own) HTH.out.sa.own, apart_later (own_ge hv.own) HTH.out.sp.own, apart_later (own_ge hv.own) HTH.out.sb.own⟩⟩)
        clear hv HTH HUS HUF HSPL
        have hwl := HWL.out
        have hxl := HXL.out
        rcases hvr with ⟨rfl, rfl⟩ | ⟨gv, cv, rfl, hgv, hcv⟩
        · go_wp2_with fail
          go_loop [5, 7, 28] (fun a b i => i = .int .i64 0 ∧ In w w2 a u6 b (.slice (some ⟨gu, 0, none⟩) parts.length cu) (.slice none 0 0) (q.need ++ Wd.stemsOf (Wd.yesOf (([] : List (Wd.Str × Bool))))) q.phr (q.neg ++ Wd.stemsOf (Wd.noOf (([] : List (Wd.Str × Bool))))) parts []) (fun _ _ _ => 0)
          case atStart => exact ⟨rfl, HIN0.out⟩
          case round =>
            obtain ⟨rfl, hine⟩ := hrel
            have HINE := Lib.hid hine
            clear hine HIN0
            go_wp2_with fail
            go_roundw
            case rel =>
              have hq : (q.outside X).all (Wd.inB (t + 1)) (parts.drop (t + 1)) = goal := by rw [HNX.out]; exact HALL.out
              rw [HOUT.out] at hq
              exact ⟨t + 1, by omega, by go_num, Out.of_in HINE.out hq (by have h1 := Wd.stemsOf_len (Wd.yesOf ([] : List (Wd.Str × Bool))); have h2 := HN.out.1; have h3 := Wd.yesOf_len ([] : List (Wd.Str × Bool)); have h4 := HWL.out; simp only [List.length_append]; omega) (by have h1 := Wd.stemsOf_len (Wd.noOf ([] : List (Wd.Str × Bool))); have h2 := HN.out.2.1; have h3 := Wd.noOf_len ([] : List (Wd.Str × Bool)); have h4 := HWL.out; simp only [List.length_append]; omega) (by have h2 := HN.out.2.2; show q.phr.length ≤ _; omega)⟩
            case measure => simp [intOf] <;> omega
        · clear hgv hcv
          go_wp2_with fail
          go_loopw [5, 7, 28] (fun a b i wz => ∃ m : Nat, m ≤ ws.length ∧ i = .int .i64 m ∧ In w wz a u6 b (.slice (some ⟨gu, 0, none⟩) parts.length cu) (.slice (some ⟨gv, 0, none⟩) ws.length cv) (q.need ++ Wd.stemsOf (Wd.yesOf (ws.take m))) q.phr (q.neg ++ Wd.stemsOf (Wd.noOf (ws.take m))) parts ws) (fun _ _ i _ => ws.length - (intOf i).toNat)
          case atStart => exact ⟨0, Nat.zero_le _, rfl, HIN0.out⟩
          case round =>
            obtain ⟨m, hm, rfl, hin⟩ := hrel
            have HIN := Lib.hid hin
            clear hin HIN0
            by_cases hmt : m < ws.length
            · obtain ⟨hc1, hc2⟩ := words_cells HIN.out.vs m hmt
              have HXE : Hid (ws[m].1.length ≤ 1000000) := Lib.hid (HWE.out m hmt)
              have HTA0 := Wd.yesOf_take ws m hmt
              have HTB0 := Wd.noOf_take ws m hmt
              have HLA : Hid ((q.need ++ Wd.stemsOf (Wd.yesOf (ws.take m))).length ≤ 1000000) := Lib.hid (by have h1 := Wd.stemsOf_len (Wd.yesOf (ws.take m)); have h2 := HN.out.1; have h3 := Wd.yesOf_len (ws.take m); rw [List.length_take] at h3; simp only [List.length_append]; omega)
              have HLB : Hid ((q.neg ++ Wd.stemsOf (Wd.noOf (ws.take m))).length ≤ 1000000) := Lib.hid (by have h1 := Wd.stemsOf_len (Wd.noOf (ws.take m)); have h2 := HN.out.2.1; have h3 := Wd.noOf_len (ws.take m); rw [List.length_take] at h3; simp only [List.length_append]; omega)
              cases hf : ws[m].2 with
              | false =>
                rw [hf] at hc2 HTA0 HTB0
                rw [if_neg (by simp)] at HTA0 HTB0
                have HTA : Hid ((q.need ++ Wd.stemsOf (Wd.yesOf (ws.take (m + 1)))) = (q.need ++ Wd.stemsOf (Wd.yesOf (ws.take m))) ++ Wd.stemsOf [ws[m].1]) := Lib.hid (by rw [HTA0, Wd.stemsOf_append, List.append_assoc])
                have HTB : Hid ((q.neg ++ Wd.stemsOf (Wd.noOf (ws.take (m + 1)))) = (q.neg ++ Wd.stemsOf (Wd.noOf (ws.take m)))) := Lib.hid (by rw [HTB0, List.append_nil])
                clear HTA0 HTB0
                generalize q.neg ++ Wd.stemsOf (Wd.noOf (ws.take m)) = B at *
                generalize q.need ++ Wd.stemsOf (Wd.yesOf (ws.take m)) = A at *
                clear hf
                generalize ws[m].1 = x at *
                go_wp2_with fail
                refine (addStem_any w u5 A (Wd.bs x) _ (HIN.out.keep ((Below.refl _ _).alloc (Nat.le_refl _) _)).th.sa HLA.out HXE.out).mono ?_
                rintro e w3 ⟨v', rfl, hs3, hg3⟩
                have HIN3 := Lib.hid ((HIN.out.keep ((Below.refl _ _).alloc (Nat.le_refl _) _)).stepA hg3 hs3)
                clear hs3 hg3
                go_wp2_with fail
                go_roundw
                case rel => exact ⟨m + 1, by omega, by go_num, by rw [HTA.out, HTB.out]; exact HIN3.out⟩
                case measure => simp [intOf] <;> omega
              | true =>
                rw [hf] at hc2 HTA0 HTB0
                rw [if_pos rfl] at HTA0 HTB0
                have HTA : Hid ((q.need ++ Wd.stemsOf (Wd.yesOf (ws.take (m + 1)))) = (q.need ++ Wd.stemsOf (Wd.yesOf (ws.take m)))) := Lib.hid (by rw [HTA0, List.append_nil])
                have HTB : Hid ((q.neg ++ Wd.stemsOf (Wd.noOf (ws.take (m + 1)))) = (q.neg ++ Wd.stemsOf (Wd.noOf (ws.take m))) ++ Wd.stemsOf [ws[m].1]) := Lib.hid (by rw [HTB0, Wd.stemsOf_append, List.append_assoc])
                clear HTA0 HTB0
                generalize q.neg ++ Wd.stemsOf (Wd.noOf (ws.take m)) = B at *
                generalize q.need ++ Wd.stemsOf (Wd.yesOf (ws.take m)) = A at *
                clear hf
                generalize ws[m].1 = x at *
                go_wp2_with fail
                refine (addStem_any w u7 B (Wd.bs x) _ (HIN.out.keep ((Below.refl _ _).alloc (Nat.le_refl _) _)).th.sb HLB.out HXE.out).mono ?_
                rintro e w3 ⟨v', rfl, hs3, hg3⟩
                have HIN3 := Lib.hid ((HIN.out.keep ((Below.refl _ _).alloc (Nat.le_refl _) _)).stepB hg3 hs3)
                clear hs3 hg3
                go_wp2_with fail
                go_roundw
                case rel => exact ⟨m + 1, by omega, by go_num, by rw [HTA.out, HTB.out]; exact HIN3.out⟩
                case measure => simp [intOf] <;> omega
            · obtain rfl : m = ws.length := by omega
              have HTT : Hid (ws.take ws.length = ws) := Lib.hid (List.take_of_length_le (Nat.le_refl _))
              have hine := HIN.out
              rw [HTT.out] at hine
              have HINE := Lib.hid hine
              clear hine HIN HTT
              go_wp2_with fail
              go_roundw
              case rel =>
                have hq : (q.outside X).all (Wd.inB (t + 1)) (parts.drop (t + 1)) = goal := by rw [HNX.out]; exact HALL.out
                rw [HOUT.out] at hq
                exact ⟨t + 1, by omega, by go_num, Out.of_in HINE.out hq (by have h1 := Wd.stemsOf_len (Wd.yesOf ws); have h2 := HN.out.1; have h3 := Wd.yesOf_len ws; have h4 := HWL.out; simp only [List.length_append]; omega) (by have h1 := Wd.stemsOf_len (Wd.noOf ws); have h2 := HN.out.2.1; have h3 := Wd.noOf_len ws; have h4 := HWL.out; simp only [List.length_append]; omega) (by have h2 := HN.out.2.2; show q.phr.length ≤ _; omega)⟩
              case measure => simp [intOf] <;> omega
    · obtain rfl : t = parts.length := by omega
      obtain ⟨q, hth, _, _, hall, hn1, hn2, hn3⟩ := HO.out
      have hdn : parts.drop parts.length = [] := List.drop_length
      rw [hdn] at hall
      obtain rfl : q = goal := by rw [← hall]; cases Wd.inB parts.length <;> rfl
      have HTH := Lib.hid hth
      have HNL : Hid (q.need.length ≤ 1000000 ∧ q.neg.length ≤ 1000000) := Lib.hid ⟨by omega, by omega⟩
      clear hth hall hn1 hn2 hn3 HO hdn
      go_wp2_with fail
      refine (distinct_any w u5 q.need _ HTH.out.sa HNL.out.1).mono ?_
      rintro e w2 ⟨a2, rfl, hs2, hg2⟩
      have HTH2 := Lib.hid (HTH.out.stepA hg2 hs2)
      clear hs2 hg2
      go_wp2_with fail
      refine (distinct_any w u7 q.neg _ HTH2.out.sb HNL.out.2).mono ?_
      rintro e w3 ⟨b3, rfl, hs3, hg3⟩
      have HTH3 := Lib.hid (HTH2.out.stepB hg3 hs3)
      clear hs3 hg3
      go_wp2_with fail
      go_ret3
      exact ⟨_, _, _, rfl, HTH3.out.sa.reads, HTH3.out.sp.reads, HTH3.out.sb.reads, HTH3.out.below⟩
end Go.Proofs.YtjedhlgflocjoaaDoor
