/- Mvcc: the law Script. -/
import Derived.Test.YtaecppkkbdbdbaaMv52
import Derived.Deep.RegionHeld3
namespace Go.Proofs.Ytaecppkkbdbdbaa
open Go.ChangeShapes Go.WideShapes Go.ChangeAt Go.RowKit Go.Deep Go.ChangeMaps Go.Shelf Go.Sort
set_option linter.unusedVariables false
set_option linter.unusedSimpArgs false
/-- the state of the script -/
structure ST (B bt N S m : Nat) (E : List En) (clock : Nat) (A : Bs → List Ver) (tv : Value) (Z : List Itm) (W0 wr : World) : Prop where
  wk : Wk B S m E clock A N W0 wr
  rb : RB bt tv Z wr
  rep : Rep Z A
  del : DelA A
  hbt : B ≤ bt
theorem ST.below {B bt N S m clock : Nat} {E : List En} {A : Bs → List Ver} {tv : Value} {Z : List Itm} {W0 wr w2 : World} (h : ST B bt N S m E clock A tv Z W0 wr) (hb : Below wr.heap.size wr w2) : ST B bt N S m E clock A tv Z W0 w2 :=
  ⟨h.wk.below hb, h.rb.below hb, h.rep, h.del, h.hbt⟩
theorem ST.more {B bt N S m clock : Nat} {E : List En} {A : Bs → List Ver} {tv : Value} {Z : List Itm} {W0 wr : World} (h : ST B bt N S m E clock A tv Z W0 wr) : ST B bt (N + 1) S m E clock A tv Z W0 wr :=
  ⟨⟨h.wk.sto, h.wk.lk, Nat.le_trans h.wk.tot (Nat.le_succ _), h.wk.low, h.wk.bw⟩, h.rb, h.rep, h.del, h.hbt⟩
theorem ST.look {B bt N S m clock : Nat} {E : List En} {A : Bs → List Ver} {tv : Value} {Z : List Itm} {W0 wr : World} (h : ST B bt N S m E clock A tv Z W0 wr) (k : Bs) : lookZ Z k = A k := h.rep.look k
theorem ST.cnt {B bt N S m clock : Nat} {E : List En} {A : Bs → List Ver} {tv : Value} {Z : List Itm} {W0 wr : World} (h : ST B bt N S m E clock A tv Z W0 wr) (f : List Ver → Nat) : cntL f Z = (E.map fun e => f e.vs).sum :=
  Rep.cnt h.wk.sto.gd (by rw [h.wk.lk]; exact h.rep) f
theorem sum_le2 {α : Type} (f g : α → Nat) (h : ∀ x, f x ≤ g x) : ∀ l : List α, (l.map f).sum ≤ (l.map g).sum
  | [] => Nat.le_refl _
  | a :: l => by
    simp only [List.map_cons, List.sum_cons]
    have := sum_le2 f g h l
    have := h a
    omega
theorem ST.cntLe {B bt N S m clock : Nat} {E : List En} {A : Bs → List Ver} {tv : Value} {Z : List Itm} {W0 wr : World} (h : ST B bt N S m E clock A tv Z W0 wr) (f : List Ver → Nat) (hf : ∀ L, f L ≤ L.length) : cntL f Z ≤ N := by
  rw [h.cnt f]
  exact Nat.le_trans (sum_le2 _ _ (fun e => hf e.vs) E) h.wk.tot
theorem ST.sizes {B bt N S m clock : Nat} {E : List En} {A : Bs → List Ver} {tv : Value} {Z : List Itm} {W0 wr : World} (h : ST B bt N S m E clock A tv Z W0 wr) : Z.length ≤ N ∧ (∀ k, (lookZ Z k).length ≤ N ∧ Asc (lookZ Z k) ∧ DelOk (lookZ Z k)) ∧ ∀ z ∈ Z, Asc z.vs ∧ DelOk z.vs ∧ z.vs.length ≤ N := by
  refine ⟨(h.rep.good h.wk).1, fun k => ?_, fun z hz => ?_⟩
  · rw [h.look]
    exact ⟨(h.wk.good k).2, (h.wk.good k).1, h.del k⟩
  · refine ⟨((h.rep.good h.wk).2 z hz).1, ?_, ((h.rep.good h.wk).2 z hz).2⟩
    rw [h.rep.mem hz]
    exact h.del z.key
/-- a write that both take -/
theorem ST.wrote {B bt N S m clock clock' : Nat} {E E' : List En} {A A' : Bs → List Ver} {tv v' : Value} {Z Z' : List Itm} {W0 wr W8 : World} (h : ST B bt N S m E clock A tv Z W0 wr) (hw : Wk B S m E' clock' A' (N + 1) W0 W8) (hrb : RB bt tv Z W8) (hr : RIt W8 v' Z') (hrep : Rep Z' A') (hdel : DelA A') :
    ST B bt (N + 1) S m E' clock' A' v' Z' W0 (W8.setCell ⟨bt, 0, none⟩ v') ∧ W8.cell? ⟨bt, 0, none⟩ = some tv ∧ W8.frozen? ⟨bt, 0, none⟩ = false :=
  ⟨⟨hw.setBox hrb.box h.hbt v', hrb.set hr, hrep, hdel, h.hbt⟩, hrb.box.cell, hrb.box.frozen⟩
set_option maxRecDepth 100000 in
set_option maxHeartbeats 12800000 in
theorem law_script (v : Value) (l : List Opv) (W : World) (h : OpsArg W v l) :
    Calls Try.prog 3 #[v] W (AwakeOut W) := by
  obtain ⟨a0, cc0, rfl, h'⟩ := h
  have HH : Hid (OpsArg W (.slice a0 l.length cc0) l) := Lib.hid ⟨a0, cc0, rfl, h'⟩
  clear h'
  by_cases h60 : 60 < l.length
  · go_enter Try.func3, Try.ntmps3
    go_wp2_with fail
    refine (awake_any W).mono ?_
    rintro e W9 ⟨rfl, hb⟩
    have HB9 := Lib.hid hb
    clear hb
    go_wp2_with fail
    go_ret
    exact ⟨rfl, HB9.out⟩
  · obtain ⟨n, hn⟩ : ∃ n, n = l.length := ⟨_, rfl⟩
    have HN := Lib.hid hn
    rw [← hn] at h60 HH ⊢
    clear hn
    have hn60 : n ≤ 60 := by omega
    clear h60
    have hd1 : decide (60 < (n : Int)) = false := decide_eq_false (by omega)
    go_enter Try.func3, Try.ntmps3
    go_wp2_with fail
    refine (new_any W).mono ?_
    rintro e W1 ⟨rfl, hs1, hb1⟩
    obtain ⟨B, hB⟩ : ∃ B, B = W.heap.size := ⟨_, rfl⟩
    have H1 : Hid (Wk B (B + 1) B [] 0 noA 0 W W1) := Lib.hid (by
      rw [hB]
      exact ⟨hs1, rfl, Nat.zero_le _, hb1, hb1.size⟩)
    have HBB := Lib.hid hB
    rw [← hB]
    clear hs1 hb1 hB
    go_wp2_with fail
    refine (new_ref W1).mono ?_
    rintro e W2 ⟨rfl, hb⟩
    have H2 := Lib.hid (H1.out.below hb)
    clear hb H1
    have hal := (Below.refl W2.heap.size W2).alloc (Nat.le_refl _) (.cells #[.slice none 0 0] 28)
    have HS0 : Hid (ST B W2.heap.size 0 (B + 1) B [] 0 noA (.slice none 0 0) [] W (W2.alloc (.cells #[.slice none 0 0] 28))) := Lib.hid
      ⟨H2.out.below hal, ⟨⟨RR.nil _ _, fun z hz => (by cases hz)⟩, Boxed.new _ _ _⟩, Rep.nil, DelA.nil, H2.out.bw⟩
    clear hal H2
    go_wp2_with fail
    obtain ⟨bt, hbt⟩ : ∃ bt, bt = W2.heap.size := ⟨_, rfl⟩
    rw [← hbt] at HS0 ⊢
    generalize W2.alloc (.cells #[.slice none 0 0] 28) = W3 at *
    clear hbt
    go_loopw [3, 26] (fun sv i wr => ∃ (j S m : Nat) (E : List En) (clock : Nat) (A : Bs → List Ver) (tv : Value) (Z : List Itm), sv = .pointer (some ⟨S, 0, none⟩) ∧ i = .int .i64 j ∧ j ≤ n ∧ Hid (ST B bt j S m E clock A tv Z W wr)) (fun _ i _ => n - iv i)
    case atStart => exact ⟨0, _, _, _, _, _, _, _, rfl, rfl, Nat.zero_le _, HS0⟩
    case round =>
      clear HS0
      obtain ⟨j, S, m, E, clock, A, tv, Z, rfl, rfl, hj, HS⟩ := hrel
      by_cases hlast : j = n
      · subst hlast
        obtain ⟨ta, tc, htv, _⟩ := id HS.out.rb.it.1
        obtain ⟨tn, htn⟩ : ∃ tn, tn = Z.length := ⟨_, rfl⟩
        rw [← htn] at htv
        subst htv
        have HTN := Lib.hid htn
        clear htn
        have HSZ := Lib.hid (show Z.length ≤ 60 ∧ cntL List.length Z ≤ 60 from ⟨by have := HS.out.sizes.1; omega, by have := HS.out.cntLe List.length (fun _ => Nat.le_refl _); omega⟩)
        have HALL := Lib.hid (show allZ Z = vw E from Rep.all HS.out.wk.sto.gd (by rw [HS.out.wk.lk]; exact HS.out.rep))
        go_wp2_with fail
        obtain ⟨FF, hFF⟩ : ∃ FF : World → Prop, FF = fun X => ST B bt (j) S m E clock A (.slice ta tn tc) Z W X := ⟨_, rfl⟩
        have fWk : ∀ X, FF X → Wk B S m E clock A (j) W X := by rw [hFF]; exact fun X h => h.wk
        have fIt : ∀ X, FF X → RIt X (.slice ta tn tc) Z := by rw [hFF]; exact fun X h => h.rb.it
        have fBe : ∀ X Y, FF X → Below X.heap.size X Y → FF Y := by rw [hFF]; exact fun X Y h hb => h.below hb
        have fCe : ∀ X, FF X → X.cell? ⟨bt, 0, none⟩ = some (.slice ta tn tc) := by rw [hFF]; exact fun X h => h.rb.box.cell
        have fw : FF wr := by rw [hFF]; exact HS.out
        have FST := Lib.hid (show ∀ X, FF X → ST B bt (j) S m E clock A (.slice ta tn tc) Z W X from by rw [hFF]; exact fun X h => h)
        clear hFF
        have fd : FF wr.drew := fBe _ _ fw ((Below.refl _ _).drew)
        have fcd := fCe _ fd
        have fSx : ∀ X, FF X → X.cell? ⟨bt, 0, none⟩ = some (.slice ta tn tc) ∧ FF X := fun X h => ⟨fCe X h, h⟩

        go_region_held3 (fun X => X.cell? ⟨bt, 0, none⟩ = some (.slice ta tn tc) ∧ FF X) (first | (refine ⟨?_, ?_⟩ <;> assumption) | (refine fSx _ ?_; assumption)) (first
          | (go_at_call 28; refine ((fWk _ (by assumption)).all (by omega)).mono ?_; rintro e w1 ⟨va, rfl, hra, hb⟩; have hf1 := fBe _ _ (by assumption) hb; have hc1 := fCe _ hf1)
          | (go_at_call 29; refine (all_ref _ Z _ (fIt _ (by assumption)) (by have := HSZ.out; omega) (by have := HSZ.out; omega)).mono ?_; rintro e w1 ⟨vb, rfl, hrb, hb⟩; rw [HALL.out] at hrb; have hra2 := hra.below hb; have hf1 := fBe _ _ (by assumption) hb; have hc1 := fCe _ hf1)
          | (go_at_call 27; refine (equalP_any _ _ (vw E) (vw E) _ hra2 (rowP_of hrb)).mono ?_; rintro e w1 ⟨he, hb⟩; rw [decide_eq_true rfl] at he; subst he; have hf1 := fBe _ _ (by assumption) hb; have hc1 := fCe _ hf1)
          | (go_at_call 9; refine (awake_any _).mono ?_; rintro e w1 ⟨rfl, hb⟩; have hf1 := fBe _ _ (by assumption) hb; have hc1 := fCe _ hf1))
        have HF := Lib.hid (FST.out _ hf1)
        clear fWk fIt fBe fCe fw FST fd fcd fSx hra2 hrb hra hc1 hf1
        go_wp2_with fail
        go_ret
        exact ⟨rfl, by rw [← HBB.out]; exact HF.out.wk.low⟩
      · have hjn : j < n := by omega
        have hjl : j < l.length := by rw [← HN.out]; exact hjn
        obtain ⟨g, o, hga, hg, hc⟩ := (show ∃ g o, a0 = some ⟨g, o, none⟩ ∧ g < W.heap.size ∧ ∀ j (hj : j < l.length), W.cell? ⟨g, o + j * 5, none⟩ = some (.int .i64 l[j].kind) ∧ W.cell? ⟨g, o + j * 5 + 1, none⟩ = some (.string l[j].key) ∧ W.cell? ⟨g, o + j * 5 + 2, none⟩ = some (.string l[j].value) ∧ W.cell? ⟨g, o + j * 5 + 3, none⟩ = some (.int .i64 l[j].stamp) ∧ W.cell? ⟨g, o + j * 5 + 4, none⟩ = some (.bool l[j].back) from by
          obtain ⟨a', c', e', hc⟩ := HH.out
          cases e'
          exact hc (by omega))
        subst hga
        have hmv : ∀ (k : Nat) (u : Value), W.cell? ⟨g, k, none⟩ = some u → wr.cell? ⟨g, k, none⟩ = some u := fun k u hu => (HS.out.wk.low.cell (p := ⟨g, k, none⟩) (by rw [HBB.out]; exact hg)).trans hu
        obtain ⟨k0, k1, k2, k3, k4⟩ := hc j hjl
        have q0 := hmv _ _ k0
        have q1 := hmv _ _ k1
        have q2 := hmv _ _ k2
        have q3 := hmv _ _ k3
        have q4 := hmv _ _ k4
        have hw1 : IntKind.i64.wrap ((j : Int) + 1) = ((j + 1 : Nat) : Int) := by rw [IntKind.wrap_i64]; omega
        have HFT := Lib.hid (show ∀ k, Foot S m E k → k < wr.heap.size from fun k hk => (HS.out.wk.sto.foot hk).2)
        clear hc k0 k1 k2 k3 k4 hmv hg hlast
        obtain ⟨ta, tc, htv, _⟩ := id HS.out.rb.it.1
        obtain ⟨tn, htn⟩ : ∃ tn, tn = Z.length := ⟨_, rfl⟩
        rw [← htn] at htv
        subst htv
        have HTN := Lib.hid htn
        clear htn
        generalize l[j] = x at *
        obtain ⟨xk, xa, xv, xs, xb⟩ := x
        have hal := (Below.refl wr.heap.size wr).alloc (Nat.le_refl _) (.cells #[.int .i64 xk, .string xa, .string xv, .int .i64 xs, .bool xb] 31)
        have HSJ := Lib.hid (HS.out.below hal)
        have HX6 := Lib.hid (Box.new wr [.int .i64 xk, .string xa, .string xv, .int .i64 xs, .bool xb] 31)
        have HSZ := Lib.hid (show Z.length ≤ 60 ∧ (∀ k, (lookZ Z k).length ≤ 60 ∧ Asc (lookZ Z k) ∧ DelOk (lookZ Z k)) ∧ ∀ z ∈ Z, Asc z.vs ∧ DelOk z.vs ∧ z.vs.length ≤ 60 from by
          obtain ⟨h1, h2, h3⟩ := HS.out.sizes
          exact ⟨by omega, fun k => ⟨by have := (h2 k).1; omega, (h2 k).2⟩, fun z hz => ⟨(h3 z hz).1, (h3 z hz).2.1, by have := (h3 z hz).2.2; omega⟩⟩)
        clear hal HS
        by_cases h1 : xk = 1
        · subst h1
          go_wp2_with fail
          generalize (wr.alloc (.cells #[.int .i64 1, .string xa, .string xv, .int .i64 xs, .bool xb] 31)) = W6 at *
          by_cases hok : okT (A xa) xs
          · have hstep : stepA A ⟨1, xa, xv, xs, false⟩ = addA A xa (xs, xv, false) := by unfold stepA; simp
            refine (HSJ.out.wk.put (by omega) xa xv xs 0 (if_pos hok)).mono ?_
            rintro e W7 ⟨rfl, E', c', hw7, ht7⟩
            have HOK := Lib.hid (And.intro hok hstep)
            clear hok hstep
            have hrb7 := HSJ.out.rb.turn HSJ.out.wk.sto ht7.2.2
            have hx7 := HX6.out.kept' ht7.2.2 (fun hf => by have := HFT.out _ hf; omega)
            have c0 := hrb7.box.cell
            have c1 := hx7.cell 1 _ rfl
            have c2 := hx7.cell 2 _ rfl
            have c3 := hx7.cell 3 _ rfl
            have HRB7 := Lib.hid hrb7
            have HW7 := Lib.hid hw7
            clear hrb7 hx7 hw7 ht7
            go_wp2_with fail
            refine (put_ref _ Z xa xv xs W7 HRB7.out.it (by have := HSZ.out.1; omega) (by have := (HSZ.out.2.1 xa).1; omega)).mono ?_
            rintro e W8 hP
            obtain ⟨v', Z', rfl, hr, ha, hb⟩ := (hP.resolve_left (fun h => h.1 (by rw [HSJ.out.look]; exact HOK.out.1))).2
            have hrep : Rep Z' (stepA A ⟨1, xa, xv, xs, false⟩) := by rw [HOK.out.2]; exact HSJ.out.rep.put HOK.out.1 ha
            obtain ⟨va, vc, hv', _⟩ := id hr.1
            obtain ⟨vn, hvn⟩ : ∃ vn, vn = Z'.length := ⟨_, rfl⟩
            rw [← hvn] at hv'
            subst hv'
            obtain ⟨hs9, d1, d2⟩ := HSJ.out.wrote (HW7.out.below hb) (HRB7.out.below hb) hr hrep (HSJ.out.del.step _)
            have HS9 := Lib.hid hs9
            clear hs9 hr hb hvn hP ha hrep c0 c1 c2 c3
            go_wp2_with fail
            go_roundw
            case rel => exact ⟨j + 1, S, m, E', c', _, _, Z', rfl, by first | rfl | (push_cast; rfl), hjn, HS9⟩
            case measure => show n - (((j + 1 : Nat) : Int).toNat) < n - ((j : Int)).toNat; omega
          · have hstep : stepA A ⟨1, xa, xv, xs, false⟩ = A := by unfold stepA; simp [addA, hok]
            refine (HSJ.out.wk.put (by omega) xa xv xs 1 (if_neg hok)).mono ?_
            rintro e W7 ⟨rfl, E', c', hw7, ht7⟩
            have HOK := Lib.hid (And.intro hok hstep)
            clear hok hstep
            have hrb7 := HSJ.out.rb.turn HSJ.out.wk.sto ht7.2.2
            have hx7 := HX6.out.kept' ht7.2.2 (fun hf => by have := HFT.out _ hf; omega)
            have c0 := hrb7.box.cell
            have c1 := hx7.cell 1 _ rfl
            have c2 := hx7.cell 2 _ rfl
            have c3 := hx7.cell 3 _ rfl
            have HRB7 := Lib.hid hrb7
            have HW7 := Lib.hid hw7
            clear hrb7 hx7 hw7 ht7
            go_wp2_with fail
            refine (put_ref _ Z xa xv xs W7 HRB7.out.it (by have := HSZ.out.1; omega) (by have := (HSZ.out.2.1 xa).1; omega)).mono ?_
            rintro e W8 hP
            obtain ⟨_, rfl, hb⟩ := hP.resolve_right (fun h => HOK.out.1 (by rw [← HSJ.out.look]; exact h.1))
            obtain ⟨Z', hZ'⟩ : ∃ Z', Z' = Z := ⟨_, rfl⟩
            have hr := HRB7.out.it.below hb
            rw [← hZ'] at hr
            have hrep : Rep Z' (stepA A ⟨1, xa, xv, xs, false⟩) := by rw [HOK.out.2, hZ']; exact HSJ.out.rep
            obtain ⟨hs9, d1, d2⟩ := HSJ.out.wrote (HW7.out.below hb) (HRB7.out.below hb) hr hrep (HSJ.out.del.step _)
            have HS9 := Lib.hid hs9
            clear hs9 hr hb hP hrep c0 c1 c2 c3
            go_wp2_with fail
            go_roundw
            case rel => exact ⟨j + 1, S, m, E', c', _, _, Z', rfl, by first | rfl | (push_cast; rfl), hjn, HS9⟩
            case measure => show n - (((j + 1 : Nat) : Int).toNat) < n - ((j : Int)).toNat; omega
        by_cases h2 : xk = 2
        · subst h2
          clear h1
          go_wp2_with fail
          generalize (wr.alloc (.cells #[.int .i64 2, .string xa, .string xv, .int .i64 xs, .bool xb] 31)) = W6 at *
          by_cases hok : okT (A xa) xs
          · have hstep : stepA A ⟨2, xa, ⟨#[]⟩, xs, false⟩ = addA A xa (xs, ⟨#[]⟩, true) := by unfold stepA; simp
            refine (HSJ.out.wk.del (by omega) xa xs 0 (if_pos hok)).mono ?_
            rintro e W7 ⟨rfl, E', c', hw7, ht7⟩
            have HOK := Lib.hid (And.intro hok hstep)
            clear hok hstep
            have hrb7 := HSJ.out.rb.turn HSJ.out.wk.sto ht7.2.2
            have hx7 := HX6.out.kept' ht7.2.2 (fun hf => by have := HFT.out _ hf; omega)
            have c0 := hrb7.box.cell
            have c1 := hx7.cell 1 _ rfl
            have c2 := hx7.cell 2 _ rfl
            have c3 := hx7.cell 3 _ rfl
            have HRB7 := Lib.hid hrb7
            have HW7 := Lib.hid hw7
            clear hrb7 hx7 hw7 ht7
            go_wp2_with fail
            refine (delete_ref _ Z xa xs W7 HRB7.out.it (by have := HSZ.out.1; omega) (by have := (HSZ.out.2.1 xa).1; omega)).mono ?_
            rintro e W8 hP
            obtain ⟨v', Z', rfl, hr, ha, hb⟩ := (hP.resolve_left (fun h => h.1 (by rw [HSJ.out.look]; exact HOK.out.1))).2
            have hrep : Rep Z' (stepA A ⟨2, xa, ⟨#[]⟩, xs, false⟩) := by rw [HOK.out.2]; exact HSJ.out.rep.put HOK.out.1 ha
            obtain ⟨va, vc, hv', _⟩ := id hr.1
            obtain ⟨vn, hvn⟩ : ∃ vn, vn = Z'.length := ⟨_, rfl⟩
            rw [← hvn] at hv'
            subst hv'
            obtain ⟨hs9, d1, d2⟩ := HSJ.out.wrote (HW7.out.below hb) (HRB7.out.below hb) hr hrep (HSJ.out.del.step _)
            have HS9 := Lib.hid hs9
            clear hs9 hr hb hvn hP ha hrep c0 c1 c2 c3
            go_wp2_with fail
            go_roundw
            case rel => exact ⟨j + 1, S, m, E', c', _, _, Z', rfl, by first | rfl | (push_cast; rfl), hjn, HS9⟩
            case measure => show n - (((j + 1 : Nat) : Int).toNat) < n - ((j : Int)).toNat; omega
          · have hstep : stepA A ⟨2, xa, ⟨#[]⟩, xs, false⟩ = A := by unfold stepA; simp [addA, hok]
            refine (HSJ.out.wk.del (by omega) xa xs 1 (if_neg hok)).mono ?_
            rintro e W7 ⟨rfl, E', c', hw7, ht7⟩
            have HOK := Lib.hid (And.intro hok hstep)
            clear hok hstep
            have hrb7 := HSJ.out.rb.turn HSJ.out.wk.sto ht7.2.2
            have hx7 := HX6.out.kept' ht7.2.2 (fun hf => by have := HFT.out _ hf; omega)
            have c0 := hrb7.box.cell
            have c1 := hx7.cell 1 _ rfl
            have c2 := hx7.cell 2 _ rfl
            have c3 := hx7.cell 3 _ rfl
            have HRB7 := Lib.hid hrb7
            have HW7 := Lib.hid hw7
            clear hrb7 hx7 hw7 ht7
            go_wp2_with fail
            refine (delete_ref _ Z xa xs W7 HRB7.out.it (by have := HSZ.out.1; omega) (by have := (HSZ.out.2.1 xa).1; omega)).mono ?_
            rintro e W8 hP
            obtain ⟨_, rfl, hb⟩ := hP.resolve_right (fun h => HOK.out.1 (by rw [← HSJ.out.look]; exact h.1))
            obtain ⟨Z', hZ'⟩ : ∃ Z', Z' = Z := ⟨_, rfl⟩
            have hr := HRB7.out.it.below hb
            rw [← hZ'] at hr
            have hrep : Rep Z' (stepA A ⟨2, xa, ⟨#[]⟩, xs, false⟩) := by rw [HOK.out.2, hZ']; exact HSJ.out.rep
            obtain ⟨hs9, d1, d2⟩ := HSJ.out.wrote (HW7.out.below hb) (HRB7.out.below hb) hr hrep (HSJ.out.del.step _)
            have HS9 := Lib.hid hs9
            clear hs9 hr hb hP hrep c0 c1 c2 c3
            go_wp2_with fail
            go_roundw
            case rel => exact ⟨j + 1, S, m, E', c', _, _, Z', rfl, by first | rfl | (push_cast; rfl), hjn, HS9⟩
            case measure => show n - (((j + 1 : Nat) : Int).toNat) < n - ((j : Int)).toNat; omega
        by_cases h5 : xk = 5
        · subst h5
          clear h1 h2
          go_wp2_with fail
          generalize (wr.alloc (.cells #[.int .i64 5, .string xa, .string xv, .int .i64 xs, .bool xb] 31)) = W6 at *
          have hstep : stepA A ⟨5, ⟨#[]⟩, ⟨#[]⟩, xs, false⟩ = fun k => rollF xs (A k) := by unfold stepA; simp
          refine (HSJ.out.wk.roll (by omega) xs).mono ?_
          rintro e W7 ⟨he, E', c', hw7, ht7⟩
          obtain ⟨p, hp⟩ : ∃ p, p = (E.map fun e => (fun L => L.length - upto L xs) e.vs).sum := ⟨_, rfl⟩
          have he2 : e = .returned (.int .i64 (p : Nat)) := by rw [he, hp]
          subst he2
          have HOK := Lib.hid (And.intro hstep (show cntL (fun L => L.length - upto L xs) Z = p by rw [hp]; exact HSJ.out.cnt _))
          clear hstep he hp
          have hrb7 := HSJ.out.rb.turn HSJ.out.wk.sto ht7.2.2
          have hx7 := HX6.out.kept' ht7.2.2 (fun hf => by have := HFT.out _ hf; omega)
          have c0 := hrb7.box.cell
          have c1 := hx7.cell 1 _ rfl
          have c2 := hx7.cell 2 _ rfl
          have c3 := hx7.cell 3 _ rfl
          have HRB7 := Lib.hid hrb7
          have HW7 := Lib.hid hw7
          clear hrb7 hx7 hw7 ht7
          go_wp2_with fail
          refine (roll_ref _ Z xs W7 HRB7.out.it (by have := HSZ.out.1; omega) (fun z hz => (HSZ.out.2.2 z hz).1) (fun z hz => by have := (HSZ.out.2.2 z hz).2.2; omega) (by have := HSJ.out.cntLe (fun L => L.length - upto L xs) (fun L => Nat.sub_le _ _); omega)).mono ?_
          rintro e W8 ⟨v', Z', he, hr, hkv, hb⟩
          rw [HOK.out.2] at he
          subst he
          have hrep : Rep Z' (stepA A ⟨5, ⟨#[]⟩, ⟨#[]⟩, xs, false⟩) := by rw [HOK.out.1]; exact HSJ.out.rep.sweep (roll_nil xs) hkv
          obtain ⟨va, vc, hv', _⟩ := id hr.1
          obtain ⟨vn, hvn⟩ : ∃ vn, vn = Z'.length := ⟨_, rfl⟩
          rw [← hvn] at hv'
          subst hv'
          obtain ⟨hs9, d1, d2⟩ := HSJ.out.wrote (HW7.out.below hb) (HRB7.out.below hb) hr hrep (HSJ.out.del.step _)
          have HS9 := Lib.hid hs9
          clear hs9 hr hb hvn hkv hrep c0 c1 c2 c3
          go_wp2_with fail
          go_roundw
          case rel => exact ⟨j + 1, S, m, E', c', _, _, Z', rfl, by first | rfl | (push_cast; rfl), hjn, HS9⟩
          case measure => show n - (((j + 1 : Nat) : Int).toNat) < n - ((j : Int)).toNat; omega
        by_cases h6 : xk = 6
        · subst h6
          clear h1 h2 h5
          go_wp2_with fail
          generalize (wr.alloc (.cells #[.int .i64 6, .string xa, .string xv, .int .i64 xs, .bool xb] 31)) = W6 at *
          have hstep : stepA A ⟨6, ⟨#[]⟩, ⟨#[]⟩, xs, false⟩ = fun k => pruneF xs (A k) := by unfold stepA; simp
          refine (HSJ.out.wk.prune (by omega) xs).mono ?_
          rintro e W7 ⟨he, E', c', hw7, ht7⟩
          obtain ⟨p, hp⟩ : ∃ p, p = (E.map fun e => (fun L => pn L xs) e.vs).sum := ⟨_, rfl⟩
          have he2 : e = .returned (.int .i64 (p : Nat)) := by rw [he, hp]
          subst he2
          have HOK := Lib.hid (And.intro hstep (show cntL (fun L => pn L xs) Z = p by rw [hp]; exact HSJ.out.cnt _))
          clear hstep he hp
          have hrb7 := HSJ.out.rb.turn HSJ.out.wk.sto ht7.2.2
          have hx7 := HX6.out.kept' ht7.2.2 (fun hf => by have := HFT.out _ hf; omega)
          have c0 := hrb7.box.cell
          have c1 := hx7.cell 1 _ rfl
          have c2 := hx7.cell 2 _ rfl
          have c3 := hx7.cell 3 _ rfl
          have HRB7 := Lib.hid hrb7
          have HW7 := Lib.hid hw7
          clear hrb7 hx7 hw7 ht7
          go_wp2_with fail
          refine (prune_ref _ Z xs W7 HRB7.out.it (by have := HSZ.out.1; omega) (fun z hz => (HSZ.out.2.2 z hz).1) (fun z hz => by have := (HSZ.out.2.2 z hz).2.2; omega) (by have := HSJ.out.cntLe (fun L => pn L xs) (fun L => pn_le L xs); omega)).mono ?_
          rintro e W8 ⟨v', Z', he, hr, hkv, hb⟩
          rw [HOK.out.2] at he
          subst he
          have hrep : Rep Z' (stepA A ⟨6, ⟨#[]⟩, ⟨#[]⟩, xs, false⟩) := by rw [HOK.out.1]; exact HSJ.out.rep.sweep (prune_nil xs) hkv
          obtain ⟨va, vc, hv', _⟩ := id hr.1
          obtain ⟨vn, hvn⟩ : ∃ vn, vn = Z'.length := ⟨_, rfl⟩
          rw [← hvn] at hv'
          subst hv'
          obtain ⟨hs9, d1, d2⟩ := HSJ.out.wrote (HW7.out.below hb) (HRB7.out.below hb) hr hrep (HSJ.out.del.step _)
          have HS9 := Lib.hid hs9
          clear hs9 hr hb hvn hkv hrep c0 c1 c2 c3
          go_wp2_with fail
          go_roundw
          case rel => exact ⟨j + 1, S, m, E', c', _, _, Z', rfl, by first | rfl | (push_cast; rfl), hjn, HS9⟩
          case measure => show n - (((j + 1 : Nat) : Int).toNat) < n - ((j : Int)).toNat; omega
        by_cases h3 : xk = 3
        · subst h3
          clear h1 h2 h5 h6
          have HLK := Lib.hid (show lookZ Z xa = lkL E xa by rw [HSJ.out.look, HSJ.out.wk.lk])
          obtain ⟨la, hla⟩ : ∃ la, la = lastT (lkL E xa) := ⟨_, rfl⟩
          have HLA := Lib.hid (show lastT (lkL E xa) = la ∧ lastT (lookZ Z xa) = la by rw [HLK.out]; exact ⟨hla.symm, hla.symm⟩)
          obtain ⟨sv, hsv⟩ : ∃ sv : Bs, sv = (valAt (lkL E xa) xs).getD ⟨#[]⟩ := ⟨_, rfl⟩
          obtain ⟨bv, hbv⟩ : ∃ bv : Bool, bv = (valAt (lkL E xa) xs).isSome := ⟨_, rfl⟩
          have HGV := Lib.hid (And.intro hsv hbv)
          clear hla hsv hbv
          go_wp2_with fail
          generalize (wr.alloc (.cells #[.int .i64 3, .string xa, .string xv, .int .i64 xs, .bool xb] 31)) = W6 at *
          refine (get_any B S m clock E xa xs W6 HSJ.out.wk.sto).mono ?_
          rintro e W7 ⟨he, hb⟩
          rw [← HGV.out.1, ← HGV.out.2] at he
          subst he
          have HSJ7 := Lib.hid (HSJ.out.below hb)
          have HX7 := Lib.hid (HX6.out.keep hb)
          have c0 := HSJ7.out.rb.box.cell
          have c1 := HX7.out.cell 1 _ rfl
          have c3 := HX7.out.cell 3 _ rfl
          clear hb HX6 HSJ
          go_wp2_with fail
          refine (get_ref _ Z xa xs W7 HSJ7.out.rb.it (by have := HSZ.out.1; omega) (HSZ.out.2.1 xa).2.1 (HSZ.out.2.1 xa).2.2 (by have := (HSZ.out.2.1 xa).1; omega)).mono ?_
          rintro e W8 ⟨he, hb⟩
          rw [HLK.out, ← HGV.out.1, ← HGV.out.2] at he
          subst he
          have HS6 := Lib.hid (HSJ7.out.below hb).more
          have HX6 := Lib.hid (HX7.out.keep hb)
          have b1 := HX6.out.cell 1 _ rfl
          clear hb HX7 HSJ7 c0 c1 c3
          go_wp2_with fail
          obtain ⟨FF, hFF⟩ : ∃ FF : World → Prop, FF = fun X => ST B bt (j + 1) S m E clock A (.slice ta tn tc) Z W X ∧ Box X wr.heap.size [.int .i64 3, .string xa, .string xv, .int .i64 xs, .bool xb] := ⟨_, rfl⟩
          have fWk : ∀ X, FF X → Wk B S m E clock A (j + 1) W X := by rw [hFF]; exact fun X h => h.1.wk
          have fIt : ∀ X, FF X → RIt X (.slice ta tn tc) Z := by rw [hFF]; exact fun X h => h.1.rb.it
          have fBe : ∀ X Y, FF X → Below X.heap.size X Y → FF Y := by rw [hFF]; exact fun X Y h hb => ⟨h.1.below hb, h.2.keep hb⟩
          have fCe : ∀ X, FF X → X.cell? ⟨bt, 0, none⟩ = some (.slice ta tn tc) ∧ X.cell? ⟨wr.heap.size, 1, none⟩ = some (.string xa) ∧ X.cell? ⟨wr.heap.size, 2, none⟩ = some (.string xv) ∧ X.cell? ⟨wr.heap.size, 3, none⟩ = some (.int .i64 xs) ∧ X.cell? ⟨wr.heap.size, 4, none⟩ = some (.bool xb) := by rw [hFF]; exact fun X h => ⟨h.1.rb.box.cell, h.2.cell 1 _ rfl, h.2.cell 2 _ rfl, h.2.cell 3 _ rfl, h.2.cell 4 _ rfl⟩
          have fw : FF W8 := by rw [hFF]; exact ⟨HS6.out, HX6.out⟩
          have FST := Lib.hid (show ∀ X, FF X → ST B bt (j + 1) S m E clock A (.slice ta tn tc) Z W X ∧ Box X wr.heap.size [.int .i64 3, .string xa, .string xv, .int .i64 xs, .bool xb] from by rw [hFF]; exact fun X h => h)
          clear hFF
          have fd : FF W8.drew := fBe _ _ fw ((Below.refl _ _).drew)
          have fcd := fCe _ fd
          have fSx : ∀ X, FF X → X.cell? ⟨bt, 0, none⟩ = some (.slice ta tn tc) ∧ X.cell? ⟨wr.heap.size, 1, none⟩ = some (.string xa) ∧ X.cell? ⟨wr.heap.size, 2, none⟩ = some (.string xv) ∧ X.cell? ⟨wr.heap.size, 3, none⟩ = some (.int .i64 xs) ∧ X.cell? ⟨wr.heap.size, 4, none⟩ = some (.bool xb) ∧ FF X := fun X h => ⟨(fCe X h).1, (fCe X h).2.1, (fCe X h).2.2.1, (fCe X h).2.2.2.1, (fCe X h).2.2.2.2, h⟩
          obtain ⟨fd0, fd1, fd2, fd3, fd4⟩ := fcd
          go_region_held3 (fun X => X.cell? ⟨bt, 0, none⟩ = some (.slice ta tn tc) ∧ X.cell? ⟨wr.heap.size, 1, none⟩ = some (.string xa) ∧ X.cell? ⟨wr.heap.size, 2, none⟩ = some (.string xv) ∧ X.cell? ⟨wr.heap.size, 3, none⟩ = some (.int .i64 xs) ∧ X.cell? ⟨wr.heap.size, 4, none⟩ = some (.bool xb) ∧ FF X) (first | (refine ⟨?_, ?_, ?_, ?_, ?_, ?_⟩ <;> assumption) | (refine fSx _ ?_; assumption)) (first
            | (go_at_call 18; refine (last_any _ _ _ _ E xa _ (fWk _ (by assumption)).sto).mono ?_; rintro e w1 ⟨he, hw⟩; rw [HLA.out.1] at he; subst he; obtain rfl := hw.symm)
            | (go_at_call 19; refine (last_ref _ Z xa _ (fIt _ (by assumption)) (by have := HSZ.out.1; omega) (by have := (HSZ.out.2.1 xa).1; omega)).mono ?_; rintro e w1 ⟨he, hb⟩; rw [HLA.out.2] at he; subst he; have hf1 := fBe _ _ (by assumption) hb; obtain ⟨hc0, hc1, hc2, hc3, hc4⟩ := fCe _ hf1))
          have HS9 := Lib.hid (FST.out _ hf1).1
          clear fWk fIt fBe fCe fw FST fd fSx hf1 fd0 fd1 fd2 fd3 fd4 hc0 hc1 hc2 hc3 hc4
          go_wp2_with fail
          go_roundw
          case rel => exact ⟨j + 1, S, m, E, clock, A, _, Z, rfl, by first | rfl | (push_cast; rfl), hjn, HS9⟩
          case measure => show n - (((j + 1 : Nat) : Int).toNat) < n - ((j : Int)).toNat; omega
        by_cases h4 : xk = 4
        · subst h4
          clear h1 h2 h5 h6 h3
          have HS6 := Lib.hid HSJ.out.more
          have HSCN := Lib.hid (show (dirZ xb Z).filterMap (scanF xs xa xv) = scanK E xs (scanT E xa xv xb) from Rep.scan HSJ.out.wk.sto.gd (by rw [HSJ.out.wk.lk]; exact HSJ.out.rep) xs xa xv xb)
          have q6 := HX6.out.cell 0 _ rfl
          go_wp2_with fail
          generalize (wr.alloc (.cells #[.int .i64 4, .string xa, .string xv, .int .i64 xs, .bool xb] 31)) = W6 at *
          obtain ⟨FF, hFF⟩ : ∃ FF : World → Prop, FF = fun X => ST B bt (j + 1) S m E clock A (.slice ta tn tc) Z W X ∧ Box X wr.heap.size [.int .i64 4, .string xa, .string xv, .int .i64 xs, .bool xb] := ⟨_, rfl⟩
          have fWk : ∀ X, FF X → Wk B S m E clock A (j + 1) W X := by rw [hFF]; exact fun X h => h.1.wk
          have fIt : ∀ X, FF X → RIt X (.slice ta tn tc) Z := by rw [hFF]; exact fun X h => h.1.rb.it
          have fBe : ∀ X Y, FF X → Below X.heap.size X Y → FF Y := by rw [hFF]; exact fun X Y h hb => ⟨h.1.below hb, h.2.keep hb⟩
          have fCe : ∀ X, FF X → X.cell? ⟨bt, 0, none⟩ = some (.slice ta tn tc) ∧ X.cell? ⟨wr.heap.size, 1, none⟩ = some (.string xa) ∧ X.cell? ⟨wr.heap.size, 2, none⟩ = some (.string xv) ∧ X.cell? ⟨wr.heap.size, 3, none⟩ = some (.int .i64 xs) ∧ X.cell? ⟨wr.heap.size, 4, none⟩ = some (.bool xb) := by rw [hFF]; exact fun X h => ⟨h.1.rb.box.cell, h.2.cell 1 _ rfl, h.2.cell 2 _ rfl, h.2.cell 3 _ rfl, h.2.cell 4 _ rfl⟩
          have fw : FF W6 := by rw [hFF]; exact ⟨HS6.out, HX6.out⟩
          have FST := Lib.hid (show ∀ X, FF X → ST B bt (j + 1) S m E clock A (.slice ta tn tc) Z W X ∧ Box X wr.heap.size [.int .i64 4, .string xa, .string xv, .int .i64 xs, .bool xb] from by rw [hFF]; exact fun X h => h)
          clear hFF
          have fd : FF W6.drew := fBe _ _ fw ((Below.refl _ _).drew)
          have fcd := fCe _ fd
          have fSx : ∀ X, FF X → X.cell? ⟨bt, 0, none⟩ = some (.slice ta tn tc) ∧ X.cell? ⟨wr.heap.size, 1, none⟩ = some (.string xa) ∧ X.cell? ⟨wr.heap.size, 2, none⟩ = some (.string xv) ∧ X.cell? ⟨wr.heap.size, 3, none⟩ = some (.int .i64 xs) ∧ X.cell? ⟨wr.heap.size, 4, none⟩ = some (.bool xb) ∧ FF X := fun X h => ⟨(fCe X h).1, (fCe X h).2.1, (fCe X h).2.2.1, (fCe X h).2.2.2.1, (fCe X h).2.2.2.2, h⟩
          obtain ⟨fd0, fd1, fd2, fd3, fd4⟩ := fcd
          go_region_held3 (fun X => X.cell? ⟨bt, 0, none⟩ = some (.slice ta tn tc) ∧ X.cell? ⟨wr.heap.size, 1, none⟩ = some (.string xa) ∧ X.cell? ⟨wr.heap.size, 2, none⟩ = some (.string xv) ∧ X.cell? ⟨wr.heap.size, 3, none⟩ = some (.int .i64 xs) ∧ X.cell? ⟨wr.heap.size, 4, none⟩ = some (.bool xb) ∧ FF X) (first | (refine ⟨?_, ?_, ?_, ?_, ?_, ?_⟩ <;> assumption) | (refine fSx _ ?_; assumption)) (first
            | (go_at_call 21; refine ((fWk _ (by assumption)).scan (by omega) _ _ _ _).mono ?_; rintro e w1 ⟨va, rfl, hra, hb⟩; have hf1 := fBe _ _ (by assumption) hb; obtain ⟨hc0, hc1, hc2, hc3, hc4⟩ := fCe _ hf1)
            | (go_at_call 22; refine (scan_ref _ Z _ _ _ _ _ (fIt _ (by assumption)) (by have := HSZ.out.1; omega) (fun z hz => ⟨(HSZ.out.2.2 z hz).1, (HSZ.out.2.2 z hz).2.1, by have := (HSZ.out.2.2 z hz).2.2; omega⟩)).mono ?_; rintro e w1 ⟨vb, rfl, hrb, hb⟩; rw [HSCN.out] at hrb; have hra2 := hra.below hb; have hf1 := fBe _ _ (by assumption) hb; obtain ⟨hc0, hc1, hc2, hc3, hc4⟩ := fCe _ hf1)
            | (go_at_call 20; refine (equalS_any _ _ _ _ _ hra2.row (rowS_of hrb)).mono ?_; rintro e w1 ⟨he, hb⟩; rw [decide_eq_true rfl] at he; subst he; have hf1 := fBe _ _ (by assumption) hb; obtain ⟨hc0, hc1, hc2, hc3, hc4⟩ := fCe _ hf1))
          have HS9 := Lib.hid (FST.out _ hf1).1
          clear fWk fIt fBe fCe fw FST fd fSx hf1 hra hra2 hrb fd0 fd1 fd2 fd3 fd4 hc0 hc1 hc2 hc3 hc4
          go_wp2_with fail
          go_roundw
          case rel => exact ⟨j + 1, S, m, E, clock, A, _, Z, rfl, by first | rfl | (push_cast; rfl), hjn, HS9⟩
          case measure => show n - (((j + 1 : Nat) : Int).toNat) < n - ((j : Int)).toNat; omega
        by_cases h7 : xk = 7
        · subst h7
          clear h1 h2 h5 h6 h3 h4
          have HALL := Lib.hid (show allZ Z = vw E from Rep.all HSJ.out.wk.sto.gd (by rw [HSJ.out.wk.lk]; exact HSJ.out.rep))
          obtain ⟨to, hto⟩ : ∃ to, to = total E := ⟨_, rfl⟩
          have HTO := Lib.hid (show total E = to ∧ cntL List.length Z = to ∧ to ≤ 60 from ⟨hto.symm, by rw [hto]; exact HSJ.out.cnt List.length, by rw [hto]; have := HSJ.out.wk.tot; omega⟩)
          clear hto
          have HS6 := Lib.hid HSJ.out.more
          go_wp2_with fail
          generalize (wr.alloc (.cells #[.int .i64 7, .string xa, .string xv, .int .i64 xs, .bool xb] 31)) = W6 at *
          obtain ⟨FF, hFF⟩ : ∃ FF : World → Prop, FF = fun X => ST B bt (j + 1) S m E clock A (.slice ta tn tc) Z W X ∧ Box X wr.heap.size [.int .i64 7, .string xa, .string xv, .int .i64 xs, .bool xb] := ⟨_, rfl⟩
          have fWk : ∀ X, FF X → Wk B S m E clock A (j + 1) W X := by rw [hFF]; exact fun X h => h.1.wk
          have fIt : ∀ X, FF X → RIt X (.slice ta tn tc) Z := by rw [hFF]; exact fun X h => h.1.rb.it
          have fBe : ∀ X Y, FF X → Below X.heap.size X Y → FF Y := by rw [hFF]; exact fun X Y h hb => ⟨h.1.below hb, h.2.keep hb⟩
          have fCe : ∀ X, FF X → X.cell? ⟨bt, 0, none⟩ = some (.slice ta tn tc) ∧ X.cell? ⟨wr.heap.size, 1, none⟩ = some (.string xa) ∧ X.cell? ⟨wr.heap.size, 2, none⟩ = some (.string xv) ∧ X.cell? ⟨wr.heap.size, 3, none⟩ = some (.int .i64 xs) ∧ X.cell? ⟨wr.heap.size, 4, none⟩ = some (.bool xb) := by rw [hFF]; exact fun X h => ⟨h.1.rb.box.cell, h.2.cell 1 _ rfl, h.2.cell 2 _ rfl, h.2.cell 3 _ rfl, h.2.cell 4 _ rfl⟩
          have fw : FF W6 := by rw [hFF]; exact ⟨HS6.out, HX6.out⟩
          have FST := Lib.hid (show ∀ X, FF X → ST B bt (j + 1) S m E clock A (.slice ta tn tc) Z W X ∧ Box X wr.heap.size [.int .i64 7, .string xa, .string xv, .int .i64 xs, .bool xb] from by rw [hFF]; exact fun X h => h)
          clear hFF
          have fd : FF W6.drew := fBe _ _ fw ((Below.refl _ _).drew)
          have fcd := fCe _ fd
          have fSx : ∀ X, FF X → X.cell? ⟨bt, 0, none⟩ = some (.slice ta tn tc) ∧ X.cell? ⟨wr.heap.size, 1, none⟩ = some (.string xa) ∧ X.cell? ⟨wr.heap.size, 2, none⟩ = some (.string xv) ∧ X.cell? ⟨wr.heap.size, 3, none⟩ = some (.int .i64 xs) ∧ X.cell? ⟨wr.heap.size, 4, none⟩ = some (.bool xb) ∧ FF X := fun X h => ⟨(fCe X h).1, (fCe X h).2.1, (fCe X h).2.2.1, (fCe X h).2.2.2.1, (fCe X h).2.2.2.2, h⟩
          obtain ⟨fd0, fd1, fd2, fd3, fd4⟩ := fcd
          go_region_held3 (fun X => X.cell? ⟨bt, 0, none⟩ = some (.slice ta tn tc) ∧ X.cell? ⟨wr.heap.size, 1, none⟩ = some (.string xa) ∧ X.cell? ⟨wr.heap.size, 2, none⟩ = some (.string xv) ∧ X.cell? ⟨wr.heap.size, 3, none⟩ = some (.int .i64 xs) ∧ X.cell? ⟨wr.heap.size, 4, none⟩ = some (.bool xb) ∧ FF X) (first | (refine ⟨?_, ?_, ?_, ?_, ?_, ?_⟩ <;> assumption) | (refine fSx _ ?_; assumption)) (first
            | (go_at_call 28; refine ((fWk _ (by assumption)).all (by omega)).mono ?_; rintro e w1 ⟨va, rfl, hra, hb⟩; have hf1 := fBe _ _ (by assumption) hb; obtain ⟨hc0, hc1, hc2, hc3, hc4⟩ := fCe _ hf1)
            | (go_at_call 29; refine (all_ref _ Z _ (fIt _ (by assumption)) (by have := HSZ.out.1; omega) (by have := HTO.out; omega)).mono ?_; rintro e w1 ⟨vb, rfl, hrb, hb⟩; rw [HALL.out] at hrb; have hra2 := hra.below hb; have hf1 := fBe _ _ (by assumption) hb; obtain ⟨hc0, hc1, hc2, hc3, hc4⟩ := fCe _ hf1)
            | (go_at_call 27; refine (equalP_any _ _ (vw E) (vw E) _ hra2 (rowP_of hrb)).mono ?_; rintro e w1 ⟨he, hb⟩; rw [decide_eq_true rfl] at he; subst he; have hf1 := fBe _ _ (by assumption) hb; obtain ⟨hc0, hc1, hc2, hc3, hc4⟩ := fCe _ hf1))
          have HFE := Lib.hid (FST.out _ hf1)
          clear fWk fIt fBe fCe fw FST fd fSx hf1 hra hra2 hrb fd0 fd1 fd2 fd3 fd4 hc0 hc1 hc2 hc3 hc4
          obtain ⟨W7, hW7⟩ : ∃ W7, W7 = w1 := ⟨_, rfl⟩
          rw [← hW7] at HFE ⊢
          clear hW7 HS6 HX6
          have HS6 := Lib.hid HFE.out.1
          have HX6 := Lib.hid HFE.out.2
          clear HFE
          go_wp2_with fail
          obtain ⟨FF, hFF⟩ : ∃ FF : World → Prop, FF = fun X => ST B bt (j + 1) S m E clock A (.slice ta tn tc) Z W X ∧ Box X wr.heap.size [.int .i64 7, .string xa, .string xv, .int .i64 xs, .bool xb] := ⟨_, rfl⟩
          have fWk : ∀ X, FF X → Wk B S m E clock A (j + 1) W X := by rw [hFF]; exact fun X h => h.1.wk
          have fIt : ∀ X, FF X → RIt X (.slice ta tn tc) Z := by rw [hFF]; exact fun X h => h.1.rb.it
          have fBe : ∀ X Y, FF X → Below X.heap.size X Y → FF Y := by rw [hFF]; exact fun X Y h hb => ⟨h.1.below hb, h.2.keep hb⟩
          have fCe : ∀ X, FF X → X.cell? ⟨bt, 0, none⟩ = some (.slice ta tn tc) ∧ X.cell? ⟨wr.heap.size, 1, none⟩ = some (.string xa) ∧ X.cell? ⟨wr.heap.size, 2, none⟩ = some (.string xv) ∧ X.cell? ⟨wr.heap.size, 3, none⟩ = some (.int .i64 xs) ∧ X.cell? ⟨wr.heap.size, 4, none⟩ = some (.bool xb) := by rw [hFF]; exact fun X h => ⟨h.1.rb.box.cell, h.2.cell 1 _ rfl, h.2.cell 2 _ rfl, h.2.cell 3 _ rfl, h.2.cell 4 _ rfl⟩
          have fw : FF W7 := by rw [hFF]; exact ⟨HS6.out, HX6.out⟩
          have FST := Lib.hid (show ∀ X, FF X → ST B bt (j + 1) S m E clock A (.slice ta tn tc) Z W X ∧ Box X wr.heap.size [.int .i64 7, .string xa, .string xv, .int .i64 xs, .bool xb] from by rw [hFF]; exact fun X h => h)
          clear hFF
          have fd : FF W7.drew := fBe _ _ fw ((Below.refl _ _).drew)
          have fcd := fCe _ fd
          have fSx : ∀ X, FF X → X.cell? ⟨bt, 0, none⟩ = some (.slice ta tn tc) ∧ X.cell? ⟨wr.heap.size, 1, none⟩ = some (.string xa) ∧ X.cell? ⟨wr.heap.size, 2, none⟩ = some (.string xv) ∧ X.cell? ⟨wr.heap.size, 3, none⟩ = some (.int .i64 xs) ∧ X.cell? ⟨wr.heap.size, 4, none⟩ = some (.bool xb) ∧ FF X := fun X h => ⟨(fCe X h).1, (fCe X h).2.1, (fCe X h).2.2.1, (fCe X h).2.2.2.1, (fCe X h).2.2.2.2, h⟩
          obtain ⟨fd0, fd1, fd2, fd3, fd4⟩ := fcd
          go_region_held3 (fun X => X.cell? ⟨bt, 0, none⟩ = some (.slice ta tn tc) ∧ X.cell? ⟨wr.heap.size, 1, none⟩ = some (.string xa) ∧ X.cell? ⟨wr.heap.size, 2, none⟩ = some (.string xv) ∧ X.cell? ⟨wr.heap.size, 3, none⟩ = some (.int .i64 xs) ∧ X.cell? ⟨wr.heap.size, 4, none⟩ = some (.bool xb) ∧ FF X) (first | (refine ⟨?_, ?_, ?_, ?_, ?_, ?_⟩ <;> assumption) | (refine fSx _ ?_; assumption)) (first
            | (go_at_call 30; refine ((fWk _ (by assumption)).versions (by omega)).mono ?_; rintro e w1 ⟨he, hb⟩; rw [HTO.out.1] at he; subst he; have hf1 := fBe _ _ (by assumption) hb; obtain ⟨hc0, hc1, hc2, hc3, hc4⟩ := fCe _ hf1)
            | (go_at_call 31; refine (versionsn_ref _ Z _ (fIt _ (by assumption)) (by have := HSZ.out.1; omega) (by have := HTO.out; omega)).mono ?_; rintro e w1 ⟨he, hb⟩; rw [HTO.out.2.1] at he; subst he; have hf1 := fBe _ _ (by assumption) hb; obtain ⟨hc0, hc1, hc2, hc3, hc4⟩ := fCe _ hf1))
          have HS9 := Lib.hid (FST.out _ hf1).1
          clear fWk fIt fBe fCe fw FST fd fSx hf1 fd0 fd1 fd2 fd3 fd4 hc0 hc1 hc2 hc3 hc4
          go_wp2_with fail
          go_roundw
          case rel => exact ⟨j + 1, S, m, E, clock, A, _, Z, rfl, by first | rfl | (push_cast; rfl), hjn, HS9⟩
          case measure => show n - (((j + 1 : Nat) : Int).toNat) < n - ((j : Int)).toNat; omega
        by_cases h8 : xk = 8
        · subst h8
          clear h1 h2 h5 h6 h3 h4 h7
          go_wp2_with fail
          generalize (wr.alloc (.cells #[.int .i64 8, .string xa, .string xv, .int .i64 xs, .bool xb] 31)) = W6 at *
          refine HSJ.out.wk.clone.mono ?_
          rintro e W7 ⟨C, mc, EC, cc, rfl, hc7, hb7⟩
          have hcf : ∀ k, Foot C mc EC k → W6.heap.size ≤ k := fun k hk => (hc7.sto.foot hk).1
          have hof : ∀ k, Foot S m E k → k < W6.heap.size := fun k hk => (HSJ.out.wk.sto.foot hk).2
          have HSC : Hid (ST B bt j C mc EC cc A (.slice ta tn tc) Z W W7) := Lib.hid ⟨⟨hc7.sto.base HSJ.out.wk.bw, hc7.lk, hc7.tot, (HSJ.out.wk.below hb7).low, (HSJ.out.wk.below hb7).bw⟩, HSJ.out.rb.below hb7, HSJ.out.rep, HSJ.out.del, HSJ.out.hbt⟩
          have HSO := Lib.hid (HSJ.out.wk.below hb7)
          have HAP := Lib.hid (And.intro hcf hof)
          clear hcf hof hc7 hb7
          go_wp2_with fail
          refine (HSO.out.roll (by omega) 0).mono ?_
          rintro e W8 ⟨he, E8, c8, hw8, ht8⟩
          have HS9 : Hid (ST B bt (j + 1) C mc EC cc A (.slice ta tn tc) Z W W8) := Lib.hid (ST.more ⟨⟨HSC.out.wk.sto.kept ht8.2.2 (fun k hk hf => by have := HAP.out.1 k hk; have := HAP.out.2 k hf; omega), HSC.out.wk.lk, HSC.out.wk.tot, hw8.low, hw8.bw⟩, HSC.out.rb.turn HSO.out.sto ht8.2.2, HSC.out.rep, HSC.out.del, HSC.out.hbt⟩)
          subst he
          clear hw8 ht8 HSC HSO
          go_wp2_with fail
          go_roundw
          case rel => exact ⟨j + 1, C, mc, EC, cc, A, _, Z, rfl, by first | rfl | (push_cast; rfl), hjn, HS9⟩
          case measure => show n - (((j + 1 : Nat) : Int).toNat) < n - ((j : Int)).toNat; omega
        have HS9 := Lib.hid HSJ.out.more
        have d1 : (xk == 1) = false := beq_eq_false_iff_ne.2 h1
        have d2 : (xk == 2) = false := beq_eq_false_iff_ne.2 h2
        have d3 : (xk == 3) = false := beq_eq_false_iff_ne.2 h3
        have d4 : (xk == 4) = false := beq_eq_false_iff_ne.2 h4
        have d5 : (xk == 5) = false := beq_eq_false_iff_ne.2 h5
        have d6 : (xk == 6) = false := beq_eq_false_iff_ne.2 h6
        have d7 : (xk == 7) = false := beq_eq_false_iff_ne.2 h7
        have d8 : (xk == 8) = false := beq_eq_false_iff_ne.2 h8
        clear h1 h2 h3 h4 h5 h6 h7 h8
        go_wp2_with fail
        go_roundw
        case rel => exact ⟨j + 1, S, m, E, clock, A, _, Z, rfl, by first | rfl | (push_cast; rfl), hjn, HS9⟩
        case measure => show n - (((j + 1 : Nat) : Int).toNat) < n - ((j : Int)).toNat; omega
end Go.Proofs.Ytaecppkkbdbdbaa
