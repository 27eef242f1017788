/- Balance: the walk of the reference's replace (one chunk by one). -/
import Derived.Test.YtimhokilicogdaaBal32
namespace Go.Proofs.Ytimhokilicogdaa
open Go.ChangeShapes Go.WideShapes Go.ChangeAt Go.RowKit Go.Deep
set_option linter.unusedVariables false
set_option linter.unusedSimpArgs false
def zch : Value := .agg #[.string ⟨#[]⟩, .string ⟨#[]⟩, .int .i64 0, .int .i64 0, .bool false]
theorem info47z : (Try.prog.info? 47).map (fun i => (i.zero, i.size, i.bytes)) = some (some zch, 5, 56) := by kernel_rfl
def ReplOut (sp : ByteArray) (ks : Value) (hs : Bool) (ep vr : Int) (cs : List Ch) (w : World) (e : Ending) (w' : World) : Prop :=
  ∃ g cap, e = .returned (rts sp ks hs ep vr (.slice (some ⟨g, 0, none⟩) cs.length cap)) ∧ OwnC w' w.heap.size g cap cs ∧ Below w.heap.size w w'
theorem own_mono {w : World} {base base' : Nat} {e : TypeId} {size n : Nat} {v : Value} {xs : List Value} (h : w.ownsRow base e size v n xs) (hb : base' ≤ base) : w.ownsRow base' e size v n xs :=
  ⟨h.1, h.2.imp id fun ⟨g, cap, cur, h1, h2, h3⟩ => ⟨g, cap, cur, h1, Nat.le_trans hb h2, h3⟩⟩
theorem own_setCell {w : World} {base : Nat} {e : TypeId} {size g n cap : Nat} {xs : List Value} (h : w.ownsRow base e size (.slice (some ⟨g, 0, none⟩) n cap) n xs) {b o : Nat} {u : Value} (hne : b ≠ g) : (w.setCell ⟨b, o, none⟩ u).ownsRow base e size (.slice (some ⟨g, 0, none⟩) n cap) n xs :=
  h.kept (row := some b) ⟨rfl, rfl, rfl, by simp, fun k _ hk => heap_setCell_other w ⟨b, o, none⟩ k u (fun e => hk (by simp [e]))⟩ (.inr (by simp [Value.ownBlock]; omega))
/-- the box of the routes and the result's block; nothing of before has turned -/
def RP (w : World) (sp : ByteArray) (ks : Value) (hs : Bool) (ep vr : Int) (ch : Value) (W : World) : Prop := W.cell? ⟨w.heap.size, 0, none⟩ = some (.string sp) ∧ W.cell? ⟨w.heap.size, 1, none⟩ = some (ks) ∧ W.cell? ⟨w.heap.size, 2, none⟩ = some (.bool hs) ∧ W.cell? ⟨w.heap.size, 3, none⟩ = some (.int .i64 ep) ∧ W.cell? ⟨w.heap.size, 4, none⟩ = some (.int .i64 vr) ∧ W.cell? ⟨w.heap.size, 5, none⟩ = some (ch) ∧ W.cell? ⟨w.heap.size + 1, 0, none⟩ = some (.string ⟨#[]⟩) ∧ W.cell? ⟨w.heap.size + 1, 1, none⟩ = some (.slice none 0 0) ∧ W.cell? ⟨w.heap.size + 1, 2, none⟩ = some (.bool false) ∧ W.cell? ⟨w.heap.size + 1, 3, none⟩ = some (.int .i64 0) ∧ W.cell? ⟨w.heap.size + 1, 4, none⟩ = some (.int .i64 0) ∧ W.cell? ⟨w.heap.size + 1, 5, none⟩ = some (.slice none 0 0) ∧ (∀ b o, b < w.heap.size + 2 → w.heap.size ≤ b → W.frozen? ⟨b, o, none⟩ = false) ∧ w.heap.size + 2 ≤ W.heap.size ∧ Below w.heap.size w W
theorem RP.keep {w : World} {sp : ByteArray} {ks : Value} {hs : Bool} {ep vr : Int} {ch : Value} {W W' : World} (h : RP w sp ks hs ep vr ch W) (hb : Below (w.heap.size + 2) W W') : RP w sp ks hs ep vr ch W' := by
  obtain ⟨a0, a1, a2, a3, a4, a5, r0, r1, r2, r3, r4, r5, fz, hz, hB⟩ := h
  exact ⟨(hb.cell (p := ⟨w.heap.size, 0, none⟩) (by simp)).trans a0, (hb.cell (p := ⟨w.heap.size, 1, none⟩) (by simp)).trans a1, (hb.cell (p := ⟨w.heap.size, 2, none⟩) (by simp)).trans a2, (hb.cell (p := ⟨w.heap.size, 3, none⟩) (by simp)).trans a3, (hb.cell (p := ⟨w.heap.size, 4, none⟩) (by simp)).trans a4, (hb.cell (p := ⟨w.heap.size, 5, none⟩) (by simp)).trans a5, (hb.cell (p := ⟨w.heap.size + 1, 0, none⟩) (by simp)).trans r0, (hb.cell (p := ⟨w.heap.size + 1, 1, none⟩) (by simp)).trans r1, (hb.cell (p := ⟨w.heap.size + 1, 2, none⟩) (by simp)).trans r2, (hb.cell (p := ⟨w.heap.size + 1, 3, none⟩) (by simp)).trans r3, (hb.cell (p := ⟨w.heap.size + 1, 4, none⟩) (by simp)).trans r4, (hb.cell (p := ⟨w.heap.size + 1, 5, none⟩) (by simp)).trans r5, fun b o h1 h2 => (hb.frozen (p := ⟨b, o, none⟩) h1).trans (fz b o h1 h2), Nat.le_trans hz hb.size, hB.trans (hb.mono (by omega))⟩
set_option maxRecDepth 100000 in
set_option maxHeartbeats 2000000 in
theorem repl_in (sp : ByteArray) (ka : Option Addr) (kl kc : Nat) (hs : Bool) (ep vr : Int) (B o cap : Nat) (cs : List Ch) (i D dcap : Nat) (lo hi : ByteArray) (sh v2 : Int) (jb : Bool) (w : World) (hl : cs.length ≤ 1000) (hcap : cs.length ≤ cap) (hv0 : 0 ≤ vr) (hv1 : vr ≤ 2305843009213693952)
    (hB : B < w.heap.size) (hc : ∀ j (h : j < cs.length), w.rangeAt B (o + j * 5) cs[j].cells) (hi' : i < cs.length) (hD : D < w.heap.size) (hd : w.rangeAt D 0 (Ch.cells ⟨lo, hi, sh, v2, jb⟩)) :
    Calls Try.prog 29 #[rts sp (.slice ka kl kc) hs ep vr (.slice (some ⟨B, o, none⟩) cs.length cap), .int .i64 i, .int .i64 1, .slice (some ⟨D, 0, none⟩) 1 dcap] w
      (ReplOut sp (.slice ka kl kc) hs ep (vr + 1) (cs.set i ⟨lo, hi, sh, vr + 1, jb⟩) w) := by
  obtain ⟨i47, hi47, hz0, hz1, hz2⟩ := info_parts info47z
  have HC := Lib.hid hc
  have HD := Lib.hid (rangeAt5 hd)
  clear hc hd
  go_enter Try.func29, Try.ntmps29
  have hii : (i : Int) ≤ (cap : Int) := by omega
  have BTw : ∀ W : World, Below w.heap.size w W → ∀ j (h : j < cs.length), W.rangeAt B (o + j * 5) cs[j].cells := fun W hW j h => rangeAt5_below (HC.out j h) hW hB
  have HBT := Lib.hid BTw
  clear BTw
  go_wp2_with (at_builtin; refine wpList_append_own _ rfl _ _ 25 rfl (w.heap.size + 2) 47 i47 zch 5 56 Try.underlying25 hi47 hz0 hz1 hz2 rfl (by decide) _ 0 [] rfl (World.ownsRow_nil _ _ _ _) ⟨B, o, none⟩ i cap (chv (cs.take i)) rfl ?c1 ?c2 ?c3 ?c4 ?c5 ?c6 ?_)
  case c1 => rw [chv_length, List.length_take]; omega
  case c2 =>
    intro j u hu
    have := chv_cells (w := w) (B := B) (x := o) (cs := cs.take i) (fun j hj => by
      rw [List.length_take] at hj
      rw [List.getElem_take]
      exact HC.out j (by omega)) j u hu
    rwa [addr_add] at this
  case c3 => exact chv_one _
  case c4 => unfold maxLen; omega
  case c5 => omega
  intro v' w2 hown2 hgrow _
  have hrp : RP w sp (.slice ka kl kc) hs ep (vr + 1) (.slice (some ⟨B, o, none⟩) cs.length cap) w2 ∧ w2.ownsRow (w.heap.size + 2) 47 5 v' i (chv (cs.take i)) := by
    refine ⟨RP.keep (W := _) ?_ (Below.grown (Below.refl _ _) hgrow (by simp) (by simp [Value.ownBlock])), by simpa using hown2⟩
    refine ⟨by simp [go_sem], by simp [go_sem], by simp [go_sem], by simp [go_sem], by simp [go_sem], by simp [go_sem], by simp [go_sem], by simp [go_sem], by simp [go_sem], by simp [go_sem], by simp [go_sem], by simp [go_sem], ?_, by simp, (by repeat' (first | exact Below.refl _ _ | refine Below.drew ?_ | refine Below.setCell ?_ (by simp) _ | refine Below.alloc ?_ (by first | exact Nat.le_refl _ | omega | (simp; omega) | simp) _))⟩
    intro b o h1 h2
    have hbb : b = w.heap.size ∨ b = w.heap.size + 1 := by omega
    rcases hbb with rfl | rfl <;> simp [go_sem]
  clear hown2 hgrow
  obtain ⟨hrp, hown⟩ := hrp
  have HR := Lib.hid hrp
  have HO := Lib.hid hown
  clear hrp hown
  go_wp2_with fail
  go_loopw [9, 10] (fun v t W => ∃ q : Nat, q ≤ 1 ∧ t = .int .i64 q ∧ RP w sp (.slice ka kl kc) hs ep (vr + 1) (.slice (some ⟨B, o, none⟩) cs.length cap) W ∧ W.ownsRow (w.heap.size + 2) 47 5 v (i + q) (chv (cs.take i ++ List.replicate q ⟨lo, hi, sh, vr + 1, jb⟩))) (fun _ t _ => 1 - (intOf t).toNat)
  case atStart => exact ⟨0, by omega, rfl, HR.out, by simpa using HO.out⟩
  case round =>
    clear HR HO
    obtain ⟨q, hq, rfl, hR, hO⟩ := hrel
    have HR := Lib.hid hR
    have HO := Lib.hid hO
    have hz : w.heap.size + 2 ≤ wr.heap.size := hR.2.2.2.2.2.2.2.2.2.2.2.2.2.1
    have hB0 : Below w.heap.size w wr := hR.2.2.2.2.2.2.2.2.2.2.2.2.2.2
    by_cases hq0 : q = 0
    · subst hq0
      have a4 : wr.cell? ⟨w.heap.size, 4, none⟩ = some (.int .i64 (vr + 1)) := hR.2.2.2.2.1
      obtain ⟨e0, e1, e2, e3, e4⟩ := HD.out
      have d0 := (hB0.cell (p := ⟨D, 0, none⟩) hD).trans e0
      have d1 := (hB0.cell (p := ⟨D, 0 + 1, none⟩) hD).trans e1
      have d2 := (hB0.cell (p := ⟨D, 0 + 2, none⟩) hD).trans e2
      have d3 := (hB0.cell (p := ⟨D, 0 + 3, none⟩) hD).trans e3
      have d4 := (hB0.cell (p := ⟨D, 0 + 4, none⟩) hD).trans e4
      simp only [Nat.zero_add] at d1 d2 d3 d4
      have hzl : w.heap.size < wr.heap.size := by omega
      have hzn : w.heap.size ≠ wr.heap.size := by omega
      clear e0 e1 e2 e3 e4 hR hO hB0
      go_wp2_with (at_builtin; refine wpList_append_own _ rfl _ _ 25 rfl (w.heap.size + 2) 47 i47 zch 5 56 Try.underlying25 hi47 hz0 hz1 hz2 rfl (by decide) _ i _ rfl ((HO.out.alloc _).alloc _) ⟨wr.heap.size + 1, 0, none⟩ 1 1 [.string lo, .string hi, .int .i64 sh, .int .i64 (vr + 1), .bool jb] rfl rfl ?d2 ?d3 ?d4 ?d5 ?d6 ?_)
      case d2 =>
        intro j u hu
        match j, hu with
        | 0, hu => simp at hu; subst hu; simp [go_sem]
        | 1, hu => simp at hu; subst hu; simp [go_sem]
        | 2, hu => simp at hu; subst hu; simp [go_sem]
        | 3, hu => simp at hu; subst hu; simp [go_sem]
        | 4, hu => simp at hu; subst hu; simp [go_sem]
        | j + 5, hu => simp at hu
      case d3 => exact fun u hu => chv_one [⟨lo, hi, sh, vr + 1, jb⟩] u hu
      case d4 => unfold maxLen; omega
      case d5 => omega
      case d6 => simp; omega
      intro v3 w3 hown3 hgrow3 _
      have hb3 : Below (w.heap.size + 2) wr w3 := (((Below.refl _ _).alloc hz _).alloc (by simp; omega) _).grown hgrow3 (by simp; omega) (own_ge HO.out)
      have HR3 := Lib.hid (HR.out.keep hb3)
      have HO3 : Hid (w3.ownsRow (w.heap.size + 2) 47 5 v3 (i + 1) (chv (cs.take i ++ List.replicate 1 ⟨lo, hi, sh, vr + 1, jb⟩))) := Lib.hid (by
        rw [chv_append]
        exact hown3)
      clear hown3 hgrow3 hb3
      go_wp2_with fail
      go_roundw
      case rel => exact ⟨1, by omega, rfl, HR3.out, HO3.out⟩
      case measure => simp [intOf]
    · obtain rfl : q = 1 := by omega
      obtain ⟨a0, a1, a2, a3, a4, a5, r0, r1, r2, r3, r4, r5, fz, _, _⟩ := hR
      have z5 := fz w.heap.size 5 (by omega) (by omega)
      have y0 := fz (w.heap.size + 1) 0 (by omega) (by omega)
      have y1 := fz (w.heap.size + 1) 1 (by omega) (by omega)
      have y2 := fz (w.heap.size + 1) 2 (by omega) (by omega)
      have y3 := fz (w.heap.size + 1) 3 (by omega) (by omega)
      have y4 := fz (w.heap.size + 1) 4 (by omega) (by omega)
      have y5 := fz (w.heap.size + 1) 5 (by omega) (by omega)
      clear fz hO
      have hil : (i : Int) + 1 ≤ (cs.length : Int) := by omega
      have hic : (i : Int) + 1 ≤ (cap : Int) := by omega
      by_cases hlast : i + 1 < cap
      · go_wp2_with (at_builtin; refine wpList_append_own _ rfl _ _ 25 rfl (w.heap.size + 2) 47 i47 zch 5 56 Try.underlying25 hi47 hz0 hz1 hz2 rfl (by decide) _ (i + 1) _ rfl HO.out ⟨B, o + (i + 1) * 5, none⟩ (cs.length - (i + 1)) (cap - (i + 1)) (chv (cs.drop (i + 1))) rfl ?g1 ?g2 ?g3 ?g4 ?g5 ?g6 ?_)
        case g1 => rw [chv_length, List.length_drop]
        case g2 =>
          refine chv_cells (fun j hj => ?_)
          rw [List.length_drop] at hj
          rw [List.getElem_drop]
          have := HBT.out wr hB0 (i + 1 + j) (by omega)
          rw [show o + (i + 1) * 5 + j * 5 = o + (i + 1 + j) * 5 from by omega]
          exact this
        case g3 => exact chv_one _
        case g4 => unfold maxLen; omega
        case g5 => omega
        case g6 => exact hz
        intro v3 w3 hown3 hgrow3 _
        have hb3 : Below (w.heap.size + 2) wr w3 := (Below.refl _ _).grown hgrow3 hz (own_ge HO.out)
        have hR3 := HR.out.keep hb3
        have hcs : chv (cs.take i ++ List.replicate 1 ⟨lo, hi, sh, vr + 1, jb⟩) ++ chv (cs.drop (i + 1)) = chv (cs.set i ⟨lo, hi, sh, vr + 1, jb⟩) := by
          rw [← chv_append, List.set_eq_take_append_cons_drop, if_pos hi', List.append_assoc]; rfl
        have hn : i + 1 + (cs.length - (i + 1)) = (cs.set i ⟨lo, hi, sh, vr + 1, jb⟩).length := by rw [List.length_set]; omega
        have hown4 : w3.ownsRow (w.heap.size + 2) 47 5 v3 (cs.set i ⟨lo, hi, sh, vr + 1, jb⟩).length (chv (cs.set i ⟨lo, hi, sh, vr + 1, jb⟩)) := by
          rw [← hcs, ← hn]; exact hown3
        have hlen : 0 < (cs.set i ⟨lo, hi, sh, vr + 1, jb⟩).length := by rw [List.length_set]; omega
        generalize hds : cs.set i ⟨lo, hi, sh, vr + 1, jb⟩ = ds at hown4 hlen
        have HDS := Lib.hid hds
        clear hds
        clear hown3 hgrow3 hcs hn HR HO a0 a1 a2 a3 a4 a5 r0 r1 r2 r3 r4 r5 z5 y0 y1 y2 y3 y4 y5
        obtain ⟨g, cap3, rfl, hg2, hgl⟩ := hown4.form hlen
        have HO4 := Lib.hid hown4
        clear hown4
        obtain ⟨a0, a1, a2, a3, a4, a5, r0, r1, r2, r3, r4, r5, fz, hz3, hB3⟩ := hR3
        have HB3 := Lib.hid hB3
        have z5 := fz w.heap.size 5 (by omega) (by omega)
        have y0 := fz (w.heap.size + 1) 0 (by omega) (by omega)
        have y1 := fz (w.heap.size + 1) 1 (by omega) (by omega)
        have y2 := fz (w.heap.size + 1) 2 (by omega) (by omega)
        have y3 := fz (w.heap.size + 1) 3 (by omega) (by omega)
        have y4 := fz (w.heap.size + 1) 4 (by omega) (by omega)
        have y5 := fz (w.heap.size + 1) 5 (by omega) (by omega)
        clear fz hB3 hb3
        go_wp2_with fail
        refine bodyPost_ret (v := rts sp (.slice ka kl kc) hs ep (vr + 1) (.slice (some ⟨g, 0, none⟩) ds.length cap3)) (by simp [results, Try.results29, go_sem, a0, a1, a2, a3, a4, a5, r0, r1, r2, r3, r4, r5]) rfl ?_
        rw [HDS.out]
        refine ⟨g, cap3, rfl, ?_, ?_⟩
        · exact own_setCell (own_setCell (own_setCell (own_setCell (own_setCell (own_setCell (own_setCell (own_mono HO4.out (by omega)) (by omega)) (by omega)) (by omega)) (by omega)) (by omega)) (by omega)) (by omega)
        · exact ((((((HB3.out.setCell (by simp) _).setCell (by simp) _).setCell (by simp) _).setCell (by simp) _).setCell (by simp) _).setCell (by simp) _).setCell (by simp) _
      · have hcl : cap = i + 1 := by omega
        have hll : cs.length = i + 1 := by omega
        go_wp2_with (at_builtin; refine wpList_append_own _ rfl _ _ 25 rfl (w.heap.size + 2) 47 i47 zch 5 56 Try.underlying25 hi47 hz0 hz1 hz2 rfl (by decide) _ (i + 1) _ rfl HO.out ⟨B, o, none⟩ 0 0 [] rfl ?k1 ?k2 ?k3 ?k4 ?k5 ?k6 ?_)
        case k1 => rfl
        case k2 => exact fun j u hu => by simp at hu
        case k3 => exact fun u hu => by simp at hu
        case k4 => unfold maxLen; omega
        case k5 => omega
        case k6 => exact hz
        intro v3 w3 hown3 hgrow3 _
        have hb3 : Below (w.heap.size + 2) wr w3 := (Below.refl _ _).grown hgrow3 hz (own_ge HO.out)
        have hR3 := HR.out.keep hb3
        have hcs : chv (cs.take i ++ List.replicate 1 ⟨lo, hi, sh, vr + 1, jb⟩) ++ [] = chv (cs.set i ⟨lo, hi, sh, vr + 1, jb⟩) := by
          rw [List.append_nil, List.set_eq_take_append_cons_drop, if_pos hi', List.drop_of_length_le (by omega)]; rfl
        have hn : i + 1 + 0 = (cs.set i ⟨lo, hi, sh, vr + 1, jb⟩).length := by rw [List.length_set]; omega
        have hown4 : w3.ownsRow (w.heap.size + 2) 47 5 v3 (cs.set i ⟨lo, hi, sh, vr + 1, jb⟩).length (chv (cs.set i ⟨lo, hi, sh, vr + 1, jb⟩)) := by
          rw [← hcs, ← hn, List.append_nil]; exact hown3
        have hlen : 0 < (cs.set i ⟨lo, hi, sh, vr + 1, jb⟩).length := by rw [List.length_set]; omega
        generalize hds : cs.set i ⟨lo, hi, sh, vr + 1, jb⟩ = ds at hown4 hlen
        have HDS := Lib.hid hds
        clear hds
        clear hown3 hgrow3 hcs hn HR HO a0 a1 a2 a3 a4 a5 r0 r1 r2 r3 r4 r5 z5 y0 y1 y2 y3 y4 y5
        obtain ⟨g, cap3, rfl, hg2, hgl⟩ := hown4.form hlen
        have HO4 := Lib.hid hown4
        clear hown4
        obtain ⟨a0, a1, a2, a3, a4, a5, r0, r1, r2, r3, r4, r5, fz, hz3, hB3⟩ := hR3
        have HB3 := Lib.hid hB3
        have z5 := fz w.heap.size 5 (by omega) (by omega)
        have y0 := fz (w.heap.size + 1) 0 (by omega) (by omega)
        have y1 := fz (w.heap.size + 1) 1 (by omega) (by omega)
        have y2 := fz (w.heap.size + 1) 2 (by omega) (by omega)
        have y3 := fz (w.heap.size + 1) 3 (by omega) (by omega)
        have y4 := fz (w.heap.size + 1) 4 (by omega) (by omega)
        have y5 := fz (w.heap.size + 1) 5 (by omega) (by omega)
        clear fz hB3 hb3
        go_wp2_with fail
        refine bodyPost_ret (v := rts sp (.slice ka kl kc) hs ep (vr + 1) (.slice (some ⟨g, 0, none⟩) ds.length cap3)) (by simp [results, Try.results29, go_sem, a0, a1, a2, a3, a4, a5, r0, r1, r2, r3, r4, r5]) rfl ?_
        rw [HDS.out]
        refine ⟨g, cap3, rfl, ?_, ?_⟩
        · exact own_setCell (own_setCell (own_setCell (own_setCell (own_setCell (own_setCell (own_setCell (own_mono HO4.out (by omega)) (by omega)) (by omega)) (by omega)) (by omega)) (by omega)) (by omega)) (by omega)
        · exact ((((((HB3.out.setCell (by simp) _).setCell (by simp) _).setCell (by simp) _).setCell (by simp) _).setCell (by simp) _).setCell (by simp) _).setCell (by simp) _
end Go.Proofs.Ytimhokilicogdaa
