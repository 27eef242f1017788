/- Merged texts: Eh4, Eh5, Sv2, Sv3, Sv4, El1, El2, El3. -/
import Derived.Test.YtfpgklhbghahoaaOe3
import Derived.Great.BuildSlice
import Derived.Maps.AppendAt
import Derived.Test.YtfpgklhbghahoaaRows
import Derived.WalkKit
import Derived.ProofKit
import Derived.Below
import Derived.Outline
import Derived.OwnWalk
import Derived.Laws.AppendOwn
import Derived.Laws.OwnMore
import Derived.Deep.Slices
import Derived.Lib.Hide
import Derived.IntWalk
import Derived.Deep.QuietTactic
import Derived.BigQuiet
import Derived.StillTailTactics
import Derived.Deep.RegionHeld3
import Derived.Deep.AppendLies
/- Election: copies of lists of points; the calls of copyAll. -/
namespace Go.Proofs.Ytfpgklhbghahoaa
open Go.ChangeShapes Go.WideShapes Go.ChangeAt Go.RowKit Go.ChangeMaps Go.Joins Go.Deep
set_option linter.unusedVariables false
set_option linter.unusedSimpArgs false
set_option maxRecDepth 100000
theorem infoP : (Try.prog.info? 129).map (fun i => (i.zero, i.size, i.bytes)) = some (some (.agg #[.int .i64 0, .int .i64 0]), 2, 16) := by kernel_rfl
/-- append([]Point(nil), l...) -/
theorem append_points {ops : Array Oper} {rest : List Oper} {o : Oper} {a : Act} {Q : Exit → Act → World → Prop} {W0 w : World} {n : Nat} {v : Value} (hgd : o.guard = none) (x : Operand)
    (ho : o.op = .call { callee := .builtin .append, args := #[.const (.slice none 0 0), x], argTypes := #[58, 58] }) (hb0 : Below W0.heap.size W0 w) (hg : GoodC Try.prog W0 n 58 [v]) (hx : a.eval x = v) (hty : o.type = 58)
    (h : ∀ v' w', CopyOf W0 w n 58 [v] w' [v'] → wpList Try.prog ops Q rest (a.put o.dst v') w') : wpList Try.prog ops Q (o :: rest) a w := by
  cases n with
  | zero => exact hg.elim
  | succ n =>
    obtain ⟨i3, hi3, hz0, hz1, hz2⟩ := info_parts infoP
    have e1 : Try.prog.cellsOf 129 = 2 := by kernel_rfl
    have e8 : Try.prog.bytesOf 129 = 16 := by kernel_rfl
    obtain ⟨ad, len, cap, rfl, hlc, ⟨hm, hby, hnil⟩, hc⟩ := goodC_slice Try.underlying58 hg
    rw [e1] at hc
    rw [e8] at hby
    have hm' : cap ≤ 9223372036854775807 := by unfold maxLen at hm; exact hm
    cases ad with
    | none =>
      obtain rfl := hnil rfl
      obtain rfl : len = 0 := by omega
      refine wpList_plain hgd fun K hK => ?_
      have hr : (execOp a.eval o).run Try.prog w = .ok (.value (.slice none 0 0)) w := by
        unfold execOp
        have hc0 : a.eval (.const (.slice none 0 0)) = .slice none 0 0 := rfl
        simp only [ho, resolve, invoke, builtin, Sem.run_bind, Sem.run_pure, Result.andThen_ok, List.map_toArray, List.map_cons, List.map_nil, hx, hc0]
        simp [go_sem, Try.underlying58]
      unfold Oper.wp
      rw [hr, Oper.upon_value]
      exact hK _ _ (h _ _ ⟨eqC_slice Try.underlying58 ⟨none, 0, 0, none, 0, rfl, rfl, Nat.le_refl _, ⟨by unfold maxLen; omega, by omega, fun _ => rfl⟩, Nat.le_refl _, ⟨by unfold maxLen; omega, by omega, fun _ => rfl⟩, fun h0 => absurd h0 (Nat.lt_irrefl _)⟩, Below.refl _ _⟩)
    | some ad =>
      have key : ∃ f : Nat → Value, ∀ j, j < len → ∃ B o, ad = ⟨B, o, none⟩ ∧ B < W0.heap.size ∧ ∃ ds, ds.length = 2 ∧ W0.rangeAt B (o + j * 2) ds ∧ GoodC Try.prog W0 n 129 ds ∧ ds = [f (j * 2), f (j * 2 + 1)] := by
        have fn : ∀ j : Nat, ∃ p : Value × Value, j < len → ∃ B o, ad = ⟨B, o, none⟩ ∧ B < W0.heap.size ∧ ∃ ds, ds.length = 2 ∧ W0.rangeAt B (o + j * 2) ds ∧ GoodC Try.prog W0 n 129 ds ∧ ds = [p.1, p.2] := fun j => by
          by_cases hj : j < len
          · obtain ⟨B, o, he, hB, hjj⟩ := hc (by omega)
            obtain ⟨ds, h1, h2, h3⟩ := hjj j hj
            match ds, h1 with
            | [u, v], _ => exact ⟨(u, v), fun _ => ⟨B, o, Option.some.inj he, hB, _, rfl, h2, h3, rfl⟩⟩
          · exact ⟨(undef, undef), fun h => absurd h hj⟩
        obtain ⟨p, hp⟩ := Classical.axiomOfChoice fn
        refine ⟨fun i => if i % 2 = 0 then (p (i / 2)).1 else (p (i / 2)).2, fun j hj => ?_⟩
        obtain ⟨B, o, he, hB, ds, h1, h2, h3, h4⟩ := hp j hj
        refine ⟨B, o, he, hB, ds, h1, h2, h3, ?_⟩
        rw [h4]
        have e1 : j * 2 % 2 = 0 := by omega
        have e2 : (j * 2 + 1) % 2 = 1 := by omega
        have e3 : j * 2 / 2 = j := by omega
        have e4 : (j * 2 + 1) / 2 = j := by omega
        simp [e1, e2, e3, e4]
      obtain ⟨f, hf⟩ := key
      have hsz : ((List.range (len * 2)).map f).length = len * 2 := by simp
      have hcell : ∀ i, i < len * 2 → w.cell? (ad.add i) = some (f i) ∧ (f i).oneCell' = true := fun i hi => by
        obtain ⟨B, o, rfl, hB, ds, h1, h2, h3, h4⟩ := hf (i / 2) (by omega)
        have h5 := good_cells_of (by decide) h3
        subst h4
        rw [addr_add']
        rcases Nat.mod_two_eq_zero_or_one i with h0 | h0
        · have h6 := h2 0 _ rfl
          have e : o + i / 2 * 2 + 0 = o + i := by omega
          have e' : i / 2 * 2 = i := by omega
          rw [e, e'] at h6
          exact ⟨(hb0.cell (p := ⟨B, o + i, none⟩) hB).trans h6, h5 _ (by rw [e']; simp)⟩
        · have h6 := h2 1 _ rfl
          have e : o + i / 2 * 2 + 1 = o + i := by omega
          have e' : i / 2 * 2 + 1 = i := by omega
          rw [e, e'] at h6
          exact ⟨(hb0.cell (p := ⟨B, o + i, none⟩) hB).trans h6, h5 _ (by rw [e']; simp)⟩
      refine wpList_append_own w hgd (.const (.slice none 0 0)) x 58 ho w.heap.size 129 i3 (.agg #[.int .i64 0, .int .i64 0]) 2 16 Try.underlying58 hi3 hz0 hz1 hz2 rfl (by decide) (.slice none 0 0) 0 [] rfl (World.ownsRow_nil _ _ _ _) ad len cap ((List.range (len * 2)).map f) hx hsz ?_ ?_ ?_ ?_ (Nat.le_refl _) ?_
      · intro j u hu
        have hj : j < len * 2 := by have := (List.getElem?_eq_some_iff.1 hu).1; simpa using this
        rw [List.getElem?_map, List.getElem?_range hj] at hu
        obtain rfl := Option.some.inj hu
        exact (hcell j hj).1
      · intro u hu
        obtain ⟨j, hj, rfl⟩ := List.mem_map.1 hu
        exact (hcell j (by simpa using hj)).2
      · unfold maxLen; omega
      · omega
      · intro v' w' hown hgrow hnn
        have hb : Below w.heap.size w w' := (Below.refl _ _).grown hgrow (Nat.le_refl _) (by simp [Value.ownBlock])
        refine h v' w' ⟨eqC_slice Try.underlying58 ?_, hb⟩
        rw [Nat.zero_add, List.nil_append] at hown
        rcases hown.2 with ⟨rfl, h0⟩ | ⟨g, c, cur, rfl, g1, g2, g3, g4, _⟩
        · subst h0
          exact ⟨some ad, 0, cap, none, 0, rfl, rfl, hlc, ⟨hm, by omega, fun h => by cases h⟩, Nat.le_refl _, ⟨by unfold maxLen; omega, by omega, fun _ => rfl⟩, fun h0 => absurd h0 (Nat.lt_irrefl _)⟩
        · refine ⟨some ad, len, cap, some ⟨g, 0, none⟩, c, rfl, rfl, hlc, ⟨hm, by rw [e8]; exact hby, fun h => by cases h⟩, g3, ⟨g4, by rw [e8]; exact hby, fun h => by cases h⟩, fun h0 => ?_⟩
          obtain ⟨B, o, he, hB, _⟩ := hc h0
          obtain rfl := Option.some.inj he
          refine ⟨B, o, g, 0, rfl, rfl, ⟨hB, Nat.lt_of_lt_of_le hB (Nat.le_trans hb0.size hb.size)⟩, ⟨g1, (Array.getElem?_eq_some_iff.1 g2).1⟩, fun j hjl => ?_⟩
          obtain ⟨B', o', he', hB', ds, h1, h2, h3, h4⟩ := hf j hjl
          obtain ⟨rfl, rfl, _⟩ := Addr.mk.inj he'
          have hr : w'.rangeAt B (o + j * 2) ds := range_below (range_below h2 hb0 hB) hb (Nat.lt_of_lt_of_le hB hb0.size)
          rw [e1]
          refine ⟨ds, ds, h1, h1, hr, ?_, ?_⟩
          · subst h4
            intro i u hi
            have h7 : i < 2 := by have := (List.getElem?_eq_some_iff.1 hi).1; simpa using this
            rw [Nat.zero_add]
            have h5 := hown.cellAt (j * 2 + i) (by omega)
            rw [h5, List.getElem?_map, List.getElem?_range (by omega), ← hi]
            match i, h7 with
            | 0, _ => rfl
            | 1, _ => rfl
          · have := eqC_of_done (P := Try.prog) (w := w') (F := fun k => k < W0.heap.size) (F' := fun k => w.heap.size ≤ k) (k := 2) (cs0 := ds) (cs := ds) (done := []) (fun p hp => by cases hp) (fun _ _ _ => rfl) h1 h1 4 n 0 129 (by kernel_rfl) (by rw [e1]; omega) (by rw [e1, part_all h1]; exact GoodC.below (hb0.trans (hb.mono hb0.size)) _ _ _ h3)
            rw [e1, part_all h1] at this
            exact this
end Go.Proofs.Ytfpgklhbghahoaa
/- Election: copies by form: lists of points; pairs of a name and a struct. -/
namespace Go.Proofs.Ytfpgklhbghahoaa
open Go.ChangeShapes Go.WideShapes Go.ChangeAt Go.RowKit Go.ChangeMaps Go.Joins Go.Deep
set_option linter.unusedVariables false
set_option linter.unusedSimpArgs false
set_option maxRecDepth 100000
theorem seg_points {W0 W w : World} {id N n m k off j j2 d1 d2 d3 d4 d5 d6 y1 y2 y3 y5 y6 y7 : Nat} {p1 p2 p3 p4 p5 p6 p7 : String} {f1 f2 f3 f4 f5 f6 f7 : Array Edge} {T T2 : TypeId} {fs fs2 : Array Field} {f ff : Field} {cs0 : List Value} {done : List (Nat × TypeId)} {a : Act} {Q : Exit → Act → World → Prop} {rest : Code}
    (hb0 : Below W0.heap.size W0 W) (ha : ActC a N W.heap.size) (hst : CpSt W0 W n k cs0 done w) (hm : m ≤ n) (hg : GoodC Try.prog W0 m 58 (part_ cs0 off 1))
    (hu : Try.prog.underlying T = some (.struct fs)) (hf : fs[j]? = some f) (hfs : ((Try.prog.info? f.type).map (·.size)).getD 0 ≠ 0) (hu2 : Try.prog.underlying T2 = some (.struct fs2)) (hf2 : fs2[j2]? = some ff) (hfo : f.offset + ff.offset = off) (hft : ff.type = 58)
    (hle : off + 1 ≤ k) (hdB : done.all (fun p => decide (off + 1 ≤ p.1) || decide (p.1 + Try.prog.cellsOf p.2 ≤ off)) = true) (hdd : 2 < d1 ∧ d1 < N ∧ 2 < d2 ∧ d2 < N ∧ 2 < d3 ∧ d3 < N ∧ 2 < d4 ∧ d4 < N ∧ 2 < d5 ∧ d5 < N ∧ 2 < d6 ∧ d6 < N ∧ d4 ≠ d5 ∧ d4 ≠ d6)
    (hK : ∀ a' w', ActC a' N W.heap.size → CpSt W0 W n k cs0 ((off, 58) :: done) w' → rest.wp Try.prog Q a' w') :
    (Code.seq (Code.region id #[{ dst := some d1, op := .fieldAddr T (.tmp 1) j, type := y1, pos := p1, after := f1, guard := none }, { dst := some d2, op := .fieldAddr T2 (.tmp d1) j2, type := y2, pos := p2, after := f2, guard := none }, { dst := some d3, op := .load 58 (.tmp d2), type := y3, pos := p3, after := f3, guard := none }, { dst := some d4, op := .call { callee := .builtin .append, args := #[.const (.slice none 0 0), .tmp d3], argTypes := #[58, 58] }, type := 58, pos := p4, after := f4, guard := none }, { dst := some d5, op := .fieldAddr T (.tmp 1) j, type := y5, pos := p5, after := f5, guard := none }, { dst := some d6, op := .fieldAddr T2 (.tmp d5) j2, type := y6, pos := p6, after := f6, guard := none }, { dst := none, op := .store 58 (.tmp d6) (.tmp d4), type := y7, pos := p7, after := f7, guard := none }] false) rest).wp Try.prog Q a w := by
  obtain ⟨hd1, hn1, hd2, hn2, hd3, hn3, hd4, hn4, hd5, hn5, hd6, hn6, h45, h46⟩ := hdd
  have hq : Try.prog.cellsOf 58 = 1 := by kernel_rfl
  have hi : (Try.prog.info? 58).map (·.size) = some 1 := by kernel_rfl
  have hd := apart_of hdB
  have hsz : ((Try.prog.info? ff.type).map (·.size)).getD 0 ≠ 0 := by rw [hft, hi]; exact Nat.one_ne_zero
  obtain ⟨cs, hbx, h1, hdn, hrest⟩ := hst.src
  have hpart : part_ cs off 1 = part_ cs0 off 1 := hrest _ _ hd
  have hrng : w.rangeAt W.heap.size (0 + off) (part_ cs0 off 1) := by rw [← hpart]; exact range_part hbx.1.rng _ _
  have hlen0 : (part_ cs0 off 1).length = 1 := by rw [← hpart]; exact part_len (by rw [hbx.2]; exact hle)
  obtain ⟨v, hv⟩ : ∃ v, part_ cs0 off 1 = [v] := by
    match part_ cs0 off 1, hlen0 with
    | [v], _ => exact ⟨v, rfl⟩
  rw [hv] at hrng hg
  have hcell : w.cell? ⟨W.heap.size, 0 + off, none⟩ = some v := hrng 0 v rfl
  rw [← hfo, ← Nat.add_assoc] at hcell
  refine wp_seq (wp_region_lit ?_)
  refine wpList_ok rfl (ex_field T (.tmp 1) j W.heap.size 0 fs f rfl ha.src hu hf hfs) ?_
  have ha1 := ha.put hd1 (.pointer (some ⟨W.heap.size, 0 + f.offset, none⟩))
  refine wpList_ok rfl (ex_field T2 (.tmp d1) j2 W.heap.size (0 + f.offset) fs2 ff rfl (eval_put_same (by rw [ha.size]; exact hn1)) hu2 hf2 hsz) ?_
  have ha2 := ha1.put hd2 (.pointer (some ⟨W.heap.size, 0 + f.offset + ff.offset, none⟩))
  refine wpList_ok rfl (ex_load_cell 58 (.tmp d2) W.heap.size (0 + f.offset + ff.offset) v (.slice 129) rfl (eval_put_same (by rw [ha1.size]; exact hn2)) hcell Try.underlying58 rfl) ?_
  have ha3 := ha2.put hd3 v
  refine append_points rfl (.tmp d3) rfl (hb0.trans (hst.low.mono hb0.size)) hg (eval_put_same (by rw [ha2.size]; exact hn3)) rfl (fun v' w' hcp => ?_)
  have ha4 := ha3.put hd4 v'
  generalize hA4 : ((((a.put (some d1) (.pointer (some ⟨W.heap.size, 0 + f.offset, none⟩))).put (some d2) (.pointer (some ⟨W.heap.size, 0 + f.offset + ff.offset, none⟩))).put (some d3) v).put (some d4) v') = a4 at *
  have he4 : a4.eval (.tmp d4) = v' := by rw [← hA4]; exact eval_put_same (by rw [ha3.size]; exact hn4)
  obtain ⟨b2, l2, c2, rfl⟩ := eqC_form Try.underlying58 hcp.1
  have hb2 := hbx.keep hcp.2
  have hth : w'.there W.heap.size (0 + f.offset + ff.offset) 1 := by rw [Nat.zero_add, hfo]; exact hb2.1.there _ _ (by rw [hb2.2]; exact hle)
  refine wpList_ok rfl (ex_field T (.tmp 1) j W.heap.size 0 fs f rfl ha4.src hu hf hfs) ?_
  have ha5 := ha4.put hd5 (.pointer (some ⟨W.heap.size, 0 + f.offset, none⟩))
  refine wpList_ok rfl (ex_field T2 (.tmp d5) j2 W.heap.size (0 + f.offset) fs2 ff rfl (eval_put_same (by rw [ha4.size]; exact hn5)) hu2 hf2 hsz) ?_
  have ha6 := ha5.put hd6 (.pointer (some ⟨W.heap.size, 0 + f.offset + ff.offset, none⟩))
  refine wpList_done rfl rfl (ex_store_cell 58 (.tmp d6) (.tmp d4) W.heap.size (0 + f.offset + ff.offset) _ rfl (eval_put_same (by rw [ha5.size]; exact hn6)) ((eval_put_ne h46.symm).trans ((eval_put_ne h45.symm).trans he4)) hth hi rfl) ?_
  refine wpList_nil (hK _ _ ha6 ?_)
  rw [Nat.zero_add, hfo]
  exact CpSt.store hb0.size hst hq (by rw [hv]; exact ⟨EqC.upTo hcp.1 hm, hcp.2⟩) rfl hle hd (by intro u hu; rw [List.mem_singleton.1 hu]; rfl)
theorem fold_set : ∀ (ds : List Value) (off k : Nat) (cs : Array Value), off + k + ds.length ≤ cs.size → (((ds.zipIdx k).foldl (fun cs x => cs.setIfInBounds (off + x.2) x.1) cs)).toList = spl cs.toList (off + k) ds
  | [], off, k, cs, h => by
    unfold spl
    simp
  | d :: ds, off, k, cs, h => by
    rw [List.zipIdx_cons, List.foldl_cons, fold_set ds off (k + 1) _ (by simp at h ⊢; omega)]
    apply List.ext_getElem?
    intro i
    have h1 : off + (k + 1) + ds.length ≤ (cs.setIfInBounds (off + k) d).toList.length := by simp at h ⊢; omega
    have h2 : off + k + (d :: ds).length ≤ cs.toList.length := by simp at h ⊢; omega
    rw [spl_getElem h1, spl_getElem h2]
    simp only [List.length_cons] at h ⊢
    by_cases e : i = off + k
    · subst e
      rw [if_neg (by omega), if_pos ⟨by omega, by omega⟩, Array.toList_setIfInBounds, List.getElem?_set_self (by rw [Array.length_toList]; omega)]
      simp
    · by_cases e2 : off + (k + 1) ≤ i ∧ i < off + (k + 1) + ds.length
      · rw [if_pos e2, if_pos ⟨by omega, by omega⟩, show i - (off + k) = (i - (off + (k + 1))) + 1 by omega, List.getElem?_cons_succ]
      · rw [if_neg e2, if_neg (by omega)]
        rw [Array.toList_setIfInBounds, List.getElem?_set_ne (by omega)]
/-- a struct of a single cell and of a struct -/
theorem fill_pair {zs ds : List Value} {v : Value} {q : Nat} (hv : v.oneCell' = true) (hd : ds.length = q) (hz : zs.length = q + 1) (pl : Nat → Option (Nat × Nat)) (h0 : pl 0 = some (0, 1)) (h1 : pl 1 = some (1, q)) :
    Instr.fill pl zs.toArray [(0, v), (1, .agg ds.toArray)] = some (v :: ds).toArray := by
  have hz0 : zs.length ≠ 0 := by omega
  obtain ⟨z, zr, rfl⟩ := List.exists_cons_of_length_pos (show 0 < zs.length by omega)
  have hzr : zr.length = q := by simpa using hz
  have hf := fold_set ds 1 0 (#[v] ++ zr.toArray) (by simp [hzr, hd]; omega)
  have e1 : spl (#[v] ++ zr.toArray).toList (1 + 0) ds = v :: ds := by
    unfold spl
    simp [hd, ← hzr]
    omega
  rw [e1] at hf
  have e2 : (Value.agg ds.toArray).cells = ds.toArray := rfl
  simp only [Instr.fill, h0, h1, cells_one hv, e2]
  have hA : Array.foldl (fun (cs : Array Value) x => cs.setIfInBounds (0 + x.2) x.1) (z :: zr).toArray #[v].zipIdx = #[v] ++ zr.toArray := by simp
  rw [hA, if_neg (by simp), if_neg (by simp [hd, hzr]; omega)]
  congr 1
  apply Array.toList_inj.1
  have e3 : ds.toArray.zipIdx = (ds.zipIdx).toArray := by simp
  rw [e3, List.foldl_toArray, hf]
end Go.Proofs.Ytfpgklhbghahoaa
/- Regions that draw their order and have effects that float (plain); ways that meet; a slice of one struct. -/
namespace Go.Proofs.Ytfpgklhbghahoaa
open Go.ChangeShapes Go.WideShapes Go.ChangeAt Go.RowKit Go.ChangeMaps Go.Joins Go.Deep
set_option linter.unusedVariables false
set_option linter.unusedSimpArgs false
set_option maxRecDepth 100000
section
variable {P : Program} {ops : Array Oper} {md : Region.Mode} {Q : Exit → Act → World → Prop} {N : Nat}
theorem wp_region_S {id : Nat} {a : Act} {w : World} {V : Nat → Option Value} (S : Array Bool → Act → World → Prop) (hm : P.follows .mixedOrders = true) (hb : backB .any ops = true)
    (hS : S (Array.replicate ops.size false) a w.drew) (hN : a.tmps.size = N) (hd : a.defers = []) (hV : ∀ t v, V t = some v → Avail ops (fun _ => False) t → a.eval (.tmp t) = v)
    (hdst : ∀ (i : Nat) (o : Oper) (d : Nat), ops[i]? = some o → o.dst = some d → d < N)
    (hop : ∀ (i : Nat) (o : Oper), ops[i]? = some o → ∀ (listed : Array Bool) (a : Act) (w : World), listed.size = ops.size → listed.getD i false = false → (∀ j, Region.waitsFor .any ops i j = true → listed.getD j false = true) → a.tmps.size = N → a.defers = [] → (∀ t v, V t = some v → Avail ops (fun j => Region.waitsFor .any ops i j = true) t → a.eval (.tmp t) = v) → S listed a w →
      (Region.wanted o (yielded ops a.tmps) = true ∧ ∀ K : Act → World → Prop, (∀ v w', (∀ d u, o.dst = some d → V d = some u → v = u) → S (listed.setIfInBounds i true) (a.put o.dst v) w' → K (a.put o.dst v) w') → o.wp P a w K Q) ∨ (Region.wanted o (yielded ops a.tmps) = false ∧ (∀ d, o.dst = some d → V d = none) ∧ S (listed.setIfInBounds i true) (a.put o.dst undef) w))
    (hQ : ∀ (listed : Array Bool) a' w', (∀ i, i < ops.size → listed.getD i false = true) → S listed a' w' → a'.tmps.size = N → a'.defers = [] → (∀ t v, V t = some v → a'.eval (.tmp t) = v) → Q .normal a' w') : (Code.region id ops true).wp P Q a w := by
  refine wp_region_any hm ?_
  have fin : ∀ (listed : Array Bool) a' w', listed.size = ops.size → Region.ready .any ops listed = [] → FreeInv ops V N listed a' → S listed a' w' → Q .normal a' w' := fun listed a' w' hs hr inv hSw =>
    hQ listed a' w' (ready_none hb listed hs hr) hSw inv.size inv.defers (fun t v hv => inv.val t v hv (fun j o ho _ => ready_none hb listed hs hr j (Array.getElem?_eq_some_iff.1 ho).1))
  have key : ∀ (f : Nat) (listed : Array Bool) (a : Act) (w : World), listed.size = ops.size → listed.toList.count false ≤ f → FreeInv ops V N listed a → S listed a w → wpAny P .any ops Q f listed a w := by
    intro f
    induction f with
    | zero =>
      intro listed a w hs hc inv hSw
      have hall : ∀ i, i < ops.size → listed.getD i true = true := fun i hi => by
        cases hl : listed.getD i true with
        | true => rfl
        | false =>
          exfalso
          have hi' : i < listed.size := by omega
          have hm : false ∈ listed.toList := by
            have : listed[i] = false := by simpa [hi'] using hl
            rw [← this]
            exact Array.mem_toList_iff.2 (Array.getElem_mem hi')
          have := List.count_pos_iff.2 hm
          omega
      have hr : Region.ready .any ops listed = [] := by
        rw [List.eq_nil_iff_forall_not_mem]
        intro j hj
        obtain ⟨h1, o, ho, _⟩ := mem_ready.1 hj
        have := hall j (Array.getElem?_eq_some_iff.1 ho).1
        rw [this] at h1
        cases h1
      exact ⟨hr, fin listed a w hs hr inv hSw⟩
    | succ f ih =>
      intro listed a w hs hc inv hSw
      refine ⟨fun hr => fin listed a w hs hr inv hSw, fun i hi => ?_⟩
      obtain ⟨hun, o, ho, hall⟩ := mem_ready.1 hi
      have hi' : i < listed.size := by rw [hs]; exact (Array.getElem?_eq_some_iff.1 ho).1
      have hcnt : (listed.setIfInBounds i true).toList.count false ≤ f := by
        rw [Array.toList_setIfInBounds]
        have := count_set listed.toList i (by
          rw [Array.getElem?_toList, Array.getElem?_eq_getElem hi']
          have : listed[i] = false := by simpa [hi'] using hun
          rw [this])
        omega
      have hpast : ∀ j, Region.waitsFor .any ops i j = true → listed.getD j false = true := fun j hj => by
        obtain ⟨oj, hoj, e, he, hbe, hon⟩ := Region.waitsFor_spec hj
        have : oj = o := Option.some.inj (hoj.symm.trans ho)
        subst this
        rw [← hon]
        exact hall e he hbe
      have hnext : ∀ v, (∀ d u, o.dst = some d → V d = some u → v = u) → FreeInv ops V N (listed.setIfInBounds i true) (a.put o.dst v) := fun v hv => by
        cases hod : o.dst with
        | none =>
          refine ⟨inv.size, inv.defers, fun t u hu hav => inv.val t u hu (fun j oj hoj hdj => ?_)⟩
          have h1 : (listed.setIfInBounds i true).getD j false = true := hav j oj hoj hdj
          by_cases hji : i = j
          · subst hji
            have : oj = o := Option.some.inj (hoj.symm.trans ho)
            subst this
            rw [hod] at hdj
            cases hdj
          · rwa [getD_set_ne false hji] at h1
        | some d =>
          have hdN := hdst i o d ho hod
          refine ⟨by simp [Act.put, inv.size], inv.defers, fun t u hu hav => ?_⟩
          by_cases e : d = t
          · subst e
            have := hv d u hod hu
            subst this
            simp [Act.put, Act.eval, Array.getElem?_setIfInBounds, inv.size, hdN]
          · have : (a.put (some d) v).eval (.tmp t) = a.eval (.tmp t) := by simp [Act.put, Act.eval, Array.getElem?_setIfInBounds, e]
            rw [this]
            refine inv.val t u hu (fun j oj hoj hdj => ?_)
            have h1 : (listed.setIfInBounds i true).getD j false = true := hav j oj hoj hdj
            by_cases hji : i = j
            · subst hji
              have : oj = o := Option.some.inj (hoj.symm.trans ho)
              subst this
              rw [hod] at hdj
              exact absurd (Option.some.inj hdj) e
            · rwa [getD_set_ne false hji] at h1
      have hs' : (listed.setIfInBounds i true).size = ops.size := by simp [hs]
      unfold wpOp
      simp only [ho]
      rcases hop i o ho listed a w hs (getD_both hun) hpast inv.size inv.defers (fun t v hv hav => inv.val t v hv (fun j oj hoj hdj => hpast j (hav j oj hoj hdj))) hSw with ⟨hw, hwp⟩ | ⟨hw, hv, hS'⟩
      · rw [if_pos hw]
        exact .inl (hwp _ (fun v w' hv hS' => ih _ _ _ hs' hcnt (hnext v hv) hS'))
      · rw [if_neg (by rw [hw]; decide)]
        exact ih _ _ _ hs' hcnt (hnext undef (fun d u hd hu => by rw [hv d hd] at hu; cases hu)) hS'
  refine key ops.size _ a _ (by simp) (by simp) ⟨hN, hd, fun t v hv hav => hV t v hv (fun j o ho hdj => ?_)⟩ hS
  have : (Array.replicate ops.size false).getD j false = true := hav j o ho hdj
  rw [getD_replicate_false] at this
  cases this
theorem wp_meet_region {u : Code} {a : Act} {w : World} (J : Act → World → Prop) (hu : ∀ K : Act → World → Prop, (∀ a w, J a w → K a w) → u.wp P (Exit.then K Q) a w) (hv : ∀ a w, J a w → Q .normal a w) : u.wp P Q a w :=
  Code.wp_mono (fun e a w h => by cases e <;> exact h) (hu (fun a w => Q .normal a w) hv)
end
section
variable {P : Program} {N : Nat} {env : VEnv} {a : Act} {ops : Array Oper} {rest : List Oper} {Q : Exit → Act → World → Prop} {w : World} {w0 : Base} {l : List (Nat × List Value)} {d y x z : Nat} {ps : String} {af : Array Edge} {T t : TypeId}
theorem fill_one {zs cs : List Value} {k : Nat} (hz : zs.length = k) (hc : cs.length = k) (hk : 0 < k) : Instr.fill (fun i => some (i * k, k)) ((Array.range (1 * k)).map (zs.toArray[· % zs.toArray.size]!)) [(0, .agg cs.toArray)] = some cs.toArray := by
  have e2 : (Value.agg cs.toArray).cells = cs.toArray := rfl
  have hsz : ((Array.range (1 * k)).map (zs.toArray[· % zs.toArray.size]!)).size = k := by simp
  have hf := fold_set cs 0 0 ((Array.range (1 * k)).map (zs.toArray[· % zs.toArray.size]!)) (by rw [hsz, hc]; omega)
  have hl : ((Array.range (1 * k)).map (zs.toArray[· % zs.toArray.size]!)).toList.length = k := by rw [Array.length_toList, hsz]
  generalize ((Array.range (1 * k)).map (zs.toArray[· % zs.toArray.size]!)) = A at *
  have e1 : spl A.toList (0 + 0) cs = cs := by
    unfold spl
    rw [Nat.zero_add, List.take_zero, List.nil_append, List.drop_eq_nil_of_le (by omega), List.append_nil]
  rw [e1] at hf
  simp only [Instr.fill, e2, Nat.zero_mul]
  rw [if_neg (by simp [hc, hsz])]
  congr 1
  apply Array.toList_inj.1
  have e3 : cs.toArray.zipIdx = (cs.zipIdx).toArray := by simp
  rw [e3, List.foldl_toArray, hf]
theorem ex_bs1 {o : Oper} {ρ : Operand → Value} {e : TypeId} {x : Operand} {cs : List Value} {k : Nat} (ho : o.op = .buildSlice t 1 #[(0, x)]) (hx : ρ x = .agg cs.toArray) (hu : P.underlying t = some (.slice e)) (hz : zeroB P e k = true) (hi : (P.info? e).map (·.size) = some k) (hc : cs.length = k) (hk : 0 < k) (hk2 : k ≤ 1000) : (execOp ρ o).run P w = .ok (.value (.slice (some ⟨w.heap.size, 0, none⟩) 1 1)) (w.alloc (.cells cs.toArray e)) := by
  obtain ⟨i, zs, hie, hzz, hzl⟩ := zeroB_spec hz
  have hsz : i.size = k := by rw [hie] at hi; exact Option.some.inj hi
  unfold execOp
  simp only [ho, List.map_toArray, List.map_cons, List.map_nil, hx, Sem.run_bind]
  rw [run_buildSlice (P := P) w t e 1 _ cs.toArray i (.agg zs.toArray) hu hie hzz (by rw [hsz]; omega) (by rw [hsz]; omega) (by
    rw [hsz]
    exact fill_one hzl hc hk)]
  simp only [Result.andThen_ok, Sem.run_pure]
theorem sv_bs1 {e : TypeId} {cs : List Value} {k : Nat} (hf : FrV N env a) (hB : Bx w0 l w) (hx : env.lookup x = some (.agg cs.toArray)) (hu : P.underlying t = some (.slice e)) (hz : zeroB P e k = true) (hi : (P.info? e).map (·.size) = some k) (hc : cs.length = k) (hk : 0 < k) (hk2 : k ≤ 1000) (hd : d < N) (h : ∀ a' C w', C = w.heap.size → FrV N ((d, .slice (some ⟨C, 0, none⟩) 1 1) :: env) a' → Bx w0 ((C, cs) :: l) w' → Below w.heap.size w w' → wpList P ops Q rest a' w') : wpList P ops Q ({ dst := some d, op := .buildSlice t 1 #[(0, .tmp x)], type := y, pos := ps, after := af, guard := none } :: rest) a w :=
  wpList_ok rfl (ex_bs1 rfl (hf.rel x _ hx) hu hz hi hc hk hk2) (h _ _ _ rfl (hf.put hd _) (hB.new cs e) ((Below.refl _ _).alloc (Nat.le_refl _) _))
/-- sums of ints -/
theorem sv_add {xT zT : TypeId} {x z : Operand} {m n : Int} (r : Int) (hf : FrV N env a) (hx : ev env x = some (.int .i64 m)) (hz : ev env z = some (.int .i64 n)) (hr : IntKind.i64.wrap (m + n) = r) (hd : d < N) (h : ∀ a', FrV N ((d, .int .i64 r) :: env) a' → wpList P ops Q rest a' w) : wpList P ops Q ({ dst := some d, op := .binOp .add xT x z zT, type := y, pos := ps, after := af, guard := none } :: rest) a w :=
  sv_run hf hd (fun a hf => by
    subst hr
    unfold execOp
    simp only [hf.ev hx, hf.ev hz]
    simp [go_sem]) h
theorem sv_sub {xT zT : TypeId} {x z : Operand} {m n : Int} (r : Int) (hf : FrV N env a) (hx : ev env x = some (.int .i64 m)) (hz : ev env z = some (.int .i64 n)) (hr : IntKind.i64.wrap (m - n) = r) (hd : d < N) (h : ∀ a', FrV N ((d, .int .i64 r) :: env) a' → wpList P ops Q rest a' w) : wpList P ops Q ({ dst := some d, op := .binOp .sub xT x z zT, type := y, pos := ps, after := af, guard := none } :: rest) a w :=
  sv_run hf hd (fun a hf => by
    subst hr
    unfold execOp
    simp only [hf.ev hx, hf.ev hz]
    simp [go_sem]) h
theorem wrap_in {m : Int} (h : -9223372036854775808 ≤ m ∧ m ≤ 9223372036854775807) : IntKind.i64.wrap m = m := by
  rw [IntKind.wrap_i64]; omega
/-- an operation that is not wanted leaves nothing -/
theorem sv_skip1 {op : Op} {j : Nat} {b b' : Bool} (hf : FrV N env a) (hN : dstB ops j N = true) (h : gv ops env j = some (.bool b')) (hb : b' ≠ b) (hd : d < N) (hk : ∀ a', FrV N ((d, undef) :: env) a' → wpList P ops Q rest a' w) : wpList P ops Q ({ dst := some d, op := op, type := y, pos := ps, after := af, guard := some (j, b) } :: rest) a w := by
  have hw := wanted_of (o := { dst := some d, op := op, type := y, pos := ps, after := af, guard := some (j, b) }) hf (dstB_spec hN) rfl h
  unfold wpList
  rw [if_neg (by rw [hw]; simpa using hb)]
  exact hk _ (hf.put hd undef)
theorem sv_skip2 {op : Op} {j : Nat} {b : Bool} (hf : FrV N env a) (hN : dstB ops j N = true) (h : gv ops env j = some undef) (hd : d < N) (hk : ∀ a', FrV N ((d, undef) :: env) a' → wpList P ops Q rest a' w) : wpList P ops Q ({ dst := some d, op := op, type := y, pos := ps, after := af, guard := some (j, b) } :: rest) a w := by
  have hw : Region.wanted ({ dst := some d, op := op, type := y, pos := ps, after := af, guard := some (j, b) } : Oper) (yielded ops a.tmps) = false := by
    unfold gv at h
    split at h
    · rename_i o' ho
      split at h
      · rename_i d' hd'
        have hv := hf.rel d' _ h
        have hdN := dstB_spec hN d' o' ho hd'
        have h1 : a.tmps.getD d' undef = undef := hv
        have h2 : d' < a.tmps.size := by rw [hf.size]; exact hdN
        have h3 : a.tmps[d']? = some undef := by
          rw [Array.getElem?_eq_getElem h2]
          simp [h2] at h1
          rw [h1]
        unfold Region.wanted
        simp only
        unfold yielded
        simp only [ho, hd', Option.bind_some, h3]
        rfl
      · cases h
    · cases h
  unfold wpList
  rw [if_neg (by rw [hw]; decide)]
  exact hk _ (hf.put hd undef)
end
end Go.Proofs.Ytfpgklhbghahoaa
/- Regions that draw their order: values known ahead, boxes by what has been done (plain). -/
namespace Go.Proofs.Ytfpgklhbghahoaa
open Go.ChangeShapes Go.WideShapes Go.ChangeAt Go.RowKit Go.ChangeMaps Go.Joins Go.Deep
set_option linter.unusedVariables false
set_option linter.unusedSimpArgs false
set_option maxRecDepth 100000
def availB (ops : Array Oper) (i t : Nat) : Bool := (List.range ops.size).all fun j => match ops[j]? with
  | some o => !(o.dst == some t) || Region.waitsFor .any ops i j
  | none => true
theorem availB_spec {ops : Array Oper} {i t : Nat} (h : availB ops i t = true) : Avail ops (fun j => Region.waitsFor .any ops i j = true) t := fun j o ho hd => by
  have h2 := (List.all_eq_true.1 h) j (List.mem_range.2 (Array.getElem?_eq_some_iff.1 ho).1)
  simp only [ho, hd] at h2
  simpa using h2
def dstsB (ops : Array Oper) (N : Nat) : Bool := ops.all fun o => match o.dst with
  | some d => decide (d < N)
  | none => true
theorem dstsB_spec {ops : Array Oper} {N : Nat} (h : dstsB ops N = true) (i : Nat) (o : Oper) (d : Nat) (ho : ops[i]? = some o) (hd : o.dst = some d) : d < N := by
  have := (Array.all_eq_true_iff_forall_mem.1 h) o (Array.mem_of_getElem? ho)
  simp only [hd] at this
  simpa using this
def hasDst (ops : Array Oper) (t : Nat) : Bool := ops.any fun o => o.dst == some t
theorem hasDst_spec {ops : Array Oper} {t : Nat} (h : hasDst ops t = true) : ¬ Avail ops (fun _ => False) t := fun hav => by
  obtain ⟨o, hmem, hod⟩ := Array.any_eq_true'.1 h
  obtain ⟨j, hj, hjo⟩ := Array.mem_iff_getElem.1 hmem
  exact hav j o (by rw [Array.getElem?_eq_getElem hj, hjo]) (by simpa using hod)
def upd (f : Nat → Bool) (i : Nat) : Nat → Bool := fun j => if j = i then true else f j
theorem lookup_append {xs ys : VEnv} {t : Nat} {v : Value} (h : (xs ++ ys).lookup t = some v) : (∃ u, (t, u) ∈ xs) ∨ ys.lookup t = some v := by
  induction xs with
  | nil => exact .inr h
  | cons p xs ih =>
    obtain ⟨k, u⟩ := p
    by_cases e : t = k
    · subst e; exact .inl ⟨u, List.mem_cons_self⟩
    · have hb : (t == k) = false := by simpa using e
      simp only [List.cons_append, List.lookup, hb] at h
      rcases ih h with ⟨u', hu⟩ | h
      · exact .inl ⟨u', List.mem_cons_of_mem _ hu⟩
      · exact .inr h
theorem frv_of {N : Nat} {a : Act} {env : VEnv} (hN : a.tmps.size = N) (hd : a.defers = []) (h : ∀ p ∈ env, a.eval (.tmp p.1) = p.2) : FrV N env a := by
  refine ⟨hN, hd, fun t v hl => ?_⟩
  have : (t, v) ∈ env := by
    clear h
    induction env with
    | nil => cases hl
    | cons p env ih =>
      obtain ⟨k, u⟩ := p
      by_cases e : t = k
      · subst e
        simp [List.lookup] at hl
        subst hl
        exact List.mem_cons_self
      · have hb : (t == k) = false := by simpa using e
        simp only [List.lookup, hb] at hl
        exact List.mem_cons_of_mem _ (ih hl)
  exact h _ this
theorem all_nil {a : Act} : ∀ p ∈ ([] : VEnv), a.eval (.tmp p.1) = p.2 := fun p h => by cases h
theorem all_cons {a : Act} {t : Nat} {v : Value} {env : VEnv} (h : a.eval (.tmp t) = v) (hs : ∀ p ∈ env, a.eval (.tmp p.1) = p.2) : ∀ p ∈ (t, v) :: env, a.eval (.tmp p.1) = p.2 := fun p hp => by
  rcases List.mem_cons.1 hp with rfl | hp
  · exact h
  · exact hs p hp
theorem ex_as {P : Program} {w : World} {o : Oper} {ρ : Operand → Value} {x : Operand} {v : Value} (ho : o.op = .assign x) (hx : ρ x = v) : (execOp ρ o).run P w = .ok (.value v) w := by
  unfold execOp
  simp only [ho, hx, Sem.run_pure]
theorem ex_mv {P : Program} {w : World} {o : Oper} {ρ : Operand → Value} {x : Operand} {v : Value} (ho : o.op = .move x) (hx : ρ x = v) : (execOp ρ o).run P w = .ok (.value v) w := by
  unfold execOp
  simp only [ho, hx, Sem.run_pure]
theorem Bx.add {b : Base} {W : World} {l : List (Nat × List Value)} (h : Bx b l W) {C : Nat} {cs : List Value} (hb : Box W C cs) (hge : b.w.heap.size ≤ C) (hne : ∀ x ∈ l, x.1 ≠ C) (hbas : ∀ p ∈ b.bs, C < p.1.heap.size → ¬ p.2 C) : Bx b ((C, cs) :: l) W := by
  refine ⟨fun x hx => ?_, h.low, fun x hx => ?_, fun i j x y hi hj he => ?_, h.bas, fun p hp x hx hlt => ?_⟩
  · rcases List.mem_cons.1 hx with rfl | hx
    · exact hb
    · exact h.box x hx
  · rcases List.mem_cons.1 hx with rfl | hx
    · exact hge
    · exact h.ge x hx
  · match i, j, hi, hj with
    | 0, 0, _, _ => rfl
    | 0, j + 1, hi, hj =>
      have h1 : (C, cs) = x := Option.some.inj hi
      rw [← h1] at he
      exact absurd he.symm (hne y (List.mem_of_getElem? (by simpa using hj)))
    | i + 1, 0, hi, hj =>
      have h1 : (C, cs) = y := Option.some.inj hj
      rw [← h1] at he
      exact absurd he (hne x (List.mem_of_getElem? (by simpa using hi)))
    | i + 1, j + 1, hi, hj => rw [h.nd i j x y (by simpa using hi) (by simpa using hj) he]
  · rcases List.mem_cons.1 hx with rfl | hx
    · exact hbas p hp hlt
    · exact h.bge p hp x hx hlt
section
variable {P : Program} {w : World} {o : Oper} {a : Act} {N : Nat} {env : VEnv}
theorem ex_pk {b : Bool} {c p q : Operand} {v : Value} (hf : FrV N env a) (ho : o.op = .pick c p q) (hx : ev env c = some (.bool b)) (hp : ev env (if b then p else q) = some v) : (execOp a.eval o).run P w = .ok (.value v) w := by
  have hv := hf.ev hp
  unfold execOp
  cases b
  · simp only [ho, hf.ev hx, asBool, Sem.run_bind, Sem.run_pure, Result.andThen_ok]
    rw [show a.eval q = v from hv]; rfl
  · simp only [ho, hf.ev hx, asBool, Sem.run_bind, Sem.run_pure, Result.andThen_ok]
    rw [show a.eval p = v from hv]; rfl
theorem ex_cmp {op : BinOp} {xT zT : TypeId} {x z : Operand} {m n : Int} {b : Bool} (hf : FrV N env a) (ho : o.op = .binOp op xT x z zT) (hx : ev env x = some (.int .i64 m)) (hz : ev env z = some (.int .i64 n)) (hb : cmpI op m n = some b) : (execOp a.eval o).run P w = .ok (.value (.bool b)) w := by
  unfold execOp
  simp only [ho, hf.ev hx, hf.ev hz]
  have := cmpI_run (P := P) (xT := xT) (x := x) (z := z) hb w
  simp only [Sem.run_bind] at this ⊢
  rw [this]
  rfl
theorem ex_not {b : Bool} {xT : TypeId} {x : Operand} (hf : FrV N env a) (ho : o.op = .unOp .not xT x) (hx : ev env x = some (.bool b)) : (execOp a.eval o).run P w = .ok (.value (.bool (!b))) w := by
  unfold execOp
  simp only [ho, hf.ev hx]
  simp [go_sem]
theorem ex_len {t e : TypeId} {x : Operand} {ad : Option Addr} {n c : Nat} (hf : FrV N env a) (ho : o.op = .call { callee := .builtin .len, args := #[x], argTypes := #[t] }) (hx : ev env x = some (.slice ad n c)) (hu : P.underlying t = some (.slice e)) : (execOp a.eval o).run P w = .ok (.value (.int .i64 n)) w := by
  have hel : P.underlying t = some (.slice (P.elem t)) := by simp [Program.elem, hu]
  unfold execOp
  simp only [ho, resolve, invoke, builtin, Sem.run_bind, Sem.run_pure, Result.andThen_ok, List.map_toArray, List.map_cons, List.map_nil, hf.ev hx, run_len_slice w t _ ad n c hel]
  rfl
theorem ex_idx {t e : TypeId} {B p n c q k : Nat} {x z : Operand} (hf : FrV N env a) (ho : o.op = .indexAddr t x z) (hx : ev env x = some (.slice (some ⟨B, p, none⟩) n c)) (hz : ev env z = some (.int .i64 (q : Int))) (hq : q < n) (hu : P.underlying t = some (.slice e)) (hk : (P.info? e).map (·.size) = some k) : (execOp a.eval o).run P w = .ok (.value (.pointer (some ⟨B, p + q * k, none⟩))) w := by
  have hel : P.underlying t = some (.slice (P.elem t)) := by simp [Program.elem, hu]
  have hee : P.elem t = e := by simp [Program.elem, hu]
  have hsize : (sizeOf (P.elem t)).run P w = .ok k w := by
    rw [hee]
    cases hq : P.info? e with
    | none => simp [hq] at hk
    | some inf =>
      have : inf.size = k := by simpa [hq] using hk
      simp [sizeOf, typeInfo, hq, this]
  unfold execOp
  simp only [ho, hf.ev hx, hf.ev hz, Sem.run_bind, run_indexAt_slice w t ⟨B, p, none⟩ n c .i64 q hel]
  rw [if_pos ⟨by omega, by omega⟩, hsize]
  simp only [Result.andThen_ok, Int.toNat_natCast, Addr.add_mid, Sem.run_pure]
theorem ex_bld {T : TypeId} {xs : List (Nat × Operand)} {vs : List (Nat × Value)} {cs : List Value} (hf : FrV N env a) (ho : o.op = .build T xs.toArray) (hx : evp env xs = some vs) (hb : P.built T vs = some cs.toArray) : (execOp a.eval o).run P w = .ok (.value (.agg cs.toArray)) w := by
  have he : (xs.toArray.map fun (i, x) => (i, a.eval x)) = vs.toArray := by
    rw [List.map_toArray]
    exact congrArg List.toArray (hf.evp hx)
  unfold execOp
  simp only [ho, he, Sem.run_bind, run_build w T _ cs.toArray (by simpa using hb), Result.andThen_ok, Sem.run_pure]
theorem ex_vfld {S : TypeId} {x : Operand} {j b p : Nat} {fs : Array Field} {f : Field} (off : Nat) (hf : FrV N env a) (ho : o.op = .fieldAddr S x j) (hx : ev env x = some (.pointer (some ⟨b, p, none⟩))) (hu : P.underlying S = some (.struct fs)) (hj : fs[j]? = some f) (hs : ((P.info? f.type).map (·.size)).getD 0 ≠ 0) (hoff : p + f.offset = off) : (execOp a.eval o).run P w = .ok (.value (.pointer (some ⟨b, off, none⟩))) w := by
  subst hoff
  exact ex_field S x j b p fs f ho (hf.ev hx) hu hj hs
theorem ex_vlc {t : TypeId} {x : Operand} {b p : Nat} {cs : List Value} {v : Value} {td : TypeDesc} (hf : FrV N env a) (ho : o.op = .load t x) (hx : ev env x = some (.pointer (some ⟨b, p, none⟩))) (hb : Box w b cs) (hc : cs[p]? = some v) (hu : P.underlying t = some td) (hr : td.isRow = false) : (execOp a.eval o).run P w = .ok (.value v) w :=
  ex_load_cell t x b p v td ho (hf.ev hx) (hb.cell p v hc) hu hr
theorem ex_vlm {t : TypeId} {x : Operand} {b p : Nat} {v : Value} {td : TypeDesc} (hf : FrV N env a) (ho : o.op = .load t x) (hx : ev env x = some (.pointer (some ⟨b, p, none⟩))) (hc : w.cell? ⟨b, p, none⟩ = some v) (hu : P.underlying t = some td) (hr : td.isRow = false) : (execOp a.eval o).run P w = .ok (.value v) w :=
  ex_load_cell t x b p v td ho (hf.ev hx) hc hu hr
theorem ex_vlr {t : TypeId} {x : Operand} {b : Nat} {cs : List Value} {fs : Array Field} (hf : FrV N env a) (ho : o.op = .load t x) (hx : ev env x = some (.pointer (some ⟨b, 0, none⟩))) (hb : Box w b cs) (hu : P.underlying t = some (.struct fs)) (hn : (P.info? t).map (·.size) = some cs.length) : (execOp a.eval o).run P w = .ok (.value (.agg cs.toArray)) w :=
  ex_load_row t x b 0 cs (.struct fs) ho (hf.ev hx) hb.rng hu rfl hn
theorem ex_vmv {x : Operand} {v : Value} (hf : FrV N env a) (ho : o.op = .move x) (hx : ev env x = some v) : (execOp a.eval o).run P w = .ok (.value v) w := ex_mv ho (hf.ev hx)
theorem ex_vas {x : Operand} {v : Value} (hf : FrV N env a) (ho : o.op = .assign x) (hx : ev env x = some v) : (execOp a.eval o).run P w = .ok (.value v) w := ex_as ho (hf.ev hx)
theorem ex_vext {x : Operand} {j : Nat} {vs : Array Value} {v : Value} (hf : FrV N env a) (ho : o.op = .extract x j) (hx : ev env x = some (.tuple vs)) (hj : vs[j]? = some v) : (execOp a.eval o).run P w = .ok (.value v) w := by
  unfold execOp
  simp [ho, hf.ev hx, Instr.extract, hj]
end
section
variable {P : Program} {ops : Array Oper} {Q : Exit → Act → World → Prop} {N : Nat} {env : VEnv} {a : Act} {w : World} {S : World → Prop} {R : Act → World → Prop} {i d : Nat} {rest : List (Nat × Nat)} {oi : Oper} {v : Value}
theorem ov0 (hf : FrV N env a) (hi : ops[i]? = some oi) (hd : oi.dst = some d) (hdN : d < N) (hw : Region.wanted oi (yielded ops a.tmps) = true) (hrun : ∀ W, (execOp a.eval oi).run P W = .ok (.value v) W) (h : ∀ a', FrV N ((d, v) :: env) a' → wpOrd P ops Q S R rest a' w) : wpOrd P ops Q S R ((i, 0) :: rest) a w :=
  wpOrd_read0 v hi hw hrun (fun K hK => hK _ _ (by rw [hd]; exact h _ (hf.put hdN v)))
theorem ov1 (hf : FrV N env a) (hi : ops[i]? = some oi) (hd : oi.dst = some d) (hdN : d < N) (hw : Region.wanted oi (yielded ops a.tmps) = true) (hrun : ∀ W, S W → (execOp a.eval oi).run P W = .ok (.value v) W) (h : ∀ a', FrV N ((d, v) :: env) a' → wpOrd P ops Q S R rest a' w) : wpOrd P ops Q S R ((i, 1) :: rest) a w :=
  wpOrd_read1 v hi hw hrun (fun K hK => hK _ _ (by rw [hd]; exact h _ (hf.put hdN v)))
theorem ovs (hf : FrV N env a) (hi : ops[i]? = some oi) (hd : oi.dst = some d) (hdN : d < N) (hw : Region.wanted oi (yielded ops a.tmps) = false) (h : ∀ a', FrV N ((d, undef) :: env) a' → wpOrd P ops Q S R rest a' w) : wpOrd P ops Q S R ((i, 0) :: rest) a w :=
  ⟨oi, undef, hi, .inr ⟨hw, rfl⟩, by rw [hd]; exact h _ (hf.put hdN undef)⟩
theorem ovs1 (hf : FrV N env a) (hi : ops[i]? = some oi) (hd : oi.dst = some d) (hdN : d < N) (hw : Region.wanted oi (yielded ops a.tmps) = false) (h : ∀ a', FrV N ((d, undef) :: env) a' → wpOrd P ops Q S R rest a' w) : wpOrd P ops Q S R ((i, 1) :: rest) a w :=
  ⟨oi, undef, hi, .inr ⟨hw, rfl⟩, by rw [hd]; exact h _ (hf.put hdN undef)⟩
theorem ov2c {g : FuncId} {xs : List Operand} {vs : List Value} {ts : Array TypeId} {R' : Ending → World → Prop} (hf : FrV N env a) (hi : ops[i]? = some oi) (hd : oi.dst = some d) (hdN : d < N) (hw : Region.wanted oi (yielded ops a.tmps) = true) (ho : oi.op = .call { callee := .value (.func g), args := xs.toArray, argTypes := ts }) (hF : FnOK P g) (hx : evs env xs = some vs) (hc : Calls P g vs.toArray w R') (h : ∀ e w', R' e w' → ∃ v, e = .returned v ∧ S w' ∧ ∀ a', FrV N ((d, v) :: env) a' → wpOrd P ops Q S R rest a' w') : wpOrd P ops Q S R ((i, 2) :: rest) a w := by
  refine wpOrd_eff2 hi hw (fun K hK => ?_)
  unfold Oper.wp
  rw [ex_call (w := w) hF rfl ho, Oper.upon_enter, List.map_toArray, hf.evs hx]
  refine hc.mono ?_
  intro e w' hr
  obtain ⟨v, rfl, hs, hk⟩ := h e w' hr
  refine hK _ _ hs ?_
  rw [hd]
  exact hk _ (hf.put hdN v)
theorem ov3 {w' : World} (hi : ops[i]? = some oi) (hd : oi.dst = none) (hw : Region.wanted oi (yielded ops a.tmps) = true) (hrun : (execOp a.eval oi).run P w = .ok .skip w') (h : wpOrd P ops Q S R rest a w') : wpOrd P ops Q S R ((i, 3) :: rest) a w := by
  refine wpOrd_eff3 hi hw (fun K hK => ?_)
  unfold Oper.wp
  rw [hrun, Oper.upon_skip, hd]
  exact hK _ _ h
theorem ov3v (hf : FrV N env a) (hi : ops[i]? = some oi) (hd : oi.dst = some d) (hdN : d < N) (hw : Region.wanted oi (yielded ops a.tmps) = true) (hrun : (execOp a.eval oi).run P w = .ok (.value v) w) (h : ∀ a', FrV N ((d, v) :: env) a' → wpOrd P ops Q S R rest a' w) : wpOrd P ops Q S R ((i, 3) :: rest) a w := by
  refine wpOrd_eff3 hi hw (fun K hK => ?_)
  unfold Oper.wp
  rw [hrun, Oper.upon_value, hd]
  exact hK _ _ (h _ (hf.put hdN v))
theorem wanted_known {j : Nat} {b : Bool} (hf : FrV N env a) (hN : dstB ops j N = true) (hg : oi.guard = some (j, b)) (h : gv ops env j = some (.bool b)) : Region.wanted oi (yielded ops a.tmps) = true := by
  rw [wanted_of hf (dstB_spec hN) hg h]; simp
theorem unwanted_known {j : Nat} {b b' : Bool} (hf : FrV N env a) (hN : dstB ops j N = true) (hg : oi.guard = some (j, b)) (h : gv ops env j = some (.bool b')) (hb : b' ≠ b) : Region.wanted oi (yielded ops a.tmps) = false := by
  rw [wanted_of hf (dstB_spec hN) hg h]; simpa using hb
theorem unwanted_undef {j : Nat} {b : Bool} (hf : FrV N env a) (hN : dstB ops j N = true) (hg : oi.guard = some (j, b)) (h : gv ops env j = some undef) : Region.wanted oi (yielded ops a.tmps) = false := by
  unfold gv at h
  split at h
  · rename_i o' ho
    split at h
    · rename_i d' hd'
      have hv := hf.rel d' _ h
      have hdN := dstB_spec hN d' o' ho hd'
      have h1 : a.tmps.getD d' undef = undef := hv
      have h2 : d' < a.tmps.size := by rw [hf.size]; exact hdN
      have h3 : a.tmps[d']? = some undef := by
        rw [Array.getElem?_eq_getElem h2]
        simp [h2] at h1
        rw [h1]
      unfold Region.wanted
      rw [hg]
      simp only
      unfold yielded
      simp only [ho, hd', Option.bind_some, h3]
      rfl
    · cases h
  · cases h
end
section
variable {P : Program} {ops : Array Oper} {Q : Exit → Act → World → Prop} {N : Nat}
theorem wp_region_SV {id : Nat} {a : Act} {w : World} {env : VEnv} (Vd : VEnv) (S : (Nat → Bool) → World → Prop) (hm : P.follows .mixedOrders = true) (hb : backB .any ops = true) (hdst : dstsB ops N = true) (hkeys : (Vd.map (·.1)).all (hasDst ops) = true) (hf : FrV N env a)
    (hS : S (fun _ => false) w.drew)
    (hop : ∀ (i : Nat) (o : Oper), ops[i]? = some o → ∀ (listed : Nat → Bool) (a : Act) (W : World), listed i = false → (∀ j, Region.waitsFor .any ops i j = true → listed j = true) → a.tmps.size = N → a.defers = [] → (∀ t v, (Vd ++ env).lookup t = some v → availB ops i t = true → a.eval (.tmp t) = v) → S listed W →
      Region.wanted o (yielded ops a.tmps) = true ∧ ((∃ d v W', o.dst = some d ∧ (execOp a.eval o).run P W = .ok (.value v) W' ∧ (Vd ++ env).lookup d = some v ∧ S (upd listed i) W') ∨ ∃ W', o.dst = none ∧ (execOp a.eval o).run P W = .ok .skip W' ∧ S (upd listed i) W'))
    (hQ : ∀ (listed : Nat → Bool) a' W, (∀ i, i < ops.size → listed i = true) → S listed W → FrV N (Vd ++ env) a' → Q .normal a' W) : (Code.region id ops true).wp P Q a w := by
  have hset : ∀ (listed : Array Bool) (i : Nat), i < listed.size → (fun j => (listed.setIfInBounds i true).getD j false) = upd (fun j => listed.getD j false) i := fun listed i hi => by
    funext j
    unfold upd
    by_cases e : j = i
    · subst e
      rw [if_pos rfl]
      simp [hi]
    · rw [if_neg e, getD_set_ne false (fun e' => e e'.symm)]
  refine wp_region_S (N := N) (V := fun t => (Vd ++ env).lookup t) (fun listed _ W => S (fun j => listed.getD j false) W) hm hb ?_ hf.size hf.defers (fun t v hv hav => ?_) (fun i o d ho hd => dstsB_spec hdst i o d ho hd) (fun i o ho listed a W hls hun hpast hN hd hval hSw => ?_) (fun listed a' W hall hSw h1 h2 h3 => hQ _ a' W hall hSw ⟨h1, h2, h3⟩)
  · have : (fun j => (Array.replicate ops.size false).getD j false) = fun _ => false := by funext j; exact getD_replicate_false _ _
    rw [this]; exact hS
  · rcases lookup_append hv with ⟨u, hu⟩ | h
    · exact absurd hav (hasDst_spec ((List.all_eq_true.1 hkeys) t (List.mem_map.2 ⟨_, hu, rfl⟩)))
    · exact hf.rel t v h
  · have hi : i < listed.size := by rw [hls]; exact (Array.getElem?_eq_some_iff.1 ho).1
    obtain ⟨hw, h⟩ := hop i o ho (fun j => listed.getD j false) a W hun hpast hN hd (fun t v hv hav => hval t v hv (availB_spec hav)) hSw
    refine .inl ⟨hw, fun K hK => ?_⟩
    rcases h with ⟨d, v, W', hd', hr, hl, hS'⟩ | ⟨W', hd', hr, hS'⟩
    · unfold Oper.wp
      rw [hr, Oper.upon_value]
      refine hK v W' (fun d2 u hd2 hu => ?_) (by rw [hset listed i hi]; exact hS')
      rw [hd'] at hd2
      obtain rfl := Option.some.inj hd2
      rw [hl] at hu
      exact Option.some.inj hu
    · unfold Oper.wp
      rw [hr, Oper.upon_skip]
      refine hK undef W' (fun d2 u hd2 hu => ?_) (by rw [hset listed i hi]; exact hS')
      rw [hd'] at hd2
      cases hd2
end
end Go.Proofs.Ytfpgklhbghahoaa
/- Rows of ints of one's own beside boxes: made, appended, stored (plain). -/
namespace Go.Proofs.Ytfpgklhbghahoaa
open Go.ChangeShapes Go.WideShapes Go.ChangeAt Go.RowKit Go.ChangeMaps Go.Joins Go.Deep
set_option linter.unusedVariables false
set_option linter.unusedSimpArgs false
set_option maxRecDepth 100000
theorem Only.grown {w w' : World} {b : Nat} (h : Only w w' b) : w.grownBy w' (some b) := by
  have hb := h.below 0 (Nat.zero_le _)
  exact ⟨hb.os, hb.tape, hb.output, Nat.le_of_eq h.size.symm, fun k hk hne => h.heap k (fun e => hne (by rw [e]))⟩
theorem Bx.grown {b : Base} {W W' : World} {l : List (Nat × List Value)} {row : Option Nat} (h : Bx b l W) (hg : W.grownBy W' row) (hr : ∀ k, row = some k → b.w.heap.size ≤ k ∧ (∀ x ∈ l, x.1 ≠ k) ∧ ∀ p ∈ b.bs, k < p.1.heap.size → ¬ p.2 k) : Bx b l W' := by
  have hblk : ∀ x ∈ l, W'.heap[x.1]? = W.heap[x.1]? := fun x hx => hg.block x.1 (h.box x hx).lt (fun e => (hr x.1 e.symm).2.1 x hx rfl)
  refine ⟨fun x hx => ?_, ?_, h.ge, h.nd, fun p hp => ⟨Nat.le_trans (h.bas p hp).1 hg.size, fun k hk hpk => ?_⟩, h.bge⟩
  · have hb := h.box x hx
    exact ⟨fun j v hv => (World.cell?_of_block (a := ⟨x.1, 0 + j, none⟩) (hblk x hx)).trans (hb.rng j v hv), fun o => (World.frozen?_of_block (a := ⟨x.1, o, none⟩) (hblk x hx)).trans (hb.free o), Nat.lt_of_lt_of_le hb.lt hg.size⟩
  · refine ⟨hg.os.trans h.low.os, hg.tape.trans h.low.tape, hg.output.trans h.low.output, Nat.le_trans h.low.size hg.size, fun k hk => ?_⟩
    exact (hg.block k (Nat.lt_of_lt_of_le hk h.low.size) (fun e => by have := (hr k e.symm).1; omega)).trans (h.low.block k hk)
  · exact (hg.block k (Nat.lt_of_lt_of_le hk (h.bas p hp).1) (fun e => (hr k e.symm).2.2 p hp hk hpk)).trans ((h.bas p hp).2 k hk hpk)
/-- numbers that lie in memory -/
def IntRow (W : World) (v : Value) (xs : List Int) : Prop := ∃ g cap, v = .slice (some ⟨g, 0, none⟩) xs.length cap ∧ xs.length ≤ cap ∧ cap ≤ maxLen ∧ g < W.heap.size ∧ ∀ j (h : j < xs.length), W.cell? ⟨g, j, none⟩ = some (.int .i64 xs[j])
theorem IntRow.keep {W W' : World} {v : Value} {xs : List Int} {g : Nat} (h : IntRow W v xs) (hv : v.ownBlock = some g) (hg : W'.heap[g]? = W.heap[g]?) (hs : W.heap.size ≤ W'.heap.size) : IntRow W' v xs := by
  obtain ⟨g', cap, rfl, h1, h2, h3, h4⟩ := h
  have e : g' = g := Option.some.inj hv
  subst e
  exact ⟨g', cap, rfl, h1, h2, Nat.lt_of_lt_of_le h3 hs, fun j hj => (World.cell?_of_block (a := ⟨g', j, none⟩) hg).trans (h4 j hj)⟩
theorem IntRow.below {W W' : World} {v : Value} {xs : List Int} (h : IntRow W v xs) (hb : Below W.heap.size W W') : IntRow W' v xs := by
  obtain ⟨g', cap, rfl, h1, h2, h3, h4⟩ := h
  exact ⟨g', cap, rfl, h1, h2, Nat.lt_of_lt_of_le h3 hb.size, fun j hj => (hb.cell (p := ⟨g', j, none⟩) h3).trans (h4 j hj)⟩
section
variable {P : Program} {N : Nat} {env : VEnv} {a : Act} {ops : Array Oper} {rest : List Oper} {Q : Exit → Act → World → Prop} {w : World} {b : Base} {l : List (Nat × List Value)} {d y x z : Nat} {ps : String} {af : Array Edge} {t : TypeId}
theorem ex_mk {o : Oper} {ρ : Operand → Value} {e : TypeId} {p q : Operand} {k : Nat} (ho : o.op = .makeSlice t p q) (hp : ρ p = .int .i64 (k : Int)) (hq : ρ q = .int .i64 (k : Int)) (hu : P.underlying t = some (.slice e)) (hi : (P.info? e).map (fun i => (i.zero, i.size, i.bytes)) = some (some (.int .i64 0), 1, 8)) (hk : k ≤ 1000000) : (execOp ρ o).run P w = .ok (.value (.slice (some ⟨w.heap.size, 0, none⟩) k k)) (w.alloc (.cells (List.replicate k (.int .i64 0)).toArray e)) := by
  obtain ⟨i0, hi', hz0, hz1, hz2⟩ := info_parts hi
  have hr := run_make (P := P) w t e i0 (.int .i64 0) hu hi' hz0 .i64 .i64 k k (by omega) (by omega) (by rw [hz2]; omega) (by omega)
  have hmc : madeCells (Value.int .i64 0).cells (k * 1) = (List.replicate k (Value.int .i64 0)).toArray := by
    rw [Nat.mul_one]
    exact Array.ext' (toList_madeCells_one _ _)
  rw [hz1] at hr
  simp only [Int.toNat_natCast] at hr
  rw [hmc] at hr
  unfold execOp
  simp only [ho, hp, hq, Sem.run_bind, hr, Result.andThen_ok, Sem.run_pure]
theorem sv_mk {e : TypeId} {p q : Operand} {k : Nat} (hf : FrV N env a) (hB : Bx b l w) (hp : ev env p = some (.int .i64 (k : Int))) (hq : ev env q = some (.int .i64 (k : Int))) (hu : P.underlying t = some (.slice e)) (hi : (P.info? e).map (fun i => (i.zero, i.size, i.bytes)) = some (some (.int .i64 0), 1, 8)) (hk : k ≤ 1000000) (hd : d < N) (h : ∀ a' C w', C = w.heap.size → FrV N ((d, .slice (some ⟨C, 0, none⟩) k k) :: env) a' → Bx b ((C, List.replicate k (.int .i64 0)) :: l) w' → Below w.heap.size w w' → wpList P ops Q rest a' w') : wpList P ops Q ({ dst := some d, op := .makeSlice t p q, type := y, pos := ps, after := af, guard := none } :: rest) a w :=
  wpList_ok rfl (ex_mk rfl (hf.ev hp) (hf.ev hq) hu hi hk) (h _ _ _ rfl (hf.put hd _) (hB.new _ e) ((Below.refl _ _).alloc (Nat.le_refl _) _))
end
end Go.Proofs.Ytfpgklhbghahoaa
/- Election: small functions; copies of members without a log. -/
namespace Go.Proofs.Ytfpgklhbghahoaa
open Go.ChangeShapes Go.WideShapes Go.ChangeAt Go.RowKit Go.Deep
set_option linter.unusedVariables false
set_option linter.unusedSimpArgs false
theorem bcell {W w1 : World} (hb : Below W.heap.size W w1) : (∀ b o, b < W.heap.size → w1.cell? ⟨b, o, none⟩ = W.cell? ⟨b, o, none⟩) ∧ (∀ b o, b < W.heap.size → w1.frozen? ⟨b, o, none⟩ = W.frozen? ⟨b, o, none⟩) :=
  ⟨fun b o h => hb.cell (p := ⟨b, o, none⟩) h, fun b o h => hb.frozen (p := ⟨b, o, none⟩) h⟩
theorem calls_named {P : Program} {f : Nat} {args : Array Value} {K : Ending → World → Prop} {w : World} (F : World → Prop) (hF : F w) (h : ∀ W, F W → Calls P f args W K) : Calls P f args w K := h w hF
theorem wp_named {P : Program} {c : Code} {Q : Exit → Act → World → Prop} {a : Act} {w : World} (F : World → Prop) (hF : F w) (h : ∀ w', F w' → Code.wp P c Q a w') : Code.wp P c Q a w := h w hF
/-- a member as a value -/
abbrev mem (id sz tm vt rl ld ti vs : Int) (lg : Value) (cm : Int) (nx mt : Value) : Value := .agg #[.int .i64 id, .int .i64 sz, .int .i64 tm, .int .i64 vt, .int .i64 rl, .int .i64 ld, .int .i64 ti, .int .i64 vs, lg, .int .i64 cm, nx, mt]
abbrev nil : Value := .slice none 0 0
theorem usual_any (id : Int) (w : World) (h0 : 0 ≤ id) (h7 : id ≤ 7) : Calls Try.prog 27 #[.int .i64 id] w fun e w' => e = .returned (.int .i64 (10 + 3 * id)) ∧ w = w' := by
  go_enter Try.func27, Try.ntmps27
  go_wp2
  go_ret
  exact ⟨rfl, rfl⟩
def maj (n : Int) : Int := if 1 ≤ n ∧ n ≤ 7 then n / 2 + 1 else 0
theorem maj_any (n : Int) (w : World) : Calls Try.prog 12 #[.int .i64 n] w fun e w' => e = .returned (.int .i64 (maj n)) ∧ w = w' := by
  by_cases h1 : n < 1
  · have HM : Hid (maj n = 0) := Lib.hid (by unfold maj; rw [if_neg (by omega)])
    go_enter Try.func12, Try.ntmps12
    go_wp2
    go_ret
    exact ⟨by rw [HM.out]; rfl, rfl⟩
  · by_cases h7 : 7 < n
    · have HM : Hid (maj n = 0) := Lib.hid (by unfold maj; rw [if_neg (by omega)])
      go_enter Try.func12, Try.ntmps12
      go_wp2
      go_ret
      exact ⟨by rw [HM.out]; rfl, rfl⟩
    · have HM : Hid (maj n = n / 2 + 1) := Lib.hid (by unfold maj; rw [if_pos (by omega)])
      have h0 : 0 ≤ n := by omega
      have h6 : n ≤ 7 := by omega
      go_enter Try.func12, Try.ntmps12
      go_wp2
      go_ret
      exact ⟨by rw [HM.out]; rfl, rfl⟩
theorem rmaj_any (n : Int) (w : World) : Calls Try.prog 13 #[.int .i64 n] w fun e w' => e = .returned (.int .i64 (maj n)) ∧ w = w' := by
  by_cases h1 : n < 1
  · have HM : Hid (maj n = 0) := Lib.hid (by unfold maj; rw [if_neg (by omega)])
    go_enter Try.func13, Try.ntmps13
    go_wp2
    go_ret
    exact ⟨by rw [HM.out]; rfl, rfl⟩
  · by_cases h7 : 7 < n
    · have HM : Hid (maj n = 0) := Lib.hid (by unfold maj; rw [if_neg (by omega)])
      go_enter Try.func13, Try.ntmps13
      go_wp2
      go_ret
      exact ⟨by rw [HM.out]; rfl, rfl⟩
    · have HM : Hid (maj n = n / 2 + 1) := Lib.hid (by unfold maj; rw [if_pos (by omega)])
      have h0 : 0 ≤ n := by omega
      have h6 : n ≤ 7 := by omega
      go_enter Try.func13, Try.ntmps13
      go_wp2
      go_ret
      exact ⟨by rw [HM.out]; rfl, rfl⟩
/-- what New returns -/
def newV (id sz : Int) : Value := if 1 ≤ sz ∧ sz ≤ 7 ∧ 0 ≤ id ∧ id < sz then .tuple #[mem id sz 0 (-1) 0 (-1) (10 + 3 * id) 0 nil 0 nil nil, .int .i64 0] else .tuple #[mem 0 0 0 0 0 0 0 0 nil 0 nil nil, .int .i64 1]
set_option maxRecDepth 100000 in
set_option maxHeartbeats 800000 in
theorem new_any (id sz : Int) (w : World) : Calls Try.prog 9 #[.int .i64 id, .int .i64 sz] w fun e w' => e = .returned (newV id sz) ∧ Below w.heap.size w w' := by
  have hcase : sz < 1 ∨ 7 < sz ∨ (1 ≤ sz ∧ sz ≤ 7 ∧ id < 0) ∨ (1 ≤ sz ∧ sz ≤ 7 ∧ 0 ≤ id ∧ sz ≤ id) ∨ (1 ≤ sz ∧ sz ≤ 7 ∧ 0 ≤ id ∧ id < sz) := by omega
  rcases hcase with h | h | ⟨h1, h2, h3⟩ | ⟨h1, h2, h3, h4⟩ | ⟨h1, h2, h3, h4⟩
  · have HV : Hid (newV id sz = .tuple #[mem 0 0 0 0 0 0 0 0 nil 0 nil nil, .int .i64 1]) := Lib.hid (by unfold newV; rw [if_neg (by omega)])
    go_enter Try.func9, Try.ntmps9
    go_wp2_with fail
    refine bodyPost_ret (v := .tuple #[mem 0 0 0 0 0 0 0 0 nil 0 nil nil, .int .i64 1]) (by simp [results, Try.results9, go_sem]) rfl ⟨by rw [HV.out], ?_⟩
    repeat' (first | exact Below.refl _ _ | refine Below.setCell ?_ (by simp) _ | refine Below.alloc ?_ (by simp) _)
  · have HV : Hid (newV id sz = .tuple #[mem 0 0 0 0 0 0 0 0 nil 0 nil nil, .int .i64 1]) := Lib.hid (by unfold newV; rw [if_neg (by omega)])
    go_enter Try.func9, Try.ntmps9
    go_wp2_with fail
    refine bodyPost_ret (v := .tuple #[mem 0 0 0 0 0 0 0 0 nil 0 nil nil, .int .i64 1]) (by simp [results, Try.results9, go_sem]) rfl ⟨by rw [HV.out], ?_⟩
    repeat' (first | exact Below.refl _ _ | refine Below.setCell ?_ (by simp) _ | refine Below.alloc ?_ (by simp) _)
  · have HV : Hid (newV id sz = .tuple #[mem 0 0 0 0 0 0 0 0 nil 0 nil nil, .int .i64 1]) := Lib.hid (by unfold newV; rw [if_neg (by omega)])
    go_enter Try.func9, Try.ntmps9
    go_wp2_with fail
    refine bodyPost_ret (v := .tuple #[mem 0 0 0 0 0 0 0 0 nil 0 nil nil, .int .i64 1]) (by simp [results, Try.results9, go_sem]) rfl ⟨by rw [HV.out], ?_⟩
    repeat' (first | exact Below.refl _ _ | refine Below.setCell ?_ (by simp) _ | refine Below.alloc ?_ (by simp) _)
  · have HV : Hid (newV id sz = .tuple #[mem 0 0 0 0 0 0 0 0 nil 0 nil nil, .int .i64 1]) := Lib.hid (by unfold newV; rw [if_neg (by omega)])
    go_enter Try.func9, Try.ntmps9
    go_wp2_with fail
    refine bodyPost_ret (v := .tuple #[mem 0 0 0 0 0 0 0 0 nil 0 nil nil, .int .i64 1]) (by simp [results, Try.results9, go_sem]) rfl ⟨by rw [HV.out], ?_⟩
    repeat' (first | exact Below.refl _ _ | refine Below.setCell ?_ (by simp) _ | refine Below.alloc ?_ (by simp) _)
  · have HV : Hid (newV id sz = .tuple #[mem id sz 0 (-1) 0 (-1) (10 + 3 * id) 0 nil 0 nil nil, .int .i64 0]) := Lib.hid (by unfold newV; rw [if_pos ⟨h1, h2, h3, h4⟩])
    go_enter Try.func9, Try.ntmps9
    go_wp2_with fail
    refine (usual_any id _ h3 (by omega)).mono ?_
    rintro e w1 ⟨rfl, rfl⟩
    go_wp2_with fail
    refine bodyPost_ret (v := .tuple #[mem id sz 0 (-1) 0 (-1) (10 + 3 * id) 0 nil 0 nil nil, .int .i64 0]) (by simp [results, Try.results9, go_sem]) rfl ⟨by rw [HV.out], ?_⟩
    repeat' (first | exact Below.refl _ _ | refine Below.setCell ?_ (by simp) _ | refine Below.alloc ?_ (by simp) _)
end Go.Proofs.Ytfpgklhbghahoaa
/- Election: copies of members without a log; follow. -/
namespace Go.Proofs.Ytfpgklhbghahoaa
open Go.ChangeShapes Go.WideShapes Go.ChangeAt Go.RowKit Go.Deep
set_option linter.unusedVariables false
set_option linter.unusedSimpArgs false
def ints (l : List Int) : List Value := l.map (.int .i64 ·)
theorem info3 : (Try.prog.info? 3).map (fun i => (i.zero, i.size, i.bytes)) = some (some (.int .i64 0), 1, 8) := by kernel_rfl
theorem lastTerm_nil (w : World) : Calls Try.prog 38 #[nil] w fun e w' => e = .returned (.int .i64 0) ∧ w = w' := by
  go_enter Try.func38, Try.ntmps38
  go_wp2
  go_ret
  exact ⟨rfl, rfl⟩
theorem copyAll_nil (g : Value) (w : World) : Calls Try.prog 47 #[nil, g] w fun e w' => e = .returned nil ∧ w = w' := by
  go_enter Try.func47, Try.ntmps47
  go_wp2
  go_ret
  exact ⟨rfl, rfl⟩
theorem copyInts_nil (w : World) : Calls Try.prog 49 #[nil] w fun e w' => e = .returned nil ∧ w = w' := by
  go_enter Try.func49, Try.ntmps49
  go_wp2
  go_ret
  exact ⟨rfl, rfl⟩
theorem copyInts_some (B o cap : Nat) (xs : List Int) (w : World) (hl : xs.length ≤ 1000000) (hc : ∀ j (h : j < xs.length), w.cell? ⟨B, o + j, none⟩ = some (.int .i64 xs[j])) :
    Calls Try.prog 49 #[.slice (some ⟨B, o, none⟩) xs.length cap] w fun e w' => (∃ v, e = .returned v ∧ w'.ownsRow w.heap.size 3 1 v xs.length (ints xs)) ∧ Below w.heap.size w w' := by
  obtain ⟨i3, hi3, hz0, hz1, hz2⟩ := info_parts info3
  have HC := Lib.hid hc
  clear hc
  go_enter Try.func49, Try.ntmps49
  go_wp2_with (at_builtin; refine wpList_append_own _ rfl _ _ 23 rfl w.heap.size 3 i3 (.int .i64 0) 1 8 Try.underlying23 hi3 hz0 hz1 hz2 rfl (by decide) _ 0 [] rfl (World.ownsRow_nil _ _ _ _) ⟨B, o, none⟩ xs.length cap (ints xs) rfl ?c1 ?c2 ?c3 ?c4 ?c5 ?c6 ?_)
  case c1 => simp [ints]
  case c2 =>
    intro j u hu
    have hj : j < xs.length := by have := (List.getElem?_eq_some_iff.1 hu).1; simpa [ints] using this
    have h1 := HC.out j hj
    simp [ints, hj] at hu
    subst hu
    first | exact h1 | (by_cases h0 : j = 0 <;> simpa [Addr.add, h0] using h1)
  case c3 =>
    intro u hu
    simp [ints] at hu
    obtain ⟨x, _, rfl⟩ := hu
    rfl
  case c4 => unfold maxLen; omega
  case c5 => omega
  case c6 => exact Nat.le_refl _
  intro v w2 hown hgrow _
  have hb : Below w.heap.size w w2 := (Below.refl _ _).grown hgrow (Nat.le_refl _) (by simp [Value.ownBlock])
  go_wp2_with fail
  go_ret
  exact ⟨⟨_, rfl, by simpa using hown⟩, hb⟩
set_option maxRecDepth 100000 in
set_option maxHeartbeats 800000 in
theorem copyMember_nil (id sz tm vt rl ld ti vs cm : Int) (w : World) :
    Calls Try.prog 36 #[mem id sz tm vt rl ld ti vs nil cm nil nil] w fun e w' => e = .returned (mem id sz tm vt rl ld ti vs nil cm nil nil) ∧ Below w.heap.size w w' := by
  go_enter Try.func36, Try.ntmps36
  go_wp2_with fail
  refine (copyAll_nil _ _).mono ?_
  rintro e w1 ⟨rfl, rfl⟩
  go_wp2_with fail
  refine (copyInts_nil _).mono ?_
  rintro e w1 ⟨rfl, rfl⟩
  go_wp2_with fail
  refine (copyInts_nil _).mono ?_
  rintro e w1 ⟨rfl, rfl⟩
  go_wp2_with fail
  refine bodyPost_ret (v := mem id sz tm vt rl ld ti vs nil cm nil nil) (by simp [results, Try.results36, go_sem]) rfl ⟨rfl, ?_⟩
  repeat' (first | exact Below.refl _ _ | refine Below.setCell ?_ (by simp) _ | refine Below.alloc ?_ (by simp) _)
set_option maxRecDepth 100000 in
set_option maxHeartbeats 800000 in
theorem follow_any (id sz tm vt rl ld ti vs : Int) (ga : Option Addr) (gl gc : Nat) (cm : Int) (na : Option Addr) (nl nc : Nat) (ma : Option Addr) (ml mc : Nat) (t : Int) (w : World) (h0 : 0 ≤ id) (h7 : id ≤ 7) :
    Calls Try.prog 37 #[mem id sz tm vt rl ld ti vs (.slice ga gl gc) cm (.slice na nl nc) (.slice ma ml mc), .int .i64 t] w fun e w' =>
      e = .returned (if t ≤ tm then mem id sz tm vt rl ld ti vs (.slice ga gl gc) cm (.slice na nl nc) (.slice ma ml mc) else mem id sz t (-1) 0 (-1) (if rl = 2 then 10 + 3 * id else ti) 0 (.slice ga gl gc) cm nil nil) ∧ Below w.heap.size w w' := by
  by_cases ht : t ≤ tm
  · rw [if_pos ht]
    go_enter Try.func37, Try.ntmps37
    go_wp2_with fail
    refine bodyPost_ret (v := mem id sz tm vt rl ld ti vs (.slice ga gl gc) cm (.slice na nl nc) (.slice ma ml mc)) (by simp [results, Try.results37, go_sem]) rfl ⟨rfl, ?_⟩
    repeat' (first | exact Below.refl _ _ | refine Below.setCell ?_ (by simp) _ | refine Below.alloc ?_ (by simp) _)
  · rw [if_neg ht]
    by_cases hr : rl = 2
    · rw [if_pos hr]
      subst hr
      go_enter Try.func37, Try.ntmps37
      go_wp2_with fail
      refine (usual_any id _ h0 h7).mono ?_
      rintro e w1 ⟨rfl, rfl⟩
      go_wp2_with fail
      refine bodyPost_ret (v := mem id sz t (-1) 0 (-1) (10 + 3 * id) 0 (.slice ga gl gc) cm nil nil) (by simp [results, Try.results37, go_sem]) rfl ⟨rfl, ?_⟩
      repeat' (first | exact Below.refl _ _ | refine Below.setCell ?_ (by simp) _ | refine Below.alloc ?_ (by simp) _)
    · rw [if_neg hr]
      have hrb : (rl == 2) = false := by rw [beq_eq_false_iff_ne]; exact hr
      go_enter Try.func37, Try.ntmps37
      go_wp2_with fail
      refine bodyPost_ret (v := mem id sz t (-1) 0 (-1) ti 0 (.slice ga gl gc) cm nil nil) (by simp [results, Try.results37, go_sem]) rfl ⟨rfl, ?_⟩
      repeat' (first | exact Below.refl _ _ | refine Below.setCell ?_ (by simp) _ | refine Below.alloc ?_ (by simp) _)
theorem known_yes (id sz tm vt rl ld ti vs : Int) (lg : Value) (cm : Int) (nx mt : Value) (w : World) (h1 : 1 ≤ sz) (h7 : sz ≤ 7) (h0 : 0 ≤ id) (hi : id < sz) :
    Calls Try.prog 41 #[mem id sz tm vt rl ld ti vs lg cm nx mt] w fun e w' => e = .returned (.bool true) ∧ Below w.heap.size w w' := by
  go_enter Try.func41, Try.ntmps41
  go_wp2_with fail
  go_ret
  refine ⟨rfl, ?_⟩
  repeat' (first | exact Below.refl _ _ | refine Below.setCell ?_ (by simp) _ | refine Below.alloc ?_ (by simp) _)
end Go.Proofs.Ytfpgklhbghahoaa
/- Election: the campaign of the law's example. -/
namespace Go.Proofs.Ytfpgklhbghahoaa
open Go.ChangeShapes Go.WideShapes Go.ChangeAt Go.RowKit Go.Deep
set_option linter.unusedVariables false
set_option linter.unusedSimpArgs false
abbrev m0 : Value := mem 1 3 0 (-1) 0 (-1) 13 0 nil 0 nil nil
abbrev m1 : Value := mem 1 3 1 1 1 (-1) 13 2 nil 0 nil nil
abbrev memL (id sz tm vt rl ld ti vs : Int) (lg : Value) (cm : Int) (nx mt : Value) : List Value := [.int .i64 id, .int .i64 sz, .int .i64 tm, .int .i64 vt, .int .i64 rl, .int .i64 ld, .int .i64 ti, .int .i64 vs, lg, .int .i64 cm, nx, mt]
abbrev zL : List Value := memL 0 0 0 0 0 0 0 0 nil 0 nil nil
theorem wideMem : Wide Try.prog 25 12 := ⟨by kernel_rfl, _, Try.underlying25, rfl⟩
theorem memOk (id sz tm vt rl ld ti vs : Int) (ga : Option Addr) (gl gc : Nat) (cm : Int) (na : Option Addr) (nl nc : Nat) (ma : Option Addr) (ml mc : Nat) : Cells 12 (memL id sz tm vt rl ld ti vs (.slice ga gl gc) cm (.slice na nl nc) (.slice ma ml mc)) := ⟨rfl, rfl⟩
/-- a member's box and the result's -/
def MM (w : World) (cs rs : List Value) (W : World) : Prop := BoxN 12 W w.heap.size cs ∧ BoxN 12 W (w.heap.size + 1) rs ∧ Below w.heap.size w W
theorem MM.start (w : World) (cs : List Value) (T : TypeId) (h : cs.length = 12) : MM w cs zL ((w.alloc (.cells cs.toArray T)).alloc (.cells zL.toArray T)) :=
  ⟨(BoxN.new w cs 12 T h).alloc _, by simpa using BoxN.new (w.alloc (.cells cs.toArray T)) zL 12 T rfl, ((Below.refl _ _).alloc (Nat.le_refl _) _).alloc (by simp) _⟩
theorem MM.keep {w : World} {cs rs : List Value} {W W' : World} (h : MM w cs rs W) (hb : Below W.heap.size W W') : MM w cs rs W' := ⟨h.1.keep hb, h.2.1.keep hb, h.2.2.trans (hb.mono h.2.2.size)⟩
theorem MM.own {w : World} {cs rs vs : List Value} {W W' : World} (h : MM w cs rs W) (h1 : BoxN 12 W' w.heap.size vs) (h2 : Only W W' w.heap.size) : MM w vs rs W' := ⟨h1, h.2.1.other h2 (by omega), h.2.2.trans (h2.below _ (Nat.le_refl _))⟩
theorem MM.res {w : World} {cs rs vs : List Value} {W W' : World} (h : MM w cs rs W) (h1 : BoxN 12 W' (w.heap.size + 1) vs) (h2 : Only W W' (w.heap.size + 1)) : MM w cs vs W' := ⟨h.1.other h2 (by omega), h1, h.2.2.trans (h2.below _ (by omega))⟩
theorem MM.set {w : World} {cs rs : List Value} {W : World} (h : MM w cs rs W) (j : Nat) (v : Value) (hj : j < 12) : MM w (cs.set j v) rs (W.setCell ⟨w.heap.size, j, none⟩ v) := ⟨h.1.setCell j v hj, h.2.1.setOther j v (by omega), h.2.2.setCell (Nat.le_refl _) _⟩
theorem MM.far {w : World} {cs rs : List Value} {W W' : World} (h : MM w cs rs W) (hb : Below (w.heap.size + 2) W W') : MM w cs rs W' := by
  obtain ⟨h1, h2, h3⟩ := h
  exact ⟨h1.far hb (by omega), h2.far hb (by omega), h3.trans (hb.mono (by omega))⟩
theorem MM.drew {w : World} {cs rs : List Value} {W : World} (h : MM w cs rs W) : MM w cs rs W.drew := h.keep (Below.drew (Below.refl _ _))
/-- the cells of a request for a vote, by its receiver -/
def msgC (to : Int) : List Value := [.int .i64 1, .int .i64 to, .int .i64 1, .int .i64 1, .int .i64 0, .int .i64 0, .int .i64 0, .slice none 0 0, .bool false]
def tos : Nat → List Int
  | 0 => []
  | 1 => [0]
  | 2 => [0]
  | _ => [0, 2]
def zmsg : Value := .agg #[.int .i64 0, .int .i64 0, .int .i64 0, .int .i64 0, .int .i64 0, .int .i64 0, .int .i64 0, .slice none 0 0, .bool false]
theorem infoMsg : (Try.prog.info? 35).map (fun i => (i.zero, i.size, i.bytes)) = some (some zmsg, 9, 88) := by kernel_rfl
def msgs (l : List Int) : List Value := l.flatMap msgC
theorem own_ge {w : World} {base : Nat} {e : TypeId} {size : Nat} {v : Value} {n : Nat} {xs : List Value} (h : w.ownsRow base e size v n xs) : ∀ k, v.ownBlock = some k → base ≤ k := by
  intro k hk
  rcases h.2 with ⟨rfl, _⟩ | ⟨g, cap, cur, rfl, hb, _⟩
  · simp [Value.ownBlock] at hk
  · simp [Value.ownBlock] at hk
    omega
theorem own_mono {w : World} {base base' : Nat} {e : TypeId} {size n : Nat} {v : Value} {xs : List Value} (h : w.ownsRow base e size v n xs) (hb : base' ≤ base) : w.ownsRow base' e size v n xs :=
  ⟨h.1, h.2.imp id fun ⟨g, cap, cur, h1, h2, h3⟩ => ⟨g, cap, cur, h1, Nat.le_trans hb h2, h3⟩⟩
theorem own_only {w w' : World} {base : Nat} {e : TypeId} {size g n cap b : Nat} {xs : List Value} (h : w.ownsRow base e size (.slice (some ⟨g, 0, none⟩) n cap) n xs) (ho : Only w w' b) (hne : b ≠ g) : w'.ownsRow base e size (.slice (some ⟨g, 0, none⟩) n cap) n xs :=
  h.kept (row := some b) ⟨(ho.below 0 (Nat.zero_le _)).os, (ho.below 0 (Nat.zero_le _)).tape, (ho.below 0 (Nat.zero_le _)).output, by rw [ho.size]; exact Nat.le_refl _, fun k _ hk => ho.heap k (fun e => hk (by rw [e]))⟩ (.inr (by simp [Value.ownBlock]; omega))
def CampOut (w : World) (e : Ending) (w' : World) : Prop := ∃ g cap, e = .returned (.tuple #[m1, .slice (some ⟨g, 0, none⟩) 2 cap]) ∧ w'.ownsRow w.heap.size 35 9 (.slice (some ⟨g, 0, none⟩) 2 cap) 2 (msgs [0, 2]) ∧ Below w.heap.size w w'
set_option maxRecDepth 100000 in
set_option maxHeartbeats 2000000 in
theorem campaign_ex (w : World) : Calls Try.prog 24 #[m0] w (CampOut w) := by
  obtain ⟨iM, hiM, hz0, hz1, hz2⟩ := info_parts infoMsg
  go_enter Try.func24, Try.ntmps24
  go_wp2_with fail
  have HM0 := Lib.hid (MM.start w (memL 1 3 0 (-1) 0 (-1) 13 0 nil 0 nil nil) 25 rfl)
  refine (copyMember_nil _ _ _ _ _ _ _ _ _ _).mono ?_
  rintro e w1 ⟨rfl, hb1⟩
  have HM1 := Lib.hid (HM0.out.keep hb1)
  clear hb1 HM0
  have hA1 := HM1.out.1
  go_wp2_with (with_reducible refine wpList_box_store 25 1 (.tmp 7) w.heap.size _ (memL 1 3 0 (-1) 0 (-1) 13 0 nil 0 nil nil) _ _ _ _ _ _ ?_ ?_ hA1 (memOk _ _ _ _ _ _ _ _ _ _ _ _ _ _ _ _ _ _) wideMem ?_)
  · rfl
  · rfl
  rintro w2 hA hO
  have HM2 := Lib.hid (HM1.out.own hA hO)
  go_wp2_with (with_reducible refine wpList_box_load 25 1 w.heap.size (memL 1 3 0 (-1) 0 (-1) 13 0 nil 0 nil nil) _ _ _ _ _ _ ?_ hA wideMem ?_)
  · rfl
  go_wp2_with fail
  refine (known_yes 1 3 0 (-1) 0 (-1) 13 0 nil 0 nil nil _ (by omega) (by omega) (by omega) (by omega)).mono ?_
  rintro e w3 ⟨rfl, hb3⟩
  have HM3 := Lib.hid (HM2.out.keep hb3)
  clear hb3 hA hA1 hO HM1 HM2
  have a2 := HM3.out.1.cell 2 _ rfl
  have hfr := HM3.out.1.1.free 2
  go_wp2_with fail
  refine wp_named (fun W => MM w (memL 1 3 1 (-1) 0 (-1) 13 0 nil 0 nil nil) zL W) (HM3.out.set 2 (.int .i64 1) (by omega)) ?_
  clear HM3 a2 hfr
  rintro w4 hM4
  have HM4 := Lib.hid hM4
  have a0 := hM4.1.cell 0 _ rfl
  have a3 := hM4.1.cell 3 _ rfl
  have a4 := hM4.1.cell 4 _ rfl
  have a5 := hM4.1.cell 5 _ rfl
  have a7 := hM4.1.cell 7 _ rfl
  have f3 := hM4.1.1.free 3
  have f4 := hM4.1.1.free 4
  have f5 := hM4.1.1.free 5
  have f7 := hM4.1.1.free 7
  clear hM4
  go_region
  go_wp2_with fail
  refine calls_named (fun W => MM w (memL 1 3 1 1 1 (-1) 13 2 nil 0 nil nil) zL W) (((((HM4.out.set 4 (.int .i64 1) (by omega)).set 3 (.int .i64 1) (by omega)).set 7 (.int .i64 2) (by omega)).set 5 (.int .i64 (-1)) (by omega)).drew) ?_
  clear HM4 a0 a3 a4 a5 a7 f3 f4 f5 f7
  rintro w5 hM5
  have HM5 := Lib.hid hM5
  clear hM5
  refine (usual_any 1 _ (by omega) (by omega)).mono ?_
  rintro e w6 ⟨rfl, rfl⟩
  have a6 := HM5.out.1.cell 6 _ rfl
  have a10 := HM5.out.1.cell 10 _ rfl
  have a11 := HM5.out.1.cell 11 _ rfl
  have a1 := HM5.out.1.cell 1 _ rfl
  have f6 := HM5.out.1.1.free 6
  have f10 := HM5.out.1.1.free 10
  have f11 := HM5.out.1.1.free 11
  go_wp2_with fail
  refine wp_named (fun W => MM w (memL 1 3 1 1 1 (-1) 13 2 nil 0 nil nil) zL W) (((HM5.out.set 6 (.int .i64 13) (by omega)).set 10 (.slice none 0 0) (by omega)).set 11 (.slice none 0 0) (by omega)) ?_
  clear HM5 a6 a10 a11 a1 f6 f10 f11
  rintro w7 hM7
  have HM7 := Lib.hid hM7
  clear hM7
  go_loopw [4, 38] (fun l t W => ∃ k : Nat, k ≤ 3 ∧ t = .int .i64 k ∧ W.ownsRow (w.heap.size + 2) 35 9 l (tos k).length (msgs (tos k)) ∧ MM w (memL 1 3 1 1 1 (-1) 13 2 nil 0 nil nil) zL W) (fun _ t _ => 3 - (intOf t).toNat)
  case atStart => exact ⟨0, by omega, rfl, World.ownsRow_nil _ _ _ _, HM7.out⟩
  case round =>
    clear HM7
    obtain ⟨k, hk, rfl, hO, hM⟩ := hrel
    have HO := Lib.hid hO
    have HM := Lib.hid hM
    have a0 := hM.1.cell 0 _ rfl
    have a2 := hM.1.cell 2 _ rfl
    have a8 := hM.1.cell 8 _ rfl
    have hBlt := hM.1.1.lt
    have hz2' : w.heap.size + 2 ≤ wr.heap.size := hM.2.1.1.lt
    clear hO hM
    have hk4 : k = 0 ∨ k = 1 ∨ k = 2 ∨ k = 3 := by omega
    rcases hk4 with rfl | rfl | rfl | rfl
    · go_wp2_with fail
      have hne : u4.ownBlock ≠ some w.heap.size := fun e => by have := own_ge HO.out _ e; omega
      have lb := hBlt
      go_region_held3 (fun W => W.cell? ⟨w.heap.size, 0, none⟩ = some (.int .i64 1) ∧ W.cell? ⟨w.heap.size, 2, none⟩ = some (.int .i64 1) ∧ W.cell? ⟨w.heap.size, 8, none⟩ = some nil)
        (first
          | go_keep
          | (go_split_ands
             refine ⟨?_, ?_, ?_⟩
             · (rw [hgrow.cell_far _ (by simp; omega) (Ne.symm hne)]; assumption)
             · (rw [hgrow.cell_far _ (by simp; omega) (Ne.symm hne)]; assumption)
             · (rw [hgrow.cell_far _ (by simp; omega) (Ne.symm hne)]; assumption)))
        (first
          | (go_at_call 38; refine (lastTerm_nil _).mono ?_; rintro e w' ⟨rfl, rfl⟩)
          | (refine step_append_lies _ (by rfl) _ _ _ (by rfl) (w.heap.size + 2) 35 iM zmsg 9 88 Try.underlying37 hiM hz0 hz1 hz2 rfl (by omega) _ 0 _ (by rfl) ((HO.out.alloc _).drew)
              ⟨wr.heap.size, 0, none⟩ 1 1 (msgC 0) (by rfl) (by rfl) (World.news_of_block (cs := (msgC 0).toArray) (t := 35) (fr := (0, 0)) (heap_alloc_new wr _)) (by simp [msgC, Value.oneCell'])
              (by omega) (by unfold maxLen; omega) (by omega) (by simp; omega) (wr.heap.size + 1) (by simp) ?_; intro gg cap w1 hown1 hgrow hat hlt))
      have HO1 : Hid (w1.ownsRow (w.heap.size + 2) 35 9 (.slice (some ⟨gg, 0, none⟩) (0 + 1) cap) (tos 1).length (msgs (tos 1))) := Lib.hid (by simpa [tos, msgs] using hown1)
      have hb1 : Below (w.heap.size + 2) wr w1 := ((((Below.refl _ _).alloc hz2' _).drew).grown hgrow (by simp; omega) (own_ge HO.out))
      have HM1 := Lib.hid (HM.out.far hb1)
      clear hown1 hgrow hat hlt hb1
      go_wp2_with fail
      go_roundw
      case rel => exact ⟨1, by omega, rfl, HO1.out, HM1.out⟩
      case measure => simp [intOf]
    · go_wp2_with fail
      go_roundw
      case rel => exact ⟨2, by omega, rfl, HO.out, HM.out⟩
      case measure => simp [intOf]
    · go_wp2_with fail
      have hne : u4.ownBlock ≠ some w.heap.size := fun e => by have := own_ge HO.out _ e; omega
      have lb := hBlt
      go_region_held3 (fun W => W.cell? ⟨w.heap.size, 0, none⟩ = some (.int .i64 1) ∧ W.cell? ⟨w.heap.size, 2, none⟩ = some (.int .i64 1) ∧ W.cell? ⟨w.heap.size, 8, none⟩ = some nil)
        (first
          | go_keep
          | (go_split_ands
             refine ⟨?_, ?_, ?_⟩
             · (rw [hgrow.cell_far _ (by simp; omega) (Ne.symm hne)]; assumption)
             · (rw [hgrow.cell_far _ (by simp; omega) (Ne.symm hne)]; assumption)
             · (rw [hgrow.cell_far _ (by simp; omega) (Ne.symm hne)]; assumption)))
        (first
          | (go_at_call 38; refine (lastTerm_nil _).mono ?_; rintro e w' ⟨rfl, rfl⟩)
          | (refine step_append_lies _ (by rfl) _ _ _ (by rfl) (w.heap.size + 2) 35 iM zmsg 9 88 Try.underlying37 hiM hz0 hz1 hz2 rfl (by omega) _ 1 _ (by rfl) ((HO.out.alloc _).drew)
              ⟨wr.heap.size, 0, none⟩ 1 1 (msgC 2) (by rfl) (by rfl) (World.news_of_block (cs := (msgC 2).toArray) (t := 35) (fr := (0, 0)) (heap_alloc_new wr _)) (by simp [msgC, Value.oneCell'])
              (by omega) (by unfold maxLen; omega) (by omega) (by simp; omega) (wr.heap.size + 1) (by simp) ?_; intro gg cap w1 hown1 hgrow hat hlt))
      have HO1 : Hid (w1.ownsRow (w.heap.size + 2) 35 9 (.slice (some ⟨gg, 0, none⟩) (1 + 1) cap) (tos 3).length (msgs (tos 3))) := Lib.hid (by simpa [tos, msgs] using hown1)
      have hb1 : Below (w.heap.size + 2) wr w1 := ((((Below.refl _ _).alloc hz2' _).drew).grown hgrow (by simp; omega) (own_ge HO.out))
      have HM1 := Lib.hid (HM.out.far hb1)
      clear hown1 hgrow hat hlt hb1
      go_wp2_with fail
      go_roundw
      case rel => exact ⟨3, by omega, rfl, HO1.out, HM1.out⟩
      case measure => simp [intOf]
    · have hB := HM.out.1
      have hR := HM.out.2.1
      obtain ⟨g, cap, rfl, hg, hgl⟩ := HO.out.form (by decide)
      go_wp2_with (first | (with_reducible refine wpList_box_load 25 1 w.heap.size (memL 1 3 1 1 1 (-1) 13 2 nil 0 nil nil) _ _ _ _ _ _ ?_ hB wideMem ?_) | (with_reducible refine wpList_box_store 25 2 (.tmp 61) (w.heap.size + 1) _ (memL 1 3 1 1 1 (-1) 13 2 nil 0 nil nil) _ _ _ _ _ _ ?_ ?_ hR (memOk _ _ _ _ _ _ _ _ _ _ _ _ _ _ _ _ _ _) wideMem ?_))
      · rfl
      · rfl
      · rfl
      rintro w9 hB9 hO9
      have r0 := hB9.cell 0 _ rfl
      have r1 := hB9.cell 1 _ rfl
      have r2 := hB9.cell 2 _ rfl
      have r3 := hB9.cell 3 _ rfl
      have r4 := hB9.cell 4 _ rfl
      have r5 := hB9.cell 5 _ rfl
      have r6 := hB9.cell 6 _ rfl
      have r7 := hB9.cell 7 _ rfl
      have r8 := hB9.cell 8 _ rfl
      have r9 := hB9.cell 9 _ rfl
      have r10 := hB9.cell 10 _ rfl
      have r11 := hB9.cell 11 _ rfl
      go_wp2_with fail
      refine bodyPost_ret (v := .tuple #[m1, .slice (some ⟨g, 0, none⟩) 2 cap]) (by simp [results, Try.results24, go_sem, r0, r1, r2, r3, r4, r5, r6, r7, r8, r9, r10, r11, tos]) rfl ?_
      refine ⟨g, cap, rfl, ?_, ?_⟩
      · exact own_mono (own_only HO.out hO9 (by have := own_ge HO.out g rfl; omega)) (by omega)
      · exact HM.out.2.2.trans (hO9.below _ (by omega))
end Go.Proofs.Ytfpgklhbghahoaa
