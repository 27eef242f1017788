/- Merged texts: Bt1, Box, Bt2, Bt3, Bt4, Bt5, Bt6, Bt7, Bt8, Bt9, Bt10, Bt11, Bt12, Bt13, Bt14, Bt15, Bu1, Bu2, Bu3, Bu4, Bu5, Bu6, Bu7, Bu7b, Bu8, Bu9. -/
import Derived.Test.YtegljepgncicjaaRows
import Derived.Test.YtegljepgncicjaaShelf
import Derived.WalkKit
import Derived.ProofKit
import Derived.Below
import Derived.Outline
import Derived.OwnWalk
import Derived.Laws.AppendOwn
import Derived.Laws.OwnMore
import Derived.Laws.IdiomCopy
import Derived.Deep.Slices
import Derived.Deep.MidRow
import Derived.Lib.Hide
import Derived.IntWalk
import Derived.Deep.QuietTactic
import Derived.BigQuiet
import Derived.StillTailTactics
import Derived.Shelf.Spec.SlicesInsert
import Derived.Shelf.Spec.SlicesInsertGrow
import Derived.Shelf.Spec.SearchS
import Derived.Deep.Upon
import Derived.StillTail
import Derived.Laws.Cover1
import Derived.RangeFuncNested
import Derived.RangeFuncBound
import Derived.RangeFuncLeaves
import Derived.RangeFuncBox
import Derived.Shelf.Abstract
import Derived.OwnWalkIn
import Derived.TacticsInMore
import Derived.LoopNIn
import Derived.LoopIn
import Derived.OrdersIn
import Derived.Sort.QuietIn
import Derived.Maps.AppendAt
import Derived.Laws.StructEq
import Derived.Lib.AppendZerosOnto
import Derived.Lib.Overlaps
import Derived.Laws.Externs
import Derived.Laws.NewBlocks
import Derived.Shelf.RegionOpenPlain
import Derived.Test.YtegljepgncicjaaShelfp
import Derived.Lib.RowBridge
import Derived.Deep.RegionHeld3
/- Btree: rows of strings of one's own; slices.Insert on them. -/
namespace Go.Proofs.Ytegljepgncicjaa
open Go.ChangeShapes Go.WideShapes Go.ChangeAt Go.RowKit
set_option linter.unusedVariables false
set_option linter.unusedSimpArgs false
abbrev Bs := ByteArray
/-- what a call may have changed: the blocks of S alone -/
structure Kept (S : Nat → Prop) (W W' : World) : Prop where
  os : W'.os = W.os
  tape : W'.tape = W.tape
  output : W'.output = W.output
  size : W.heap.size ≤ W'.heap.size
  block : ∀ k, k < W.heap.size → ¬ S k → W'.heap[k]? = W.heap[k]?
theorem Kept.refl (S : Nat → Prop) (W : World) : Kept S W W := ⟨rfl, rfl, rfl, Nat.le_refl _, fun _ _ _ => rfl⟩
theorem Kept.below {S : Nat → Prop} {W W' : World} {B : Nat} (h : Kept S W W') (hB : B ≤ W.heap.size) (hS : ∀ k, S k → B ≤ k) : Below B W W' := ⟨h.os, h.tape, h.output, h.size, fun k hk => h.block k (by omega) (fun hs => by have := hS k hs; omega)⟩
theorem Kept.drew {S : Nat → Prop} {W W' : World} (h : Kept S W W') : Kept S W W'.drew := ⟨h.os, h.tape, h.output, h.size, h.block⟩
theorem Kept.drewN {S : Nat → Prop} {W W' : World} (h : Kept S W W') (n : Nat) : Kept S W (W'.drewN n) := ⟨h.os, h.tape, h.output, h.size, h.block⟩
theorem heap_setCells (g : Nat) : ∀ (vs : List Value) (o : Nat) (W : World) (k : Nat), k ≠ g → (W.setCells g o vs).heap[k]? = W.heap[k]?
  | [], _, _, _, _ => rfl
  | v :: r, o, W, k, h => by
    rw [World.setCells, heap_setCells g r (o + 1) _ k h]
    simp only [World.setCell]
    rw [Array.getElem?_modify, if_neg (fun e => h e.symm)]
theorem size_setCells' (g : Nat) : ∀ (vs : List Value) (o : Nat) (W : World), (W.setCells g o vs).heap.size = W.heap.size
  | [], _, _ => rfl
  | v :: r, o, W => by rw [World.setCells, size_setCells' g r (o + 1)]; simp [World.setCell]
theorem rest_setCells (g : Nat) : ∀ (vs : List Value) (o : Nat) (W : World), (W.setCells g o vs).os = W.os ∧ (W.setCells g o vs).tape = W.tape ∧ (W.setCells g o vs).output = W.output
  | [], _, _ => ⟨rfl, rfl, rfl⟩
  | v :: r, o, W => by rw [World.setCells]; exact rest_setCells g r (o + 1) _
theorem Kept.setCells {S : Nat → Prop} {W W' : World} (h : Kept S W W') (g o : Nat) (vs : List Value) (hg : S g ∨ W.heap.size ≤ g) : Kept S W (W'.setCells g o vs) := by
  obtain ⟨h1, h2, h3⟩ := rest_setCells g vs o W'
  refine ⟨h1.trans h.os, h2.trans h.tape, h3.trans h.output, by rw [size_setCells']; exact h.size, fun k hk hs => ?_⟩
  rw [heap_setCells g vs o W' k (fun e => by subst e; rcases hg with hg | hg; exact hs hg; omega)]
  exact h.block k hk hs
theorem Kept.alloc {S : Nat → Prop} {W W' : World} (h : Kept S W W') (ob : Obj) : Kept S W (W'.alloc ob) := by
  refine ⟨h.os, h.tape, h.output, ?_, fun k hk hs => ?_⟩
  · have := h.size; rw [World.size_alloc]; omega
  · rw [← h.block k hk hs]
    show (W'.heap.push ob)[k]? = _
    have := h.size
    rw [Array.getElem?_push, if_neg (by omega)]
theorem Kept.trans {S T : Nat → Prop} {W W' W'' : World} (h : Kept S W W') (h2 : Kept T W' W'') (hT : ∀ k, T k → S k ∨ W.heap.size ≤ k) : Kept S W W'' :=
  ⟨h2.os.trans h.os, h2.tape.trans h.tape, h2.output.trans h.output, Nat.le_trans h.size h2.size, fun k hk hs => (h2.block k (Nat.lt_of_lt_of_le hk h.size) (fun ht => by rcases hT k ht with h3 | h3; exact hs h3; omega)).trans (h.block k hk hs)⟩
/-- a block of c strings -/
structure Row (W : World) (g c : Nat) : Prop where
  sh : W.shape? g = some (9, c)
  fr : ∀ j, W.frozen? ⟨g, j, none⟩ = false
  th : ∀ j, j < c → (W.cell? ⟨g, j, none⟩).isSome = true
theorem Row.lt {W : World} {g c : Nat} (h : Row W g c) : g < W.heap.size := by
  rcases Nat.lt_or_ge g W.heap.size with h2 | h2
  · exact h2
  · have := h.sh
    simp [World.shape?, Array.getElem?_eq_none h2] at this
theorem Row.same {W W' : World} {g c : Nat} (h : Row W g c) (e : W'.heap[g]? = W.heap[g]?) : Row W' g c :=
  ⟨by have := h.sh; unfold World.shape? at *; rw [e]; exact this, fun j => (World.frozen?_of_block (a := ⟨g, j, none⟩) e).trans (h.fr j), fun j hj => by rw [World.cell?_of_block (a := ⟨g, j, none⟩) e]; exact h.th j hj⟩
theorem shape_setCells (g : Nat) : ∀ (vs : List Value) (o : Nat) (W : World) (k : Nat), (W.setCells g o vs).shape? k = W.shape? k
  | [], _, _, _ => rfl
  | v :: r, o, W, k => by
    rw [World.setCells, shape_setCells g r (o + 1) _ k]
    unfold World.shape?
    simp only [World.setCell]
    rw [Array.getElem?_modify]
    by_cases h : g = k
    · rw [if_pos h]
      cases hk : W.heap[k]? with
      | none => rfl
      | some ob => cases ob <;> simp
    · rw [if_neg h]
theorem Row.set {W : World} {g c : Nat} (h : Row W g c) (o : Nat) (vs : List Value) : Row (W.setCells g o vs) g c :=
  ⟨(shape_setCells g vs o W g).trans h.sh, fun j => (World.frozen?_setCells g vs o W _).trans (h.fr j), fun j hj => World.isSome_setCells g vs o W _ (h.th j hj)⟩
theorem Row.at {W : World} {g c : Nat} (h : Row W g c) (o : Nat) (vs : List Value) (ho : o + vs.length ≤ c) (j : Nat) : (W.setCells g o vs).cell? ⟨g, j, none⟩ = if o ≤ j ∧ j < o + vs.length then vs[j - o]? else W.cell? ⟨g, j, none⟩ := by
  split
  · rename_i hj
    have := World.cell?_setCells_in g vs o W (fun i hi => h.th _ (by omega)) (j - o) (by omega)
    rw [show o + (j - o) = j by omega] at this
    rw [this, List.getElem?_eq_getElem]
  · rename_i hj
    exact World.cell?_setCells_out g vs o W _ (fun _ _ => by show j < o ∨ o + vs.length ≤ j; omega)
/-- a slice of strings of one's own: nil, or the first cells of a block -/
def RowS (B : Nat) (W : World) (v : Value) (xs : List Bs) : Prop :=
  (v = .slice none 0 0 ∧ xs = []) ∨ ∃ g c, v = .slice (some ⟨g, 0, none⟩) xs.length c ∧ B ≤ g ∧ xs.length ≤ c ∧ 0 < c ∧ c ≤ 9223372036854775807 ∧ Row W g c ∧ ∀ j, j < xs.length → W.cell? ⟨g, j, none⟩ = (xs[j]?).map .string
theorem RowS.lt {B : Nat} {W : World} {v : Value} {xs : List Bs} (h : RowS B W v xs) : ∀ k, v.ownBlock = some k → B ≤ k ∧ k < W.heap.size := by
  rcases h with ⟨rfl, _⟩ | ⟨g, c, rfl, h1, _, _, _, hR, _⟩
  · intro k hk; simp [Value.ownBlock] at hk
  · intro k hk
    simp [Value.ownBlock] at hk
    subst hk
    exact ⟨h1, hR.lt⟩
theorem RowS.kept {B : Nat} {S : Nat → Prop} {W W' : World} {v : Value} {xs : List Bs} (h : RowS B W v xs) (hk : Kept S W W') (hS : ∀ k, v.ownBlock = some k → ¬ S k) : RowS B W' v xs := by
  rcases h with ⟨rfl, h⟩ | ⟨g, c, rfl, h1, h2, h3, h4, hR, hc⟩
  · exact .inl ⟨rfl, h⟩
  · have e := hk.block g hR.lt (hS g rfl)
    exact .inr ⟨g, c, rfl, h1, h2, h3, h4, hR.same e, fun j hj => (World.cell?_of_block (a := ⟨g, j, none⟩) e).trans (hc j hj)⟩
theorem RowS.len {B : Nat} {W : World} {v : Value} {xs : List Bs} (h : RowS B W v xs) : ∃ a c, v = .slice a xs.length c := by
  rcases h with ⟨rfl, rfl⟩ | ⟨g, c, rfl, _⟩
  · exact ⟨none, 0, rfl⟩
  · exact ⟨_, _, rfl⟩
/-- a new block -/
theorem row_new (W : World) (arr : Array Value) (c : Nat) (hc : arr.size = c) : Row (W.alloc (.cells arr 9)) W.heap.size c := by
  have e : (W.alloc (.cells arr 9)).heap[W.heap.size]? = some (.cells arr 9 (0, 0)) := by
    show (W.heap.push _)[W.heap.size]? = _
    rw [Array.getElem?_push_size]
  refine ⟨by unfold World.shape?; rw [e]; rw [← hc], fun j => by unfold World.frozen?; rw [e]; simp, fun j hj => ?_⟩
  unfold World.cell?
  rw [e]
  simp
  omega
theorem cell_new' (W : World) (arr : Array Value) (j : Nat) : (W.alloc (.cells arr 9)).cell? ⟨W.heap.size, j, none⟩ = arr[j]? := by
  have e : (W.alloc (.cells arr 9)).heap[W.heap.size]? = some (.cells arr 9 (0, 0)) := by
    show (W.heap.push _)[W.heap.size]? = _
    rw [Array.getElem?_push_size]
  unfold World.cell?
  rw [e]
  rfl
def strv (xs : List Bs) : List Value := xs.map .string
theorem strv_at (xs : List Bs) (j : Nat) : (strv xs)[j]? = (xs[j]?).map .string := List.getElem?_map ..
theorem strv_len (xs : List Bs) : (strv xs).length = xs.length := List.length_map ..
theorem strv_one (xs : List Bs) : ∀ v ∈ strv xs, v.oneCell' = true := by
  intro v hv
  obtain ⟨x, _, rfl⟩ := List.mem_map.1 hv
  rfl
theorem zc_size (n : Nat) : (Builtin.zeroCells (Value.string ⟨#[]⟩).cells n).size = n := by simp [Builtin.zeroCells, Value.cells]
theorem ins_len (ks : List Bs) (i : Nat) (x : Bs) (hi : i ≤ ks.length) : (ks.take i ++ x :: ks.drop i).length = ks.length + 1 := by simp; omega
theorem ins_at (ks : List Bs) (i : Nat) (x : Bs) (hi : i ≤ ks.length) (j : Nat) : (ks.take i ++ x :: ks.drop i)[j]? = if j < i then ks[j]? else if j = i then some x else ks[j - 1]? := by
  rw [List.getElem?_append, List.length_take, Nat.min_eq_left hi]
  split
  · rw [List.getElem?_take, if_pos (by assumption)]
  · split
    · rename_i h1 h2
      rw [h2, Nat.sub_self]; rfl
    · rename_i h1 h2
      rw [show j - i = (j - i - 1) + 1 by omega, List.getElem?_cons_succ, List.getElem?_drop]
      congr 1
      omega
def InsOut (B : Nat) (v : Value) (xs : List Bs) (W : World) (e : Ending) (W' : World) : Prop :=
  ∃ v', e = .returned v' ∧ RowS B W' v' xs ∧ Kept (fun k => v.ownBlock = some k) W W' ∧ ∀ g, v'.ownBlock = some g → v.ownBlock = some g ∨ W.heap.size ≤ g
set_option maxHeartbeats 1600000 in
theorem ins_any (B : Nat) (v : Value) (ks : List Bs) (i : Nat) (x : Bs) (vb : Nat) (W : World) (h : RowS B W v ks) (hi : i ≤ ks.length) (hs : ks.length ≤ 1000) (hB : B ≤ W.heap.size)
    (hvb : W.heap[vb]? = some (.cells #[.string x] 9 (0, 0))) (hne : v.ownBlock ≠ some vb) :
    Calls Try.prog 47 #[v, .int .i64 i, .slice (some ⟨vb, 0, none⟩) 1 1] W (InsOut B v (ks.take i ++ x :: ks.drop i) W) := by
  have hvs : ∀ j u, ([Value.string x] : List Value)[j]? = some u → W.cell? ⟨vb, 0 + j, none⟩ = some u := by
    intro j u hj
    have : j = 0 := by
      have := (List.getElem?_eq_some_iff.1 hj).1
      simpa using this
    subst this
    unfold World.cell?
    rw [show (⟨vb, 0 + 0, none⟩ : Addr).block = vb from rfl, hvb]
    simpa using hj
  have h1v : ∀ u ∈ ([Value.string x] : List Value), u.oneCell' = true := by intro u hu; rw [List.mem_singleton.1 hu]; rfl
  rcases h with ⟨rfl, rfl⟩ | ⟨g, c, rfl, hBg, hnc, hc0, hc63, hR, hc⟩
  · obtain rfl : i = 0 := by simpa using hi
    refine (Any2.slices_Insert_string_end_grow Try.laysINS none 0 0 vb 0 1 1 [] [.string x] W (by decide) (by decide) (by decide) (by decide) rfl rfl (fun _ => rfl) (fun a ha => by cases ha) hvs h1v).mono ?_
    rintro e W' ⟨he, hw⟩
    rw [show Try.laysINS_ren.t 9 = 9 from rfl] at he hw
    have hge := grownCap_ge W (0 + 1) 0 9
    have hle := grownCap_le_maxLen W (0 + 1) 0 9 (by decide)
    unfold maxLen at hle
    generalize grownCap W (0 + 1) 0 9 = cap at *
    have hsz : ((([] : List Value) ++ [Value.string x]).toArray ++ Builtin.zeroCells (Value.string ⟨#[]⟩).cells (cap - (0 + 1))).size = cap := by
      rw [Array.size_append, zc_size]
      show 1 + (cap - (0 + 1)) = cap
      omega
    subst he
    subst hw
    refine ⟨_, rfl, .inr ⟨W.heap.size, _, rfl, hB, hge, by omega, by omega, row_new W.drew _ _ hsz, fun j hj => ?_⟩, (Kept.refl _ _).drew.alloc _, fun k hk => .inr ?_⟩
    · have : j = 0 := by simpa using hj
      subst this
      refine Eq.trans (cell_new' W.drew _ 0) ?_
      rw [Array.getElem?_append, if_pos (by simp)]
      rfl
    · simp [Value.ownBlock] at hk
      omega
  · have hl := ins_len ks i x hi
    have hcs : ∀ j u, (strv ks)[j]? = some u → W.cell? ⟨g, 0 + j, none⟩ = some u := by
      intro j u hj
      have hjl := (List.getElem?_eq_some_iff.1 hj).1
      rw [strv_len] at hjl
      rw [Nat.zero_add, hc j hjl, ← strv_at]
      exact hj
    have hsh : ∀ k, g = k → W.shape? k = some (9, c) := fun k e => by rw [← e]; exact hR.sh
    have hnev : vb ≠ g := fun e => hne (by simp [Value.ownBlock, e])
    by_cases hin : i = ks.length
    · subst hin
      by_cases hroom : ks.length + 1 ≤ c
      · refine (Any2.slices_Insert_string_end_room Try.laysINS g 0 ks.length c vb 0 1 1 [.string x] W (by decide) hroom hc63 rfl (fun j hj => hR.th _ (by omega)) (fun j hj => hR.fr _) hvs h1v).mono ?_
        rintro e W' ⟨rfl, rfl⟩
        refine ⟨_, rfl, .inr ⟨g, c, by rw [hl], hBg, by rw [hl]; exact hroom, hc0, hc63, hR.set _ _, fun j hj => ?_⟩, (Kept.refl (fun k => (Value.slice (some ⟨g, 0, none⟩) ks.length c).ownBlock = some k) W).setCells g _ _ (.inl (show _ = some g from rfl)), fun k hk => .inl hk⟩
        rw [hR.at (0 + ks.length) [.string x] (by simp; omega) j, ins_at ks _ x hi j]
        rw [hl] at hj
        by_cases h1 : j < ks.length
        · rw [if_neg (by omega), if_pos h1]; exact hc j h1
        · obtain rfl : j = ks.length := by omega
          rw [if_pos (by simp), if_neg h1, if_pos rfl]
          simp
      · refine (Any2.slices_Insert_string_end_grow Try.laysINS (some ⟨g, 0, none⟩) ks.length c vb 0 1 1 (strv ks) [.string x] W (by decide) hnc (by omega) (by omega) (strv_len ks) rfl (fun e => by cases e) (fun a ha j u hj => by
          cases ha
          have := hcs j u hj
          rw [Nat.zero_add] at this
          simpa [Addr.add] using (by by_cases h0 : j = 0 <;> simp [Addr.add, h0] at this ⊢ <;> first | exact this | (subst h0; exact this))) hvs h1v).mono ?_
        rintro e W' ⟨he, hw⟩
        rw [show Try.laysINS_ren.t 9 = 9 from rfl] at he hw
        have hge := grownCap_ge W (ks.length + 1) c 9
        have hle := grownCap_le_maxLen W (ks.length + 1) c 9 (by unfold maxLen; omega)
        unfold maxLen at hle
        generalize grownCap W (ks.length + 1) c 9 = cap at *
        have hsz : ((strv ks ++ [Value.string x]).toArray ++ Builtin.zeroCells (Value.string ⟨#[]⟩).cells (cap - (ks.length + 1))).size = cap := by
          rw [Array.size_append, zc_size, List.size_toArray, List.length_append, strv_len]
          simp only [List.length_cons, List.length_nil]
          omega
        subst he
        subst hw
        refine ⟨_, rfl, .inr ⟨W.heap.size, _, by rw [hl], hB, by rw [hl]; exact hge, by omega, by omega, row_new W.drew _ _ hsz, fun j hj => ?_⟩, (Kept.refl _ _).drew.alloc _, fun k hk => .inr ?_⟩
        · rw [hl] at hj
          refine Eq.trans (cell_new' W.drew _ j) ?_
          rw [Array.getElem?_append, if_pos (by rw [List.size_toArray, List.length_append, strv_len]; exact hj), ins_at ks _ x hi j]
          rw [List.getElem?_toArray, List.getElem?_append, strv_len]
          by_cases h1 : j < ks.length
          · rw [if_pos h1, if_pos h1, strv_at]
          · obtain rfl : j = ks.length := by omega
            rw [if_neg h1, if_neg h1, if_pos rfl, Nat.sub_self]; rfl
        · simp [Value.ownBlock] at hk
          omega
    · have hin' : i < ks.length := by omega
      by_cases hroom : ks.length + 1 ≤ c
      · refine (Any2.slices_Insert_string_shift Try.laysINS g 0 ks.length c i vb 0 1 1 (strv ks) [.string x] W hin' (by decide) hroom hc63 hnev (strv_len ks) rfl hcs (fun j hj => by rw [Nat.zero_add]; exact hR.th _ (by omega)) (fun j hj => by rw [Nat.zero_add]; exact hR.fr _) hvs (strv_one ks) h1v
          9 9 1 c (by unfold World.shape?; rw [hvb]; rfl) hR.sh (by omega) (by unfold World.frozen?; rw [hvb]; rfl) (by unfold World.frozen?; rw [hvb]; rfl)).mono ?_
        rintro e W' ⟨rfl, rfl⟩
        have hR1 : Row W.drew g c := ⟨hR.sh, hR.fr, hR.th⟩
        have hR2 := hR1.set (0 + (i + 1)) ((strv ks).drop i)
        refine ⟨_, rfl, .inr ⟨g, c, by rw [hl], hBg, by rw [hl]; exact hroom, hc0, hc63, hR2.set _ _, fun j hj => ?_⟩, ((Kept.refl (fun k => (Value.slice (some ⟨g, 0, none⟩) ks.length c).ownBlock = some k) W).drew.setCells g _ _ (.inl (show _ = some g from rfl))).setCells g _ _ (.inl (show _ = some g from rfl)), fun k hk => .inl hk⟩
        rw [hl] at hj
        have hdl : ((strv ks).drop i).length = ks.length - i := by rw [List.length_drop, strv_len]
        rw [hR2.at (0 + i) [.string x] (by simp; omega) j, hR1.at (0 + (i + 1)) _ (by rw [hdl]; omega) j, ins_at ks _ x hi j, hdl]
        by_cases h1 : j < i
        · rw [if_neg (by omega), if_neg (by omega), if_pos h1]; exact hc j (by omega)
        · by_cases h2 : j = i
          · subst h2
            rw [if_pos (by simp), if_neg h1, if_pos rfl]
            simp
          · rw [if_neg (by simp; omega), if_pos (by omega), if_neg h1, if_neg h2, List.getElem?_drop, strv_at]
            congr 2
            omega
      · refine (Any2.slices_Insert_string_grow Try.laysINS g 0 ks.length c i vb 0 1 1 (strv ks) [.string x] W hin' (by decide) hnc (by omega) (by omega) (strv_len ks) rfl hcs hvs (strv_one ks) h1v).mono ?_
        rintro e W' ⟨he, hw⟩
        rw [show Try.laysINS_ren.t 9 = 9 from rfl] at he hw
        have hge := grownCap_ge W (ks.length + 1) c 9
        have hle := grownCap_le_maxLen W (ks.length + 1) c 9 (by unfold maxLen; omega)
        unfold maxLen at hle
        generalize grownCap W (ks.length + 1) c 9 = cap at *
        subst he
        subst hw
        have hsz : (((strv ks).take i).toArray ++ Builtin.zeroCells (Value.string ⟨#[]⟩).cells (ks.length + 1 - i) ++ Builtin.zeroCells (Value.string ⟨#[]⟩).cells (cap - (ks.length + 1))).size = cap := by
          rw [Array.size_append, Array.size_append, zc_size, zc_size, List.size_toArray, List.length_take, strv_len]
          omega
        have hR0 : Row ((W.alloc (.cells (((strv ks).take i).toArray ++ Builtin.zeroCells (Value.string ⟨#[]⟩).cells (ks.length + 1 - i) ++ Builtin.zeroCells (Value.string ⟨#[]⟩).cells (cap - (ks.length + 1))) 9)).drew) W.heap.size cap := by
          have := row_new W _ _ hsz
          exact ⟨this.sh, this.fr, this.th⟩
        have hR1 := hR0.set i [.string x]
        have hR1' : Row ((W.alloc (.cells (((strv ks).take i).toArray ++ Builtin.zeroCells (Value.string ⟨#[]⟩).cells (ks.length + 1 - i) ++ Builtin.zeroCells (Value.string ⟨#[]⟩).cells (cap - (ks.length + 1))) 9)).drew.setCells W.heap.size i [.string x]).drew W.heap.size cap := ⟨hR1.sh, hR1.fr, hR1.th⟩
        have hdl : ((strv ks).drop i).length = ks.length - i := by rw [List.length_drop, strv_len]
        refine ⟨_, rfl, .inr ⟨W.heap.size, _, by rw [hl], hB, by rw [hl]; exact hge, by omega, by omega, hR1'.set _ _, fun j hj => ?_⟩, ((((Kept.refl _ _).alloc _).drew.setCells _ _ _ (.inr (Nat.le_refl _))).drew).setCells _ _ _ (.inr (Nat.le_refl _)), fun k hk => .inr ?_⟩
        · rw [hl] at hj
          rw [hR1'.at (i + 1) _ (by rw [hdl]; omega) j, ins_at ks _ x hi j, hdl]
          by_cases h1 : j < i
          · rw [if_neg (by omega), if_pos h1]
            refine Eq.trans (hR0.at i [.string x] (by simp; omega) j) ?_
            rw [if_neg (by omega)]
            refine Eq.trans (cell_new' W _ j) ?_
            rw [Array.getElem?_append, if_pos (by rw [Array.size_append, zc_size, List.size_toArray, List.length_take, strv_len]; omega), Array.getElem?_append, if_pos (by rw [List.size_toArray, List.length_take, strv_len]; omega)]
            rw [List.getElem?_toArray, List.getElem?_take, if_pos h1, strv_at]
          · by_cases h2 : j = i
            · subst h2
              rw [if_neg (by omega), if_neg h1, if_pos rfl]
              refine Eq.trans (hR0.at j [.string x] (by simp; omega) j) ?_
              rw [if_pos (by simp)]
              simp
            · rw [if_pos (by omega), if_neg h1, if_neg h2, List.getElem?_drop, strv_at]
              congr 2
              omega
        · simp [Value.ownBlock] at hk
          omega
end Go.Proofs.Ytegljepgncicjaa
/- Boxes: structs in blocks of their own, stored and loaded whole. -/
namespace Go.Proofs.Ytegljepgncicjaa
open Go.ChangeShapes Go.WideShapes Go.ChangeAt Go.RowKit Go.Deep
set_option linter.unusedVariables false
set_option linter.unusedSimpArgs false
/-- block b holds the cells, and they can be written -/
structure Box (W : World) (b : Nat) (cs : List Value) : Prop where
  rng : W.rangeAt b 0 cs
  free : ∀ o, W.frozen? ⟨b, o, none⟩ = false
  lt : b < W.heap.size
/-- nothing but block b has turned -/
structure Only (w w' : World) (b : Nat) : Prop where
  size : w'.heap.size = w.heap.size
  heap : ∀ k, k ≠ b → w'.heap[k]? = w.heap[k]?
  below : ∀ B, B ≤ b → Below B w w'
theorem Box.cell {W : World} {b : Nat} {cs : List Value} (h : Box W b cs) (j : Nat) (v : Value) (hv : cs[j]? = some v) : W.cell? ⟨b, j, none⟩ = some v := by
  have := h.rng j v hv
  rwa [Nat.zero_add] at this
theorem Box.keep {W W' : World} {b : Nat} {cs : List Value} (h : Box W b cs) (hb : Below W.heap.size W W') : Box W' b cs :=
  ⟨fun j v hv => (hb.cell (p := ⟨b, 0 + j, none⟩) h.lt).trans (h.rng j v hv), fun o => (hb.frozen (p := ⟨b, o, none⟩) h.lt).trans (h.free o), Nat.lt_of_lt_of_le h.lt hb.size⟩
theorem Box.far {W W' : World} {b B : Nat} {cs : List Value} (h : Box W b cs) (hb : Below B W W') (hB : b < B) : Box W' b cs :=
  ⟨fun j v hv => (hb.cell (p := ⟨b, 0 + j, none⟩) hB).trans (h.rng j v hv), fun o => (hb.frozen (p := ⟨b, o, none⟩) hB).trans (h.free o), Nat.lt_of_lt_of_le h.lt hb.size⟩
theorem Box.other {W W' : World} {b c : Nat} {cs : List Value} (h : Box W b cs) (ho : Only W W' c) (hne : b ≠ c) : Box W' b cs :=
  ⟨fun j v hv => (World.cell?_of_block (a := ⟨b, 0 + j, none⟩) (ho.heap b hne)).trans (h.rng j v hv), fun o => (World.frozen?_of_block (a := ⟨b, o, none⟩) (ho.heap b hne)).trans (h.free o), by rw [ho.size]; exact h.lt⟩
theorem Box.new (W : World) (cs : List Value) (T : TypeId) : Box (W.alloc (.cells cs.toArray T)) W.heap.size cs :=
  ⟨fun j v hv => by
    rw [Nat.zero_add, World.cell?_alloc_new]
    simpa using hv, fun o => by simp [go_sem], by simp⟩
theorem Box.alloc {W : World} {b : Nat} {cs : List Value} (h : Box W b cs) (ob : Obj) : Box (W.alloc ob) b cs := h.keep ((Below.refl _ _).alloc (Nat.le_refl _) _)
theorem Box.drew {W : World} {b : Nat} {cs : List Value} (h : Box W b cs) : Box W.drew b cs := ⟨fun j v hv => h.rng j v hv, fun o => h.free o, h.lt⟩
theorem Box.drewN {W : World} {b : Nat} {cs : List Value} (h : Box W b cs) (n : Nat) : Box (W.drewN n) b cs := ⟨fun j v hv => h.rng j v hv, fun o => h.free o, h.lt⟩
theorem Only.setCell (W : World) (b j : Nat) (v : Value) : Only W (W.setCell ⟨b, j, none⟩ v) b :=
  ⟨by simp, fun k hk => heap_setCell_other W ⟨b, j, none⟩ k v (fun e => hk e), fun B hB => (Below.refl _ _).setCell hB _⟩
theorem Box.setCell {W : World} {b : Nat} {cs : List Value} (h : Box W b cs) (j : Nat) (v : Value) (hj : j < cs.length) : Box (W.setCell ⟨b, j, none⟩ v) b (cs.set j v) := by
  refine ⟨fun i u hu => ?_, fun o => by rw [World.frozen?_setCell]; exact h.free o, by simpa using h.lt⟩
  have hi : i < cs.length := by have := (List.getElem?_eq_some_iff.1 hu).1; simpa using this
  rw [Nat.zero_add]
  by_cases e : j = i
  · subst e
    rw [World.cell?_setCell_same _ _ _ (h.cell j cs[j] (List.getElem?_eq_getElem hj))]
    rw [List.getElem?_set_self hj] at hu
    exact hu
  · rw [World.cell?_setCell_other _ _ _ _ (by intro hc; injection hc; omega)]
    rw [List.getElem?_set_ne e] at hu
    exact h.cell i u hu
theorem Box.setOther {W : World} {b c : Nat} {cs : List Value} (h : Box W b cs) (j : Nat) (v : Value) (hne : b ≠ c) : Box (W.setCell ⟨c, j, none⟩ v) b cs := h.other (Only.setCell W c j v) hne
theorem Only.setCells (W : World) (b o : Nat) (vs : List Value) (hb : b < W.heap.size) : Only W (W.setCells b o vs) b := by
  induction vs generalizing o W with
  | nil => exact ⟨rfl, fun _ _ => rfl, fun B _ => Below.refl _ _⟩
  | cons v vs ih =>
    have h1 := Only.setCell W b o v
    have h2 := ih (W.setCell ⟨b, o, none⟩ v) (o + 1) (by rw [h1.size]; exact hb)
    exact ⟨h2.size.trans h1.size, fun k hk => (h2.heap k hk).trans (h1.heap k hk), fun B hB => (h1.below B hB).trans (h2.below B hB)⟩
theorem Box.store {W : World} {b : Nat} {cs vs : List Value} (h : Box W b cs) (hl : vs.length = cs.length) : Box (W.setCells b 0 vs) b vs := by
  refine ⟨World.rangeAt_setCells_same W b 0 vs (fun j hj => ⟨h.rng.isSome j (by omega), h.free _⟩), fun o => by rw [World.frozen?_setCells]; exact h.free o, ?_⟩
  rw [(Only.setCells W b 0 vs h.lt).size]; exact h.lt
/-- n single cells -/
def Cells (n : Nat) (vs : List Value) : Prop := vs.length = n ∧ vs.all (·.oneCell') = true
/-- block b holds n single cells -/
def BoxN (n : Nat) (W : World) (b : Nat) (cs : List Value) : Prop := Box W b cs ∧ cs.length = n
theorem BoxN.keep {n : Nat} {W W' : World} {b : Nat} {cs : List Value} (h : BoxN n W b cs) (hb : Below W.heap.size W W') : BoxN n W' b cs := ⟨h.1.keep hb, h.2⟩
theorem BoxN.far {n : Nat} {W W' : World} {b B : Nat} {cs : List Value} (h : BoxN n W b cs) (hb : Below B W W') (hB : b < B) : BoxN n W' b cs := ⟨h.1.far hb hB, h.2⟩
theorem BoxN.other {n : Nat} {W W' : World} {b c : Nat} {cs : List Value} (h : BoxN n W b cs) (ho : Only W W' c) (hne : b ≠ c) : BoxN n W' b cs := ⟨h.1.other ho hne, h.2⟩
theorem BoxN.new (W : World) (cs : List Value) (n : Nat) (T : TypeId) (h : cs.length = n) : BoxN n (W.alloc (.cells cs.toArray T)) W.heap.size cs := ⟨Box.new W cs T, h⟩
theorem BoxN.alloc {n : Nat} {W : World} {b : Nat} {cs : List Value} (h : BoxN n W b cs) (ob : Obj) : BoxN n (W.alloc ob) b cs := ⟨h.1.alloc ob, h.2⟩
theorem BoxN.drew {n : Nat} {W : World} {b : Nat} {cs : List Value} (h : BoxN n W b cs) : BoxN n W.drew b cs := ⟨h.1.drew, h.2⟩
theorem BoxN.cell {n : Nat} {W : World} {b : Nat} {cs : List Value} (h : BoxN n W b cs) (j : Nat) (v : Value) (hv : cs[j]? = some v) : W.cell? ⟨b, j, none⟩ = some v := h.1.cell j v hv
theorem BoxN.setCell {n : Nat} {W : World} {b : Nat} {cs : List Value} (h : BoxN n W b cs) (j : Nat) (v : Value) (hj : j < n) : BoxN n (W.setCell ⟨b, j, none⟩ v) b (cs.set j v) := ⟨h.1.setCell j v (by rw [h.2]; exact hj), by rw [List.length_set]; exact h.2⟩
theorem BoxN.setOther {n : Nat} {W : World} {b c : Nat} {cs : List Value} (h : BoxN n W b cs) (j : Nat) (v : Value) (hne : b ≠ c) : BoxN n (W.setCell ⟨c, j, none⟩ v) b cs := ⟨h.1.setOther j v hne, h.2⟩
/-- a type whose values are n cells -/
def Wide (P : Program) (ty : TypeId) (n : Nat) : Prop := (P.info? ty).map (·.size) = some n ∧ ∃ td, P.underlying ty = some td ∧ td.isRow = true
section
variable {P : Program}
/-- a whole struct is stored into its box -/
theorem wpList_box_store {ops : Array Oper} {rest : List Oper} {Q : Exit → Act → World → Prop} {n : Nat} (ty : TypeId) (x : Nat) (y : Operand) (b : Nat) (cs vs : List Value) (d : Option Nat) (t : TypeId) (pos : String) (af) (a : Act) (w : World)
    (hx : a.eval (.tmp x) = .pointer (some ⟨b, 0, none⟩)) (hy : a.eval y = .agg vs.toArray) (hB : BoxN n w b cs) (hv : Cells n vs) (hT : Wide P ty n)
    (h : ∀ w', BoxN n w' b vs → Only w w' b → wpList P ops Q rest (a.put d undef) w') :
    wpList P ops Q ({ dst := d, op := Op.store ty (Operand.tmp x) y, type := t, pos := pos, after := af, guard := none } :: rest) a w := by
  have hl : vs.length = cs.length := by rw [hv.1, hB.2]
  refine wpList_store_mid rfl ty (.tmp x) y rfl b 0 vs.toArray hx hy (fun j hj => ⟨hB.1.rng.isSome j (by simp at hj; omega), hB.1.free _⟩) (by rw [hT.1, ← hv.1]; simp) (all_oneCell_toArray (by simpa using hv.2)) ?_
  exact h _ ⟨by simpa using hB.1.store hl, hv.1⟩ (by simpa using Only.setCells w b 0 vs hB.1.lt)
/-- a whole struct is loaded from its box -/
theorem wpList_box_load {ops : Array Oper} {rest : List Oper} {Q : Exit → Act → World → Prop} {n : Nat} (ty : TypeId) (x : Nat) (b : Nat) (cs : List Value) (d : Option Nat) (t : TypeId) (pos : String) (af) (a : Act) (w : World)
    (hx : a.eval (.tmp x) = .pointer (some ⟨b, 0, none⟩)) (hB : BoxN n w b cs) (hT : Wide P ty n)
    (h : wpList P ops Q rest (a.put d (.agg cs.toArray)) w) :
    wpList P ops Q ({ dst := d, op := Op.load ty (Operand.tmp x), type := t, pos := pos, after := af, guard := none } :: rest) a w := by
  obtain ⟨h1, td, h2, h3⟩ := hT
  exact wpList_load_mid rfl ty (.tmp x) rfl b 0 hx cs td hB.1.rng h2 h3 (by rw [h1, hB.2]) h
/-- in a region that draws its order: a whole struct is loaded from its box -/
theorem wpStill_box_load {ops : Array Oper} {rest : List Oper} {Q : Act → Prop} {n : Nat} (ty : TypeId) (x : Nat) (b : Nat) (cs : List Value) (d : Option Nat) (t : TypeId) (pos : String) (af) (a : Act) (w : World)
    (hx : a.eval (.tmp x) = .pointer (some ⟨b, 0, none⟩)) (hB : BoxN n w b cs) (hT : Wide P ty n)
    (h : wpStill P ops w Q rest (a.put d (.agg cs.toArray))) :
    wpStill P ops w Q ({ dst := d, op := Op.load ty (Operand.tmp x), type := t, pos := pos, after := af, guard := none } :: rest) a := by
  obtain ⟨h1, td, h2, h3⟩ := hT
  have hr : (execOp a.eval { dst := d, op := Op.load ty (Operand.tmp x), type := t, pos := pos, after := af, guard := none }).run P w = .ok (.value (.agg cs.toArray)) w := by
    unfold execOp
    simp only [hx, Instr.loadAt, Instr.sureAddr, Sem.run_bind, Sem.run_pure, Result.andThen_ok, run_loadVar_mid w b 0 ty cs td hB.1.rng h2 h3 (by rw [h1, hB.2])]
  unfold wpStill
  rw [if_pos (by simp [Region.wanted])]
  unfold Oper.still
  rw [hr, Oper.stillUpon_value]
  exact h
theorem box_load_run {n : Nat} {ty : TypeId} {b : Nat} {cs : List Value} {w : World} (hB : BoxN n w b cs) (hT : Wide P ty n) : (Instr.loadAt ty (.pointer (some ⟨b, 0, none⟩))).run P w = .ok (.agg cs.toArray) w := by
  obtain ⟨h1, td, h2, h3⟩ := hT
  simp only [Instr.loadAt, Instr.sureAddr, Sem.run_bind, Sem.run_pure, Result.andThen_ok, run_loadVar_mid w b 0 ty cs td hB.1.rng h2 h3 (by rw [h1, hB.2])]
theorem box_store_run {n : Nat} {ty : TypeId} {b : Nat} {cs vs : List Value} {w : World} (hB : BoxN n w b cs) (hv : Cells n vs) (hT : Wide P ty n) : (Instr.storeAt ty (.pointer (some ⟨b, 0, none⟩)) (.agg vs.toArray)).run P w = .ok () (w.setCells b 0 vs) := by
  have hl : vs.length = cs.length := by rw [hv.1, hB.2]
  have := run_storeAt_mid (P := P) w b 0 ty vs.toArray (fun j hj => ⟨hB.1.rng.isSome j (by simp at hj; omega), hB.1.free _⟩) (by rw [hT.1, ← hv.1]; simp) (all_oneCell_toArray (by simpa using hv.2))
  simpa using this
theorem box_loadVar_run {n : Nat} {ty : TypeId} {b : Nat} {cs : List Value} {w : World} (hB : BoxN n w b cs) (hT : Wide P ty n) : (loadVar ty ⟨b, 0, none⟩).run P w = .ok (.agg cs.toArray) w := by
  obtain ⟨h1, td, h2, h3⟩ := hT
  exact run_loadVar_mid w b 0 ty cs td hB.1.rng h2 h3 (by rw [h1, hB.2])
theorem box_storeVar_run {n : Nat} {ty : TypeId} {b : Nat} {cs vs : List Value} {w : World} (hB : BoxN n w b cs) (hv : Cells n vs) (hT : Wide P ty n) : (storeVar ty ⟨b, 0, none⟩ (.agg vs.toArray)).run P w = .ok () (w.setCells b 0 vs) := by
  have hl : vs.length = cs.length := by rw [hv.1, hB.2]
  have := run_storeVar_mid (P := P) w b 0 ty vs.toArray (fun j hj => ⟨hB.1.rng.isSome j (by simp at hj; omega), hB.1.free _⟩) (by rw [hT.1, ← hv.1]; simp) (all_oneCell_toArray (by simpa using hv.2))
  simpa using this
/-- at a step of a region that draws its order, for go_region_law: a whole struct is loaded -/
theorem step_box_load {ops : Array Oper} {o : Oper} {a : Act} {w : World} {K : Act → World → Prop} {Q : Exit → Act → World → Prop} {E : Prop} {n : Nat} (hgd : o.guard = none) (ty : TypeId) (x : Operand) (ho : o.op = .load ty x) (b : Nat) (cs : List Value)
    (hx : a.eval x = .pointer (some ⟨b, 0, none⟩)) (hB : BoxN n w b cs) (hT : Wide P ty n) (h : K (a.put o.dst (.agg cs.toArray)) w) :
    if Region.wanted o (yielded ops a.tmps) = true then Oper.wp P o a w K Q else E := by
  obtain ⟨h1, td, h2, h3⟩ := hT
  rw [if_pos (by simp [Region.wanted, hgd])]
  exact wp_load_mid ty x ho b 0 hx cs td hB.1.rng h2 h3 (by rw [h1, hB.2]) h
/-- .. stored -/
theorem step_box_store {ops : Array Oper} {o : Oper} {a : Act} {w : World} {K : Act → World → Prop} {Q : Exit → Act → World → Prop} {E : Prop} {n : Nat} (hgd : o.guard = none) (ty : TypeId) (x y : Operand) (ho : o.op = .store ty x y) (b : Nat) (cs vs : List Value)
    (hx : a.eval x = .pointer (some ⟨b, 0, none⟩)) (hy : a.eval y = .agg vs.toArray) (hB : BoxN n w b cs) (hv : Cells n vs) (hT : Wide P ty n)
    (h : ∀ w', BoxN n w' b vs → Only w w' b → K (a.put o.dst undef) w') :
    if Region.wanted o (yielded ops a.tmps) = true then Oper.wp P o a w K Q else E := by
  have hl : vs.length = cs.length := by rw [hv.1, hB.2]
  rw [if_pos (by simp [Region.wanted, hgd])]
  refine wp_store_mid ty x y ho b 0 vs.toArray hx hy (fun j hj => ⟨hB.1.rng.isSome j (by simp at hj; omega), hB.1.free _⟩) (by rw [hT.1, ← hv.1]; simp) (all_oneCell_toArray (by simpa using hv.2)) ?_
  exact h _ ⟨by simpa using hB.1.store hl, hv.1⟩ (by simpa using Only.setCells w b 0 vs hB.1.lt)
end
end Go.Proofs.Ytegljepgncicjaa
/- Btree: BinarySearch and Delete on rows of one's own; a node without kids; put into it. -/
namespace Go.Proofs.Ytegljepgncicjaa
open Go.ChangeShapes Go.WideShapes Go.ChangeAt Go.RowKit Go.Deep
set_option linter.unusedVariables false
set_option linter.unusedSimpArgs false
def sx (xs : List Bs) (j : Nat) : Bs := (xs[j]?).getD ByteArray.empty
def bsI (xs : List Bs) (x : Bs) : Nat := Lib.bsGo (fun t => Op.bytesLess (sx xs t).toList x.toList) xs.length 0 xs.length
def bsF (xs : List Bs) (x : Bs) : Bool := decide (bsI xs x < xs.length ∧ sx xs (bsI xs x) = x)
theorem sx_cell {xs : List Bs} {j : Nat} (h : j < xs.length) : (xs[j]?).map Value.string = some (.string (sx xs j)) := by
  unfold sx
  rw [List.getElem?_eq_getElem h]
  rfl
theorem bs_any (B : Nat) (v : Value) (xs : List Bs) (x : Bs) (W : World) (h : RowS B W v xs) (hs : xs.length ≤ 1000) :
    Calls Try.prog 45 #[v, .string x] W fun e W' => e = .returned (.tuple #[.int .i64 (bsI xs x : Nat), .bool (bsF xs x)]) ∧ ∃ q, W' = W.drewN q := by
  rcases h with ⟨rfl, rfl⟩ | ⟨g, c, rfl, hBg, hnc, hc0, hc63, hR, hc⟩
  · refine (Any2.slices_BinarySearch_string_empty Try.laysBS none 0 x W).mono ?_
    rintro e W' ⟨rfl, rfl⟩
    exact ⟨rfl, 0, rfl⟩
  · refine (Any2.slices_BinarySearch_string Try.laysBS g 0 xs.length c (sx xs) x W (by omega) (fun j hj => by rw [Nat.zero_add, hc j hj, sx_cell hj])).mono ?_
    rintro e W' ⟨rfl, hq⟩
    exact ⟨rfl, hq⟩
theorem enc_str (b : Bs) : (⟨b.data.toList.toArray⟩ : ByteArray) = b := by cases b; simp
theorem del_any (B : Nat) (v : Value) (xs : List Bs) (i : Nat) (W : World) (h : RowS B W v xs) (hi : i < xs.length) :
    Calls Try.prog 49 #[v, .int .i64 i, .int .i64 ((i : Int) + 1)] W fun e W' => ∃ v', e = .returned v' ∧ RowS B W' v' (xs.eraseIdx i) ∧ Kept (fun k => v.ownBlock = some k) W W' ∧ v'.ownBlock = v.ownBlock := by
  rw [show ((i : Int) + 1) = ((i + 1 : Nat) : Int) by omega]
  rcases h with ⟨rfl, rfl⟩ | ⟨g, c, rfl, hBg, hnc, hc0, hc63, hR, hc⟩
  · exact absurd hi (Nat.not_lt_zero _)
  · refine (Try.slices_Delete_string_cells g 0 xs.length c i (i + 1) (sx xs) W hnc hc63 (by omega) (by omega) (fun j hj => by rw [Nat.zero_add, hc j hj, sx_cell hj]) (fun j hj => hR.fr _)).mono ?_
    rintro e W' ⟨rfl, q, rfl⟩
    have hl : (xs.eraseIdx i).length = xs.length - 1 := by rw [List.length_eraseIdx, if_pos hi]
    have hRq : Row (W.drewN q) g c := ⟨hR.sh, hR.fr, hR.th⟩
    have hsl : (Lib.strsOf (sx xs) xs.length).length = xs.length := Lib.strsOf_length _ _
    have hlen : ((((Lib.strsOf (sx xs) xs.length).take i ++ (Lib.strsOf (sx xs) xs.length).drop (i + 1) ++ List.replicate (i + 1 - i) []).map Go.Proofs.encStr)).length = xs.length := by
      simp [hsl]; omega
    refine ⟨_, rfl, .inr ⟨g, c, by rw [hl]; congr 1; omega, hBg, by omega, hc0, hc63, hRq.set _ _, fun j hj => ?_⟩, ((Kept.refl (fun k => (Value.slice (some ⟨g, 0, none⟩) xs.length c).ownBlock = some k) W).drewN q).setCells g _ _ (.inl (show _ = some g from rfl)), rfl⟩
    rw [hl] at hj
    rw [hRq.at 0 _ (by rw [hlen]; omega) j, hlen, if_pos (by omega), Nat.sub_zero, List.getElem?_map]
    rw [List.getElem?_append, if_pos (by simp [hsl]; omega), List.getElem?_append, List.length_take, hsl, Nat.min_eq_left (by omega), List.getElem?_eraseIdx]
    by_cases h1 : j < i
    · rw [if_pos h1, if_pos h1, List.getElem?_take, if_pos h1]
      unfold Lib.strsOf
      rw [List.getElem?_map, List.getElem?_range (by omega), sx_cell (by omega)]
      show some (Value.string _) = _
      rw [enc_str]
    · rw [if_neg h1, if_neg h1, List.getElem?_drop]
      unfold Lib.strsOf
      rw [List.getElem?_map, List.getElem?_range (by omega), show i + 1 + (j - i) = j + 1 by omega, sx_cell (by omega)]
      show some (Value.string _) = _
      rw [enc_str]
/-- a node without kids -/
structure Leaf (B : Nat) (W : World) (N : Nat) (kv vv : Value) (ks vs : List Bs) : Prop where
  box : Box W N [kv, vv, .slice none 0 0]
  rk : RowS B W kv ks
  rv : RowS B W vv vs
  nk : kv.ownBlock ≠ some N
  nv : vv.ownBlock ≠ some N
  kvv : ∀ g, kv.ownBlock = some g → vv.ownBlock ≠ some g
  bN : B ≤ N
/-- the blocks of a node -/
def Own (N : Nat) (kv vv : Value) (k : Nat) : Prop := k = N ∨ kv.ownBlock = some k ∨ vv.ownBlock = some k
theorem Box.kept {S : Nat → Prop} {W W' : World} {b : Nat} {cs : List Value} (h : Box W b cs) (hk : Kept S W W') (hS : ¬ S b) : Box W' b cs := by
  have e := hk.block b h.lt hS
  exact ⟨fun j v hv => (World.cell?_of_block (a := ⟨b, 0 + j, none⟩) e).trans (h.rng j v hv), fun o => (World.frozen?_of_block (a := ⟨b, o, none⟩) e).trans (h.free o), Nat.lt_of_lt_of_le h.lt hk.size⟩
theorem Leaf.kept {B : Nat} {S : Nat → Prop} {W W' : World} {N : Nat} {kv vv : Value} {ks vs : List Bs} (h : Leaf B W N kv vv ks vs) (hk : Kept S W W') (hS : ∀ k, Own N kv vv k → ¬ S k) : Leaf B W' N kv vv ks vs :=
  ⟨h.box.kept hk (hS _ (.inl rfl)), h.rk.kept hk (fun k e => hS _ (.inr (.inl e))), h.rv.kept hk (fun k e => hS _ (.inr (.inr e))), h.nk, h.nv, h.kvv, h.bN⟩
theorem Leaf.drewN {B : Nat} {W : World} {N : Nat} {kv vv : Value} {ks vs : List Bs} (h : Leaf B W N kv vv ks vs) (q : Nat) : Leaf B (W.drewN q) N kv vv ks vs := h.kept ((Kept.refl (fun _ => False) W).drewN q) (fun _ _ h => h)
theorem Leaf.ge {B : Nat} {W : World} {N : Nat} {kv vv : Value} {ks vs : List Bs} (h : Leaf B W N kv vv ks vs) : ∀ k, Own N kv vv k → B ≤ k ∧ k < W.heap.size := by
  rintro k (rfl | h1 | h1)
  · exact ⟨h.bN, h.box.lt⟩
  · exact h.rk.lt k h1
  · exact h.rv.lt k h1
theorem heap_new (W : World) (ob : Obj) : (W.alloc ob).heap[W.heap.size]? = some ob := by
  show (W.heap.push ob)[W.heap.size]? = _
  rw [Array.getElem?_push_size]
theorem Leaf.newk {B : Nat} {W W2 : World} {N : Nat} {kv vv v' : Value} {ks vs ks' : List Bs} (L : Leaf B W N kv vv ks vs) (hv : RowS B W2 v' ks') (hk : Kept (fun k => kv.ownBlock = some k) W W2) (ho : ∀ g, v'.ownBlock = some g → kv.ownBlock = some g ∨ W.heap.size ≤ g) :
    Leaf B (W2.setCell ⟨N, 0, none⟩ v') N v' vv ks' vs ∧ Kept (Own N kv vv) W (W2.setCell ⟨N, 0, none⟩ v') ∧ W2.cell? ⟨N, 0, none⟩ = some kv ∧ W2.frozen? ⟨N, 0, none⟩ = false ∧ W2.cell? ⟨N, 1, none⟩ = some vv ∧ (∀ k, Own N v' vv k → Own N kv vv k ∨ W.heap.size ≤ k) := by
  have hbx := L.box.kept hk L.nk
  have hnn : v'.ownBlock ≠ some N := fun e => by
    rcases ho N e with h | h
    · exact L.nk h
    · have := L.box.lt; omega
  have hset : Kept (fun k => k = N) W2 (W2.setCell ⟨N, 0, none⟩ v') := (Kept.refl _ W2).setCells N 0 [v'] (.inl rfl)
  refine ⟨⟨hbx.setCell 0 v' (by simp), hv.kept hset (fun k hk2 e => hnn (by rw [hk2, e])), (L.rv.kept hk (fun k h2 h1 => L.kvv k h1 h2)).kept hset (fun k hk2 e => L.nv (by rw [hk2, e])), hnn, L.nv, fun g h1 h2 => ?_, L.bN⟩, ?_, hbx.cell 0 _ rfl, hbx.free 0, hbx.cell 1 _ rfl, ?_⟩
  · rcases ho g h1 with h | h
    · exact L.kvv g h h2
    · have := (L.rv.lt g h2).2; omega
  · exact (Kept.trans (S := Own N kv vv) ⟨hk.os, hk.tape, hk.output, hk.size, fun k hk2 hs => hk.block k hk2 (fun h => hs (.inr (.inl h)))⟩ hset (fun k h => .inl (.inl h)))
  · rintro k (h | h | h)
    · exact .inl (.inl h)
    · rcases ho k h with h | h
      · exact .inl (.inr (.inl h))
      · exact .inr h
    · exact .inl (.inr (.inr h))
theorem Leaf.newv {B : Nat} {W W2 : World} {N : Nat} {kv vv v' : Value} {ks vs vs' : List Bs} (L : Leaf B W N kv vv ks vs) (hv : RowS B W2 v' vs') (hk : Kept (fun k => vv.ownBlock = some k) W W2) (ho : ∀ g, v'.ownBlock = some g → vv.ownBlock = some g ∨ W.heap.size ≤ g) :
    Leaf B (W2.setCell ⟨N, 1, none⟩ v') N kv v' ks vs' ∧ Kept (Own N kv vv) W (W2.setCell ⟨N, 1, none⟩ v') ∧ W2.cell? ⟨N, 1, none⟩ = some vv ∧ W2.frozen? ⟨N, 1, none⟩ = false ∧ (∀ k, Own N kv v' k → Own N kv vv k ∨ W.heap.size ≤ k) := by
  have hbx := L.box.kept hk L.nv
  have hnn : v'.ownBlock ≠ some N := fun e => by
    rcases ho N e with h | h
    · exact L.nv h
    · have := L.box.lt; omega
  have hset : Kept (fun k => k = N) W2 (W2.setCell ⟨N, 1, none⟩ v') := (Kept.refl _ W2).setCells N 1 [v'] (.inl rfl)
  refine ⟨⟨hbx.setCell 1 v' (by simp), (L.rk.kept hk (fun k h1 h2 => L.kvv k h1 h2)).kept hset (fun k hk2 e => L.nk (by rw [hk2, e])), hv.kept hset (fun k hk2 e => hnn (by rw [hk2, e])), L.nk, hnn, fun g h1 h2 => ?_, L.bN⟩, ?_, hbx.cell 1 _ rfl, hbx.free 1, ?_⟩
  · rcases ho g h2 with h | h
    · exact L.kvv g h1 h
    · have := (L.rk.lt g h1).2; omega
  · exact (Kept.trans (S := Own N kv vv) ⟨hk.os, hk.tape, hk.output, hk.size, fun k hk2 hs => hk.block k hk2 (fun h => hs (.inr (.inr h)))⟩ hset (fun k h => .inl (.inl h)))
  · rintro k (h | h | h)
    · exact .inl (.inl h)
    · exact .inl (.inr (.inl h))
    · rcases ho k h with h | h
      · exact .inl (.inr (.inr h))
      · exact .inr h
end Go.Proofs.Ytegljepgncicjaa
/- Btree: put at a node without kids. -/
namespace Go.Proofs.Ytegljepgncicjaa
open Go.ChangeShapes Go.WideShapes Go.ChangeAt Go.RowKit Go.Deep
set_option linter.unusedVariables false
set_option linter.unusedSimpArgs false
theorem rows_set {B : Nat} {W : World} {v : Value} {xs : List Bs} (h : RowS B W v xs) (i : Nat) (hi : i < xs.length) (x : Bs) :
    ∃ g c, v = .slice (some ⟨g, 0, none⟩) xs.length c ∧ (W.cell? ⟨g, i, none⟩).isSome = true ∧ W.frozen? ⟨g, i, none⟩ = false ∧ xs.length ≤ c ∧ c ≤ 9223372036854775807 ∧ RowS B (W.setCell ⟨g, i, none⟩ (.string x)) v (xs.set i x) ∧ Kept (fun k => v.ownBlock = some k) W (W.setCell ⟨g, i, none⟩ (.string x)) := by
  rcases h with ⟨rfl, rfl⟩ | ⟨g, c, rfl, hBg, hnc, hc0, hc63, hR, hc⟩
  · exact absurd hi (Nat.not_lt_zero _)
  · refine ⟨g, c, rfl, hR.th i (by omega), hR.fr i, hnc, hc63, .inr ⟨g, c, by rw [List.length_set], hBg, by rw [List.length_set]; exact hnc, hc0, hc63, hR.set i [.string x], fun j hj => ?_⟩, (Kept.refl (fun k => (Value.slice (some ⟨g, 0, none⟩) xs.length c).ownBlock = some k) W).setCells g i [.string x] (.inl (show _ = some g from rfl))⟩
    rw [List.length_set] at hj
    refine Eq.trans (hR.at i [.string x] (by simp; omega) j) ?_
    by_cases h1 : i = j
    · subst h1
      rw [if_pos (by simp), List.getElem?_set_self hj]
      simp
    · rw [if_neg (by simp; omega), List.getElem?_set_ne h1]
      exact hc j hj
def PutOut (B N : Nat) (kv vv : Value) (r : Bool) (ks vs : List Bs) (W : World) (e : Ending) (W' : World) : Prop :=
  e = .returned (.bool r) ∧ ∃ kv' vv', Leaf B W' N kv' vv' ks vs ∧ Kept (Own N kv vv) W W' ∧ ∀ k, Own N kv' vv' k → Own N kv vv k ∨ W.heap.size ≤ k
set_option maxHeartbeats 800000 in
theorem nodeput_old (B N : Nat) (kv vv : Value) (ks vs : List Bs) (o : Int) (key val : Bs) (i : Nat) (W : World) (L : Leaf B W N kv vv ks vs) (hlen : vs.length = ks.length) (hB : B ≤ W.heap.size) (hl : ks.length ≤ 1000) (hi : bsI ks key = i) (hf : bsF ks key = true) :
    Calls Try.prog 42 #[.pointer (some ⟨N, 0, none⟩), .int .i64 o, .string key, .string val] W (PutOut B N kv vv false ks (vs.set i val) W) := by
  have hlt : i < ks.length := by
    have := of_decide_eq_true hf
    rw [hi] at this
    exact this.1
  have hbs := bs_any B kv ks key W L.rk hl
  rw [hi, hf] at hbs
  have HBS := Lib.hid hbs
  clear hbs
  have HL := Lib.hid L
  have a0 : W.cell? ⟨N, 0, none⟩ = some kv := L.box.cell 0 _ rfl
  obtain ⟨kg, kc, rfl⟩ := L.rk.len
  obtain ⟨g, c, rfl, hth, hfr, hnc, hc63, hrs, hkp⟩ := rows_set L.rv i (by rw [hlen]; exact hlt) val
  have HRS := Lib.hid hrs
  have HKP := Lib.hid hkp
  have a1 : W.cell? ⟨N, 1, none⟩ = some (.slice (some ⟨g, 0, none⟩) vs.length c) := L.box.cell 1 _ rfl
  have hiv : i < vs.length := by rw [hlen]; exact hlt
  have hvl : vs.length ≤ 1000 := by rw [hlen]; exact hl
  have hng : g ≠ N := fun e => L.nv (by simp [Value.ownBlock, e])
  clear L hrs hkp hi hf hlen
  go_enter Try.func42, Try.ntmps42
  go_wp2_with fail
  refine HBS.out.mono ?_
  rintro e W1 ⟨rfl, q, rfl⟩
  clear HBS
  have b1 : (W.drewN q).cell? ⟨N, 1, none⟩ = some (.slice (some ⟨g, 0, none⟩) vs.length c) := a1
  obtain ⟨u, hu⟩ := Option.isSome_iff_exists.1 hth
  have b2 : (W.drewN q).cell? ⟨g, i, none⟩ = some u := hu
  clear hth hu a0 a1 hlt
  have b3 : (W.drewN q).frozen? ⟨g, i, none⟩ = false := hfr
  go_wp2_with fail
  go_ret
  have hk2 : Kept (Own N (.slice kg ks.length kc) (.slice (some ⟨g, 0, none⟩) vs.length c)) W ((W.drewN q).setCell ⟨g, i, none⟩ (.string val)) :=
    ((Kept.refl _ W).drewN q).setCells g i [.string val] (.inl (.inr (.inr rfl)))
  refine ⟨rfl, _, _, ⟨?_, ?_, ?_, HL.out.nk, HL.out.nv, HL.out.kvv, HL.out.bN⟩, hk2, fun k hk => .inl hk⟩
  · exact (HL.out.box.drewN q).setOther i (.string val) (fun e => hng e.symm)
  · exact HL.out.rk.kept (S := fun k => k = g) (((Kept.refl _ W).drewN q).setCells g i [.string val] (.inl rfl)) (fun k hk e => HL.out.kvv k hk (by rw [e]; rfl))
  · exact HRS.out.kept (S := fun _ => False) ⟨rfl, rfl, rfl, Nat.le_refl _, fun _ _ _ => rfl⟩ (fun _ _ h => h)
set_option maxHeartbeats 1600000 in
theorem nodeput_new (B N : Nat) (kv vv : Value) (ks vs : List Bs) (o : Int) (key val : Bs) (i : Nat) (W : World) (L : Leaf B W N kv vv ks vs) (hlen : vs.length = ks.length) (hB : B ≤ W.heap.size) (hl : ks.length ≤ 900) (hi : bsI ks key = i) (hik : i ≤ ks.length) (hf : bsF ks key = false) :
    Calls Try.prog 42 #[.pointer (some ⟨N, 0, none⟩), .int .i64 o, .string key, .string val] W (PutOut B N kv vv true (ks.take i ++ key :: ks.drop i) (vs.take i ++ val :: vs.drop i) W) := by
  have hbs := bs_any B kv ks key W L.rk (by omega)
  rw [hi, hf] at hbs
  have HBS := Lib.hid hbs
  have hiv : i ≤ vs.length := by omega
  have hvl : vs.length ≤ 900 := by omega
  clear hbs hi hf
  have HL := Lib.hid L
  obtain ⟨kg, kc, rfl⟩ := L.rk.len
  obtain ⟨vg, vc, rfl⟩ := L.rv.len
  have a0 : W.cell? ⟨N, 0, none⟩ = some (.slice kg ks.length kc) := L.box.cell 0 _ rfl
  have a2 : W.cell? ⟨N, 2, none⟩ = some (.slice none 0 0) := L.box.cell 2 _ rfl
  clear L hlen
  go_enter Try.func42, Try.ntmps42
  go_wp2_with fail
  refine HBS.out.mono ?_
  rintro e W1 ⟨rfl, q, rfl⟩
  clear HBS
  have HL1 := Lib.hid (HL.out.drewN q)
  have HK1 := Lib.hid ((Kept.refl (Own N (.slice kg ks.length kc) (.slice vg vs.length vc)) W).drewN q)
  have b0 : (W.drewN q).cell? ⟨N, 0, none⟩ = some (.slice kg ks.length kc) := a0
  have b2 : (W.drewN q).cell? ⟨N, 2, none⟩ = some (.slice none 0 0) := a2
  have hB1 : B ≤ (W.drewN q).heap.size := hB
  clear a0 a2 HL
  go_wp2_with fail
  have hal : Kept (fun _ => False) (W.drewN q) ((W.drewN q).alloc (.cells #[.string key] 9)) := (Kept.refl _ _).alloc _
  have HLa := Lib.hid (HL1.out.kept hal (fun _ _ h => h))
  have HKa := Lib.hid (HK1.out.alloc (.cells #[.string key] 9))
  have hne : (Value.slice kg ks.length kc).ownBlock ≠ some W.heap.size := fun e => by have := (HL1.out.rk.lt _ e).2; exact absurd this (Nat.lt_irrefl _)
  refine (ins_any B (.slice kg ks.length kc) ks i key W.heap.size _ HLa.out.rk hik (by omega) (by have := hal.size; omega) (heap_new (W.drewN q) _) hne).mono ?_
  rintro e W2 ⟨v', rfl, hv', hk', ho'⟩
  clear hne
  obtain ⟨hn1, hn2, hn3, hn4, hn6, hn5⟩ := HLa.out.newk hv' hk' ho'
  obtain ⟨ng, nc, rfl⟩ := hv'.len
  have HN1 := Lib.hid hn1
  have HN2 := Lib.hid (HKa.out.trans hn2 (fun k h => .inl h))
  have HN5 : Hid (∀ k, Own N (.slice ng (ks.take i ++ key :: ks.drop i).length nc) (.slice vg vs.length vc) k → Own N (.slice kg ks.length kc) (.slice vg vs.length vc) k ∨ W.heap.size ≤ k) := Lib.hid (fun k h => by
    rcases hn5 k h with h | h
    · exact .inl h
    · have := hal.size; exact .inr (Nat.le_trans this h))
  clear hn1 hn2 hn5 hv' hk' ho' HLa HKa HL1 HK1 hal b0 b2
  generalize (ks.take i ++ key :: ks.drop i).length = nl at *
  go_wp2_with fail
  have hsz : (W2.setCell ⟨N, 0, none⟩ (.slice ng nl nc)).heap.size = W2.heap.size := by simp
  generalize W2.setCell ⟨N, 0, none⟩ (.slice ng nl nc) = W3 at *
  clear hn3 hn4 hn6
  have hal2 : Kept (fun _ => False) W3 (W3.alloc (.cells #[.string val] 9)) := (Kept.refl _ _).alloc _
  have HLb := Lib.hid (HN1.out.kept hal2 (fun _ _ h => h))
  have HKb := Lib.hid (HN2.out.alloc (.cells #[.string val] 9))
  have hne2 : (Value.slice vg vs.length vc).ownBlock ≠ some W2.heap.size := fun e => by have := (HN1.out.rv.lt _ e).2; rw [hsz] at this; exact absurd this (Nat.lt_irrefl _)
  refine (ins_any B (.slice vg vs.length vc) vs i val W2.heap.size _ HLb.out.rv hiv (by omega) (by have h1 := HN2.out.size; have h2 := hal2.size; omega) (by rw [← hsz]; exact heap_new W3 _) hne2).mono ?_
  rintro e W4 ⟨u', rfl, hu', hk4, ho4⟩
  clear hne2
  obtain ⟨hm1, hm2, hm3, hm4, hm5⟩ := HLb.out.newv hu' hk4 ho4
  obtain ⟨mg, mc, rfl⟩ := hu'.len
  have HM1 := Lib.hid hm1
  have HM2 := Lib.hid (HKb.out.trans hm2 (fun k h => HN5.out k h))
  have HM5 : Hid (∀ k, Own N (.slice ng nl nc) (.slice mg (vs.take i ++ val :: vs.drop i).length mc) k → Own N (.slice kg ks.length kc) (.slice vg vs.length vc) k ∨ W.heap.size ≤ k) := Lib.hid (fun k h => by
    rcases hm5 k h with h | h
    · exact HN5.out k h
    · exact .inr (by have h1 := HN2.out.size; have h2 := hal2.size; omega))
  clear hm1 hm2 hm5 hu' hk4 ho4 HLb HKb HN1 HN2 HN5 hal2
  generalize (vs.take i ++ val :: vs.drop i).length = ml at *
  go_wp2_with fail
  go_ret
  exact ⟨rfl, _, _, HM1.out, HM2.out, HM5.out⟩
end Go.Proofs.Ytegljepgncicjaa
/- Btree: Put into a tree whose root is a leaf. -/
namespace Go.Proofs.Ytegljepgncicjaa
open Go.ChangeShapes Go.WideShapes Go.ChangeAt Go.RowKit Go.Deep
set_option linter.unusedVariables false
set_option linter.unusedSimpArgs false
theorem calls_named {P : Program} {f : Nat} {args : Array Value} {K : Ending → World → Prop} {w : World} (F : World → Prop) (hF : F w) (h : ∀ W, F W → Calls P f args W K) : Calls P f args w K := h w hF
theorem wp_named {P : Program} {c : Code} {Q : Exit → Act → World → Prop} {a : Act} {w : World} (F : World → Prop) (hF : F w) (h : ∀ w', F w' → Code.wp P c Q a w') : Code.wp P c Q a w := h w hF
/-- a tree whose root is a leaf -/
structure TreeAt (B : Nat) (W : World) (T N : Nat) (o sz : Int) (kv vv : Value) (ks vs : List Bs) : Prop where
  box : Box W T [.int .i64 o, .int .i64 sz, .pointer (some ⟨N, 0, none⟩)]
  leaf : Leaf B W N kv vv ks vs
  bT : B ≤ T
  out : ¬ Own N kv vv T
  len : vs.length = ks.length
theorem TreeAt.kept {B : Nat} {S : Nat → Prop} {W W' : World} {T N : Nat} {o sz : Int} {kv vv : Value} {ks vs : List Bs} (h : TreeAt B W T N o sz kv vv ks vs) (hk : Kept S W W') (hS : ∀ k, (k = T ∨ Own N kv vv k) → ¬ S k) : TreeAt B W' T N o sz kv vv ks vs :=
  ⟨h.box.kept hk (hS _ (.inl rfl)), h.leaf.kept hk (fun k e => hS _ (.inr e)), h.bT, h.out, h.len⟩
theorem TreeAt.drewN {B : Nat} {W : World} {T N : Nat} {o sz : Int} {kv vv : Value} {ks vs : List Bs} (h : TreeAt B W T N o sz kv vv ks vs) (q : Nat) : TreeAt B (W.drewN q) T N o sz kv vv ks vs := h.kept ((Kept.refl (fun _ => False) W).drewN q) (fun _ _ h => h)
theorem Leaf.below {B : Nat} {W W' : World} {N : Nat} {kv vv : Value} {ks vs : List Bs} (L : Leaf B W N kv vv ks vs) (hB : B ≤ W.heap.size) (hk : Kept (Own N kv vv) W W') : Below B W W' := hk.below hB (fun k h => (L.ge k h).1)
theorem below_drewN'' {B : Nat} {w W : World} (h : Below B w W) (n : Nat) : Below B w (W.drewN n) := ⟨h.os, h.tape, h.output, h.size, h.block⟩
def TOut (B T : Nat) (o sz : Int) (r : Bool) (ks vs : List Bs) (W : World) (e : Ending) (W' : World) : Prop :=
  e = .returned (.bool r) ∧ (∃ N kv vv, TreeAt B W' T N o sz kv vv ks vs) ∧ Below B W W' ∧ W.heap.size ≤ W'.heap.size
set_option maxRecDepth 100000 in
set_option maxHeartbeats 1600000 in
theorem tput_new (B T N : Nat) (o sz : Int) (kv vv : Value) (ks vs : List Bs) (key val : Bs) (i : Nat) (W : World) (A : TreeAt B W T N o sz kv vv ks vs) (hB : B ≤ W.heap.size) (hz0 : 0 ≤ sz) (hz1 : sz ≤ 1000) (ho : (ks.length : Int) + 1 ≤ o) (ho2 : o ≤ 256) (hi : bsI ks key = i) (hik : i ≤ ks.length) (hf : bsF ks key = false) :
    Calls Try.prog 31 #[.pointer (some ⟨T, 0, none⟩), .string key, .string val] W (TOut B T o (sz + 1) true (ks.take i ++ key :: ks.drop i) (vs.take i ++ val :: vs.drop i) W) := by
  have HP := Lib.hid (fun W' (L : Leaf B W' N kv vv ks vs) (h : B ≤ W'.heap.size) => nodeput_new B N kv vv ks vs o key val i W' L A.len h (by omega) hi hik hf)
  have hln : (ks.take i ++ key :: ks.drop i).length = ks.length + 1 := ins_len ks i key hik
  have hlv : (vs.take i ++ val :: vs.drop i).length = vs.length + 1 := ins_len vs i val (by have := A.len; omega)
  have HLN := Lib.hid (And.intro hln (show (vs.take i ++ val :: vs.drop i).length = (ks.take i ++ key :: ks.drop i).length by rw [hln, hlv, A.len]))
  have HA := Lib.hid A
  have a0 : W.cell? ⟨T, 0, none⟩ = some (.int .i64 o) := A.box.cell 0 _ rfl
  have a2 : W.cell? ⟨T, 2, none⟩ = some (.pointer (some ⟨N, 0, none⟩)) := A.box.cell 2 _ rfl
  clear A hi hf hln hlv
  go_enter Try.func31, Try.ntmps31
  go_wp2_with fail
  go_still_tail 10, (by kernel_rfl)
  change wpList _ _ _ _ _ W.drew
  have HA1 : Hid (TreeAt B W.drew T N o sz kv vv ks vs) := Lib.hid (HA.out.drewN 1)
  clear a0 a2
  go_wp2_with fail
  refine (HP.out _ HA1.out.leaf hB).mono ?_
  rintro e W1 ⟨rfl, kv', vv', hL, hk, hown⟩
  have hb1 : Below B W W1 := (Below.drew (Below.refl B W)).trans (HA1.out.leaf.below hB hk)
  have hsz1 : W.heap.size ≤ W1.heap.size := hk.size
  have hbx := HA1.out.box.kept hk HA1.out.out
  have hTo : ¬ Own N kv' vv' T := fun h => by
    rcases hown T h with h | h
    · exact HA1.out.out h
    · have := HA1.out.box.lt; exact absurd this (by omega)
  have HBX := Lib.hid hbx
  have HL := Lib.hid hL
  have HB1 := Lib.hid hb1
  have HTO := Lib.hid hTo
  have hTN : T ≠ N := fun e => HTO.out (.inl e)
  have a0 : W1.cell? ⟨T, 0, none⟩ = some (.int .i64 o) := hbx.cell 0 _ rfl
  have a1 : W1.cell? ⟨T, 1, none⟩ = some (.int .i64 sz) := hbx.cell 1 _ rfl
  have a2 : W1.cell? ⟨T, 2, none⟩ = some (.pointer (some ⟨N, 0, none⟩)) := hbx.cell 2 _ rfl
  have f1 : W1.frozen? ⟨T, 1, none⟩ = false := hbx.free 1
  obtain ⟨g, c, hkv⟩ := hL.rk.len
  have n0 : W1.cell? ⟨N, 0, none⟩ = some kv' := hL.box.cell 0 _ rfl
  rw [hkv, HLN.out.1] at n0
  have hgt : decide (o < ((ks.length + 1 : Nat) : Int)) = false := decide_eq_false (by omega)
  have hgt2 : decide (o < (ks.length : Int) + 1) = false := decide_eq_false (by omega)
  have HA2 := Lib.hid HA.out.bT
  clear hL hk hown hb1 hbx hTo HA1 HA HP hkv
  go_wp2_with fail
  have hset : Kept (fun k => k = T) W1 (W1.setCell ⟨T, 1, none⟩ (.int .i64 (sz + 1))) := (Kept.refl _ W1).setCells T 1 [.int .i64 (sz + 1)] (.inl rfl)
  have hT2 : TreeAt B (W1.setCell ⟨T, 1, none⟩ (.int .i64 (sz + 1))) T N o (sz + 1) kv' vv' (ks.take i ++ key :: ks.drop i) (vs.take i ++ val :: vs.drop i) :=
    ⟨HBX.out.setCell 1 _ (by simp), HL.out.kept hset (fun k h e => HTO.out (by rw [← e]; exact h)), HA2.out, HTO.out, HLN.out.2⟩
  have hb2 : Below B W (W1.setCell ⟨T, 1, none⟩ (.int .i64 (sz + 1))) ∧ W.heap.size ≤ (W1.setCell ⟨T, 1, none⟩ (.int .i64 (sz + 1))).heap.size := ⟨HB1.out.trans (hset.below (by omega) (fun k e => by rw [e]; exact HA2.out)), by simpa using hsz1⟩
  refine wp_named (fun W' => TreeAt B W' T N o (sz + 1) kv' vv' (ks.take i ++ key :: ks.drop i) (vs.take i ++ val :: vs.drop i) ∧ Below B W W' ∧ W.heap.size ≤ W'.heap.size) ⟨hT2, hb2⟩ ?_
  clear hset hT2 hb2 a0 a1 a2 f1 n0 HBX HL HB1 HTO
  rintro W2 ⟨hT, hb, hs⟩
  have a0 : W2.cell? ⟨T, 0, none⟩ = some (.int .i64 o) := hT.box.cell 0 _ rfl
  have a2 : W2.cell? ⟨T, 2, none⟩ = some (.pointer (some ⟨N, 0, none⟩)) := hT.box.cell 2 _ rfl
  have n0 : W2.cell? ⟨N, 0, none⟩ = some kv' := hT.leaf.box.cell 0 _ rfl
  obtain ⟨g, c, hkv⟩ := hT.leaf.rk.len
  rw [hkv, HLN.out.1] at n0
  have HT := Lib.hid (And.intro hT (And.intro hb hs))
  clear hT hb hs hkv
  go_quiet (fail)
  go_wp2_with fail
  go_ret
  exact ⟨rfl, ⟨_, _, _, HT.out.1.drewN _⟩, below_drewN'' HT.out.2.1 _, HT.out.2.2⟩
set_option maxRecDepth 100000 in
set_option maxHeartbeats 1600000 in
theorem tput_old (B T N : Nat) (o sz : Int) (kv vv : Value) (ks vs : List Bs) (key val : Bs) (i : Nat) (W : World) (A : TreeAt B W T N o sz kv vv ks vs) (hB : B ≤ W.heap.size) (hl : ks.length ≤ 1000) (hi : bsI ks key = i) (hf : bsF ks key = true) :
    Calls Try.prog 31 #[.pointer (some ⟨T, 0, none⟩), .string key, .string val] W (TOut B T o sz false ks (vs.set i val) W) := by
  have HP := Lib.hid (fun W' (L : Leaf B W' N kv vv ks vs) (h : B ≤ W'.heap.size) => nodeput_old B N kv vv ks vs o key val i W' L A.len h hl hi hf)
  have HA := Lib.hid A
  have a0 : W.cell? ⟨T, 0, none⟩ = some (.int .i64 o) := A.box.cell 0 _ rfl
  have a2 : W.cell? ⟨T, 2, none⟩ = some (.pointer (some ⟨N, 0, none⟩)) := A.box.cell 2 _ rfl
  clear A hi hf
  go_enter Try.func31, Try.ntmps31
  go_wp2_with fail
  go_still_tail 10, (by kernel_rfl)
  change wpList _ _ _ _ _ W.drew
  have HA1 : Hid (TreeAt B W.drew T N o sz kv vv ks vs) := Lib.hid (HA.out.drewN 1)
  clear a0 a2
  go_wp2_with fail
  refine (HP.out _ HA1.out.leaf hB).mono ?_
  rintro e W1 ⟨rfl, kv', vv', hL, hk, hown⟩
  have hb1 : Below B W W1 := (Below.drew (Below.refl B W)).trans (HA1.out.leaf.below hB hk)
  have hsz1 : W.heap.size ≤ W1.heap.size := hk.size
  have hbx := HA1.out.box.kept hk HA1.out.out
  have hTo : ¬ Own N kv' vv' T := fun h => by
    rcases hown T h with h | h
    · exact HA1.out.out h
    · have := HA1.out.box.lt; exact absurd this (by omega)
  have HR := Lib.hid (show TreeAt B W1 T N o sz kv' vv' ks (vs.set i val) from ⟨hbx, hL, HA.out.bT, hTo, by rw [List.length_set]; exact HA.out.len⟩)
  have HB1 := Lib.hid (And.intro hb1 hsz1)
  clear hL hk hown hb1 hbx hTo HA1 HA HP hsz1
  go_wp2_with fail
  go_ret
  exact ⟨rfl, ⟨_, _, _, HR.out⟩, HB1.out.1, HB1.out.2⟩
end Go.Proofs.Ytegljepgncicjaa
/- Btree: Put into an empty tree. -/
namespace Go.Proofs.Ytegljepgncicjaa
open Go.ChangeShapes Go.WideShapes Go.ChangeAt Go.RowKit Go.Deep
set_option linter.unusedVariables false
set_option linter.unusedSimpArgs false
set_option maxRecDepth 100000 in
set_option maxHeartbeats 1600000 in
theorem tput_empty (B T : Nat) (o : Int) (key val : Bs) (W0 : World) (hE : Box W0 T [.int .i64 o, .int .i64 0, .pointer none]) (hT0 : B ≤ T) (hB0 : B ≤ W0.heap.size) (ho0 : (1 : Int) ≤ o) (ho2 : o ≤ 256) :
    Calls Try.prog 31 #[.pointer (some ⟨T, 0, none⟩), .string key, .string val] W0 (TOut B T o 1 true [key] [val] W0) := by
  have e2 : W0.cell? ⟨T, 2, none⟩ = some (.pointer none) := hE.cell 2 _ rfl
  have e2f : W0.frozen? ⟨T, 2, none⟩ = false := hE.free 2
  have hTl := hE.lt
  have hTne : T ≠ W0.heap.size := Nat.ne_of_lt hTl
  have HT0 : Hid (TreeAt B ((W0.setCell ⟨T, 2, none⟩ (.pointer (some ⟨W0.heap.size, 0, none⟩))).alloc (.cells #[.slice none 0 0, .slice none 0 0, .slice none 0 0] 85)) T W0.heap.size o 0 (.slice none 0 0) (.slice none 0 0) [] []) := Lib.hid (by
    refine ⟨(hE.setCell 2 (.pointer (some ⟨W0.heap.size, 0, none⟩)) (by simp)).alloc _, ⟨by have := Box.new (W0.setCell ⟨T, 2, none⟩ (.pointer (some ⟨W0.heap.size, 0, none⟩))) [.slice none 0 0, .slice none 0 0, .slice none 0 0] 85; simpa using this, .inl ⟨rfl, rfl⟩, .inl ⟨rfl, rfl⟩, by simp [Value.ownBlock], by simp [Value.ownBlock], fun g h => by simp [Value.ownBlock] at h, hB0⟩, hT0, ?_, rfl⟩
    rintro (h | h | h)
    · exact hTne h
    · simp [Value.ownBlock] at h
    · simp [Value.ownBlock] at h)
  have HK0 : Hid (Below B W0 ((W0.setCell ⟨T, 2, none⟩ (.pointer (some ⟨W0.heap.size, 0, none⟩))).alloc (.cells #[.slice none 0 0, .slice none 0 0, .slice none 0 0] 85)) ∧ W0.heap.size ≤ ((W0.setCell ⟨T, 2, none⟩ (.pointer (some ⟨W0.heap.size, 0, none⟩))).alloc (.cells #[.slice none 0 0, .slice none 0 0, .slice none 0 0] 85)).heap.size) :=
    Lib.hid ⟨((Below.refl B W0).setCell (p := ⟨T, 2, none⟩) hT0 _).alloc (by simpa using hB0) _, by simp⟩
  clear hE
  go_enter Try.func31, Try.ntmps31
  go_wp2_with fail
  refine wp_named (fun W => TreeAt B W T W0.heap.size o 0 (.slice none 0 0) (.slice none 0 0) [] [] ∧ Below B W0 W ∧ W0.heap.size ≤ W.heap.size) ⟨HT0.out, HK0.out⟩ ?_
  clear HT0 HK0 e2 e2f hTl hTne
  rintro W ⟨A, hbW, hsW⟩
  have HBW := Lib.hid (And.intro hbW hsW)
  have hB : B ≤ W.heap.size := Nat.le_trans hB0 hsW
  clear hbW hsW
  have hi : bsI [] key = 0 := rfl
  have hf : bsF [] key = false := by unfold bsF; rw [decide_eq_false (fun h => Nat.not_lt_zero _ h.1)]
  have hik : 0 ≤ ([] : List Bs).length := Nat.le_refl _
  have hz0 : (0 : Int) ≤ 0 := Int.le_refl _
  have hz1 : (0 : Int) ≤ 1000 := by decide
  have ho : (([] : List Bs).length : Int) + 1 ≤ o := by simpa using ho0
  obtain ⟨N, hN⟩ : ∃ N, N = W0.heap.size := ⟨_, rfl⟩
  rw [← hN] at A
  rw [← hN]
  have HN := Lib.hid hN
  clear hN
  have HP := Lib.hid (fun W' (L : Leaf B W' N (.slice none 0 0) (.slice none 0 0) [] []) (h : B ≤ W'.heap.size) => nodeput_new B N (.slice none 0 0) (.slice none 0 0) [] [] o key val 0 W' L rfl h (by decide) hi hik hf)
  have HLN : Hid (([key] : List Bs).length = 1 ∧ ([val] : List Bs).length = ([key] : List Bs).length) := Lib.hid ⟨rfl, rfl⟩
  have HA := Lib.hid A
  have a0 : W.cell? ⟨T, 0, none⟩ = some (.int .i64 o) := A.box.cell 0 _ rfl
  have a2 : W.cell? ⟨T, 2, none⟩ = some (.pointer (some ⟨N, 0, none⟩)) := A.box.cell 2 _ rfl
  clear A hi hf hik hz0 hz1 ho
  go_still_tail 10, (by kernel_rfl)
  change wpList _ _ _ _ _ W.drew
  have HA1 : Hid (TreeAt B W.drew T N o 0 (.slice none 0 0) (.slice none 0 0) [] []) := Lib.hid (HA.out.drewN 1)
  clear a0 a2
  go_wp2_with fail
  refine (HP.out _ HA1.out.leaf hB).mono ?_
  rintro e W1 ⟨rfl, kv', vv', hL, hk, hown⟩
  change Leaf B W1 N kv' vv' [key] [val] at hL
  have hb1 : Below B W0 W1 := (Below.drew HBW.out.1).trans (HA1.out.leaf.below hB hk)
  have hsz1 : W0.heap.size ≤ W1.heap.size := Nat.le_trans HBW.out.2 hk.size
  have hbx := HA1.out.box.kept hk HA1.out.out
  have hTo : ¬ Own N kv' vv' T := fun h => by
    rcases hown T h with h | h
    · exact HA1.out.out h
    · have := HA1.out.box.lt; exact absurd this (by omega)
  have HBX := Lib.hid hbx
  have HL := Lib.hid hL
  have HB1 := Lib.hid hb1
  have HTO := Lib.hid hTo
  have hTN : T ≠ N := fun e => HTO.out (.inl e)
  have a0 : W1.cell? ⟨T, 0, none⟩ = some (.int .i64 o) := hbx.cell 0 _ rfl
  have a1 : W1.cell? ⟨T, 1, none⟩ = some (.int .i64 0) := hbx.cell 1 _ rfl
  have a2 : W1.cell? ⟨T, 2, none⟩ = some (.pointer (some ⟨N, 0, none⟩)) := hbx.cell 2 _ rfl
  have f1 : W1.frozen? ⟨T, 1, none⟩ = false := hbx.free 1
  obtain ⟨g, c, hkv⟩ := hL.rk.len
  have n0 : W1.cell? ⟨N, 0, none⟩ = some kv' := hL.box.cell 0 _ rfl
  rw [hkv, HLN.out.1] at n0
  have hgt : decide (o < ((1 : Nat) : Int)) = false := decide_eq_false (by omega)
  have hgt2 : decide (o < (1 : Int)) = false := decide_eq_false (by omega)
  have HA2 := Lib.hid HA.out.bT
  clear hL hk hown hb1 hbx hTo HA1 HA HP hkv
  go_wp2_with fail
  have hset : Kept (fun k => k = T) W1 (W1.setCell ⟨T, 1, none⟩ (.int .i64 1)) := (Kept.refl _ W1).setCells T 1 [.int .i64 1] (.inl rfl)
  have hT2 : TreeAt B (W1.setCell ⟨T, 1, none⟩ (.int .i64 1)) T N o 1 kv' vv' [key] [val] :=
    ⟨HBX.out.setCell 1 _ (by simp), HL.out.kept hset (fun k h e => HTO.out (by rw [← e]; exact h)), HA2.out, HTO.out, HLN.out.2⟩
  have hb2 : Below B W0 (W1.setCell ⟨T, 1, none⟩ (.int .i64 1)) ∧ W0.heap.size ≤ (W1.setCell ⟨T, 1, none⟩ (.int .i64 1)).heap.size := ⟨HB1.out.trans (hset.below (by omega) (fun k e => by rw [e]; exact HA2.out)), by simpa using hsz1⟩
  refine wp_named (fun W' => TreeAt B W' T N o 1 kv' vv' [key] [val] ∧ Below B W0 W' ∧ W0.heap.size ≤ W'.heap.size) ⟨hT2, hb2⟩ ?_
  clear hset hT2 hb2 a0 a1 a2 f1 n0 HBX HL HB1 HTO
  rintro W2 ⟨hT, hb, hs⟩
  have a0 : W2.cell? ⟨T, 0, none⟩ = some (.int .i64 o) := hT.box.cell 0 _ rfl
  have a2 : W2.cell? ⟨T, 2, none⟩ = some (.pointer (some ⟨N, 0, none⟩)) := hT.box.cell 2 _ rfl
  have n0 : W2.cell? ⟨N, 0, none⟩ = some kv' := hT.leaf.box.cell 0 _ rfl
  obtain ⟨g, c, hkv⟩ := hT.leaf.rk.len
  rw [hkv, HLN.out.1] at n0
  have HT := Lib.hid (And.intro hT (And.intro hb hs))
  clear hT hb hs hkv
  go_quiet (fail)
  go_wp2_with fail
  go_ret
  exact ⟨rfl, ⟨_, _, _, HT.out.1.drewN _⟩, below_drewN'' HT.out.2.1 _, HT.out.2.2⟩
end Go.Proofs.Ytegljepgncicjaa
/- Btree: Put, Len, Height and Get of a tree whose root is a leaf. -/
namespace Go.Proofs.Ytegljepgncicjaa
open Go.ChangeShapes Go.WideShapes Go.ChangeAt Go.RowKit Go.Deep
set_option linter.unusedVariables false
set_option linter.unusedSimpArgs false
theorem Put_any (B T : Nat) (o sz : Int) (r : Bool) (ks vs : List Bs) (key val : Bs) (W : World)
    (h : Calls Try.prog 31 #[.pointer (some ⟨T, 0, none⟩), .string key, .string val] W (TOut B T o sz r ks vs W)) :
    Calls Try.prog 20 #[.pointer (some ⟨T, 0, none⟩), .string key, .string val] W (TOut B T o sz r ks vs W) := by
  have H := Lib.hid h
  clear h
  go_enter Try.func20, Try.ntmps20
  go_wp2_with fail
  refine H.out.mono ?_
  rintro e W1 ⟨rfl, h2, h3, h4⟩
  have H2 := Lib.hid (And.intro h2 (And.intro h3 h4))
  clear h2 h3 h4 H
  go_wp2_with fail
  go_ret
  exact ⟨rfl, H2.out⟩
theorem Len_at (B T N : Nat) (o sz : Int) (kv vv : Value) (ks vs : List Bs) (W : World) (A : TreeAt B W T N o sz kv vv ks vs) :
    Calls Try.prog 13 #[.pointer (some ⟨T, 0, none⟩)] W fun e W' => e = .returned (.int .i64 sz) ∧ W' = W := by
  have a1 : W.cell? ⟨T, 1, none⟩ = some (.int .i64 sz) := A.box.cell 1 _ rfl
  clear A
  go_enter Try.func13, Try.ntmps13
  go_wp2_with fail
  go_ret
  exact ⟨rfl, rfl⟩
set_option maxRecDepth 100000 in
theorem height_at (B T N : Nat) (o sz : Int) (kv vv : Value) (ks vs : List Bs) (W : World) (A : TreeAt B W T N o sz kv vv ks vs) :
    Calls Try.prog 33 #[.pointer (some ⟨T, 0, none⟩)] W fun e W' => e = .returned (.int .i64 1) ∧ W' = W := by
  have a2 : W.cell? ⟨T, 2, none⟩ = some (.pointer (some ⟨N, 0, none⟩)) := A.box.cell 2 _ rfl
  have n2 : W.cell? ⟨N, 2, none⟩ = some (.slice none 0 0) := A.leaf.box.cell 2 _ rfl
  clear A
  go_enter Try.func33, Try.ntmps33
  go_wp2_with fail
  refine wp_loop_rounds 1 ?_
  rw [rounds_succ]
  go_wp2_with fail
  go_ret
  exact ⟨rfl, rfl⟩
set_option maxRecDepth 100000 in
theorem height_0 (T : Nat) (o sz : Int) (W : World) (A : Box W T [.int .i64 o, .int .i64 sz, .pointer none]) :
    Calls Try.prog 33 #[.pointer (some ⟨T, 0, none⟩)] W fun e W' => e = .returned (.int .i64 0) ∧ W' = W := by
  have a2 : W.cell? ⟨T, 2, none⟩ = some (.pointer none) := A.cell 2 _ rfl
  clear A
  go_enter Try.func33, Try.ntmps33
  go_wp2_with fail
  refine wp_loop_rounds 1 ?_
  rw [rounds_succ]
  go_wp2_with fail
  go_ret
  exact ⟨rfl, rfl⟩
theorem Height_of (T : Nat) (n : Int) (W : World) (h : Calls Try.prog 33 #[.pointer (some ⟨T, 0, none⟩)] W fun e W' => e = .returned (.int .i64 n) ∧ W' = W) :
    Calls Try.prog 23 #[.pointer (some ⟨T, 0, none⟩)] W fun e W' => e = .returned (.int .i64 n) ∧ W' = W := by
  have H := Lib.hid h
  clear h
  go_enter Try.func23, Try.ntmps23
  go_wp2_with fail
  refine H.out.mono ?_
  rintro e W1 ⟨rfl, rfl⟩
  go_wp2_with fail
  go_ret
  exact ⟨rfl, rfl⟩
set_option maxRecDepth 100000 in
set_option maxHeartbeats 1600000 in
theorem get_found (B T N : Nat) (o sz : Int) (kv vv : Value) (ks vs : List Bs) (key : Bs) (i : Nat) (W : World) (A : TreeAt B W T N o sz kv vv ks vs) (hl : ks.length ≤ 1000) (hi : bsI ks key = i) (hf : bsF ks key = true) :
    Calls Try.prog 34 #[.pointer (some ⟨T, 0, none⟩), .string key] W fun e W' => e = .returned (.tuple #[.string (sx vs i), .bool true]) ∧ ∃ q, W' = W.drewN q := by
  have hlt : i < vs.length := by
    have := of_decide_eq_true hf
    rw [hi] at this
    have h2 := A.len
    omega
  have hbs := bs_any B kv ks key W A.leaf.rk hl
  rw [hi, hf] at hbs
  have HBS := Lib.hid hbs
  have a2 : W.cell? ⟨T, 2, none⟩ = some (.pointer (some ⟨N, 0, none⟩)) := A.box.cell 2 _ rfl
  have n0 : W.cell? ⟨N, 0, none⟩ = some kv := A.leaf.box.cell 0 _ rfl
  have hl2 : vs.length ≤ 1000 := by have := A.len; omega
  have HL := Lib.hid A.leaf
  obtain ⟨kg, kc, rfl⟩ := A.leaf.rk.len
  rcases A.leaf.rv with ⟨rfl, rfl⟩ | ⟨g, c, rfl, hBg, hnc, hc0, hc63, hR, hc⟩
  · exact absurd hlt (Nat.not_lt_zero _)
  have c0 : W.cell? ⟨g, i, none⟩ = some (.string (sx vs i)) := by rw [hc i hlt, sx_cell hlt]
  have n1 : W.cell? ⟨N, 1, none⟩ = some (.slice (some ⟨g, 0, none⟩) vs.length c) := HL.out.box.cell 1 _ rfl
  clear A hbs hi hf hc hR HL
  go_enter Try.func34, Try.ntmps34
  go_wp2_with fail
  refine wp_loop_rounds 1 ?_
  rw [rounds_succ]
  go_wp2_with fail
  refine HBS.out.mono ?_
  rintro e W1 ⟨rfl, q, rfl⟩
  have b1 : (W.drewN q).cell? ⟨N, 1, none⟩ = some (.slice (some ⟨g, 0, none⟩) vs.length c) := n1
  have b2 : (W.drewN q).cell? ⟨g, i, none⟩ = some (.string (sx vs i)) := c0
  clear n0 n1 a2 c0
  go_wp2_with fail
  go_ret2
  exact ⟨rfl, q, rfl⟩
theorem Get_found (B T N : Nat) (o sz : Int) (kv vv : Value) (ks vs : List Bs) (key : Bs) (i : Nat) (W : World) (A : TreeAt B W T N o sz kv vv ks vs) (hl : ks.length ≤ 1000) (hi : bsI ks key = i) (hf : bsF ks key = true) :
    Calls Try.prog 24 #[.pointer (some ⟨T, 0, none⟩), .string key] W fun e W' => e = .returned (.tuple #[.string (sx vs i), .bool true]) ∧ ∃ q, W' = W.drewN q := by
  have H := Lib.hid (get_found B T N o sz kv vv ks vs key i W A hl hi hf)
  clear A hi hf
  go_enter Try.func24, Try.ntmps24
  go_wp2_with fail
  refine H.out.mono ?_
  rintro e W1 ⟨rfl, q, rfl⟩
  go_wp2_with fail
  go_ret2
  exact ⟨rfl, q, rfl⟩
end Go.Proofs.Ytegljepgncicjaa
/- Btree: New, and Delete of a tree whose root is a leaf. -/
namespace Go.Proofs.Ytegljepgncicjaa
open Go.ChangeShapes Go.WideShapes Go.ChangeAt Go.RowKit Go.Deep
set_option linter.unusedVariables false
set_option linter.unusedSimpArgs false
theorem New_4 (W : World) :
    Calls Try.prog 10 #[.int .i64 4] W fun e W' => e = .returned (.tuple #[.pointer (some ⟨W.heap.size, 0, none⟩), .int .i64 0]) ∧ W' = W.alloc (.cells #[.int .i64 4, .int .i64 0, .pointer none] 68) := by
  go_enter Try.func10, Try.ntmps10
  go_wp2_with fail
  go_ret2
  exact ⟨rfl, rfl⟩
theorem New_3 (W : World) :
    Calls Try.prog 10 #[.int .i64 3] W fun e W' => e = .returned (.tuple #[.pointer none, .int .i64 1]) ∧ W' = W := by
  go_enter Try.func10, Try.ntmps10
  go_wp2_with fail
  go_ret2
  exact ⟨rfl, rfl⟩
def CutOut (B N : Nat) (kv vv : Value) (ks vs : List Bs) (W : World) (W' : World) : Prop :=
  ∃ kv' vv', Leaf B W' N kv' vv' ks vs ∧ Kept (Own N kv vv) W W' ∧ ∀ k, Own N kv' vv' k → Own N kv vv k ∨ W.heap.size ≤ k
set_option maxHeartbeats 1600000 in
theorem cut_any (B N : Nat) (kv vv : Value) (ks vs : List Bs) (i : Nat) (W : World) (L : Leaf B W N kv vv ks vs) (hlen : vs.length = ks.length) (hi : i < ks.length) (hs : ks.length ≤ 1000) :
    Calls Try.prog 52 #[.pointer (some ⟨N, 0, none⟩), .int .i64 i] W fun e W' => e = .returned (.tuple #[]) ∧ CutOut B N kv vv (ks.eraseIdx i) (vs.eraseIdx i) W W' := by
  have hiv : i < vs.length := by omega
  have HL := Lib.hid L
  have hd1 := Lib.hid (del_any B kv ks i W L.rk hi)
  obtain ⟨kg, kc, rfl⟩ := L.rk.len
  obtain ⟨vg, vc, rfl⟩ := L.rv.len
  have a0 : W.cell? ⟨N, 0, none⟩ = some (.slice kg ks.length kc) := L.box.cell 0 _ rfl
  clear L hlen
  go_enter Try.func52, Try.ntmps52
  go_wp2_with fail
  refine hd1.out.mono ?_
  rintro e W2 ⟨v', rfl, hv', hk', ho'⟩
  obtain ⟨hn1, hn2, hn3, hn4, hn6, hn5⟩ := HL.out.newk hv' hk' (fun g h => .inl (by rw [← ho']; exact h))
  obtain ⟨ng, nc, rfl⟩ := hv'.len
  have HN1 := Lib.hid hn1
  have HN2 := Lib.hid hn2
  have HN5 := Lib.hid hn5
  clear hn1 hn2 hn5 hv' hk' ho' HL hd1 a0
  generalize (ks.eraseIdx i).length = nl at *
  go_wp2_with fail
  have hsz : (W2.setCell ⟨N, 0, none⟩ (.slice ng nl nc)).heap.size = W2.heap.size := by simp
  generalize W2.setCell ⟨N, 0, none⟩ (.slice ng nl nc) = W3 at *
  clear hn3 hn4 hn6
  have hd2 := Lib.hid (del_any B _ vs i W3 HN1.out.rv hiv)
  refine hd2.out.mono ?_
  rintro e W4 ⟨u', rfl, hu', hk4, ho4⟩
  obtain ⟨hm1, hm2, hm3, hm4, hm5⟩ := HN1.out.newv hu' hk4 (fun g h => .inl (by rw [← ho4]; exact h))
  obtain ⟨mg, mc, rfl⟩ := hu'.len
  have HM1 := Lib.hid hm1
  have HM2 := Lib.hid (HN2.out.trans hm2 (fun k h => HN5.out k h))
  have HM5 : Hid (∀ k, Own N (.slice ng nl nc) (.slice mg (vs.eraseIdx i).length mc) k → Own N (.slice kg ks.length kc) (.slice vg vs.length vc) k ∨ W.heap.size ≤ k) := Lib.hid (fun k h => by
    rcases hm5 k h with h | h
    · exact HN5.out k h
    · exact .inr (by have h1 := HN2.out.size; omega))
  clear hm1 hm2 hm5 hu' hk4 ho4 HN1 HN2 HN5 hd2
  generalize (vs.eraseIdx i).length = ml at *
  go_wp2_with fail
  refine bodyPost_end (v := .tuple #[]) (by simp [results, Try.results52, go_sem]) rfl ⟨rfl, _, _, HM1.out, HM2.out, HM5.out⟩
theorem CutOut.drewN {B N : Nat} {kv vv : Value} {ks vs : List Bs} {W W' : World} {q : Nat} (h : CutOut B N kv vv ks vs (W.drewN q) W') : CutOut B N kv vv ks vs W W' := by
  obtain ⟨a, b, h1, h2, h3⟩ := h
  exact ⟨a, b, h1, ⟨h2.os, h2.tape, h2.output, h2.size, h2.block⟩, h3⟩
def RemOut (B N : Nat) (kv vv : Value) (r : Bool) (ks vs : List Bs) (W : World) (e : Ending) (W' : World) : Prop :=
  e = .returned (.bool r) ∧ CutOut B N kv vv ks vs W W'
set_option maxHeartbeats 1600000 in
theorem noderem_found (B N : Nat) (kv vv : Value) (ks vs : List Bs) (o : Int) (key : Bs) (i : Nat) (W : World) (L : Leaf B W N kv vv ks vs) (hlen : vs.length = ks.length) (hl : ks.length ≤ 1000) (hi : bsI ks key = i) (hf : bsF ks key = true) :
    Calls Try.prog 44 #[.pointer (some ⟨N, 0, none⟩), .int .i64 o, .string key] W (RemOut B N kv vv true (ks.eraseIdx i) (vs.eraseIdx i) W) := by
  have hlt : i < ks.length := by
    have := of_decide_eq_true hf
    rw [hi] at this
    exact this.1
  have hbs := bs_any B kv ks key W L.rk hl
  rw [hi, hf] at hbs
  have HBS := Lib.hid hbs
  have HC := Lib.hid (fun q => cut_any B N kv vv ks vs i (W.drewN q) (L.drewN q) hlen hlt hl)
  have a0 : W.cell? ⟨N, 0, none⟩ = some kv := L.box.cell 0 _ rfl
  have a2 : W.cell? ⟨N, 2, none⟩ = some (.slice none 0 0) := L.box.cell 2 _ rfl
  obtain ⟨kg, kc, rfl⟩ := L.rk.len
  clear L hbs hi hf hlen
  go_enter Try.func44, Try.ntmps44
  go_wp2_with fail
  refine HBS.out.mono ?_
  rintro e W1 ⟨rfl, q, rfl⟩
  have b2 : (W.drewN q).cell? ⟨N, 2, none⟩ = some (.slice none 0 0) := a2
  clear a0 a2 HBS
  go_wp2_with fail
  refine (HC.out q).mono ?_
  rintro e W2 ⟨rfl, hc⟩
  have HO := Lib.hid hc
  clear hc HC b2
  go_wp2_with fail
  go_ret
  exact ⟨rfl, HO.out.drewN⟩
set_option maxHeartbeats 1600000 in
theorem noderem_not (B N : Nat) (kv vv : Value) (ks vs : List Bs) (o : Int) (key : Bs) (i : Nat) (W : World) (L : Leaf B W N kv vv ks vs) (hl : ks.length ≤ 1000) (hi : bsI ks key = i) (hf : bsF ks key = false) :
    Calls Try.prog 44 #[.pointer (some ⟨N, 0, none⟩), .int .i64 o, .string key] W (RemOut B N kv vv false ks vs W) := by
  have hbs := bs_any B kv ks key W L.rk hl
  rw [hi, hf] at hbs
  have HBS := Lib.hid hbs
  have HC : Hid (∀ q, CutOut B N kv vv ks vs W (W.drewN q)) := Lib.hid (fun q => ⟨kv, vv, L.drewN q, (Kept.refl _ _).drewN q, fun k h => .inl h⟩)
  have a0 : W.cell? ⟨N, 0, none⟩ = some kv := L.box.cell 0 _ rfl
  have a2 : W.cell? ⟨N, 2, none⟩ = some (.slice none 0 0) := L.box.cell 2 _ rfl
  obtain ⟨kg, kc, rfl⟩ := L.rk.len
  clear L hbs hi hf
  go_enter Try.func44, Try.ntmps44
  go_wp2_with fail
  refine HBS.out.mono ?_
  rintro e W1 ⟨rfl, q, rfl⟩
  have b2 : (W.drewN q).cell? ⟨N, 2, none⟩ = some (.slice none 0 0) := a2
  clear a0 a2 HBS
  go_wp2_with fail
  go_ret
  exact ⟨rfl, HC.out q⟩
set_option maxRecDepth 100000 in
set_option maxHeartbeats 1600000 in
theorem trem_any (B T N : Nat) (o sz : Int) (kv vv : Value) (ks vs : List Bs) (key : Bs) (i : Nat) (W : World) (A : TreeAt B W T N o sz kv vv ks vs) (hB : B ≤ W.heap.size) (hl : 2 ≤ ks.length) (hl2 : ks.length ≤ 1000) (hz0 : 0 ≤ sz) (hz1 : sz ≤ 1000) (ho0 : 0 ≤ o) (ho : o ≤ 256) (hi : bsI ks key = i) (hf : bsF ks key = true) :
    Calls Try.prog 32 #[.pointer (some ⟨T, 0, none⟩), .string key] W (TOut B T o (sz - 1) true (ks.eraseIdx i) (vs.eraseIdx i) W) := by
  have hlt : i < ks.length := by
    have := of_decide_eq_true hf
    rw [hi] at this
    exact this.1
  have HP := Lib.hid (fun n => noderem_found B N kv vv ks vs n key i W.drew (A.leaf.drewN 1) A.len hl2 hi hf)
  have hel : (ks.eraseIdx i).length = ks.length - 1 := by rw [List.length_eraseIdx, if_pos hlt]
  have hev : (vs.eraseIdx i).length = ks.length - 1 := by rw [List.length_eraseIdx, if_pos (by rw [A.len]; exact hlt), A.len]
  have HLN := Lib.hid (And.intro hel (hev.trans hel.symm))
  have HA := Lib.hid A
  have a0 : W.cell? ⟨T, 0, none⟩ = some (.int .i64 o) := A.box.cell 0 _ rfl
  have a2 : W.cell? ⟨T, 2, none⟩ = some (.pointer (some ⟨N, 0, none⟩)) := A.box.cell 2 _ rfl
  clear A hi hf hel hev
  go_enter Try.func32, Try.ntmps32
  go_wp2_with fail
  go_still_tail 16, (by kernel_rfl)
  change wpList _ _ _ _ _ W.drew
  clear a0 a2
  go_wp2_with fail
  refine (HP.out _).mono ?_
  rintro e W1 ⟨rfl, kv', vv', hL, hk, hown⟩
  have hb1 : Below B W W1 := (Below.drew (Below.refl B W)).trans ((HA.out.drewN 1).leaf.below hB hk)
  have hsz1 : W.heap.size ≤ W1.heap.size := hk.size
  have hbx := (HA.out.drewN 1).box.kept hk HA.out.out
  have hTo : ¬ Own N kv' vv' T := fun h => by
    rcases hown T h with h | h
    · exact HA.out.out h
    · have := HA.out.box.lt; exact absurd this (by have h : W.heap.size ≤ T := h; omega)
  have HBX := Lib.hid hbx
  have HL := Lib.hid hL
  have HB1 := Lib.hid hb1
  have HTO := Lib.hid hTo
  have hTN : T ≠ N := fun e => HTO.out (.inl e)
  have a0 : W1.cell? ⟨T, 0, none⟩ = some (.int .i64 o) := hbx.cell 0 _ rfl
  have a1 : W1.cell? ⟨T, 1, none⟩ = some (.int .i64 sz) := hbx.cell 1 _ rfl
  have a2 : W1.cell? ⟨T, 2, none⟩ = some (.pointer (some ⟨N, 0, none⟩)) := hbx.cell 2 _ rfl
  have f1 : W1.frozen? ⟨T, 1, none⟩ = false := hbx.free 1
  obtain ⟨g, c, hkv⟩ := hL.rk.len
  have n0 : W1.cell? ⟨N, 0, none⟩ = some kv' := hL.box.cell 0 _ rfl
  rw [hkv, HLN.out.1] at n0
  obtain ⟨m, hm⟩ : ∃ m, m = ks.length - 1 := ⟨_, rfl⟩
  rw [← hm] at n0
  have hm0 : 0 < m := by omega
  have hm2 : m ≤ 1000 := by omega
  have hgt : ((m : Int) == 0) = false := by simp; omega
  have hgt2 : decide ((m : Int) = 0) = false := decide_eq_false (by omega)
  have HA2 := Lib.hid HA.out.bT
  clear hL hk hown hb1 hbx hTo HA HP hkv hm hl hl2 hlt
  go_wp2_with fail
  have hset : Kept (fun k => k = T) W1 (W1.setCell ⟨T, 1, none⟩ (.int .i64 (sz - 1))) := (Kept.refl _ W1).setCells T 1 [.int .i64 (sz - 1)] (.inl rfl)
  have hT2 : TreeAt B (W1.setCell ⟨T, 1, none⟩ (.int .i64 (sz - 1))) T N o (sz - 1) kv' vv' (ks.eraseIdx i) (vs.eraseIdx i) :=
    ⟨HBX.out.setCell 1 _ (by simp), HL.out.kept hset (fun k h e => HTO.out (by rw [← e]; exact h)), HA2.out, HTO.out, HLN.out.2⟩
  have hb2 : Below B W (W1.setCell ⟨T, 1, none⟩ (.int .i64 (sz - 1))) ∧ W.heap.size ≤ (W1.setCell ⟨T, 1, none⟩ (.int .i64 (sz - 1))).heap.size := ⟨HB1.out.trans (hset.below (by omega) (fun k e => by rw [e]; exact HA2.out)), by simpa using hsz1⟩
  go_ret
  exact ⟨rfl, ⟨_, _, _, hT2⟩, hb2⟩
theorem Del_any (B T : Nat) (o sz : Int) (r : Bool) (ks vs : List Bs) (key : Bs) (W : World)
    (h : Calls Try.prog 32 #[.pointer (some ⟨T, 0, none⟩), .string key] W (TOut B T o sz r ks vs W)) :
    Calls Try.prog 22 #[.pointer (some ⟨T, 0, none⟩), .string key] W (TOut B T o sz r ks vs W) := by
  have H := Lib.hid h
  clear h
  go_enter Try.func22, Try.ntmps22
  go_wp2_with fail
  refine H.out.mono ?_
  rintro e W1 ⟨rfl, h2, h3, h4⟩
  have H2 := Lib.hid (And.intro h2 (And.intro h3 h4))
  clear h2 h3 h4 H
  go_wp2_with fail
  go_ret
  exact ⟨rfl, H2.out⟩
set_option maxRecDepth 100000 in
set_option maxHeartbeats 1600000 in
theorem trem_not (B T N : Nat) (o sz : Int) (kv vv : Value) (ks vs : List Bs) (key : Bs) (i : Nat) (W : World) (A : TreeAt B W T N o sz kv vv ks vs) (hB : B ≤ W.heap.size) (hl2 : ks.length ≤ 1000) (ho0 : 0 ≤ o) (ho : o ≤ 256) (hi : bsI ks key = i) (hf : bsF ks key = false) :
    Calls Try.prog 32 #[.pointer (some ⟨T, 0, none⟩), .string key] W (TOut B T o sz false ks vs W) := by
  have HP := Lib.hid (fun n => noderem_not B N kv vv ks vs n key i W.drew (A.leaf.drewN 1) hl2 hi hf)
  have HA := Lib.hid A
  have a0 : W.cell? ⟨T, 0, none⟩ = some (.int .i64 o) := A.box.cell 0 _ rfl
  have a2 : W.cell? ⟨T, 2, none⟩ = some (.pointer (some ⟨N, 0, none⟩)) := A.box.cell 2 _ rfl
  clear A hi hf
  go_enter Try.func32, Try.ntmps32
  go_wp2_with fail
  go_still_tail 16, (by kernel_rfl)
  change wpList _ _ _ _ _ W.drew
  clear a0 a2
  go_wp2_with fail
  refine (HP.out _).mono ?_
  rintro e W1 ⟨rfl, kv', vv', hL, hk, hown⟩
  have hb1 : Below B W W1 := (Below.drew (Below.refl B W)).trans ((HA.out.drewN 1).leaf.below hB hk)
  have hsz1 : W.heap.size ≤ W1.heap.size := hk.size
  have hbx := (HA.out.drewN 1).box.kept hk HA.out.out
  have hTo : ¬ Own N kv' vv' T := fun h => by
    rcases hown T h with h | h
    · exact HA.out.out h
    · have := HA.out.box.lt; exact absurd this (by have h : W.heap.size ≤ T := h; omega)
  have HR := Lib.hid (show TreeAt B W1 T N o sz kv' vv' ks vs from ⟨hbx, hL, HA.out.bT, hTo, HA.out.len⟩)
  have HB1 := Lib.hid (And.intro hb1 hsz1)
  clear hL hk hown hb1 hbx hTo HA HP hsz1
  go_wp2_with fail
  go_ret
  exact ⟨rfl, ⟨_, _, _, HR.out⟩, HB1.out.1, HB1.out.2⟩
end Go.Proofs.Ytegljepgncicjaa
/- Btree: Check of a tree whose root is a leaf with three keys. -/
namespace Go.Proofs.Ytegljepgncicjaa
open Go.ChangeShapes Go.WideShapes Go.ChangeAt Go.RowKit Go.Deep
set_option linter.unusedVariables false
set_option linter.unusedSimpArgs false
theorem info9 : (Try.prog.info? 9).map (fun i => (i.zero, i.size, i.bytes)) = some (some (.string ⟨#[]⟩), 1, 16) := by kernel_rfl
theorem info_parts {e : TypeId} {z : Value} {s by' : Nat} (h : (Try.prog.info? e).map (fun i => (i.zero, i.size, i.bytes)) = some (some z, s, by')) : ∃ i, Try.prog.info? e = some i ∧ i.zero = some z ∧ i.size = s ∧ i.bytes = by' := by
  cases hi : Try.prog.info? e with
  | none => rw [hi] at h; simp at h
  | some i =>
    rw [hi] at h
    simp only [Option.map_some, Option.some.injEq, Prod.mk.injEq] at h
    exact ⟨i, rfl, h.1, h.2.1, h.2.2⟩
theorem rowS_own {B : Nat} {W : World} {v : Value} {xs : List Bs} (h0 : 0 < xs.length) (h : W.ownsRow B 9 1 v xs.length (strv xs)) : ∃ g c, v = .slice (some ⟨g, 0, none⟩) xs.length c ∧ RowS B W (.slice (some ⟨g, 0, none⟩) xs.length c) xs := by
  rcases h.2 with ⟨_, h1⟩ | ⟨g, c, cur, rfl, h1, h2, h3, h4, h5, h6⟩
  · omega
  · refine ⟨g, c, rfl, .inr ⟨g, c, rfl, h1, h3, by omega, by unfold maxLen at h4; omega, ⟨by unfold World.shape?; rw [h2]; show some (9, cur.size) = _; rw [h5, Nat.mul_one], fun j => by unfold World.frozen?; rw [h2]; simp, fun j hj => by unfold World.cell?; rw [h2]; simp [h5]; omega⟩, fun j hj => ?_⟩⟩
    rw [h.cellAt j (by omega), strv_at]
theorem kept_grown {W W' : World} (h : W.grownBy W' none) : Kept (fun _ => False) W W' := ⟨h.os, h.tape, h.output, h.size, fun k hk _ => h.block k hk (by simp)⟩
theorem wpList_allS {ops : Array Oper} {rest : List Oper} {Q : Exit → Act → World → Prop} (x y : Nat) (B : Nat) (sv : Value) (ks : List Bs) (d : Option Nat) (pos : String) (af) (a : Act) (w : World)
    (hx : a.eval (.tmp x) = .slice none 0 0) (hy : a.eval (.tmp y) = sv) (hr : RowS B w sv ks) (h0 : 0 < ks.length) (h1 : ks.length ≤ 1000) (hB : B ≤ w.heap.size)
    (h : ∀ g c w', RowS B w' (.slice (some ⟨g, 0, none⟩) ks.length c) ks → Kept (fun _ => False) w w' → wpList Try.prog ops Q rest (a.put d (.slice (some ⟨g, 0, none⟩) ks.length c)) w') :
    wpList Try.prog ops Q ({ dst := d, op := Op.call { callee := .builtin .append, args := #[.tmp x, .tmp y], argTypes := #[40, 40] }, type := 40, pos := pos, after := af, guard := none } :: rest) a w := by
  obtain ⟨i9, hi9, hz0, hz1, hz2⟩ := info_parts info9
  rcases hr with ⟨rfl, rfl⟩ | ⟨g, c, rfl, _, _, _, _, hR, hc⟩
  · exact absurd h0 (by simp)
  refine wpList_append_own w rfl (.tmp x) (.tmp y) 40 rfl B 9 i9 (.string ⟨#[]⟩) 1 16 Try.underlying40 hi9 hz0 hz1 hz2 rfl (by decide) (.slice none 0 0) 0 [] hx ⟨rfl, .inl ⟨rfl, rfl⟩⟩ ⟨g, 0, none⟩ ks.length c (strv ks) hy (by rw [strv_len, Nat.mul_one]) (fun j u hj => ?_) (strv_one ks) (by unfold maxLen; omega) (by omega) hB ?_
  · have hjl := (List.getElem?_eq_some_iff.1 hj).1
    rw [strv_len] at hjl
    have := hc j hjl
    rw [← strv_at, hj] at this
    by_cases h0 : j = 0
    · subst h0; simpa [Addr.add] using this
    · simpa [Addr.add, h0] using this
  · intro v' w' hv' hg _
    rw [Nat.zero_add, List.nil_append] at hv'
    obtain ⟨g', c', rfl, hr'⟩ := rowS_own h0 hv'
    exact h g' c' w' hr' (kept_grown hg)
set_option maxHeartbeats 1600000 in
theorem all_leaf (B N : Nat) (kv vv : Value) (ks vs : List Bs) (W : World) (L : Leaf B W N kv vv ks vs) (h0 : 0 < ks.length) (hl : ks.length ≤ 1000) (hB : B ≤ W.heap.size) :
    Calls Try.prog 38 #[.pointer (some ⟨N, 0, none⟩), .slice none 0 0] W fun e W' => ∃ g c, e = .returned (.slice (some ⟨g, 0, none⟩) ks.length c) ∧ RowS B W' (.slice (some ⟨g, 0, none⟩) ks.length c) ks ∧ Kept (fun _ => False) W W' := by
  have HR := Lib.hid L.rk
  have n0 : W.cell? ⟨N, 0, none⟩ = some kv := L.box.cell 0 _ rfl
  have n2 : W.cell? ⟨N, 2, none⟩ = some (.slice none 0 0) := L.box.cell 2 _ rfl
  obtain ⟨kg, kc, rfl⟩ := L.rk.len
  clear L
  go_enter Try.func38, Try.ntmps38
  go_wp2_with (with_reducible refine wpList_allS _ _ B _ ks _ _ _ _ _ ?_ ?_ HR.out h0 hl hB ?_)
  · rfl
  · rfl
  rintro g c W1 hr1 hk1
  have HO := Lib.hid (And.intro hr1 hk1)
  clear hr1 hk1 HR
  go_wp2_with fail
  go_ret
  exact ⟨g, c, rfl, HO.out.1, HO.out.2⟩
set_option maxRecDepth 100000 in
set_option maxHeartbeats 1600000 in
theorem nodesound_leaf (B N : Nat) (kv vv : Value) (ks vs : List Bs) (o : Int) (W : World) (L : Leaf B W N kv vv ks vs) (hlen : vs.length = ks.length) (h0 : 0 < ks.length) (ho : (ks.length : Int) ≤ o) (ho2 : o ≤ 256) :
    Calls Try.prog 37 #[.pointer (some ⟨N, 0, none⟩), .int .i64 1, .int .i64 o, .int .i64 1] W fun e W' => e = .returned (.bool true) ∧ ∃ q, W' = W.drewN q := by
  have n0 : W.cell? ⟨N, 0, none⟩ = some kv := L.box.cell 0 _ rfl
  have n1 : W.cell? ⟨N, 1, none⟩ = some vv := L.box.cell 1 _ rfl
  have n2 : W.cell? ⟨N, 2, none⟩ = some (.slice none 0 0) := L.box.cell 2 _ rfl
  obtain ⟨kg, kc, rfl⟩ := L.rk.len
  obtain ⟨vg, vc, rfl⟩ := L.rv.len
  rw [hlen] at n1
  clear L
  have d1 : decide ((ks.length : Int) < 1) = false := decide_eq_false (by omega)
  have d2 : decide (o < (ks.length : Int)) = false := decide_eq_false (by omega)
  go_enter Try.func37, Try.ntmps37
  go_wp2_with fail
  go_quiet (fail)
  go_wp2_with fail
  go_ret
  exact ⟨rfl, _, rfl⟩
def SndOut (B T N : Nat) (o sz : Int) (kv vv : Value) (ks vs : List Bs) (W : World) (e : Ending) (W' : World) : Prop :=
  e = .returned (.bool true) ∧ TreeAt B W' T N o sz kv vv ks vs ∧ Kept (fun _ => False) W W'
set_option maxRecDepth 100000 in
set_option maxHeartbeats 1600000 in
theorem sound_3 (B T N : Nat) (o : Int) (kv vv : Value) (k0 k1 k2 : Bs) (vs : List Bs) (W : World) (A : TreeAt B W T N o 3 kv vv [k0, k1, k2] vs) (ho : 3 ≤ o) (ho2 : o ≤ 256) (hB : B ≤ W.heap.size)
    (h01 : Op.bytesLess k0.toList k1.toList = true) (h12 : Op.bytesLess k1.toList k2.toList = true) :
    Calls Try.prog 29 #[.pointer (some ⟨T, 0, none⟩)] W (SndOut B T N o 3 kv vv [k0, k1, k2] vs W) := by
  have HS := Lib.hid (fun q => nodesound_leaf B N kv vv [k0, k1, k2] vs o (W.drewN q) (A.leaf.drewN q) A.len (by simp) (by simpa using ho) ho2)
  have HH := Lib.hid (fun q => height_at B T N o 3 kv vv [k0, k1, k2] vs (W.drewN q) (A.drewN q))
  have HA := Lib.hid A
  have a0 : W.cell? ⟨T, 0, none⟩ = some (.int .i64 o) := A.box.cell 0 _ rfl
  have a2 : W.cell? ⟨T, 2, none⟩ = some (.pointer (some ⟨N, 0, none⟩)) := A.box.cell 2 _ rfl
  clear A
  go_enter Try.func29, Try.ntmps29
  go_wp2_with fail
  go_quiet (first
    | (go_at_call 33; refine Calls.quiet_of_same (HH.out _))
    | (go_at_call 37; refine Calls.quiet_of (HS.out _)))
  clear HS HH
  have HA1 := Lib.hid (HA.out.drewN nq)
  have b1 : (W.drewN nq).cell? ⟨T, 2, none⟩ = some (.pointer (some ⟨N, 0, none⟩)) := a2
  clear a0 a2
  go_wp2_with fail
  refine (all_leaf B N kv vv _ vs _ HA1.out.leaf (by simp) (by simp) hB).mono ?_
  rintro e W1 ⟨g, c, rfl, hr, hk⟩
  have HA2 := Lib.hid (HA1.out.kept hk (fun _ _ h => h))
  have HK := Lib.hid (show Kept (fun _ => False) W W1 from ⟨hk.os, hk.tape, hk.output, hk.size, hk.block⟩)
  clear hk HA HA1 b1
  change RowS B W1 (.slice (some ⟨g, 0, none⟩) 3 c) [k0, k1, k2] at hr
  obtain ⟨c0, c1, c2⟩ : W1.cell? ⟨g, 0, none⟩ = some (.string k0) ∧ W1.cell? ⟨g, 1, none⟩ = some (.string k1) ∧ W1.cell? ⟨g, 2, none⟩ = some (.string k2) := by
    rcases hr with ⟨h, _⟩ | ⟨g', c', h, _, _, _, _, _, hc⟩
    · cases h
    · cases h
      exact ⟨hc 0 (by simp), hc 1 (by simp), hc 2 (by simp)⟩
  have a1 : W1.cell? ⟨T, 1, none⟩ = some (.int .i64 3) := HA2.out.box.cell 1 _ rfl
  clear hr
  simp only [List.length_cons, List.length_nil, Nat.zero_add, Nat.reduceAdd]
  go_wp2_with fail
  have w0 : IntKind.i64.wrap 0 = 0 := rfl
  have w1 : IntKind.i64.wrap 1 = 1 := rfl
  refine wp_loop_rounds 3 ?_
  rw [rounds_succ]
  go_wp2_with fail
  go_quiet (fail)
  go_wp2_with fail
  rw [rounds_succ]
  go_wp2_with fail
  go_quiet (fail)
  go_wp2_with fail
  rw [rounds_succ]
  go_wp2_with fail
  go_ret
  exact ⟨rfl, HA2.out.drewN _, HK.out.drewN _⟩
theorem Check_3 (B T N : Nat) (o : Int) (kv vv : Value) (k0 k1 k2 : Bs) (vs : List Bs) (W : World) (A : TreeAt B W T N o 3 kv vv [k0, k1, k2] vs) (ho : 3 ≤ o) (ho2 : o ≤ 256) (hB : B ≤ W.heap.size)
    (h01 : Op.bytesLess k0.toList k1.toList = true) (h12 : Op.bytesLess k1.toList k2.toList = true) :
    Calls Try.prog 15 #[.pointer (some ⟨T, 0, none⟩)] W (SndOut B T N o 3 kv vv [k0, k1, k2] vs W) := by
  have H := Lib.hid (sound_3 B T N o kv vv k0 k1 k2 vs W A ho ho2 hB h01 h12)
  clear A h01 h12
  go_enter Try.func15, Try.ntmps15
  go_wp2_with fail
  refine H.out.mono ?_
  rintro e W1 ⟨rfl, h2, h3⟩
  have H2 := Lib.hid (And.intro h2 h3)
  clear h2 h3 H
  go_wp2_with fail
  go_ret
  exact ⟨rfl, H2.out⟩
end Go.Proofs.Ytegljepgncicjaa
/- Btree: regions that draw and end in one writing call, inside the wide fence; down at a leaf with three keys. -/
namespace Go.Proofs.Ytegljepgncicjaa
open Go.ChangeShapes Go.WideShapes Go.ChangeAt Go.RowKit Go.Deep Go.Shelf
set_option linter.unusedVariables false
set_option linter.unusedSimpArgs false
section
variable {P : Program} {ops : Array Oper} {md : Region.Mode} {w : World} {m : Nat}
theorem wpOpIn_of_stOp {i : Nat} {a : Act} {K : Act → Prop} {K' : Act → World → Prop} {Q : Exit → Act → World → Prop} (h : ∀ a, K a → K' a w) (hh : stOp P ops w i K a) : wpOpIn Fence.wide m P ops Q i K' a w := by
  unfold stOp at hh
  unfold wpOpIn
  split
  · rename_i h0
    simp only [h0] at hh
    exact h _ hh
  · rename_i o h0
    simp only [h0] at hh
    split
    · rename_i hw
      simp only [hw, if_true] at hh
      unfold Oper.still at hh
      unfold Oper.wpIn
      refine ⟨fun _ _ => trivial, ?_⟩
      rw [show Fence.wide.round = none from rfl, Oper.semAt_none]
      generalize (execOp a.eval o).run P w = r at *
      cases r with
      | ok n w' =>
        cases n <;> simp only [Oper.stillUpon] at hh <;> simp only [Oper.uponIn]
        case enter f args =>
          obtain ⟨rfl, v, hc, hn⟩ := hh
          exact ⟨fun h => (by cases h), (callsIn_wide.2 hc).mono fun e w'' ⟨he, hw⟩ => by subst he; subst hw; exact h _ hn⟩
        all_goals (obtain ⟨rfl, h2⟩ := hh; exact h _ h2)
      | halt x w' => simp only [Oper.stillUpon] at hh
    · rename_i hw
      simp only [hw] at hh
      exact ⟨fun _ _ => trivial, h _ hh⟩
theorem wpAnyIn_of_head {n g : Nat} {L : Array Bool → Act → Prop} {Q' : Exit → Act → World → Prop} (hL : ∀ listed a, L listed a → wpAnyIn Fence.wide m P md ops Q' g listed a w) :
    ∀ (f : Nat) (listed : Array Bool) (a : Act), wpAnyL P md ops w n L f listed a → wpAnyIn Fence.wide m P md ops Q' (f + g) listed a w
  | 0, listed, a, h => by rw [Nat.zero_add]; exact hL _ _ h
  | f + 1, listed, a, h => by
    rw [show f + 1 + g = (f + g) + 1 by omega]
    exact ⟨fun h0 => absurd h0 h.1, fun i hi => wpOpIn_of_stOp (fun a' h' => wpAnyIn_of_head hL f _ a' h') (h.2 i hi).2⟩
theorem wpAnyIn_of_seq {Q' : Exit → Act → World → Prop} : ∀ (l : List Oper) (k : Nat) (listed : Array Bool) (a : Act) (w : World), (∀ j, l[j]? = ops[k + j]?) →
    Region.seqB md ops l.length k listed = true → wpListIn Fence.wide m P ops Q' l a w → wpAnyIn Fence.wide m P md ops Q' l.length listed a w
  | [], _, _, _, _, _, hB, h => ⟨by simpa [Region.seqB] using hB, h⟩
  | o :: l, k, listed, a, w, hl, hB, h => by
    have h0 : ops[k]? = some o := by simpa using (hl 0).symm
    simp only [List.length_cons, Region.seqB, Bool.and_eq_true, decide_eq_true_eq] at hB
    refine ⟨fun h1 => (by rw [hB.1] at h1; cases h1), fun i hi => ?_⟩
    rw [hB.1] at hi
    have hik : i = k := by simpa using hi
    subst hik
    have hw : wpOpIn Fence.wide m P ops Q' i (wpListIn Fence.wide m P ops Q' l) a w := by unfold wpOpIn; simp only [h0]; exact h
    exact wpOpIn_mono (fun a' w' h' => wpAnyIn_of_seq l (i + 1) _ a' w' (fun j => by have := hl (j + 1); simpa [Nat.add_assoc, Nat.add_comm 1 j] using this) hB.2 h') hw
theorem wpIn_region_still_tail {id : Nat} {Q : Exit → Act → World → Prop} {a : Act} {w : World} {l : List Oper} (n : Nat) (hm : P.follows .mixedOrders = true) (hB : Region.lexTailB .any l.toArray n = true)
    (h : wpStill P l.toArray w.drew (fun a' => wpListIn Fence.wide m P l.toArray Q (l.drop n) a' w.drew) (l.take n) a) : (Code.region id l.toArray true).wpIn Fence.wide m P Q a w := by
  simp only [Region.lexTailB, Bool.and_eq_true, decide_eq_true_eq] at hB
  obtain ⟨⟨⟨⟨hsel, hn⟩, hs⟩, hc⟩, hlex⟩ := hB
  have hn' : n < l.length := by simpa using hn
  have htl : (l.take n).length = n := by simp; omega
  have hdl : (l.drop n).length = l.toArray.size - n := by simp
  have inv0 : HeadInv .any l.toArray n (Array.replicate l.toArray.size false) :=
    ⟨by simp, fun j oj _ hl => (by rw [getD_replicate_false] at hl; cases hl), fun t _ ht => getD_in (by simpa using ht) (getD_replicate_false _ _)⟩
  have H := wpAnyL_lex (md := .any) (g := l.toArray.size - n) hsel hs hc hn (l.take n) 0 _ a (fun j hj => by
    have hj' : j < n := by rw [htl] at hj; exact hj
    simp [hj']) (by simpa using htl) inv0 (by rw [htl]; exact hlex) h
  refine wpIn_region_any hm ?_
  have := wpAnyIn_of_head (m := m) (Q' := Q) (g := l.toArray.size - n) (fun listed a' hL => by
    have := wpAnyIn_of_seq (m := m) (md := .any) (Q' := Q) (l.drop n) n listed a' w.drew (fun j => by simp [List.getElem?_drop]) (by rw [hdl]; exact hL.1) hL.2
    rwa [hdl] at this) _ _ _ H
  rw [htl, show n + (l.toArray.size - n) = l.toArray.size by omega] at this
  exact this
end
attribute [local go_sem] Oper.semAt_some
theorem wide_fn (f : FuncId) : Fence.wide.fn f = True := rfl
attribute [local go_sem, local simp] wide_fn
/-- what is read of a leaf with three keys -/
structure D3 (n₀ N : Nat) (k0 k1 k2 v0 v1 v2 : Bs) (W : World) (kg vg kc vc : Nat) : Prop where
  bN : N < n₀
  bk : kg < n₀
  bv : vg < n₀
  c0 : W.cell? ⟨N, 0, none⟩ = some (.slice (some ⟨kg, 0, none⟩) 3 kc)
  c1 : W.cell? ⟨N, 1, none⟩ = some (.slice (some ⟨vg, 0, none⟩) 3 vc)
  c2 : W.cell? ⟨N, 2, none⟩ = some (.slice none 0 0)
  k0 : W.cell? ⟨kg, 0, none⟩ = some (.string k0)
  k1 : W.cell? ⟨kg, 1, none⟩ = some (.string k1)
  k2 : W.cell? ⟨kg, 2, none⟩ = some (.string k2)
  v0 : W.cell? ⟨vg, 0, none⟩ = some (.string v0)
  v1 : W.cell? ⟨vg, 1, none⟩ = some (.string v1)
  v2 : W.cell? ⟨vg, 2, none⟩ = some (.string v2)
theorem D3.below {n₀ N : Nat} {k0 k1 k2 v0 v1 v2 : Bs} {W W' : World} {kg vg kc vc : Nat} (h : D3 n₀ N k0 k1 k2 v0 v1 v2 W kg vg kc vc) (hb : Below n₀ W W') : D3 n₀ N k0 k1 k2 v0 v1 v2 W' kg vg kc vc :=
  ⟨h.bN, h.bk, h.bv, (hb.cell (p := ⟨N, 0, none⟩) h.bN).trans h.c0, (hb.cell (p := ⟨N, 1, none⟩) h.bN).trans h.c1, (hb.cell (p := ⟨N, 2, none⟩) h.bN).trans h.c2,
   (hb.cell (p := ⟨kg, 0, none⟩) h.bk).trans h.k0, (hb.cell (p := ⟨kg, 1, none⟩) h.bk).trans h.k1, (hb.cell (p := ⟨kg, 2, none⟩) h.bk).trans h.k2,
   (hb.cell (p := ⟨vg, 0, none⟩) h.bv).trans h.v0, (hb.cell (p := ⟨vg, 1, none⟩) h.bv).trans h.v1, (hb.cell (p := ⟨vg, 2, none⟩) h.bv).trans h.v2⟩
abbrev encP (x : Bs × Bs) : Array Value := #[.string x.1, .string x.2]
def DownOut (k1 k2 v1 v2 : Bs) (J Jx : List (Bs × Bs) → World → Prop) (e : Ending) (W' : World) : Prop :=
  (∃ b, e = .returned (.bool b)) ∧ (J [(k2, v2), (k1, v1)] W' ∨ ∃ pre, pre <+: [(k2, v2), (k1, v1)] ∧ Jx pre W')
set_option maxRecDepth 100000 in
set_option maxHeartbeats 1600000 in
theorem down_3 (m l n₀ N : Nat) (lo k0 k1 k2 v0 v1 v2 : Bs) (J Jx : List (Bs × Bs) → World → Prop)
    (hY : ∀ m pre (x : Bs × Bs) W, J pre W → pre.length < 2 → YieldAt Fence.wide m Try.prog l (encP x) W fun e W' =>
      (e = .returned (.bool true) ∧ J (pre ++ [x]) W' ∧ Below n₀ W W') ∨ (e = .returned (.bool false) ∧ Jx (pre ++ [x]) W'))
    (hJ : ∀ pre W q, J pre W → J pre (W.drewN q))
    (h0 : Op.bytesLess k0.toList lo.toList = true) (h1 : Op.bytesLess k1.toList lo.toList = false) (h2 : Op.bytesLess k2.toList lo.toList = false)
    (W : World) (kg vg kc vc : Nat) (hD : D3 n₀ N k0 k1 k2 v0 v1 v2 W kg vg kc vc) (hj : J [] W) :
    CallsIn Fence.wide m Try.prog 40 #[.pointer (some ⟨N, 0, none⟩), .string lo, .string ByteArray.empty, .bool false, .func (.yield l) #[] #[]] W (DownOut k1 k2 v1 v2 J Jx) := by
  have HY := Lib.hid hY
  have HJ := Lib.hid hJ
  have hj1 : J [] W.drew := hJ _ _ 1 hj
  have HJ0 := Lib.hid hj1
  have HD := Lib.hid (hD.below (W' := W.drew) ⟨rfl, rfl, rfl, Nat.le_refl _, fun _ _ => rfl⟩)
  have w0 : IntKind.i64.wrap 2 = 2 := rfl
  have w1 : IntKind.i64.wrap 1 = 1 := rfl
  have w2 : IntKind.i64.wrap 0 = 0 := rfl
  obtain ⟨hbN, hbk, hbv, c0, c1, c2, e0, e1, e2, u0, u1, u2⟩ := hD
  clear hY hJ hj hj1
  refine callsIn_of_wp Try.func40 rfl trivial ?_ rfl
  simp only [Try.ntmps40, List.size_toArray, List.length_cons, List.length_nil, Nat.reduceAdd, Nat.reduceSub, Array.replicate_succ, Array.replicate_zero, List.push_toArray, List.append_toArray, List.nil_append, List.cons_append]
  gi_wp2
  refine wpIn_loop_rounds 4 ?_
  rw [roundsIn_succ]
  gi_wp2_with (refine ⟨trivial, ?_⟩)
  refine wpIn_region_still_tail 28 (by kernel_rfl) (by kernel_rfl) ?_
  simp only [List.take_succ_cons, List.take_zero, List.drop_succ_cons, List.drop_zero]
  repeat still_step
  refine wpStill_nil ?_
  obtain ⟨f1, t1, a1, b1, hy1, hR1⟩ := HY.out (m - 1) [] (k2, v2) W.drew HJ0.out (by simp)
  dsimp only [encP] at hy1
  clear c0 c1 c2 e0 e1 e2 u0 u1 u2
  gi_wp2
  refine ⟨fun h => (by cases h), hR1.mono ?_⟩
  clear hR1 hy1
  rintro e W1 (⟨rfl, hJ1, hk1⟩ | ⟨rfl, hx1⟩)
  · have hj1 : J ([] ++ [(k2, v2)]) W1.drew := HJ.out _ _ 1 hJ1
    have HJ1 := Lib.hid hj1
    have hD := HD.out.below hk1
    have HD1 := Lib.hid (hD.below (W' := W1.drew) ⟨rfl, rfl, rfl, Nat.le_refl _, fun _ _ => rfl⟩)
    obtain ⟨_, _, _, c0, c1, c2, e0, e1, e2, u0, u1, u2⟩ := hD
    clear hJ1 hk1 HD hj1 HJ0
    gi_wp2
    rw [roundsIn_succ]
    gi_wp2_with (refine ⟨trivial, ?_⟩)
    refine wpIn_region_still_tail 28 (by kernel_rfl) (by kernel_rfl) ?_
    simp only [List.take_succ_cons, List.take_zero, List.drop_succ_cons, List.drop_zero]
    repeat still_step
    refine wpStill_nil ?_
    obtain ⟨f2, t2, a2, b2, hy2, hR2⟩ := HY.out (m - 1) _ (k1, v1) W1.drew HJ1.out (by simp)
    dsimp only [encP] at hy2
    clear c0 c1 c2 e0 e1 e2 u0 u1 u2
    gi_wp2
    refine ⟨fun h => (by cases h), hR2.mono ?_⟩
    clear hR2 hy2
    rintro e W2 (⟨rfl, hJ2, hk2⟩ | ⟨rfl, hx2⟩)
    · have HJ2 := Lib.hid hJ2
      have hD := HD1.out.below hk2
      obtain ⟨_, _, _, c0, c1, c2, e0, e1, e2, u0, u1, u2⟩ := hD
      clear hJ2 hk2 HD1 HJ1
      gi_wp2
      rw [roundsIn_succ]
      gi_wp2_with (refine ⟨trivial, ?_⟩)
      gi_quiet (fail)
      gi_wp2
      go_ret
      exact ⟨⟨_, rfl⟩, .inl (HJ.out _ _ nq HJ2.out)⟩
    · gi_wp2
      go_ret
      exact ⟨⟨_, rfl⟩, .inr ⟨_, ⟨[], by simp⟩, hx2⟩⟩
  · gi_wp2
    go_ret
    exact ⟨⟨_, rfl⟩, .inr ⟨_, ⟨[(k1, v1)], by simp⟩, hx1⟩⟩
end Go.Proofs.Ytegljepgncicjaa
/- Btree: the iterator that Scan returns, at a leaf with three keys and at nil. -/
namespace Go.Proofs.Ytegljepgncicjaa
open Go.ChangeShapes Go.WideShapes Go.ChangeAt Go.RowKit Go.Deep Go.Shelf
set_option linter.unusedVariables false
set_option linter.unusedSimpArgs false
attribute [local go_sem] Oper.semAt_some
attribute [local go_sem, local simp] wide_fn
theorem yieldAt_any {m m' : Nat} {P : Program} {l : Nat} {args : Array Value} {W : World} {R : Ending → World → Prop} (h : YieldAt Fence.wide m P l args W R) : YieldAt Fence.wide m' P l args W R := by
  obtain ⟨fn, tmps, assign, body, hy, hR⟩ := h
  exact ⟨fn, tmps, assign, body, hy, hR.1, fun c cs _ => hR.2 c cs (room_wide _)⟩
theorem abides_drewN {β : Type} {B : Nat} {J : β → World → Prop} (h : AbidesFrom B J) (s : β) (W : World) (q : Nat) (hj : J s W) : J s (W.drewN q) :=
  h s W _ none hj ⟨rfl, rfl, rfl, Nat.le_refl _, fun _ _ _ => rfl⟩ (fun r e => by cases e)
def SeqOut (S Sp : List (Bs × Bs) → Prop) (J Jx : List (Bs × Bs) → World → Prop) (e : Ending) (W' : World) : Prop :=
  (∃ v, e = .returned v) ∧ ((∃ xs, S xs ∧ J xs W') ∨ (∃ pre, Sp pre ∧ Jx pre W'))
set_option maxRecDepth 100000 in
set_option maxHeartbeats 1600000 in
theorem scan1_3 (m l n₀ N T bt bb bl bh : Nat) (lo k0 k1 k2 v0 v1 v2 : Bs) (J Jx : List (Bs × Bs) → World → Prop)
    (hY : ∀ m pre (x : Bs × Bs) W, J pre W → pre.length < 2 → YieldAt Fence.wide m Try.prog l (encP x) W fun e W' =>
      (e = .returned (.bool true) ∧ J (pre ++ [x]) W' ∧ Below n₀ W W') ∨ (e = .returned (.bool false) ∧ Jx (pre ++ [x]) W'))
    (hJ : ∀ pre W q, J pre W → J pre (W.drewN q))
    (h0 : Op.bytesLess k0.toList lo.toList = true) (h1 : Op.bytesLess k1.toList lo.toList = false) (h2 : Op.bytesLess k2.toList lo.toList = false)
    (W : World) (kg vg kc vc : Nat) (hD : D3 n₀ N k0 k1 k2 v0 v1 v2 W kg vg kc vc)
    (c1 : W.cell? ⟨bt, 0, none⟩ = some (.pointer (some ⟨T, 0, none⟩))) (c2 : W.cell? ⟨bb, 0, none⟩ = some (.bool true)) (c3 : W.cell? ⟨bl, 0, none⟩ = some (.string lo)) (c4 : W.cell? ⟨bh, 0, none⟩ = some (.string ByteArray.empty))
    (cT : W.cell? ⟨T, 2, none⟩ = some (.pointer (some ⟨N, 0, none⟩))) (hj : J [] W) :
    CallsIn Fence.wide m Try.prog 39 #[.func (.yield l) #[] #[], .pointer (some ⟨bt, 0, none⟩), .pointer (some ⟨bb, 0, none⟩), .pointer (some ⟨bl, 0, none⟩), .pointer (some ⟨bh, 0, none⟩)] W
      (SeqOut (fun ys => ys = [(k2, v2), (k1, v1)]) (fun pre => pre <+: [(k2, v2), (k1, v1)]) J Jx) := by
  have HP := Lib.hid (down_3 (m - 1) l n₀ N lo k0 k1 k2 v0 v1 v2 J Jx hY hJ h0 h1 h2 W.drew kg vg kc vc (hD.below ⟨rfl, rfl, rfl, Nat.le_refl _, fun _ _ => rfl⟩) (hJ _ _ 1 hj))
  clear hY hJ h0 h1 h2 hD hj
  refine callsIn_of_wp Try.func39 rfl trivial ?_ rfl
  simp only [Try.ntmps39, List.size_toArray, List.length_cons, List.length_nil, Nat.reduceAdd, Nat.reduceSub, Array.replicate_succ, Array.replicate_zero, List.push_toArray, List.append_toArray, List.nil_append, List.cons_append]
  gi_wp2
  refine wpIn_region_still_tail 10 (by kernel_rfl) (by kernel_rfl) ?_
  simp only [List.take_succ_cons, List.take_zero, List.drop_succ_cons, List.drop_zero]
  repeat still_step
  refine wpStill_nil ?_
  clear c1 c2 c3 c4 cT
  gi_wp2_with (first
    | ((try refine ⟨fun h => (by cases h), ?_⟩); gi_at_call 40; refine HP.out.mono ?_; clear HP; rintro e W1 ⟨⟨b, rfl⟩, hr⟩)
    | refine ⟨trivial, ?_⟩)
  go_end0
  refine ⟨⟨_, rfl⟩, ?_⟩
  rcases hr with h | ⟨p, h1, h2⟩
  · exact .inl ⟨_, rfl, h⟩
  · exact .inr ⟨p, h1, h2⟩
theorem scan1_nil (m l bt bb bl bh : Nat) (J Jx : List (Bs × Bs) → World → Prop)
    (W : World) (c1 : W.cell? ⟨bt, 0, none⟩ = some (.pointer none)) (hj : J [] W) :
    CallsIn Fence.wide m Try.prog 39 #[.func (.yield l) #[] #[], .pointer (some ⟨bt, 0, none⟩), .pointer (some ⟨bb, 0, none⟩), .pointer (some ⟨bl, 0, none⟩), .pointer (some ⟨bh, 0, none⟩)] W
      (SeqOut (fun ys => ys = []) (fun pre => pre <+: []) J Jx) := by
  have HJ := Lib.hid hj
  clear hj
  refine callsIn_of_wp Try.func39 rfl trivial ?_ rfl
  simp only [Try.ntmps39, List.size_toArray, List.length_cons, List.length_nil, Nat.reduceAdd, Nat.reduceSub, Array.replicate_succ, Array.replicate_zero, List.push_toArray, List.append_toArray, List.nil_append, List.cons_append]
  gi_wp2
  refine bodyPost_ret (results_none rfl _ _ _) rfl ?_
  exact ⟨⟨_, rfl⟩, .inl ⟨_, rfl, HJ.out⟩⟩
/-- what the boxes of Scan hold -/
structure ScanBoxes (W : World) (b : Nat) (tp : Option Addr) (lo hi : Bs) (back : Bool) : Prop where
  c1 : W.cell? ⟨b, 0, none⟩ = some (.pointer tp)
  c2 : W.cell? ⟨b + 1, 0, none⟩ = some (.string lo)
  c3 : W.cell? ⟨b + 2, 0, none⟩ = some (.string hi)
  c4 : W.cell? ⟨b + 3, 0, none⟩ = some (.bool back)
  lt : b + 3 < W.heap.size
theorem ScanBoxes.below {W W' : World} {b : Nat} {tp : Option Addr} {lo hi : Bs} {back : Bool} (h : ScanBoxes W b tp lo hi back) (hb : Below W.heap.size W W') : ScanBoxes W' b tp lo hi back := by
  have := h.lt
  exact ⟨(hb.cell (p := ⟨b, 0, none⟩) (by show b < _; omega)).trans h.c1, (hb.cell (p := ⟨b + 1, 0, none⟩) (by show b + 1 < _; omega)).trans h.c2, (hb.cell (p := ⟨b + 2, 0, none⟩) (by show b + 2 < _; omega)).trans h.c3, (hb.cell (p := ⟨b + 3, 0, none⟩) (by show b + 3 < _; omega)).trans h.c4, Nat.lt_of_lt_of_le h.lt hb.size⟩
abbrev scanLb (b : Nat) : Array Value := #[.pointer (some ⟨b, 0, none⟩), .pointer (some ⟨b + 3, 0, none⟩), .pointer (some ⟨b + 1, 0, none⟩), .pointer (some ⟨b + 2, 0, none⟩)]
theorem scan_inn (n : Nat) (tp : Option Addr) (lo hi : Bs) (back : Bool) (w : World) :
    CallsIn Fence.wide n Try.prog 30 #[.pointer tp, .string lo, .string hi, .bool back] w fun e w' => e = .returned (.func (.func 39) #[] (scanLb w.heap.size)) ∧ ScanBoxes w' w.heap.size tp lo hi back ∧ w'.heap.size = w.heap.size + 4 ∧ Below w.heap.size w w' ∧ KeepsOthers w w' := by
  refine callsIn_of_wp Try.func30 rfl trivial ?_ rfl
  simp only [Try.ntmps30, List.size_toArray, List.length_cons, List.length_nil, Nat.reduceAdd, Nat.reduceSub, Array.replicate_succ, Array.replicate_zero, List.push_toArray, List.append_toArray, List.nil_append, List.cons_append]
  gi_wp2
  go_ret
  have b0 := Boxed.new w 24 (.pointer tp)
  have b1 := Boxed.new (w.alloc (.cells #[.pointer tp] 24)) 9 (.string lo)
  have b2 := Boxed.new ((w.alloc (.cells #[.pointer tp] 24)).alloc (.cells #[.string lo] 9)) 9 (.string hi)
  have b3 := Boxed.new (((w.alloc (.cells #[.pointer tp] 24)).alloc (.cells #[.string lo] 9)).alloc (.cells #[.string hi] 9)) 4 (.bool back)
  simp only [World.size_alloc] at b1 b2 b3
  refine ⟨rfl, ⟨(((b0.alloc _).alloc _).alloc _).cell, ((b1.alloc _).alloc _).cell, (b2.alloc _).cell, b3.cell, by simp⟩, by simp, ?_, ?_⟩
  · exact ((((Below.refl _ w).alloc (Nat.le_refl _) _).alloc (by simp) _).alloc (by simp <;> omega) _).alloc (by simp <;> omega) _
  · exact (((KeepsOthers.alloc _ _).trans (KeepsOthers.alloc _ _)).trans (KeepsOthers.alloc _ _)).trans (KeepsOthers.alloc _ _)
theorem stops_nil (n₀ n b : Nat) (lo hi : Bs) (back : Bool) (W : World) (hb : ScanBoxes W b none lo hi back) :
    SeqStopsK Fence.wide n Try.prog 39 (scanLb b) encP (Below n₀) (fun ys => ys = []) (fun pre => pre <+: []) 0 W := fun l J Jx W1 hW hJ _ hY h0 => by
  have hb1 := hb.below hW
  exact scan1_nil n l b (b + 3) (b + 1) (b + 2) J Jx W1 hb1.c1 h0
theorem stops_3 (n₀ n b N T : Nat) (lo k0 k1 k2 v0 v1 v2 : Bs) (W : World) (hb : ScanBoxes W b (some ⟨T, 0, none⟩) lo ByteArray.empty true)
    (h0 : Op.bytesLess k0.toList lo.toList = true) (h1 : Op.bytesLess k1.toList lo.toList = false) (h2 : Op.bytesLess k2.toList lo.toList = false)
    (kg vg kc vc : Nat) (hD : D3 n₀ N k0 k1 k2 v0 v1 v2 W kg vg kc vc) (hn : n₀ ≤ W.heap.size) (hT : T < n₀) (cT : W.cell? ⟨T, 2, none⟩ = some (.pointer (some ⟨N, 0, none⟩))) :
    SeqStopsK Fence.wide n Try.prog 39 (scanLb b) encP (Below n₀) (fun ys => ys = [(k2, v2), (k1, v1)]) (fun pre => pre <+: [(k2, v2), (k1, v1)]) 2 W := fun l J Jx W1 hW hJ _ hY hj => by
  have hb1 := hb.below hW
  exact scan1_3 n l n₀ N T b (b + 3) (b + 1) (b + 2) lo k0 k1 k2 v0 v1 v2 J Jx (fun m pre x W hj hl => yieldAt_any (hY pre x W hj hl)) (fun pre W q h => abides_drewN hJ pre W q h) h0 h1 h2 W1 kg vg kc vc
    (hD.below (hW.mono hn)) hb1.c1 hb1.c4 hb1.c2 hb1.c3 (((hW.mono hn).cell (p := ⟨T, 2, none⟩) hT).trans cT) hj
end Go.Proofs.Ytegljepgncicjaa
/- Btree: pairs, when no more than 'most' come. -/
namespace Go.Proofs.Ytegljepgncicjaa
open Go.ChangeShapes Go.WideShapes Go.ChangeAt Go.RowKit Go.Deep Go.Shelf
set_option linter.unusedVariables false
set_option linter.unusedSimpArgs false
attribute [local go_sem] Oper.semAt_some
attribute [local go_sem, local simp] wide_fn
def prv (L : List (Bs × Bs)) : List Value := L.flatMap (fun x => [.string x.1, .string x.2])
theorem prv_snoc (L : List (Bs × Bs)) (x : Bs × Bs) : prv (L ++ [x]) = prv L ++ [.string x.1, .string x.2] := by simp [prv]
theorem info59 : (Try.prog.info? 59).map (fun i => (i.zero, i.size, i.bytes)) = some (some (.agg #[.string ⟨#[]⟩, .string ⟨#[]⟩]), 2, 32) := by kernel_rfl
theorem cell_two_new (W : World) (u v : Value) (t : TypeId) : ∀ j z, [u, v][j]? = some z → (W.alloc (.cells #[u, v] t)).cell? ((⟨W.heap.size, 0, none⟩ : Addr).add j) = some z := by
  intro j z hz
  have e := heap_new W (.cells #[u, v] t)
  match j with
  | 0 => simp at hz; subst hz; unfold World.cell?; rw [show ((⟨W.heap.size, 0, none⟩ : Addr).add 0).block = W.heap.size from rfl, e]; rfl
  | 1 => simp at hz; subst hz; unfold World.cell?; rw [show ((⟨W.heap.size, 0, none⟩ : Addr).add 1).block = W.heap.size from rfl, e]; rfl
  | j + 2 => simp at hz
theorem und73 : (Try.prog.underlying 73).map (fun d => match d with | .func _ _ _ => true | _ => false) = some true := by kernel_rfl
theorem equalIn_nilFunc {P : Program} (w : World) (d : Nat) (t : TypeId) (f : Fn) (a b : Array Value) (p r : Array TypeId) (v : Bool) (h : P.underlying t = some (.func p r v)) : (Op.equalIn (d + 1) t (.func f a b) .nilFunc).run P w = .ok false w := by
  simp [Op.equalIn, run_underlying h]
theorem equal_nilFunc {P : Program} (w : World) (t : TypeId) (f : Fn) (a b : Array Value) (p r : Array TypeId) (v : Bool) (h : P.underlying t = some (.func p r v)) : (Op.equal t (.func f a b) .nilFunc).run P w = .ok false w := equalIn_nilFunc w 9999 t f a b p r v h
theorem eql_nilFunc (f : Fn) (a b : Array Value) (w : World) : (binOp .eql 73 (.func f a b) .nilFunc).run Try.prog w = .ok (.bool false) w := by
  obtain ⟨p, r, v, h⟩ : ∃ p r v, Try.prog.underlying 73 = some (.func p r v) := by
    have h := und73
    cases hu : Try.prog.underlying 73 with
    | none => rw [hu] at h; simp at h
    | some d =>
      rw [hu] at h
      cases d <;> first | (simp at h; done) | exact ⟨_, _, _, rfl⟩
  simp only [binOp]
  simp [equal_nilFunc w 73 f a b p r v h]
attribute [local go_sem] eql_nilFunc
def PairsOut (L : List (Bs × Bs)) (w : World) (e : Ending) (W' : World) : Prop :=
  ∃ v, e = .returned v ∧ W'.ownsRow w.heap.size 59 2 v L.length (prv L) ∧ Below w.heap.size w W'
set_option maxRecDepth 100000 in
set_option maxHeartbeats 1600000 in
theorem pairs_in (n : Nat) (tp : Option Addr) (lo hi : Bs) (back : Bool) (most : Int) (L : List (Bs × Bs)) (w : World) (hL : (L.length : Int) ≤ most) (hL2 : L.length ≤ 1000) (h1 : 1 ≤ n)
    (hS : ∀ (W : World) (b m : Nat), Below w.heap.size w W → ScanBoxes W b tp lo hi back → SeqStopsK Fence.wide m Try.prog 39 (scanLb b) encP (Below w.heap.size) (fun ys => ys = L) (fun pre => pre <+: L) L.length W) :
    CallsIn Fence.wide n Try.prog 19 #[.pointer tp, .string lo, .string hi, .bool back, .int .i64 most] w (PairsOut L w) := by
  have HS := Lib.hid hS
  have hro : Fence.wide.round = none := rfl
  obtain ⟨i0, hi0, hz0, hz1, hz2⟩ := info_parts info59
  clear hS
  refine callsIn_of_wp_marks Try.func19 rfl trivial ?_ rfl
  simp only [Try.ntmps19, List.size_toArray, List.length_cons, List.length_nil, Nat.reduceAdd, Nat.reduceSub, Array.replicate_succ, Array.replicate_zero, List.push_toArray, List.append_toArray, List.nil_append, List.cons_append]
  gi_wp2_with (gi_at_call 30; refine (scan_inn (n - 1) tp lo _ back _).mono ?_; rintro e w' ⟨rfl, hsb, hsz, hbl, hko⟩)
  have hsz2 : w'.heap.size = w.heap.size + 6 := by rw [hsz]; simp
  have hbl0 : Below w.heap.size w w' := ((((Below.refl _ w).alloc (Nat.le_refl _) _).alloc (by simp) _)).trans (hbl.mono (by simp <;> omega))
  have bM : Boxed w' w.heap.size 3 (.int .i64 most) := (hbl.block _ (by simp <;> omega)).trans ((Boxed.new w 3 (.int .i64 most)).alloc _)
  have bO : Boxed w' (w.heap.size + 1) 28 (.slice none 0 0) := by
    have := Boxed.new (w.alloc (.cells #[.int .i64 most] 3)) 28 (.slice none 0 0)
    rw [World.size_alloc] at this
    exact (hbl.block _ (by simp)).trans this
  have hst := HS.out w' (w.heap.size + 1 + 1) (n - 1) hbl0 (by simpa using hsb)
  clear HS hsb hbl hko hsz
  refine wpIn_rangeFunc_ownG hro h1 (gf := 39) (lb := scanLb (w.heap.size + 1 + 1)) rfl trivial (enters_of Try.func39 (by kernel_rfl) rfl)
    hst belowK_t (belowK_b (by omega)) (Below.refl _ _) (fun _ => rfl)
    (fun pre W => (Boxed W w.heap.size 3 (.int .i64 most) ∧ (∃ v, Boxed W (w.heap.size + 1) 28 v ∧ W.ownsRow w.heap.size 59 2 v pre.length (prv pre) ∧ True)) ∧ Below w.heap.size w W)
    (fun _ _ _ => False)
    (OwnFrom.and (Own.from (fun s X Y row hs hg hr => ⟨boxed_own (β := List (Bs × Bs)) w.heap.size 3 (fun _ => .int .i64 most) s X Y row hs.1 hg hr, holdsRow_own (β := List (Bs × Bs)) w.heap.size (w.heap.size + 1) 28 59 2 (fun pre => pre.length) prv (fun _ _ => True) s X Y row hs.2 hg hr⟩) _) (ownFrom_below (Nat.le_refl _) (by omega)))
    (fun _ _ _ _ _ hs _ _ => hs)
    ⟨⟨bM, _, bO, World.ownsRow_nil _ _ _ _, trivial⟩, hbl0⟩
    (fun x => { tmps := #[.pointer tp, .string lo, .string hi, .bool back, .int .i64 most, undef, undef, undef, undef, .pointer (some ⟨w.heap.size, 0, none⟩), .slice none 0 0, .pointer (some ⟨w.heap.size + 1, 0, none⟩), .func (.func 39) #[] (scanLb (w.heap.size + 1 + 1)), .string x.1, .string x.2, .pointer tp, .string lo, .string hi, .bool back, .func (.func 39) #[] (scanLb (w.heap.size + 1 + 1)), .func (.func 39) #[] (scanLb (w.heap.size + 1 + 1)), .bool false, .func (.func 39) #[] (scanLb (w.heap.size + 1 + 1)), .string x.1, .string x.2, undef, undef, undef, undef, undef, undef, undef, undef, undef, undef, undef], defers := [] }) ?assign ?body ?done ?stop
  case assign =>
    intro l x W K hK
    gi_wp2
    exact hK
  case body =>
    rintro l pre x W ⟨⟨hm, v, hv, hrow, _⟩, hB⟩ hlt
    have hc := hv.cell
    have hcm := hm.cell
    have hge : decide (most ≤ (pre.length : Int)) = false := decide_eq_false (by omega)
    have hl63 : pre.length ≤ 1000 := by omega
    obtain ⟨va, vc, rfl⟩ : ∃ a c, v = .slice a pre.length c := by
      rcases hrow.2 with ⟨rfl, h0⟩ | ⟨g, cap, cur, rfl, _⟩
      · exact ⟨none, 0, by rw [h0]⟩
      · exact ⟨_, _, rfl⟩
    gi_wp2_with (gi_at_builtin; refine wpListIn_append_own _ rfl _ _ 28 rfl w.heap.size 59 i0 (.agg #[.string ⟨#[]⟩, .string ⟨#[]⟩]) 2 32 Try.underlying28 hi0 hz0 hz1 hz2 rfl (by decide) _ _ _ rfl (hrow.alloc _) ⟨W.heap.size, 0, none⟩ 1 1 [.string x.1, .string x.2] rfl rfl (cell_two_new _ _ _ _) (by simp [Value.oneCell']) (by unfold maxLen; omega) (by omega) (by have := hB.size; simp; omega) ?_; intro v' w1 hown' hgrow _; obtain ⟨g', cap', rfl⟩ := ownsRow_succ hown'; obtain ⟨hv1, hv2, hr2, hk2, hb2⟩ := hv.appended (by decide) hrow hB.size (by omega) hown' hgrow; have hc1 := hv1.cell; have hf1 := hv1.frozen)
    have hm1 := ((hm.alloc (.cells #[.string x.1, .string x.2] 59)).kept hgrow (hm.not_row (by decide) hrow)).other (B' := w.heap.size + 1) (by omega) (.slice (some ⟨g', 0, none⟩) (pre.length + 1) cap')
    refine ⟨hk2.from _, hb2, ⟨hm1, _, hv2, ?_, trivial⟩, hB.trans hb2⟩
    rw [prv_snoc, List.length_append]
    exact hr2
  case done =>
    rintro D ys W hD rfl ⟨⟨_, v, hv, hrow, _⟩, hB⟩ hK
    have hc := hv.cell
    gi_wp2
    refine ⟨by simp, .inl ⟨_, _, rfl, run_takeDeferred hK, ?_⟩⟩
    exact ⟨_, results_tmp rfl _ _ _, v, rfl, ownsRow_putObj hrow _ hK rfl, hB.trans (belowK_b (w := w) (Nat.le_refl _) W D _ _ (by omega) hK rfl rfl)⟩
  case stop =>
    rintro D c pre W _ _ h _
    exact h.elim
end Go.Proofs.Ytegljepgncicjaa
/- Btree: the reference's Same on two lists of two pairs. -/
namespace Go.Proofs.Ytegljepgncicjaa
open Go.ChangeShapes Go.WideShapes Go.ChangeAt Go.RowKit Go.Deep Go.Shelf
set_option linter.unusedVariables false
set_option linter.unusedSimpArgs false
set_option maxRecDepth 100000 in
set_option maxHeartbeats 1600000 in
theorem same_2 (g h c d : Nat) (a0 a1 a2 a3 : Bs) (W : World)
    (g0 : W.cell? ⟨g, 0, none⟩ = some (.string a0)) (g1 : W.cell? ⟨g, 1, none⟩ = some (.string a1)) (g2 : W.cell? ⟨g, 2, none⟩ = some (.string a2)) (g3 : W.cell? ⟨g, 3, none⟩ = some (.string a3))
    (h0 : W.cell? ⟨h, 0, none⟩ = some (.string a0)) (h1 : W.cell? ⟨h, 1, none⟩ = some (.string a1)) (h2 : W.cell? ⟨h, 2, none⟩ = some (.string a2)) (h3 : W.cell? ⟨h, 3, none⟩ = some (.string a3)) :
    Calls Try.prog 18 #[.slice (some ⟨g, 0, none⟩) 2 c, .slice (some ⟨h, 0, none⟩) 2 d] W fun e W' => e = .returned (.bool true) ∧ ∃ q, W' = W.drewN q := by
  go_enter Try.func18, Try.ntmps18
  go_wp2_with fail
  refine wp_loop_rounds 3 ?_
  rw [rounds_succ]
  go_wp2_with fail
  go_quiet (fail)
  go_wp2_with fail
  rw [rounds_succ]
  go_wp2_with fail
  go_quiet (fail)
  go_wp2_with fail
  rw [rounds_succ]
  go_wp2_with fail
  go_ret
  exact ⟨rfl, _, rfl⟩
end Go.Proofs.Ytegljepgncicjaa
/- Btree: awake returns true and changes nothing that lay. -/
namespace Go.Proofs.Ytegljepgncicjaa
open Go.ChangeShapes Go.WideShapes Go.ChangeAt Go.RowKit Go.Deep Go.Shelf
set_option linter.unusedVariables false
set_option linter.unusedSimpArgs false
abbrev sa : Bs := ⟨#[97]⟩
abbrev sb : Bs := ⟨#[98]⟩
abbrev sc : Bs := ⟨#[99]⟩
abbrev s0 : Bs := ⟨#[48]⟩
abbrev s1 : Bs := ⟨#[49]⟩
abbrev s2 : Bs := ⟨#[50]⟩
abbrev s3 : Bs := ⟨#[51]⟩
theorem f1i : bsI [sb] sb = 0 := by simp [bsI, sx, ByteArray.toList_eq, Lib.bsGo, Op.bytesLess]
theorem f1f : bsF [sb] sb = true := by unfold bsF; rw [f1i]; rfl
theorem f2i : bsI [sb] sa = 0 := by simp [bsI, sx, ByteArray.toList_eq, Lib.bsGo, Op.bytesLess]
theorem f2f : bsF [sb] sa = false := by unfold bsF; rw [f2i]; decide
theorem f3i : bsI [sa, sb] sc = 2 := by simp [bsI, sx, ByteArray.toList_eq, Lib.bsGo, Op.bytesLess]
theorem f3f : bsF [sa, sb] sc = false := by unfold bsF; rw [f3i]; decide
theorem f4i : bsI [sa, sb, sc] sb = 1 := by simp [bsI, sx, ByteArray.toList_eq, Lib.bsGo, Op.bytesLess]
theorem f4f : bsF [sa, sb, sc] sb = true := by unfold bsF; rw [f4i]; rfl
theorem f5i : bsI [sa, sc] sb = 1 := by simp [bsI, sx, ByteArray.toList_eq, Lib.bsGo, Op.bytesLess]
theorem f5f : bsF [sa, sc] sb = false := by unfold bsF; rw [f5i]; decide
theorem lab : Op.bytesLess sa.toList sb.toList = true := by simp [ByteArray.toList_eq, Op.bytesLess]
theorem lbc : Op.bytesLess sb.toList sc.toList = true := by simp [ByteArray.toList_eq, Op.bytesLess]
theorem lbb : Op.bytesLess sb.toList sb.toList = false := by simp [ByteArray.toList_eq, Op.bytesLess]
theorem lcb : Op.bytesLess sc.toList sb.toList = false := by simp [ByteArray.toList_eq, Op.bytesLess]
theorem kept_below {W W' : World} (h : Below W.heap.size W W') : Kept (fun _ => False) W W' := ⟨h.os, h.tape, h.output, h.size, fun k hk _ => h.block k hk⟩
/-- the tree, and what lay -/
def TW (B T : Nat) (o sz : Int) (ks vs : List Bs) (w0 W : World) : Prop := (∃ N kv vv, TreeAt B W T N o sz kv vv ks vs) ∧ Below B w0 W
theorem TW.size {B T : Nat} {o sz : Int} {ks vs : List Bs} {w0 W : World} (h : TW B T o sz ks vs w0 W) (hB : B ≤ w0.heap.size) : B ≤ W.heap.size := Nat.le_trans hB h.2.size
theorem TW.kept {B T : Nat} {o sz : Int} {ks vs : List Bs} {w0 W W' : World} (h : TW B T o sz ks vs w0 W) (hB : B ≤ w0.heap.size) (hk : Kept (fun _ => False) W W') : TW B T o sz ks vs w0 W' := by
  obtain ⟨⟨N, kv, vv, hA⟩, hb⟩ := h
  exact ⟨⟨N, kv, vv, hA.kept hk (fun _ _ h => h)⟩, hb.trans (hk.below (Nat.le_trans hB hb.size) (fun _ h => h.elim))⟩
def PutTo (B T : Nat) (o sz : Int) (r : Bool) (ks vs : List Bs) (w0 : World) (e : Ending) (W' : World) : Prop := e = .returned (.bool r) ∧ TW B T o sz ks vs w0 W'
theorem TOut.to {B T : Nat} {o sz : Int} {r : Bool} {ks vs : List Bs} {w0 W W' : World} {e : Ending} (h : TOut B T o sz r ks vs W e W') (hb : Below B w0 W) : PutTo B T o sz r ks vs w0 e W' :=
  ⟨h.1, h.2.1, hb.trans h.2.2.1⟩
theorem p1 (B T : Nat) (w0 W : World) (hE : Box W T [.int .i64 4, .int .i64 0, .pointer none]) (hT : B ≤ T) (hb : Below B w0 W) (hB : B ≤ w0.heap.size) :
    Calls Try.prog 20 #[.pointer (some ⟨T, 0, none⟩), .string sb, .string s1] W (PutTo B T 4 1 true [sb] [s1] w0) :=
  (Put_any B T 4 1 true [sb] [s1] sb s1 W (tput_empty B T 4 sb s1 W hE hT (Nat.le_trans hB hb.size) (by decide) (by decide))).mono fun _ _ h => h.to hb
theorem p2 (B T : Nat) (w0 W : World) (h : TW B T 4 1 [sb] [s1] w0 W) (hB : B ≤ w0.heap.size) :
    Calls Try.prog 20 #[.pointer (some ⟨T, 0, none⟩), .string sb, .string s2] W (PutTo B T 4 1 false [sb] [s2] w0) := by
  obtain ⟨⟨N, kv, vv, hA⟩, hb⟩ := h
  exact (Put_any B T 4 1 false [sb] [s2] sb s2 W (tput_old B T N 4 1 kv vv [sb] [s1] sb s2 0 W hA (Nat.le_trans hB hb.size) (by decide) f1i f1f)).mono fun _ _ h => h.to hb
theorem p3 (B T : Nat) (w0 W : World) (h : TW B T 4 1 [sb] [s2] w0 W) (hB : B ≤ w0.heap.size) :
    Calls Try.prog 20 #[.pointer (some ⟨T, 0, none⟩), .string sa, .string s0] W (PutTo B T 4 2 true [sa, sb] [s0, s2] w0) := by
  obtain ⟨⟨N, kv, vv, hA⟩, hb⟩ := h
  exact (Put_any B T 4 2 true [sa, sb] [s0, s2] sa s0 W (tput_new B T N 4 1 kv vv [sb] [s2] sa s0 0 W hA (Nat.le_trans hB hb.size) (by decide) (by decide) (by decide) (by decide) f2i (by decide) f2f)).mono fun _ _ h => h.to hb
theorem p4 (B T : Nat) (w0 W : World) (h : TW B T 4 2 [sa, sb] [s0, s2] w0 W) (hB : B ≤ w0.heap.size) :
    Calls Try.prog 20 #[.pointer (some ⟨T, 0, none⟩), .string sc, .string s3] W (PutTo B T 4 3 true [sa, sb, sc] [s0, s2, s3] w0) := by
  obtain ⟨⟨N, kv, vv, hA⟩, hb⟩ := h
  exact (Put_any B T 4 3 true [sa, sb, sc] [s0, s2, s3] sc s3 W (tput_new B T N 4 2 kv vv [sa, sb] [s0, s2] sc s3 2 W hA (Nat.le_trans hB hb.size) (by decide) (by decide) (by decide) (by decide) f3i (by decide) f3f)).mono fun _ _ h => h.to hb
theorem p5 (B T : Nat) (w0 W : World) (h : TW B T 4 3 [sa, sb, sc] [s0, s2, s3] w0 W) (hB : B ≤ w0.heap.size) :
    Calls Try.prog 24 #[.pointer (some ⟨T, 0, none⟩), .string sb] W fun e W' => e = .returned (.tuple #[.string s2, .bool true]) ∧ TW B T 4 3 [sa, sb, sc] [s0, s2, s3] w0 W' := by
  obtain ⟨⟨N, kv, vv, hA⟩, hb⟩ := h
  exact (Get_found B T N 4 3 kv vv [sa, sb, sc] [s0, s2, s3] sb 1 W hA (by decide) f4i f4f).mono fun _ _ ⟨he, q, hq⟩ => ⟨he, by subst hq; exact ⟨⟨N, kv, vv, hA.drewN q⟩, below_drewN'' hb q⟩⟩
theorem p6 (B T : Nat) (w0 W : World) (h : TW B T 4 3 [sa, sb, sc] [s0, s2, s3] w0 W) :
    Calls Try.prog 13 #[.pointer (some ⟨T, 0, none⟩)] W fun e W' => e = .returned (.int .i64 3) ∧ W' = W := by
  obtain ⟨⟨N, kv, vv, hA⟩, hb⟩ := h
  exact Len_at B T N 4 3 kv vv _ _ W hA
theorem p7 (B T : Nat) (w0 W : World) (h : TW B T 4 3 [sa, sb, sc] [s0, s2, s3] w0 W) :
    Calls Try.prog 23 #[.pointer (some ⟨T, 0, none⟩)] W fun e W' => e = .returned (.int .i64 1) ∧ W' = W := by
  obtain ⟨⟨N, kv, vv, hA⟩, hb⟩ := h
  exact Height_of T 1 W (height_at B T N 4 3 kv vv _ _ W hA)
theorem p8 (B T : Nat) (w0 W : World) (h : TW B T 4 3 [sa, sb, sc] [s0, s2, s3] w0 W) (hB : B ≤ w0.heap.size) :
    Calls Try.prog 15 #[.pointer (some ⟨T, 0, none⟩)] W (PutTo B T 4 3 true [sa, sb, sc] [s0, s2, s3] w0) := by
  have hs := h.size hB
  obtain ⟨⟨N, kv, vv, hA⟩, hb⟩ := h
  exact (Check_3 B T N 4 kv vv sa sb sc [s0, s2, s3] W hA (by decide) (by decide) hs lab lbc).mono fun _ _ ⟨he, hA', hk⟩ => ⟨he, ⟨N, kv, vv, hA'⟩, hb.trans (hk.below hs (fun _ h => h.elim))⟩
theorem rowS_cells {B : Nat} {W : World} {v : Value} {xs : List Bs} (h : RowS B W v xs) (h0 : 0 < xs.length) : ∃ g c, v = .slice (some ⟨g, 0, none⟩) xs.length c ∧ g < W.heap.size ∧ ∀ j, j < xs.length → W.cell? ⟨g, j, none⟩ = (xs[j]?).map .string := by
  rcases h with ⟨rfl, rfl⟩ | ⟨g, c, rfl, _, _, _, _, hR, hc⟩
  · exact absurd h0 (by simp)
  · exact ⟨g, c, rfl, hR.lt, hc⟩
theorem p9 (B T : Nat) (w0 W : World) (h : TW B T 4 3 [sa, sb, sc] [s0, s2, s3] w0 W) (hB : B ≤ w0.heap.size) :
    Calls Try.prog 19 #[.pointer (some ⟨T, 0, none⟩), .string sb, .string ByteArray.empty, .bool true, .int .i64 9] W fun e W' => ∃ g c, e = .returned (.slice (some ⟨g, 0, none⟩) 2 c) ∧ TW B T 4 3 [sa, sb, sc] [s0, s2, s3] w0 W' ∧
      g < W'.heap.size ∧ W'.cell? ⟨g, 0, none⟩ = some (.string sc) ∧ W'.cell? ⟨g, 1, none⟩ = some (.string s3) ∧ W'.cell? ⟨g, 2, none⟩ = some (.string sb) ∧ W'.cell? ⟨g, 3, none⟩ = some (.string s2) := by
  have H := Lib.hid h
  obtain ⟨⟨N, kv, vv, hA⟩, hb⟩ := h
  refine (callsIn_wide.1 (pairs_in 1 (some ⟨T, 0, none⟩) sb ByteArray.empty true 9 [(sc, s3), (sb, s2)] W (by decide) (by decide) (by decide) ?_)).mono ?_
  · intro W1 b m hW1 hsb
    obtain ⟨kg, kc, rfl, hkg, hk⟩ := rowS_cells hA.leaf.rk (by simp)
    obtain ⟨vg, vc, rfl, hvg, hv⟩ := rowS_cells hA.leaf.rv (by simp)
    have hN := hA.leaf.box.lt
    have hD : D3 W.heap.size N sa sb sc s0 s2 s3 W kg vg kc vc := ⟨hN, hkg, hvg, hA.leaf.box.cell 0 _ rfl, hA.leaf.box.cell 1 _ rfl, hA.leaf.box.cell 2 _ rfl, hk 0 (by decide), hk 1 (by decide), hk 2 (by decide), hv 0 (by decide), hv 1 (by decide), hv 2 (by decide)⟩
    exact stops_3 W.heap.size m b N T sb sa sb sc s0 s2 s3 W1 hsb lab lbb lcb kg vg kc vc (hD.below hW1) hW1.size hA.box.lt ((hW1.cell (p := ⟨T, 2, none⟩) hA.box.lt).trans (hA.box.cell 2 _ rfl))
  · rintro e W' ⟨v, rfl, hr, hbl⟩
    obtain ⟨g, c, rfl⟩ := ownsRow_succ hr
    refine ⟨g, c, rfl, H.out.kept hB (kept_below hbl), (hr.lt g rfl).2, ?_, ?_, ?_, ?_⟩
    · exact hr.cellAt 0 (by decide)
    · exact hr.cellAt 1 (by decide)
    · exact hr.cellAt 2 (by decide)
    · exact hr.cellAt 3 (by decide)
theorem p10 (B T : Nat) (w0 W : World) (h : TW B T 4 3 [sa, sb, sc] [s0, s2, s3] w0 W) (hB : B ≤ w0.heap.size) :
    Calls Try.prog 22 #[.pointer (some ⟨T, 0, none⟩), .string sb] W (PutTo B T 4 2 true [sa, sc] [s0, s3] w0) := by
  have hs := h.size hB
  obtain ⟨⟨N, kv, vv, hA⟩, hb⟩ := h
  exact (Del_any B T 4 2 true [sa, sc] [s0, s3] sb W (trem_any B T N 4 3 kv vv [sa, sb, sc] [s0, s2, s3] sb 1 W hA hs (by decide) (by decide) (by decide) (by decide) (by decide) (by decide) f4i f4f)).mono fun _ _ h => h.to hb
theorem p11 (B T : Nat) (w0 W : World) (h : TW B T 4 2 [sa, sc] [s0, s3] w0 W) (hB : B ≤ w0.heap.size) :
    Calls Try.prog 22 #[.pointer (some ⟨T, 0, none⟩), .string sb] W (PutTo B T 4 2 false [sa, sc] [s0, s3] w0) := by
  have hs := h.size hB
  obtain ⟨⟨N, kv, vv, hA⟩, hb⟩ := h
  exact (Del_any B T 4 2 false [sa, sc] [s0, s3] sb W (trem_not B T N 4 2 kv vv [sa, sc] [s0, s3] sb 1 W hA hs (by decide) (by decide) (by decide) f5i f5f)).mono fun _ _ h => h.to hb
end Go.Proofs.Ytegljepgncicjaa
/- Btree: awake. -/
namespace Go.Proofs.Ytegljepgncicjaa
open Go.ChangeShapes Go.WideShapes Go.ChangeAt Go.RowKit Go.Deep Go.Shelf
set_option linter.unusedVariables false
set_option linter.unusedSimpArgs false
theorem ca {W : World} {ob : Obj} {g j : Nat} {v : Value} (hg : g < W.heap.size) (h : W.cell? ⟨g, j, none⟩ = some v) : (W.alloc ob).cell? ⟨g, j, none⟩ = some v :=
  (World.cell?_of_block (a := ⟨g, j, none⟩) (((Kept.refl (fun _ => False) W).alloc ob).block g hg (fun h => h))).trans h
theorem cn (W : World) (arr : Array Value) (t : TypeId) (j : Nat) : (W.alloc (.cells arr t)).cell? ⟨W.heap.size, j, none⟩ = arr[j]? := by
  unfold World.cell?
  rw [heap_new]
  rfl
def AwakeOut (w0 : World) (e : Ending) (W' : World) : Prop := e = .returned (.bool true) ∧ Below w0.heap.size w0 W'
set_option maxRecDepth 100000 in
set_option maxHeartbeats 3200000 in
theorem awake_any (w0 : World) : Calls Try.prog 9 #[] w0 (AwakeOut w0) := by
  obtain ⟨T, hT⟩ : ∃ T, T = w0.heap.size := ⟨_, rfl⟩
  obtain ⟨B, hB⟩ : ∃ B, B = w0.heap.size := ⟨_, rfl⟩
  have hBw : B ≤ w0.heap.size := Nat.le_of_eq hB
  have HBw := Lib.hid hBw
  have HB := Lib.hid hB
  have HBT := Lib.hid (show B ≤ T by omega)
  have HX := Lib.hid (show Box (w0.alloc (.cells #[.int .i64 4, .int .i64 0, .pointer none] 68)) T [.int .i64 4, .int .i64 0, .pointer none] ∧ Below B w0 (w0.alloc (.cells #[.int .i64 4, .int .i64 0, .pointer none] 68)) by
    subst hT; subst hB
    exact ⟨Box.new w0 [.int .i64 4, .int .i64 0, .pointer none] 68, (Below.refl _ w0).alloc (Nat.le_refl _) _⟩)
  have hT2 := Lib.hid hT
  clear hBw hB
  go_enter Try.func9, Try.ntmps9
  go_wp2_with fail
  refine (New_4 _).mono ?_
  rintro e w1 ⟨rfl, rfl⟩
  rw [← hT]
  clear hT
  generalize w0.alloc (.cells #[.int .i64 4, .int .i64 0, .pointer none] 68) = W1 at *
  go_wp2_with fail
  refine (New_3 _).mono ?_
  rintro e w1 ⟨rfl, hw⟩
  obtain rfl := hw.symm
  go_wp2_with fail
  refine (Height_of T 0 W1 (height_0 T 4 0 W1 HX.out.1)).mono ?_
  rintro e w1 ⟨rfl, hw⟩
  obtain rfl := hw.symm
  go_wp2_with fail
  refine (p1 B T w0 W1 HX.out.1 HBT.out HX.out.2 HBw.out).mono ?_
  rintro e W2 ⟨rfl, h2⟩
  have H2 := Lib.hid h2
  clear h2 HX
  go_wp2_with fail
  refine (p2 B T w0 W2 H2.out HBw.out).mono ?_
  rintro e W3 ⟨rfl, h3⟩
  have H3 := Lib.hid h3
  clear h3 H2
  go_wp2_with fail
  refine (p3 B T w0 W3 H3.out HBw.out).mono ?_
  rintro e W4 ⟨rfl, h4⟩
  have H4 := Lib.hid h4
  clear h4 H3
  go_wp2_with fail
  refine (p4 B T w0 W4 H4.out HBw.out).mono ?_
  rintro e W5 ⟨rfl, h5⟩
  have H5 := Lib.hid h5
  clear h5 H4
  go_wp2_with fail
  refine (p5 B T w0 W5 H5.out HBw.out).mono ?_
  rintro e W6 ⟨rfl, h6⟩
  have H6 := Lib.hid h6
  clear h6 H5
  go_wp2_with fail
  refine (p6 B T w0 W6 H6.out).mono ?_
  rintro e w1 ⟨rfl, hw⟩
  obtain rfl := hw.symm
  go_wp2_with fail
  refine (p7 B T w0 _ H6.out).mono ?_
  rintro e w1 ⟨rfl, hw⟩
  obtain rfl := hw.symm
  go_wp2_with fail
  refine (p8 B T w0 _ H6.out HBw.out).mono ?_
  rintro e W7 ⟨rfl, h7⟩
  have H7 := Lib.hid h7
  clear h7 H6
  go_wp2_with fail
  refine (p9 B T w0 W7 H7.out HBw.out).mono ?_
  rintro e W8 ⟨g, c, rfl, h8, hg, g0, g1, g2, g3⟩
  have H8 := Lib.hid h8
  have hgn : g ≠ W8.heap.size := Nat.ne_of_lt hg
  clear h8 H7
  go_wp2_with fail
  refine (same_2 g W8.heap.size c 2 sc s3 sb s2 _ (ca hg g0) (ca hg g1) (ca hg g2) (ca hg g3) (cn _ _ _ 0) (cn _ _ _ 1) (cn _ _ _ 2) (cn _ _ _ 3)).mono ?_
  rintro e w9 ⟨rfl, q, hq⟩
  have h9 : TW B T 4 3 [sa, sb, sc] [s0, s2, s3] w0 w9 := by
    rw [hq]
    exact H8.out.kept HBw.out (((Kept.refl _ _).alloc _).drewN q)
  have H9 := Lib.hid h9
  clear h9 hq H8 g0 g1 g2 g3 hg hgn
  go_wp2_with fail
  refine (p10 B T w0 w9 H9.out HBw.out).mono ?_
  rintro e W10 ⟨rfl, h10⟩
  have H10 := Lib.hid h10
  clear h10 H9
  go_wp2_with fail
  refine (p11 B T w0 W10 H10.out HBw.out).mono ?_
  rintro e W11 ⟨rfl, h11⟩
  have H11 := Lib.hid h11
  clear h11 H10
  go_wp2_with fail
  go_ret
  refine ⟨rfl, ?_⟩
  rw [← HB.out]
  exact H11.out.2
end Go.Proofs.Ytegljepgncicjaa
/- Btree: the calls of a nil tree; the law Nil. -/
namespace Go.Proofs.Ytegljepgncicjaa
open Go.ChangeShapes Go.WideShapes Go.ChangeAt Go.RowKit Go.Deep Go.Shelf
set_option linter.unusedVariables false
set_option linter.unusedSimpArgs false
theorem Get_nil (k : Bs) (w : World) : Calls Try.prog 24 #[.pointer none, .string k] w fun e w' => e = .returned (.tuple #[.string ByteArray.empty, .bool false]) ∧ w' = w := by
  go_enter Try.func24, Try.ntmps24
  go_wp2_with fail
  go_ret2
  exact ⟨rfl, rfl⟩
theorem Put_nil (k v : Bs) (w : World) : Calls Try.prog 20 #[.pointer none, .string k, .string v] w fun e w' => e = .returned (.bool false) ∧ w' = w := by
  go_enter Try.func20, Try.ntmps20
  go_wp2_with fail
  go_ret
  exact ⟨rfl, rfl⟩
theorem Del_nil (k : Bs) (w : World) : Calls Try.prog 22 #[.pointer none, .string k] w fun e w' => e = .returned (.bool false) ∧ w' = w := by
  go_enter Try.func22, Try.ntmps22
  go_wp2_with fail
  go_ret
  exact ⟨rfl, rfl⟩
theorem Len_nil (w : World) : Calls Try.prog 13 #[.pointer none] w fun e w' => e = .returned (.int .i64 0) ∧ w' = w := by
  go_enter Try.func13, Try.ntmps13
  go_wp2_with fail
  go_ret
  exact ⟨rfl, rfl⟩
theorem Height_nil (w : World) : Calls Try.prog 23 #[.pointer none] w fun e w' => e = .returned (.int .i64 0) ∧ w' = w := by
  go_enter Try.func23, Try.ntmps23
  go_wp2_with fail
  go_ret
  exact ⟨rfl, rfl⟩
theorem Check_nil (w : World) : Calls Try.prog 15 #[.pointer none] w fun e w' => e = .returned (.bool false) ∧ w' = w := by
  go_enter Try.func15, Try.ntmps15
  go_wp2_with fail
  go_ret
  exact ⟨rfl, rfl⟩
theorem Clone_nil (w : World) : Calls Try.prog 25 #[.pointer none] w fun e w' => e = .returned (.pointer none) ∧ w' = w := by
  go_enter Try.func25, Try.ntmps25
  go_wp2_with fail
  go_ret
  exact ⟨rfl, rfl⟩
theorem pairs_nil (lo hi : Bs) (b : Bool) (w : World) : Calls Try.prog 19 #[.pointer none, .string lo, .string hi, .bool b, .int .i64 9] w fun e w' => (∃ g c, e = .returned (.slice g 0 c)) ∧ Below w.heap.size w w' := by
  refine (callsIn_wide.1 (pairs_in 1 none lo hi b 9 [] w (by decide) (by decide) (by decide) ?_)).mono ?_
  · intro W1 bb m hW1 hsb
    exact stops_nil w.heap.size m bb lo hi b W1 hsb
  · rintro e W' ⟨v, rfl, hr, hbl⟩
    refine ⟨?_, hbl⟩
    rcases hr.2 with ⟨rfl, _⟩ | ⟨g, cap, cur, rfl, _⟩
    · exact ⟨none, 0, rfl⟩
    · exact ⟨_, _, rfl⟩
def LawOut (w0 : World) (e : Ending) (W' : World) : Prop := e = .returned (.bool true) ∧ Below w0.heap.size w0 W'
set_option maxRecDepth 100000 in
set_option maxHeartbeats 3200000 in
theorem law_nil (kind : Int) (key val : Bs) (w : World) : Calls Try.prog 8 #[.agg #[.int .i64 kind, .string key, .string val]] w (LawOut w) := by
  have HBX := Lib.hid (Box.new w [.int .i64 kind, .string key, .string val] 36)
  have HBL := Lib.hid ((Below.refl w.heap.size w).alloc (Nat.le_refl _) (.cells #[.int .i64 kind, .string key, .string val] 36))
  go_enter Try.func8, Try.ntmps8
  go_wp2_with fail
  refine (Get_nil _ _).mono ?_
  rintro e w1 ⟨rfl, hw⟩
  obtain rfl := hw.symm
  go_wp2_with fail
  refine (Put_nil _ _ _).mono ?_
  rintro e w1 ⟨rfl, hw⟩
  obtain rfl := hw.symm
  go_wp2_with fail
  refine (Del_nil _ _).mono ?_
  rintro e w1 ⟨rfl, hw⟩
  obtain rfl := hw.symm
  go_wp2_with fail
  refine (Len_nil _).mono ?_
  rintro e w1 ⟨rfl, hw⟩
  obtain rfl := hw.symm
  go_wp2_with fail
  refine (Height_nil _).mono ?_
  rintro e w1 ⟨rfl, hw⟩
  obtain rfl := hw.symm
  go_wp2_with fail
  refine (Check_nil _).mono ?_
  rintro e w1 ⟨rfl, hw⟩
  obtain rfl := hw.symm
  go_wp2_with fail
  refine (Clone_nil _).mono ?_
  rintro e w1 ⟨rfl, hw⟩
  obtain rfl := hw.symm
  go_wp2_with fail
  refine (pairs_nil _ _ _ _).mono ?_
  rintro e w2 ⟨⟨g, c, rfl⟩, hb⟩
  have HB2 := Lib.hid (HBL.out.trans (hb.mono (by simp)))
  clear hb HBL HBX
  go_wp2_with fail
  refine (awake_any w2).mono ?_
  rintro e w3 ⟨rfl, hb⟩
  have HB3 := Lib.hid (HB2.out.trans (hb.mono HB2.out.size))
  clear hb HB2
  go_wp2_with fail
  go_ret
  exact ⟨rfl, HB3.out⟩
end Go.Proofs.Ytegljepgncicjaa
/- Btree, general trees: rows of cells of any type; the heap of nodes (Hp). -/
namespace Go.Proofs.Ytegljepgncicjaa
open Go.ChangeShapes Go.WideShapes Go.ChangeAt Go.RowKit Go.Deep
set_option linter.unusedVariables false
set_option linter.unusedSimpArgs false
structure RowT (T : Nat) (W : World) (g c : Nat) : Prop where
  sh : W.shape? g = some (T, c)
  fr : ∀ j, W.frozen? ⟨g, j, none⟩ = false
  th : ∀ j, j < c → (W.cell? ⟨g, j, none⟩).isSome = true
theorem RowT.lt {T : Nat} {W : World} {g c : Nat} (h : RowT T W g c) : g < W.heap.size := by
  rcases Nat.lt_or_ge g W.heap.size with h2 | h2
  · exact h2
  · have := h.sh
    simp [World.shape?, Array.getElem?_eq_none h2] at this
theorem RowT.same {T : Nat} {W W' : World} {g c : Nat} (h : RowT T W g c) (e : W'.heap[g]? = W.heap[g]?) : RowT T W' g c :=
  ⟨by have := h.sh; unfold World.shape? at *; rw [e]; exact this, fun j => (World.frozen?_of_block (a := ⟨g, j, none⟩) e).trans (h.fr j), fun j hj => by rw [World.cell?_of_block (a := ⟨g, j, none⟩) e]; exact h.th j hj⟩
theorem RowT.set {T : Nat} {W : World} {g c : Nat} (h : RowT T W g c) (o : Nat) (vs : List Value) : RowT T (W.setCells g o vs) g c :=
  ⟨(shape_setCells g vs o W g).trans h.sh, fun j => (World.frozen?_setCells g vs o W _).trans (h.fr j), fun j hj => World.isSome_setCells g vs o W _ (h.th j hj)⟩
theorem RowT.at {T : Nat} {W : World} {g c : Nat} (h : RowT T W g c) (o : Nat) (vs : List Value) (ho : o + vs.length ≤ c) (j : Nat) : (W.setCells g o vs).cell? ⟨g, j, none⟩ = if o ≤ j ∧ j < o + vs.length then vs[j - o]? else W.cell? ⟨g, j, none⟩ := by
  split
  · rename_i hj
    have := World.cell?_setCells_in g vs o W (fun i hi => h.th _ (by omega)) (j - o) (by omega)
    rw [show o + (j - o) = j by omega] at this
    rw [this, List.getElem?_eq_getElem]
  · rename_i hj
    exact World.cell?_setCells_out g vs o W _ (fun _ _ => by show j < o ∨ o + vs.length ≤ j; omega)
/-- a slice of cells of one's own: nil, or the first cells of a block -/
def RowV (T B : Nat) (W : World) (v : Value) (us : List Value) : Prop :=
  (v = .slice none 0 0 ∧ us = []) ∨ ∃ g c, v = .slice (some ⟨g, 0, none⟩) us.length c ∧ B ≤ g ∧ us.length ≤ c ∧ c ≤ 9223372036854775807 ∧ RowT T W g c ∧ ∀ j, j < us.length → W.cell? ⟨g, j, none⟩ = us[j]?
theorem RowV.lt {T B : Nat} {W : World} {v : Value} {us : List Value} (h : RowV T B W v us) : ∀ k, v.ownBlock = some k → B ≤ k ∧ k < W.heap.size := by
  rcases h with ⟨rfl, _⟩ | ⟨g, c, rfl, h1, _, _, hR, _⟩
  · intro k hk; simp [Value.ownBlock] at hk
  · intro k hk
    simp [Value.ownBlock] at hk
    subst hk
    exact ⟨h1, hR.lt⟩
theorem RowV.kept {T B : Nat} {S : Nat → Prop} {W W' : World} {v : Value} {us : List Value} (h : RowV T B W v us) (hk : Kept S W W') (hS : ∀ k, v.ownBlock = some k → ¬ S k) : RowV T B W' v us := by
  rcases h with ⟨rfl, h⟩ | ⟨g, c, rfl, h1, h2, h4, hR, hc⟩
  · exact .inl ⟨rfl, h⟩
  · have e := hk.block g hR.lt (hS g rfl)
    exact .inr ⟨g, c, rfl, h1, h2, h4, hR.same e, fun j hj => (World.cell?_of_block (a := ⟨g, j, none⟩) e).trans (hc j hj)⟩
theorem RowV.len {T B : Nat} {W : World} {v : Value} {us : List Value} (h : RowV T B W v us) : ∃ a c, v = .slice a us.length c := by
  rcases h with ⟨rfl, rfl⟩ | ⟨g, c, rfl, _⟩
  · exact ⟨none, 0, rfl⟩
  · exact ⟨_, _, rfl⟩
theorem rowV_new (T : Nat) (W : World) (arr : Array Value) (c : Nat) (hc : arr.size = c) : RowT T (W.alloc (.cells arr T)) W.heap.size c := by
  have e : (W.alloc (.cells arr T)).heap[W.heap.size]? = some (.cells arr T (0, 0)) := heap_new W _
  refine ⟨by unfold World.shape?; rw [e]; rw [← hc], fun j => by unfold World.frozen?; rw [e]; simp, fun j hj => ?_⟩
  unfold World.cell?
  rw [e]
  simp
  omega
theorem rowV_of_own {T B : Nat} {W : World} {v : Value} {us : List Value} {n : Nat} (hn : n = us.length) (h : W.ownsRow B T 1 v n us) : RowV T B W v us := by
  subst hn
  rcases h.2 with ⟨rfl, h1⟩ | ⟨g, c, cur, rfl, h1, h2, h3, h4, h5, h6⟩
  · exact .inl ⟨rfl, List.eq_nil_of_length_eq_zero h1⟩
  · refine .inr ⟨g, c, rfl, h1, h3, by unfold maxLen at h4; omega, ⟨by unfold World.shape?; rw [h2]; show some (T, cur.size) = _; rw [h5, Nat.mul_one], fun j => by unfold World.frozen?; rw [h2]; simp, fun j hj => by unfold World.cell?; rw [h2]; simp [h5]; omega⟩, fun j hj => ?_⟩
    rw [h.cellAt j (by omega)]
theorem rowV_S {B : Nat} {W : World} {v : Value} {xs : List Bs} (h : RowS B W v xs) : RowV 9 B W v (strv xs) := by
  rcases h with ⟨rfl, rfl⟩ | ⟨g, c, rfl, h1, h2, h3, h4, hR, hc⟩
  · exact .inl ⟨rfl, rfl⟩
  · exact .inr ⟨g, c, by rw [strv_len], h1, by rw [strv_len]; exact h2, h4, ⟨hR.sh, hR.fr, hR.th⟩, fun j hj => by rw [strv_at]; exact hc j (by rw [strv_len] at hj; exact hj)⟩
/-- a node: its keys, its values, its kids -/
structure Nd where
  ks : List Bs
  vs : List Bs
  ns : List Nat
def ptrv (ns : List Nat) : List Value := ns.map fun n => .pointer (some ⟨n, 0, none⟩)
theorem ptrv_len (ns : List Nat) : (ptrv ns).length = ns.length := List.length_map ..
theorem ptrv_at (ns : List Nat) (j : Nat) : (ptrv ns)[j]? = (ns[j]?).map fun n => .pointer (some ⟨n, 0, none⟩) := List.getElem?_map ..
/-- the cells of a node's row -/
def Nd.row (nd : Nd) : Nat → List Value
  | 0 => strv nd.ks
  | 1 => strv nd.vs
  | _ => ptrv nd.ns
def fT : Nat → Nat
  | 0 => 9
  | 1 => 9
  | _ => 64
/-- the ghost store: the nodes, and other blocks that are left alone -/
structure Sig where
  f : Nat → Option Nd
  F : Nat → Option Obj
instance : CoeFun Sig (fun _ => Nat → Option Nd) := ⟨Sig.f⟩
def upd (σ : Sig) (N : Nat) (nd : Nd) : Sig := ⟨fun k => if k = N then some nd else σ.f k, σ.F⟩
theorem upd_k (σ : Sig) (N : Nat) (nd : Nd) (k : Nat) : upd σ N nd k = if k = N then some nd else σ k := rfl
theorem sig_ext {σ τ : Sig} (h : ∀ k, σ k = τ k) (hF : σ.F = τ.F) : σ = τ := by
  obtain ⟨f, F⟩ := σ
  obtain ⟨g, G⟩ := τ
  have : f = g := funext h
  subst this
  cases hF
  rfl
theorem upd_same (σ : Sig) (N : Nat) (nd : Nd) : upd σ N nd N = some nd := if_pos rfl
theorem upd_other (σ : Sig) {N k : Nat} (nd : Nd) (h : k ≠ N) : upd σ N nd k = σ k := if_neg h
/-- what lies in W: the nodes of σ, each with three rows of its own; every block has one owner -/
def HpW (B : Nat) (W : World) (σ : Sig) (fv : Nat → Nat → Value) (own : Nat → Nat × Nat) : Prop :=
  ∀ N nd, σ N = some nd → Box W N [fv N 0, fv N 1, fv N 2] ∧ B ≤ N ∧ own N = (N, 0) ∧ ∀ j, j < 3 → RowV (fT j) B W (fv N j) (nd.row j) ∧ ∀ g, (fv N j).ownBlock = some g → own g = (N, j + 1)
def FrW (W : World) (σ : Sig) (own : Nat → Nat × Nat) : Prop := ∀ k b, σ.F k = some b → own k = (k, 9) ∧ W.heap[k]? = some b
theorem FrW.lt {W : World} {σ : Sig} {own : Nat → Nat × Nat} (h : FrW W σ own) {k : Nat} {b : Obj} (hb : σ.F k = some b) : k < W.heap.size := (Array.getElem?_eq_some_iff.1 (h k b hb).2).1
theorem FrW.kept {S : Nat → Prop} {W W' : World} {σ σ' : Sig} {own own' : Nat → Nat × Nat} (h : FrW W σ own) (hk : Kept S W W') (hS : ∀ k, S k → own k ≠ (k, 9)) (hF : σ'.F = σ.F) (ho : ∀ k b, σ.F k = some b → own k = (k, 9) → k < W.heap.size → own' k = (k, 9)) : FrW W' σ' own' := by
  intro k b hb
  rw [hF] at hb
  obtain ⟨h1, h2⟩ := h k b hb
  exact ⟨ho k b hb h1 (h.lt hb), (hk.block k (h.lt hb) (fun hs => hS k hs h1)).trans h2⟩
def Hp (B : Nat) (W : World) (σ : Sig) : Prop := ∃ fv own, HpW B W σ fv own ∧ FrW W σ own
/-- the blocks that the nodes of σ take -/
def Takes (σ : Sig) (fv : Nat → Nat → Value) (k : Nat) : Prop := ∃ N nd, σ N = some nd ∧ (k = N ∨ ∃ j, j < 3 ∧ (fv N j).ownBlock = some k)
theorem HpW.kept {B : Nat} {S : Nat → Prop} {W W' : World} {σ : Sig} {fv : Nat → Nat → Value} {own : Nat → Nat × Nat} (h : HpW B W σ fv own) (hk : Kept S W W') (hS : ∀ k, Takes σ fv k → ¬ S k) : HpW B W' σ fv own := by
  intro N nd hN
  obtain ⟨hb, hB, ho, hr⟩ := h N nd hN
  exact ⟨hb.kept hk (hS _ ⟨N, nd, hN, .inl rfl⟩), hB, ho, fun j hj => ⟨(hr j hj).1.kept hk (fun k e => hS k ⟨N, nd, hN, .inr ⟨j, hj, e⟩⟩), (hr j hj).2⟩⟩
theorem Hp.kept {B : Nat} {W W' : World} {σ : Sig} (h : Hp B W σ) (hk : Kept (fun _ => False) W W') : Hp B W' σ := by
  obtain ⟨fv, own, h, hF⟩ := h
  exact ⟨fv, own, h.kept hk (fun _ _ h => h), hF.kept hk (fun _ h => h.elim) rfl (fun _ _ _ h _ => h)⟩
theorem Hp.drewN {B : Nat} {W : World} {σ : Sig} (h : Hp B W σ) (q : Nat) : Hp B (W.drewN q) σ := h.kept ((Kept.refl _ W).drewN q)
theorem Hp.lt {B : Nat} {W : World} {σ : Sig} (h : Hp B W σ) {N : Nat} {nd : Nd} (hN : σ N = some nd) : B ≤ N ∧ N < W.heap.size := by
  obtain ⟨fv, own, h, hF⟩ := h
  obtain ⟨hb, hB, _⟩ := h N nd hN
  exact ⟨hB, hb.lt⟩
/-- what is read of a node -/
structure NodeAt (B : Nat) (W : World) (N : Nat) (nd : Nd) (kv vv dv : Value) : Prop where
  c0 : W.cell? ⟨N, 0, none⟩ = some kv
  c1 : W.cell? ⟨N, 1, none⟩ = some vv
  c2 : W.cell? ⟨N, 2, none⟩ = some dv
  f0 : W.frozen? ⟨N, 0, none⟩ = false
  f1 : W.frozen? ⟨N, 1, none⟩ = false
  f2 : W.frozen? ⟨N, 2, none⟩ = false
  r0 : RowV 9 B W kv (strv nd.ks)
  r1 : RowV 9 B W vv (strv nd.vs)
  r2 : RowV 64 B W dv (ptrv nd.ns)
theorem Hp.node {B : Nat} {W : World} {σ : Sig} (h : Hp B W σ) {N : Nat} {nd : Nd} (hN : σ N = some nd) : ∃ kv vv dv, NodeAt B W N nd kv vv dv := by
  obtain ⟨fv, own, h, hF⟩ := h
  obtain ⟨hb, hB, _, hr⟩ := h N nd hN
  exact ⟨_, _, _, hb.cell 0 _ rfl, hb.cell 1 _ rfl, hb.cell 2 _ rfl, hb.free 0, hb.free 1, hb.free 2, (hr 0 (by decide)).1, (hr 1 (by decide)).1, (hr 2 (by decide)).1⟩
theorem takes_lt {B : Nat} {W : World} {σ : Sig} {fv : Nat → Nat → Value} {own : Nat → Nat × Nat} (h : HpW B W σ fv own) {k : Nat} (hk : Takes σ fv k) : B ≤ k ∧ k < W.heap.size := by
  obtain ⟨N, nd, hN, hk⟩ := hk
  obtain ⟨hb, hB, _, hr⟩ := h N nd hN
  rcases hk with rfl | ⟨j, hj, e⟩
  · exact ⟨hB, hb.lt⟩
  · exact (hr j hj).1.lt k e
/-- a new row is stored into a field of a node -/
theorem Hp.field {B : Nat} {W W2 : World} {σ : Sig} (h : Hp B W σ) {N : Nat} {nd nd' : Nd} (hN : σ N = some nd) (j : Nat) (hj : j < 3) (v v' : Value) (hv : W.cell? ⟨N, j, none⟩ = some v)
    (hrow : RowV (fT j) B W2 v' (nd'.row j)) (hoth : ∀ i, i < 3 → i ≠ j → nd'.row i = nd.row i)
    (hk : Kept (fun k => v.ownBlock = some k) W W2) (ho : ∀ g, v'.ownBlock = some g → v.ownBlock = some g ∨ W.heap.size ≤ g) :
    Hp B (W2.setCell ⟨N, j, none⟩ v') (upd σ N nd') ∧ Kept (fun k => v.ownBlock = some k ∨ k = N) W (W2.setCell ⟨N, j, none⟩ v') ∧ B ≤ N ∧ (∀ g, v.ownBlock = some g → B ≤ g) ∧ W2.frozen? ⟨N, j, none⟩ = false ∧ (W2.cell? ⟨N, j, none⟩).isSome = true := by
  obtain ⟨fv, own, h, hF⟩ := h
  obtain ⟨hb, hB, hown, hr⟩ := h N nd hN
  have hvj : fv N j = v := by
    have : [fv N 0, fv N 1, fv N 2][j]? = some (fv N j) := by
      match j, hj with
      | 0, _ => rfl
      | 1, _ => rfl
      | 2, _ => rfl
    have := hb.cell j _ this
    rw [hv] at this
    exact (Option.some.inj this).symm
  have hvN : v.ownBlock ≠ some N := fun e => by
    have := (hr j hj).2 N (by rw [hvj]; exact e)
    rw [hown] at this
    cases this
  have hbN2 := hb.kept hk hvN
  have hgeN : ∀ g, v'.ownBlock = some g → g ≠ N := fun g e e2 => by
    subst e2
    rcases ho g e with h1 | h1
    · exact hvN h1
    · have := hb.lt; omega
  have hset : Kept (fun k => k = N) W2 (W2.setCell ⟨N, j, none⟩ v') := (Kept.refl _ W2).setCells N j [v'] (.inl rfl)
  have hall : Kept (fun k => v.ownBlock = some k ∨ k = N) W (W2.setCell ⟨N, j, none⟩ v') := by
    refine Kept.trans (S := fun k => v.ownBlock = some k ∨ k = N) ⟨hk.os, hk.tape, hk.output, hk.size, fun k hk2 hs => hk.block k hk2 (fun e => hs (.inl e))⟩ hset (fun k e => .inl (.inr e))
  refine ⟨⟨fun M i => if M = N ∧ i = j then v' else fv M i, fun k => if v'.ownBlock = some k then (N, j + 1) else own k, ?_, hF.kept hall (fun k hk2 e => by
      rcases hk2 with h1 | h1
      · have e4 := (hr j hj).2 k (by rw [hvj]; exact h1)
        rw [e] at e4
        simp at e4
        omega
      · rw [h1, hown] at e; simp at e) rfl (fun k b _ e hlt => by
      show (if v'.ownBlock = some k then (N, j + 1) else own k) = (k, 9)
      rw [if_neg (fun e2 => ?_)]
      · exact e
      · rcases ho k e2 with h1 | h1
        · have e4 := (hr j hj).2 k (by rw [hvj]; exact h1)
          rw [e] at e4
          simp at e4
          omega
        · omega)⟩, hall, hB, fun g e => ?_, hbN2.free j, by
    have : [fv N 0, fv N 1, fv N 2][j]? = some (fv N j) := by
      match j, hj with
      | 0, _ => rfl
      | 1, _ => rfl
      | 2, _ => rfl
    rw [hbN2.cell j _ this]; rfl⟩
  · intro M md hM
    by_cases hMN : M = N
    · subst hMN
      rw [upd_same] at hM
      cases hM
      refine ⟨?_, hB, ?_, fun i hi => ?_⟩
      · have hb3 := hbN2.setCell j v' (by simp; omega)
        match j, hj with
        | 0, _ => simpa using hb3
        | 1, _ => simpa using hb3
        | 2, _ => simpa using hb3
      · try dsimp only
        rw [if_neg (fun e => hgeN M e rfl)]
        exact hown
      · by_cases hij : i = j
        · subst hij
          simp only [and_self, if_true]
          exact ⟨hrow.kept hset (fun k e e2 => hgeN k e e2), fun g e => by (try dsimp only); rw [if_pos e]⟩
        · simp only [hij, and_false, if_false]
          obtain ⟨h1, h2⟩ := hr i hi
          refine ⟨?_, fun g e => ?_⟩
          · rw [hoth i hi hij]
            refine (h1.kept hk (fun k e e2 => ?_)).kept hset (fun k e e2 => ?_)
            · have e3 := h2 k e
              have e4 := (hr j hj).2 k (by rw [hvj]; exact e2)
              rw [e3] at e4
              simp at e4
              exact hij e4
            · have e3 := h2 k e
              rw [e2, hown] at e3
              cases e3
          · try dsimp only
            rw [if_neg (fun e2 => ?_)]
            · exact h2 g e
            · rcases ho g e2 with h3 | h3
              · have e3 := h2 g e
                have e4 := (hr j hj).2 g (by rw [hvj]; exact h3)
                rw [e3] at e4
                simp at e4
                exact hij e4
              · have := (h1.lt g e).2; omega
    · rw [upd_other σ nd' hMN] at hM
      obtain ⟨hb1, hB1, ho1, hr1⟩ := h M md hM
      have hMg : v.ownBlock ≠ some M := fun e => by
        have e4 := (hr j hj).2 M (by rw [hvj]; exact e)
        rw [ho1] at e4
        cases e4
      simp only [hMN, false_and, if_false]
      refine ⟨(hb1.kept hk hMg).kept hset (fun e => hMN e), hB1, ?_, fun i hi => ?_⟩
      · try dsimp only
        rw [if_neg (fun e => ?_)]
        · exact ho1
        · rcases ho M e with h3 | h3
          · exact hMg h3
          · have := hb1.lt; omega
      · obtain ⟨h1, h2⟩ := hr1 i hi
        refine ⟨(h1.kept hk (fun k e e2 => ?_)).kept hset (fun k e e2 => ?_), fun g e => ?_⟩
        · have e3 := h2 k e
          have e4 := (hr j hj).2 k (by rw [hvj]; exact e2)
          rw [e3] at e4
          simp at e4
          exact hMN e4.1
        · have e3 := h2 k e
          rw [e2, hown] at e3
          cases e3
        · try dsimp only
          rw [if_neg (fun e2 => ?_)]
          · exact h2 g e
          · rcases ho g e2 with h3 | h3
            · have e3 := h2 g e
              have e4 := (hr j hj).2 g (by rw [hvj]; exact h3)
              rw [e3] at e4
              simp at e4
              exact hMN e4.1
            · have := (h1.lt g e).2; omega
  · exact ((hr j hj).1.lt g (by rw [hvj]; exact e)).1
end Go.Proofs.Ytegljepgncicjaa
/- Btree: slices.Insert of one node into a slice of nodes. -/
namespace Go.Proofs.Ytegljepgncicjaa
open Go.ChangeShapes Go.WideShapes Go.ChangeAt Go.RowKit Go.Deep Go.Lib Go.Shelf
set_option linter.unusedVariables false
set_option linter.unusedSimpArgs false
theorem info64 : (Try.prog.info? 64).map (fun i => (i.zero, i.size, i.bytes)) = some (some (.pointer none), 1, 8) := by kernel_rfl
theorem size64 : (Try.prog.info? 64).map (·.size) = some 1 := by kernel_rfl
theorem und83 : Try.prog.underlying 83 = some (.slice 64) := Try.underlying83
def insf (us : List Value) (i : Nat) (u : Value) : List Value := us.take i ++ u :: us.drop i
theorem insf_len (us : List Value) (i : Nat) (u : Value) (hi : i ≤ us.length) : (insf us i u).length = us.length + 1 := by simp [insf]; omega
theorem insf_at (us : List Value) (i : Nat) (u : Value) (hi : i ≤ us.length) (j : Nat) : (insf us i u)[j]? = if j < i then us[j]? else if j = i then some u else us[j - 1]? := by
  unfold insf
  rw [List.getElem?_append, List.length_take, Nat.min_eq_left hi]
  split
  · rw [List.getElem?_take, if_pos (by assumption)]
  · split
    · rename_i h1 h2
      rw [h2, Nat.sub_self]; rfl
    · rename_i h1 h2
      rw [show j - i = (j - i - 1) + 1 by omega, List.getElem?_cons_succ, List.getElem?_drop]
      congr 1
      omega
/-- the cells of a slice that came in -/
def At (W : World) (g : Nat) (us : List Value) : Prop := ∀ j v, us[j]? = some v → W.cell? ⟨g, j, none⟩ = some v
section
set_option maxHeartbeats 1600000
set_option maxRecDepth 100000
/-- room, not at the end -/
theorem insp_shift (g c i vb : Nat) (us : List Value) (u : Value) (W : World) (hi : i < us.length) (hroom : us.length + 1 ≤ c) (hc63 : c ≤ 9223372036854775807) (hne : vb ≠ g)
    (hR : RowT 64 W g c) (hus : At W g us) (hvb : W.heap[vb]? = some (.cells #[u] 64 (0, 0))) (h1 : ∀ v ∈ us, v.oneCell' = true) (h1u : u.oneCell' = true) :
    Calls Try.prog 48 #[.slice (some ⟨g, 0, none⟩) us.length c, .int .i64 i, .slice (some ⟨vb, 0, none⟩) 1 1] W fun e w' =>
      e = .returned (.slice (some ⟨g, 0, none⟩) (us.length + 1) c) ∧ w' = (W.drew.setCells g (i + 1) (us.drop i)).setCells g i [u] := by
  have HU := Lib.hid hus
  have HR := Lib.hid hR
  have HV := Lib.hid hvb
  have hsv : W.shape? vb = some (64, 1) := by unfold World.shape?; rw [hvb]; rfl
  have hfv : ∀ j, W.frozen? ⟨vb, j, none⟩ = false := fun j => by unfold World.frozen?; rw [hvb]; simp
  have hcv : W.cell? ⟨vb, 0, none⟩ = some u := by unfold World.cell?; rw [hvb]; rfl
  have hov : ∀ lb cb, (callFunc 59 #[.slice (some ⟨vb, 0, none⟩) 1 1, .slice (some ⟨g, i + 1, none⟩) lb cb]).run Try.prog W = .ok (.value (.bool false)) W := fun lb cb => by
    rw [run_callFunc_extern Try.func59 (by kernel_rfl) (by kernel_rfl) (by kernel_rfl) (e := Extern.SlicesOverlaps.overlaps #[83, 83] #[4]) (by kernel_rfl),
      Lib.run_overlaps_apart W 83 4 64 und83 1 (by obtain ⟨i0, hi0, _, h2, _⟩ := info_parts info64; intro w; simp [sizeOf, typeInfo, hi0, h2]) ⟨vb, 0, none⟩ ⟨g, i + 1, none⟩ 1 1 lb cb hne 64 64 1 c hsv hR.sh (by omega) (hfv _) (hfv _)]
    rfl
  have hdl : (us.drop i).length = us.length - i := List.length_drop
  have hcell : ∀ k, k < us.length + 1 → (W.cell? ⟨g, 0 + k, none⟩).isSome = true := fun k hk => by rw [Nat.zero_add]; exact hR.th k (by omega)
  have hA : ∀ ty dc sc, (Builtin.copy_ #[83, 83] ty #[.slice (some ⟨g, i + 1, none⟩) (us.length - i) dc, .slice (some ⟨g, i, none⟩) (us.length + 1 - i) sc]).run Try.prog W.drew = .ok (goInt (us.drop i).length) (W.drew.setCells g (i + 1) (us.drop i)) := fun ty dc sc =>
    run_copy_cells W.drew 83 83 ty 64 g (i + 1) _ dc ⟨g, i, none⟩ _ sc (us.drop i) und83 size64 (by rw [hdl]; simp only [Nat.min_def]; split <;> omega)
      (fun j v hj => by rw [Addr.add_lit]; exact HU.out (i + j) v (by rwa [List.getElem?_drop] at hj))
      (fun j hj => HR.out.th _ (by rw [hdl] at hj; omega)) (fun j hj => HR.out.fr _) (fun v hv => h1 v (List.mem_of_mem_drop hv))
  obtain ⟨W1, hW1⟩ : ∃ W1, W1 = W.drew.setCells g (i + 1) (us.drop i) := ⟨_, rfl⟩
  rw [← hW1] at hA
  have hR1 : RowT 64 W1 g c := by
    rw [hW1]
    exact RowT.set (W := W.drew) ⟨hR.sh, hR.fr, hR.th⟩ _ _
  have hcv1 : W1.cell? ⟨vb, 0, none⟩ = some u := by
    rw [hW1, World.cell?_setCells_out g _ _ _ _ (fun h _ => absurd h hne)]
    exact hcv
  have hB : ∀ ty dc, (Builtin.copy_ #[83, 83] ty #[.slice (some ⟨g, i, none⟩) (us.length + 1 - i) dc, .slice (some ⟨vb, 0, none⟩) 1 1]).run Try.prog W1 = .ok (goInt [u].length) (W1.setCells g i [u]) := fun ty dc =>
    run_copy_cells W1 83 83 ty 64 g i _ dc ⟨vb, 0, none⟩ 1 1 [u] und83 size64 (by simp only [List.length_cons, List.length_nil, Nat.min_def]; split <;> omega)
      (fun j v hj => by
        match j with
        | 0 => simp at hj; subst hj; exact hcv1
        | j + 1 => simp at hj)
      (fun j hj => hR1.th _ (by simp at hj; omega)) (fun j hj => hR1.fr _) (fun v hv => by rw [List.mem_singleton.1 hv]; exact h1u)
  have hz2 : ¬ ((i : Int) = (us.length : Int)) := by omega
  have hb2 : ¬ (c = i + 1) := by omega
  have hb4 : ¬ (c = i) := by omega
  have hin : i ≤ us.length := by omega
  have hW1' := Lib.hid hW1
  clear hus hR hvb hW1 hcell hcv hsv hfv hcv1 hR1
  generalize us.length = n at *
  go_enter Try.func48, Try.ntmps48
  go_wp2_with (simp only [hov])
  have mixed : Try.prog.follows .mixedOrders = true := by kernel_rfl
  have hw1 : IntKind.i64.wrap ((i : Int) + 1) = (i : Int) + 1 := by rw [IntKind.wrap_i64]; omega
  have hx1 : (0 : Int) ≤ (i : Int) + 1 := by omega
  have htn : ((i : Int) + 1).toNat = i + 1 := by omega
  have hx3 : (i : Int) ≤ (n : Int) + 1 := by omega
  go_region_law_o (refine step_copy_runI rfl _ _ 83 83 rfl _ _ (by simp [Act.eval, Act.put]) (by simp [Act.eval, Act.put]) (hA _ _ _) ?_)
  go_wp2_with (first
    | (at_builtin; refine wpList_copy_runI _ rfl _ _ 83 83 rfl _ _ rfl rfl (hB _ _) ?_))
  go_ret
  exact ⟨rfl, by rw [hW1'.out]⟩
/-- room, at the end -/
theorem insp_end_room (g c vb : Nat) (us : List Value) (u : Value) (W : World) (hroom : us.length + 1 ≤ c) (hc63 : c ≤ 9223372036854775807)
    (hR : RowT 64 W g c) (hvb : W.heap[vb]? = some (.cells #[u] 64 (0, 0))) (h1u : u.oneCell' = true) :
    Calls Try.prog 48 #[.slice (some ⟨g, 0, none⟩) us.length c, .int .i64 us.length, .slice (some ⟨vb, 0, none⟩) 1 1] W fun e w' =>
      e = .returned (.slice (some ⟨g, 0, none⟩) (us.length + 1) c) ∧ w' = W.setCells g us.length [u] := by
  have hcv : W.cell? ⟨vb, 0, none⟩ = some u := by unfold World.cell?; rw [hvb]; rfl
  have hsrc : Src Try.prog 1 83 (.slice (some ⟨vb, 0, none⟩) 1 1) 1 [u] W := Src.ofSlice W und83 ⟨vb, 0, none⟩ 1 1 [u] rfl (fun j v hj => by
    match j with
    | 0 => simp at hj; subst hj; exact hcv
    | j + 1 => simp at hj) (fun v hv => by rw [List.mem_singleton.1 hv]; exact h1u)
  have HR := Lib.hid hR
  clear hR hvb hcv
  generalize us.length = n at *
  go_enter Try.func48, Try.ntmps48
  go_wp2_with (at_builtin; refine wpList_append_room1 _ rfl _ _ 83 83 rfl 64 _ _ und83 info64 g 0 n c rfl _ rfl 1 [u] hsrc hroom (fun j hj => HR.out.th _ (by simp at hj; omega)) (fun j hj => HR.out.fr _) ?_)
  go_ret
  exact ⟨rfl, rfl⟩
/-- no room, at the end (nil among these) -/
theorem insp_end_grow (base : Option Addr) (c vb : Nat) (us : List Value) (u : Value) (W : World) (hnc : us.length ≤ c) (hroom : c < us.length + 1) (hs : us.length ≤ 1000)
    (hvb : W.heap[vb]? = some (.cells #[u] 64 (0, 0))) (h1u : u.oneCell' = true) (hnil : base = none → us = [])
    (hus : ∀ g, base = some g → g.spot = none ∧ g.off = 0 ∧ At W g.block us) :
    Calls Try.prog 48 #[.slice base us.length c, .int .i64 us.length, .slice (some ⟨vb, 0, none⟩) 1 1] W fun e w' =>
      ∃ G, us.length + 1 ≤ G ∧ G ≤ 9223372036854775807 ∧ e = .returned (.slice (some ⟨W.heap.size, 0, none⟩) (us.length + 1) G) ∧ w' = W.drew.alloc (.cells ((us ++ [u]).toArray ++ Builtin.zeroCells (Value.pointer none).cells (G - (us.length + 1))) 64) := by
  have hcv : W.cell? ⟨vb, 0, none⟩ = some u := by unfold World.cell?; rw [hvb]; rfl
  obtain ⟨i0, hi0, hz0, hzs, hzb⟩ := info_parts info64
  have hsrc : Src Try.prog i0.size 83 (.slice (some ⟨vb, 0, none⟩) 1 1) 1 [u] W := by
    rw [hzs]
    exact Src.ofSlice W und83 ⟨vb, 0, none⟩ 1 1 [u] rfl (fun j v hj => by
      match j with
      | 0 => simp at hj; subst hj; exact hcv
      | j + 1 => simp at hj) (fun v hv => by rw [List.mem_singleton.1 hv]; exact h1u)
  have hold : (Builtin.firstCells i0.size us.length (.slice base us.length c)).run Try.prog W.drew = .ok us.toArray W.drew := by
    rw [hzs]
    cases base with
    | none =>
      rw [hnil rfl]
      exact run_firstCells_none W.drew 1 0 0 c
    | some a =>
      obtain ⟨a, o, sp⟩ := a
      obtain ⟨rfl, rfl, h⟩ := hus _ rfl
      exact run_firstCells_some W.drew 1 us.length ⟨a, 0, none⟩ us.length c us (by omega) (fun j v hj => by rw [Addr.add_lit, Nat.zero_add]; exact h j v hj)
  have hrun : ∀ ty, (Builtin.append_ #[83, 83] ty #[.slice base us.length c, .slice (some ⟨vb, 0, none⟩) 1 1]).run Try.prog W = _ := fun ty =>
    run_append_grow_src W 83 83 ty 64 i0 _ und83 hi0 hz0 base us.length c us hold _ 1 [u] hsrc hroom (by omega) (by rw [hzb]; exact growslice_fits hroom (by omega))
  have hge := grownCap_ge W (us.length + 1) c 64
  have hle := grownCap_le_maxLen W (us.length + 1) c 64 (by unfold maxLen; omega)
  unfold maxLen at hle
  generalize grownCap W (us.length + 1) c 64 = G at *
  have HU := Lib.hid hus
  clear hus hold hsrc hvb hcv
  have hnil' : base = none → us.length = 0 := fun h => by rw [hnil h]; rfl
  clear hnil
  have hle2 : G ≤ 9223372036854775807 := by omega
  clear hle
  generalize us.length = n at *
  go_enter Try.func48, Try.ntmps48
  cases base with
  | none =>
    have h0 := hnil' rfl
    subst h0
    go_wp2_with (at_builtin; refine Lib.wpList_append_run _ rfl _ _ _ _ rfl _ _ rfl rfl _ _ (hrun _) ?_)
    go_ret
    exact ⟨G, by omega, by omega, rfl, rfl⟩
  | some a =>
    obtain ⟨ab, ao, asp⟩ := a
    go_wp2_with (at_builtin; refine Lib.wpList_append_run _ rfl _ _ _ _ rfl _ _ rfl rfl _ _ (hrun _) ?_)
    all_goals (go_ret; exact ⟨G, by omega, by omega, rfl, rfl⟩)
end
end Go.Proofs.Ytegljepgncicjaa
/- Btree: slices.Insert of one node, where there is no room; all cases. -/
namespace Go.Proofs.Ytegljepgncicjaa
open Go.ChangeShapes Go.WideShapes Go.ChangeAt Go.RowKit Go.Deep Go.Lib Go.Shelf
set_option linter.unusedVariables false
set_option linter.unusedSimpArgs false
section
set_option maxHeartbeats 1600000
set_option maxRecDepth 100000
/-- no room, not at the end -/
theorem insp_grow (g c i vb : Nat) (us : List Value) (u : Value) (W : World) (hi : i < us.length) (hnc : us.length ≤ c) (hroom : c < us.length + 1) (hs : us.length ≤ 1000)
    (hR : RowT 64 W g c) (hus : At W g us) (hvb : W.heap[vb]? = some (.cells #[u] 64 (0, 0))) (h1 : ∀ v ∈ us, v.oneCell' = true) (h1u : u.oneCell' = true) :
    Calls Try.prog 48 #[.slice (some ⟨g, 0, none⟩) us.length c, .int .i64 i, .slice (some ⟨vb, 0, none⟩) 1 1] W fun e w' =>
      ∃ G arr, us.length + 1 ≤ G ∧ G ≤ 9223372036854775807 ∧ arr.size = G ∧ (∀ j, j < i → arr[j]? = us[j]?) ∧ e = .returned (.slice (some ⟨W.heap.size, 0, none⟩) (us.length + 1) G) ∧
        w' = ((((W.alloc (.cells arr 64)).drew).setCells W.heap.size i [u]).drew).setCells W.heap.size (i + 1) (us.drop i) := by
  obtain ⟨i0, hi0, hz0, hzs, hzb⟩ := info_parts info64
  have hcv : W.cell? ⟨vb, 0, none⟩ = some u := by unfold World.cell?; rw [hvb]; rfl
  have hgw : g < W.heap.size := hR.lt
  have hvw : vb < W.heap.size := (Array.getElem?_eq_some_iff.1 hvb).1
  have hdl : (us.drop i).length = us.length - i := List.length_drop
  have htl : (us.take i).length = i := by rw [List.length_take]; omega
  have hold : (Builtin.firstCells i0.size i (.slice (some ⟨g, 0, none⟩) i c)).run Try.prog W.drew = .ok (us.take i).toArray W.drew := by
    rw [hzs]
    exact run_firstCells_some W.drew 1 i ⟨g, 0, none⟩ i c (us.take i) (by omega) (fun j v hj => by
      rw [Addr.add_lit, Nat.zero_add]
      rw [List.getElem?_take] at hj
      split at hj
      · exact hus j v hj
      · cases hj)
  have hkk : (us.length : Int) + 1 - (i : Int) = ((us.length + 1 - i : Nat) : Int) := by omega
  have hik : i + (us.length + 1 - i) = us.length + 1 := by omega
  obtain ⟨G, hG⟩ : ∃ G, G = grownCap W (us.length + 1) c 64 := ⟨_, rfl⟩
  obtain ⟨arr, harr⟩ : ∃ arr : Array Value, arr = (us.take i).toArray ++ Builtin.zeroCells (Value.pointer none).cells (us.length + 1 - i) ++ Builtin.zeroCells (Value.pointer none).cells (G - (us.length + 1)) := ⟨_, rfl⟩
  have hge : us.length + 1 ≤ G := by rw [hG]; exact grownCap_ge W _ c 64
  have hle : G ≤ 9223372036854775807 := by
    have := grownCap_le_maxLen W (us.length + 1) c 64 (by unfold maxLen; omega)
    rw [← hG] at this
    unfold maxLen at this
    omega
  have hrz : ∀ ty, (Builtin.append_ #[83, 3] ty #[.slice (some ⟨g, 0, none⟩) i c, .int .i64 ((us.length : Int) + 1 - (i : Int))]).run Try.prog W = .ok (.slice (some ⟨W.heap.size, 0, none⟩) (us.length + 1) G) (W.drew.alloc (.cells arr 64)) := fun ty => by
    have h := Lib.run_append_grow_zeros W 83 3 ty 64 i0 _ .i64 .i64 und83 Try.underlying3 hi0 hz0 (some ⟨g, 0, none⟩) i c (us.take i) hold (us.length + 1 - i) (by omega) (by omega) (by omega) (by omega) (by rw [hzb]; omega) (by rw [hzb, hik]; exact growslice_fits hroom (by omega))
    rw [hik] at h
    rw [hkk, h, harr, hG]
  have hsz : arr.size = G := by
    rw [harr]
    simp [Builtin.zeroCells, Value.cells]
    omega
  have hfirst : ∀ j, j < i → arr[j]? = us[j]? := fun j hj => by
    rw [harr, Array.append_assoc, Array.getElem?_append, if_pos (by rw [List.size_toArray, htl]; exact hj), List.getElem?_toArray, List.getElem?_take, if_pos hj]
  clear harr hG
  have hN : RowT 64 (W.drew.alloc (.cells arr 64)) W.heap.size G := rowV_new 64 W.drew arr G hsz
  obtain ⟨W1, hW1⟩ : ∃ W1, W1 = W.drew.alloc (.cells arr 64) := ⟨_, rfl⟩
  rw [← hW1] at hrz hN
  have hold1 : ∀ b j v, b < W.heap.size → W.cell? ⟨b, j, none⟩ = some v → W1.cell? ⟨b, j, none⟩ = some v := fun b j v hb h => by rw [hW1]; exact ca (W := W.drew) hb h
  have hA : ∀ (V : World), (∀ x, V.cell? x = W1.cell? x) → (∀ x, V.frozen? x = W1.frozen? x) → ∀ ty dc, (Builtin.copy_ #[83, 83] ty #[.slice (some ⟨W.heap.size, i, none⟩) (us.length + 1 - i) dc, .slice (some ⟨vb, 0, none⟩) 1 1]).run Try.prog V = .ok (goInt [u].length) (V.setCells W.heap.size i [u]) := fun V hVc hVf ty dc =>
    run_copy_cells V 83 83 ty 64 W.heap.size i _ dc ⟨vb, 0, none⟩ 1 1 [u] und83 size64 (by simp only [List.length_cons, List.length_nil, Nat.min_def]; split <;> omega)
      (fun j v hj => by
        match j with
        | 0 => simp at hj; subst hj; rw [hVc]; exact hold1 vb 0 _ hvw hcv
        | j + 1 => simp at hj)
      (fun j hj => by rw [hVc]; exact hN.th _ (by simp at hj; omega)) (fun j hj => by rw [hVf]; exact hN.fr _) (fun v hv => by rw [List.mem_singleton.1 hv]; exact h1u)
  have hN2 := hN.set i [u]
  have hgN : g ≠ W.heap.size := by omega
  have hB : ∀ (V : World), (∀ x, V.cell? x = (W1.setCells W.heap.size i [u]).cell? x) → (∀ x, V.frozen? x = (W1.setCells W.heap.size i [u]).frozen? x) → ∀ ty dc sc, (Builtin.copy_ #[83, 83] ty #[.slice (some ⟨W.heap.size, i + 1, none⟩) (us.length - i) dc, .slice (some ⟨g, i, none⟩) (us.length - i) sc]).run Try.prog V = .ok (goInt (us.drop i).length) (V.setCells W.heap.size (i + 1) (us.drop i)) := fun V hVc hVf ty dc sc =>
    run_copy_cells V 83 83 ty 64 W.heap.size (i + 1) _ dc ⟨g, i, none⟩ _ sc (us.drop i) und83 size64 (by rw [hdl]; simp only [Nat.min_def]; split <;> omega)
      (fun j v hj => by
        rw [Addr.add_lit, hVc, World.cell?_setCells_out _ _ _ _ _ (fun h _ => absurd h hgN)]
        exact hold1 g (i + j) _ hgw (hus (i + j) v (by rwa [List.getElem?_drop] at hj)))
      (fun j hj => by rw [hVc]; exact hN2.th _ (by rw [hdl] at hj; omega)) (fun j hj => by rw [hVf]; exact hN2.fr _) (fun v hv => h1 v (List.mem_of_mem_drop hv))
  subst hW1
  have hE1 : ∀ x, ((W.alloc (.cells arr 64)).drew).cell? x = (W.drew.alloc (.cells arr 64)).cell? x := fun x => rfl
  have hE2 : ∀ x, ((W.alloc (.cells arr 64)).drew).frozen? x = (W.drew.alloc (.cells arr 64)).frozen? x := fun x => rfl
  have hF1 : ∀ x, (((W.alloc (.cells arr 64)).drew.setCells W.heap.size i [u]).drew).cell? x = ((W.drew.alloc (.cells arr 64)).setCells W.heap.size i [u]).cell? x := fun x => rfl
  have hF2 : ∀ x, (((W.alloc (.cells arr 64)).drew.setCells W.heap.size i [u]).drew).frozen? x = ((W.drew.alloc (.cells arr 64)).setCells W.heap.size i [u]).frozen? x := fun x => rfl
  have HH := Lib.hid (And.intro hge (And.intro hle (And.intro hsz hfirst)))
  have hz2 : ¬ ((i : Int) = (us.length : Int)) := by omega
  have hz3 : (c : Int) < (us.length : Int) + 1 := by omega
  have mixed : Try.prog.follows .mixedOrders = true := by kernel_rfl
  have hw1 : IntKind.i64.wrap ((i : Int) + 1) = (i : Int) + 1 := by rw [IntKind.wrap_i64]; omega
  have hx1 : (0 : Int) ≤ (i : Int) + 1 := by omega
  have htn : ((i : Int) + 1).toNat = i + 1 := by omega
  have hin : i ≤ us.length := by omega
  have hx3 : (i : Int) ≤ (us.length : Int) := by omega
  have hGi : ¬ (G = i) := by omega
  have hGim : ¬ (G = i + 1) := by omega
  have hci : ¬ (c = i) := by omega
  clear hkk hik hold hfirst hsz hR hus hvb hcv hN hN2 hold1
  generalize us.length = n at *
  go_enter Try.func48, Try.ntmps48
  go_wp2_with (first
    | (at_builtin; refine Lib.wpList_append_run _ rfl _ _ _ _ rfl _ _ rfl rfl _ _ (hrz _) ?_)
    | (at_builtin; refine wpList_copy_runI _ rfl _ _ 83 83 rfl _ _ rfl rfl (hA _ hE1 hE2 _ _) ?_)
    | (at_builtin; refine wpList_copy_runI _ rfl _ _ 83 83 rfl _ _ rfl rfl (hB _ (fun _ => rfl) (fun _ => rfl) _ _ _) ?_))
  go_region_law_o (refine step_copy_runI rfl _ _ 83 83 rfl (.slice (some ⟨W.heap.size, i + 1, none⟩) (n - i) (G - (i + 1))) (.slice (some ⟨g, i, none⟩) (n - i) (c - i)) (by simp [Act.eval, Act.put]) (by simp [Act.eval, Act.put]) (hB _ hF1 hF2 3 (G - (i + 1)) (c - i)) ?_)
  go_wp2
  go_ret
  exact ⟨G, arr, HH.out.1, HH.out.2.1, HH.out.2.2.1, HH.out.2.2.2, rfl, rfl⟩
end
end Go.Proofs.Ytegljepgncicjaa
/- Btree: Insert, Delete, Clone of rows of strings and of nodes. -/
namespace Go.Proofs.Ytegljepgncicjaa
open Go.ChangeShapes Go.WideShapes Go.ChangeAt Go.RowKit Go.Deep
set_option linter.unusedVariables false
set_option linter.unusedSimpArgs false
def ptr (n : Nat) : Value := .pointer (some ⟨n, 0, none⟩)
theorem ptrv_one (ns : List Nat) : ∀ v ∈ ptrv ns, v.oneCell' = true := by
  intro v hv
  obtain ⟨x, _, rfl⟩ := List.mem_map.1 hv
  rfl
theorem strv_ins (ks : List Bs) (i : Nat) (x : Bs) : strv (ks.take i ++ x :: ks.drop i) = insf (strv ks) i (.string x) := by simp [strv, insf, List.map_take, List.map_drop]
theorem ptrv_ins (ns : List Nat) (i : Nat) (x : Nat) : ptrv (ns.take i ++ x :: ns.drop i) = insf (ptrv ns) i (ptr x) := by simp [ptrv, ptr, insf, List.map_take, List.map_drop]
/-- what a call on a row gives -/
def RowOut (T B : Nat) (v : Value) (us : List Value) (W : World) (e : Ending) (W' : World) : Prop :=
  ∃ v', e = .returned v' ∧ RowV T B W' v' us ∧ Kept (fun k => v.ownBlock = some k) W W' ∧ ∀ g, v'.ownBlock = some g → v.ownBlock = some g ∨ W.heap.size ≤ g
theorem At.row {T : Nat} {W : World} {g c : Nat} {us : List Value} (hc : ∀ j, j < us.length → W.cell? ⟨g, j, none⟩ = us[j]?) : At W g us := fun j v hj => by
  rw [hc j (List.getElem?_eq_some_iff.1 hj).1]
  exact hj
theorem rowV_slice {T B : Nat} {W : World} {g c n : Nat} {us : List Value} (hn : n = us.length) (hB : B ≤ g) (h1 : us.length ≤ c) (h2 : c ≤ 9223372036854775807) (hR : RowT T W g c) (hc : ∀ j, j < us.length → W.cell? ⟨g, j, none⟩ = us[j]?) : RowV T B W (.slice (some ⟨g, 0, none⟩) n c) us :=
  .inr ⟨g, c, by rw [hn], hB, h1, h2, hR, hc⟩
/-- Insert of one node -/
theorem insp_any (B : Nat) (v : Value) (us : List Value) (i : Nat) (u : Value) (vb : Nat) (W : World) (h : RowV 64 B W v us) (hi : i ≤ us.length) (hs : us.length ≤ 1000) (hB : B ≤ W.heap.size)
    (hvb : W.heap[vb]? = some (.cells #[u] 64 (0, 0))) (hne : v.ownBlock ≠ some vb) (h1 : ∀ v ∈ us, v.oneCell' = true) (h1u : u.oneCell' = true) :
    Calls Try.prog 48 #[v, .int .i64 i, .slice (some ⟨vb, 0, none⟩) 1 1] W (RowOut 64 B v (insf us i u) W) := by
  rcases h with ⟨rfl, rfl⟩ | ⟨g, c, rfl, hBg, hnc, hc63, hR, hc⟩
  · obtain rfl : i = 0 := by simpa using hi
    refine (insp_end_grow none 0 vb [] u W (Nat.le_refl _) (by simp) (by simp) hvb h1u (fun _ => rfl) (fun g hg => by cases hg)).mono ?_
    rintro e W' ⟨G, hG1, hG2, rfl, rfl⟩
    have hsz : (([] ++ [u] : List Value).toArray ++ Builtin.zeroCells (Value.pointer none).cells (G - (0 + 1))).size = G := by
      simp [Builtin.zeroCells, Value.cells]; simp at hG1; omega
    refine ⟨_, rfl, rowV_slice rfl hB (by simpa [insf] using hG1) hG2 (rowV_new 64 W.drew _ G hsz) (fun j hj => ?_), (Kept.refl _ _).drew.alloc _, fun k hk => .inr ?_⟩
    · have : j = 0 := by simp [insf] at hj; omega
      subst this
      refine Eq.trans (cn W.drew _ 64 0) ?_
      rw [Array.getElem?_append, if_pos (by simp)]
      rfl
    · simp [Value.ownBlock] at hk
      omega
  · have hat : At W g us := At.row (T := 64) (c := c) hc
    have hl := insf_len us i u hi
    have hneb : vb ≠ g := fun e => hne (by simp [Value.ownBlock, e])
    by_cases hroom : us.length + 1 ≤ c
    · by_cases hin : i = us.length
      · subst hin
        refine (insp_end_room g c vb us u W hroom hc63 hR hvb h1u).mono ?_
        rintro e W' ⟨rfl, rfl⟩
        refine ⟨_, rfl, rowV_slice hl.symm hBg (by rw [hl]; exact hroom) hc63 (hR.set _ _) (fun j hj => ?_), (Kept.refl (fun k => (Value.slice (some ⟨g, 0, none⟩) us.length c).ownBlock = some k) W).setCells g _ _ (.inl rfl), fun k hk => .inl hk⟩
        rw [hR.at us.length [u] (by simpa using hroom) j, insf_at us _ u hi j]
        rw [hl] at hj
        by_cases h1 : j < us.length
        · rw [if_neg (by omega), if_pos h1]; exact hc j h1
        · obtain rfl : j = us.length := by omega
          rw [if_pos (by simp), if_neg h1, if_pos rfl]
          simp
      · have hin' : i < us.length := by omega
        refine (insp_shift g c i vb us u W hin' hroom hc63 hneb hR hat hvb h1 h1u).mono ?_
        rintro e W' ⟨rfl, rfl⟩
        have hR1 : RowT 64 W.drew g c := ⟨hR.sh, hR.fr, hR.th⟩
        have hR2 := hR1.set (i + 1) (us.drop i)
        have hdl : (us.drop i).length = us.length - i := List.length_drop
        refine ⟨_, rfl, rowV_slice hl.symm hBg (by rw [hl]; exact hroom) hc63 (hR2.set _ _) (fun j hj => ?_), ((Kept.refl (fun k => (Value.slice (some ⟨g, 0, none⟩) us.length c).ownBlock = some k) W).drew.setCells g _ _ (.inl rfl)).setCells g _ _ (.inl rfl), fun k hk => .inl hk⟩
        rw [hl] at hj
        rw [hR2.at i [u] (by simp; omega) j, hR1.at (i + 1) _ (by rw [hdl]; omega) j, insf_at us i u hi j, hdl]
        by_cases h1 : j < i
        · rw [if_neg (by omega), if_neg (by omega), if_pos h1]; exact hc j (by omega)
        · by_cases h2 : j = i
          · subst h2
            rw [if_pos (by simp), if_neg h1, if_pos rfl]
            simp
          · rw [if_neg (by simp; omega), if_pos (by omega), if_neg h1, if_neg h2, List.getElem?_drop]
            congr 1
            omega
    · by_cases hin : i = us.length
      · subst hin
        refine (insp_end_grow (some ⟨g, 0, none⟩) c vb us u W hnc (by omega) hs hvb h1u (fun e => by cases e) (fun g' e => by cases e; exact ⟨rfl, rfl, hat⟩)).mono ?_
        rintro e W' ⟨G, hG1, hG2, rfl, rfl⟩
        have hsz : ((us ++ [u]).toArray ++ Builtin.zeroCells (Value.pointer none).cells (G - (us.length + 1))).size = G := by
          simp [Builtin.zeroCells, Value.cells]; omega
        refine ⟨_, rfl, rowV_slice hl.symm hB (by rw [hl]; exact hG1) hG2 (rowV_new 64 W.drew _ G hsz) (fun j hj => ?_), (Kept.refl _ _).drew.alloc _, fun k hk => .inr ?_⟩
        · refine Eq.trans (cn W.drew _ 64 j) ?_
          rw [hl] at hj
          rw [Array.getElem?_append, if_pos (by simp; omega), List.getElem?_toArray, insf_at us _ u hi j, List.getElem?_append]
          by_cases h1 : j < us.length
          · rw [if_pos h1, if_pos h1]
          · obtain rfl : j = us.length := by omega
            rw [if_neg h1, if_neg h1, if_pos rfl, Nat.sub_self]; rfl
        · simp [Value.ownBlock] at hk
          omega
      · have hin' : i < us.length := by omega
        refine (insp_grow g c i vb us u W hin' hnc (by omega) hs hR hat hvb h1 h1u).mono ?_
        rintro e W' ⟨G, arr, hG1, hG2, hsz, hfirst, rfl, rfl⟩
        have hR0 : RowT 64 ((W.alloc (.cells arr 64)).drew) W.heap.size G := by
          have := rowV_new 64 W arr G hsz
          exact ⟨this.sh, this.fr, this.th⟩
        have hR1 := hR0.set i [u]
        have hR1' : RowT 64 ((((W.alloc (.cells arr 64)).drew).setCells W.heap.size i [u]).drew) W.heap.size G := ⟨hR1.sh, hR1.fr, hR1.th⟩
        have hdl : (us.drop i).length = us.length - i := List.length_drop
        refine ⟨_, rfl, rowV_slice hl.symm hB (by rw [hl]; exact hG1) hG2 (hR1'.set _ _) (fun j hj => ?_), ((((Kept.refl _ _).alloc _).drew.setCells _ _ _ (.inr (Nat.le_refl _))).drew).setCells _ _ _ (.inr (Nat.le_refl _)), fun k hk => .inr ?_⟩
        · rw [hl] at hj
          rw [hR1'.at (i + 1) _ (by rw [hdl]; omega) j, insf_at us i u hi j, hdl]
          by_cases h1 : j < i
          · rw [if_neg (by omega), if_pos h1]
            refine Eq.trans (hR0.at i [u] (by simp; omega) j) ?_
            rw [if_neg (by omega)]
            refine Eq.trans (cn W arr 64 j) ?_
            exact hfirst j h1
          · by_cases h2 : j = i
            · subst h2
              rw [if_neg (by omega), if_neg h1, if_pos rfl]
              refine Eq.trans (hR0.at j [u] (by simp; omega) j) ?_
              rw [if_pos (by simp)]
              simp
            · rw [if_pos (by omega), if_neg h1, if_neg h2, List.getElem?_drop]
              congr 1
              omega
        · simp [Value.ownBlock] at hk
          omega
theorem InsOut.toV {B : Nat} {v : Value} {xs : List Bs} {W W' : World} {e : Ending} (h : InsOut B v xs W e W') : RowOut 9 B v (strv xs) W e W' := by
  obtain ⟨v', h1, h2, h3, h4⟩ := h
  exact ⟨v', h1, rowV_S h2, h3, h4⟩
theorem rowS_V {B : Nat} {W : World} {g c : Nat} {xs : List Bs} (h0 : 0 < c) (h : RowV 9 B W (.slice (some ⟨g, 0, none⟩) xs.length c) (strv xs)) : RowS B W (.slice (some ⟨g, 0, none⟩) xs.length c) xs := by
  rcases h with ⟨h, _⟩ | ⟨g', c', h, h1, h2, h4, hR, hc⟩
  · cases h
  · rw [strv_len] at h
    cases h
    exact .inr ⟨g, c, rfl, h1, by rw [strv_len] at h2; exact h2, h0, h4, ⟨hR.sh, hR.fr, hR.th⟩, fun j hj => by rw [hc j (by rw [strv_len]; exact hj), strv_at]⟩
/-- Insert of one string -/
theorem ins_str (B : Nat) (v : Value) (ks : List Bs) (i : Nat) (x : Bs) (vb : Nat) (W : World) (h : RowV 9 B W v (strv ks)) (hi : i ≤ ks.length) (hs : ks.length ≤ 1000) (hB : B ≤ W.heap.size)
    (hvb : W.heap[vb]? = some (.cells #[.string x] 9 (0, 0))) (hne : v.ownBlock ≠ some vb) :
    Calls Try.prog 47 #[v, .int .i64 i, .slice (some ⟨vb, 0, none⟩) 1 1] W (RowOut 9 B v (strv (ks.take i ++ x :: ks.drop i)) W) := by
  have h' := h
  rcases h with ⟨rfl, h0⟩ | ⟨g, c, rfl, hBg, hnc, hc63, hR, hc⟩
  · have : ks = [] := by cases ks with
      | nil => rfl
      | cons a b => simp [strv] at h0
    subst this
    exact (ins_any B (.slice none 0 0) [] i x vb W (.inl ⟨rfl, rfl⟩) hi hs hB hvb hne).mono fun _ _ h => InsOut.toV h
  · rw [strv_len] at *
    by_cases hc0 : 0 < c
    · exact (ins_any B _ ks i x vb W (rowS_V hc0 h') hi hs hB hvb hne).mono fun _ _ h => InsOut.toV h
    · have : ks = [] := List.eq_nil_of_length_eq_zero (by omega)
      subst this
      obtain rfl : c = 0 := by omega
      obtain rfl : i = 0 := by simpa using hi
      have hvs : ∀ j u, ([Value.string x] : List Value)[j]? = some u → W.cell? ⟨vb, 0 + j, none⟩ = some u := by
        intro j u hj
        match j with
        | 0 => simp at hj; subst hj; unfold World.cell?; rw [show (⟨vb, 0 + 0, none⟩ : Addr).block = vb from rfl, hvb]; rfl
        | j + 1 => simp at hj
      refine (Any2.slices_Insert_string_end_grow Try.laysINS (some ⟨g, 0, none⟩) 0 0 vb 0 1 1 [] [.string x] W (by decide) (by decide) (by decide) (by decide) rfl rfl (fun e => by cases e) (fun a ha j v hj => by simp at hj) hvs (fun u hu => by rw [List.mem_singleton.1 hu]; rfl)).mono ?_
      rintro e W' ⟨he, hw⟩
      rw [show Try.laysINS_ren.t 9 = 9 from rfl] at he hw
      have hge := grownCap_ge W (0 + 1) 0 9
      have hle := grownCap_le_maxLen W (0 + 1) 0 9 (by decide)
      unfold maxLen at hle
      generalize grownCap W (0 + 1) 0 9 = cap at *
      have hsz : ((([] : List Value) ++ [Value.string x]).toArray ++ Builtin.zeroCells (Value.string ⟨#[]⟩).cells (cap - (0 + 1))).size = cap := by
        rw [Array.size_append, zc_size]
        show 1 + (cap - (0 + 1)) = cap
        omega
      subst he
      subst hw
      refine ⟨_, rfl, rowV_slice rfl hB hge (by omega) (rowV_new 9 W.drew _ _ hsz) (fun j hj => ?_), (Kept.refl _ _).drew.alloc _, fun k hk => .inr ?_⟩
      · have : j = 0 := by simp [strv] at hj; omega
        subst this
        refine Eq.trans (cn W.drew _ 9 0) ?_
        rw [Array.getElem?_append, if_pos (by simp)]
        rfl
      · simp [Value.ownBlock] at hk
        omega
theorem rowV_del {T B : Nat} {W : World} {g c : Nat} {us : List Value} {i j q : Nat} {z : Value} (hBg : B ≤ g) (hnc : us.length ≤ c) (hc63 : c ≤ 9223372036854775807) (hR : RowT T W g c) (hij : i ≤ j) (hj : j ≤ us.length) :
    RowV T B ((W.drewN q).setCells g 0 (us.take i ++ us.drop j ++ List.replicate (j - i) z)) (.slice (some ⟨g, 0, none⟩) (us.length - (j - i)) c) (us.take i ++ us.drop j) := by
  have hRq : RowT T (W.drewN q) g c := ⟨hR.sh, hR.fr, hR.th⟩
  have hl : (us.take i ++ us.drop j).length = us.length - (j - i) := by simp; omega
  refine rowV_slice hl.symm hBg (by omega) hc63 (hRq.set _ _) (fun k hk => ?_)
  rw [hRq.at 0 _ (by rw [List.length_append, hl]; simp; omega) k, List.length_append, List.length_replicate, if_pos (by omega), Nat.sub_zero, List.getElem?_append, if_pos hk]
/-- Delete of some strings -/
theorem del_str (B : Nat) (v : Value) (xs : List Bs) (i j : Nat) (W : World) (h : RowV 9 B W v (strv xs)) (hij : i < j) (hj : j ≤ xs.length) :
    Calls Try.prog 49 #[v, .int .i64 i, .int .i64 j] W (RowOut 9 B v (strv (xs.take i ++ xs.drop j)) W) := by
  rcases h with ⟨rfl, h0⟩ | ⟨g, c, rfl, hBg, hnc, hc63, hR, hc⟩
  · have : xs = [] := by cases xs with
      | nil => rfl
      | cons a b => simp [strv] at h0
    subst this
    exact absurd (Nat.lt_of_lt_of_le hij hj) (Nat.not_lt_zero _)
  · have hc' := hc
    rw [strv_len] at *
    refine (Try.slices_Delete_string_cells g 0 xs.length c i j (sx xs) W hnc hc63 (by omega) hj (fun k hk => by rw [Nat.zero_add, hc k hk, strv_at, sx_cell hk]) (fun k hk => hR.fr _)).mono ?_
    rintro e W' ⟨rfl, q, rfl⟩
    have hst : (Lib.strsOf (sx xs) xs.length).map Go.Proofs.encStr = strv xs := by
      refine List.ext_getElem? fun k => ?_
      unfold Lib.strsOf strv
      rw [List.map_map, List.getElem?_map, List.getElem?_map]
      rcases Nat.lt_or_ge k xs.length with h | h
      · rw [List.getElem?_range h, sx_cell h]
        show some (Value.string _) = _
        rw [enc_str]
      · rw [List.getElem?_eq_none (by simpa using h), List.getElem?_eq_none h]
        rfl
    have e : (((Lib.strsOf (sx xs) xs.length).take i ++ (Lib.strsOf (sx xs) xs.length).drop j ++ List.replicate (j - i) []).map Go.Proofs.encStr) = (strv xs).take i ++ (strv xs).drop j ++ List.replicate (j - i) (Go.Proofs.encStr []) := by
      rw [List.map_append, List.map_append, List.map_take, List.map_drop, hst, List.map_replicate]
    rw [e]
    have := rowV_del (q := q) (z := Go.Proofs.encStr []) hBg (us := strv xs) (by rw [strv_len]; exact hnc) hc63 hR (Nat.le_of_lt hij) (by rw [strv_len]; exact hj)
    rw [strv_len] at this
    refine ⟨_, rfl, ?_, ((Kept.refl (fun k => (Value.slice (some ⟨g, 0, none⟩) xs.length c).ownBlock = some k) W).drewN q).setCells g _ _ (.inl rfl), fun k hk => .inl hk⟩
    rw [show strv (xs.take i ++ xs.drop j) = (strv xs).take i ++ (strv xs).drop j by simp [strv, List.map_take, List.map_drop]]
    exact this
/-- Delete of some nodes -/
theorem del_ptr (B : Nat) (v : Value) (ns : List Nat) (i j : Nat) (W : World) (h : RowV 64 B W v (ptrv ns)) (hij : i < j) (hj : j ≤ ns.length) :
    Calls Try.prog 51 #[v, .int .i64 i, .int .i64 j] W (RowOut 64 B v (ptrv (ns.take i ++ ns.drop j)) W) := by
  obtain ⟨i0, hi0, _, hz1, _⟩ := info_parts info64
  rcases h with ⟨rfl, h0⟩ | ⟨g, c, rfl, hBg, hnc, hc63, hR, hc⟩
  · have : ns = [] := by cases ns with
      | nil => rfl
      | cons a b => simp [ptrv] at h0
    subst this
    exact absurd (Nat.lt_of_lt_of_le hij hj) (Nat.not_lt_zero _)
  · rw [ptrv_len] at *
    let enc : Option Nat → Value := fun o => .pointer (o.map fun n => ⟨n, 0, none⟩)
    have hH : Sort.Holds enc W g 0 (ns.map some).toArray := fun k hk => by
      have hk' : k < ns.length := by simpa using hk
      refine ⟨?_, hR.fr _⟩
      rw [Nat.zero_add, hc k hk', ptrv_at, List.getElem?_eq_getElem hk']
      simp [enc, hk']
    have hcon := AnyE.slices_Delete Try.laysDP enc (fun _ => rfl) none (fun w => Try.zeroValue64 w) i0 hi0 hz1 g 0 c i j (ns.map some).toArray W hH (by simpa using hnc) hc63 (Nat.le_of_lt hij) (by simpa using hj)
    have hsz : (ns.map some).toArray.size = ns.length := by simp
    rw [hsz] at hcon
    refine Calls.mono (show Calls Try.prog 51 _ _ _ from hcon) ?_
    rintro e W' ⟨rfl, q, rfl⟩
    rw [Lib.putRow_eq_setCells enc W g 0 (ns.map some).toArray _ q hH (by simp; omega)]
    have e : (((ns.map some).toArray.toList.take i ++ (ns.map some).toArray.toList.drop j ++ List.replicate (j - i) none).map enc) = (ptrv ns).take i ++ (ptrv ns).drop j ++ List.replicate (j - i) (enc none) := by
      simp only [List.map_append, List.map_take, List.map_drop, List.map_replicate]
      have : (ns.map some).map enc = ptrv ns := by simp [ptrv, enc]
      rw [this]
    rw [e]
    have := rowV_del (q := q) (z := enc none) hBg (us := ptrv ns) (by rw [ptrv_len]; exact hnc) hc63 hR (Nat.le_of_lt hij) (by rw [ptrv_len]; exact hj)
    rw [ptrv_len] at this
    refine ⟨_, rfl, ?_, ((Kept.refl (fun k => (Value.slice (some ⟨g, 0, none⟩) ns.length c).ownBlock = some k) W).drewN q).setCells g _ _ (.inl rfl), fun k hk => .inl hk⟩
    rw [show ptrv (ns.take i ++ ns.drop j) = (ptrv ns).take i ++ (ptrv ns).drop j by simp [ptrv, List.map_take, List.map_drop]]
    exact this
/-- Clone of some strings -/
theorem clone_str (g o n c : Nat) (us : List Value) (W : World) (hn : us.length = n) (h1000 : n ≤ 1000) (hc : ∀ j u, us[j]? = some u → W.cell? ⟨g, o + j, none⟩ = some u) (h1 : ∀ u ∈ us, u.oneCell' = true) :
    Calls Try.prog 46 #[.slice (some ⟨g, o, none⟩) n c] W fun e W' => ∃ v', e = .returned v' ∧ RowV 9 W.heap.size W' v' us ∧ Kept (fun _ => False) W W' := by
  obtain ⟨i9, hi9, hz0, hz1, hz2⟩ := info_parts info9
  refine (Try.slices_Clone i9 (.string ⟨#[]⟩) 1 16 hi9 hz0 hz1 hz2 rfl (by decide) (fun w => Try.sizeOf9 w) g o n c us W (by omega) (by unfold maxLen; omega) (by omega) hc h1).mono ?_
  rintro e W' ⟨v', rfl, hr, _, hb⟩
  exact ⟨v', rfl, rowV_of_own hn.symm hr, kept_below hb⟩
/-- Clone of some nodes -/
theorem clone_ptr (g o n c : Nat) (us : List Value) (W : World) (hn : us.length = n) (h1000 : n ≤ 1000) (hc : ∀ j u, us[j]? = some u → W.cell? ⟨g, o + j, none⟩ = some u) (h1 : ∀ u ∈ us, u.oneCell' = true) :
    Calls Try.prog 50 #[.slice (some ⟨g, o, none⟩) n c] W fun e W' => ∃ v', e = .returned v' ∧ RowV 64 W.heap.size W' v' us ∧ Kept (fun _ => False) W W' := by
  obtain ⟨i9, hi9, hz0, hz1, hz2⟩ := info_parts info64
  refine Calls.mono (AnyE.slices_Clone Try.laysCP i9 (.pointer none) 1 8 hi9 hz0 hz1 hz2 rfl (by decide) (fun w => Try.sizeOf64 w) g o n c us W (by omega) (by unfold maxLen; omega) (by omega) hc h1) ?_
  rintro e W' ⟨v', rfl, hr, _, hb⟩
  exact ⟨v', rfl, rowV_of_own hn.symm hr, kept_below hb⟩
end Go.Proofs.Ytegljepgncicjaa
/- Btree: one element of a row is stored; a new node. -/
namespace Go.Proofs.Ytegljepgncicjaa
open Go.ChangeShapes Go.WideShapes Go.ChangeAt Go.RowKit Go.Deep
set_option linter.unusedVariables false
set_option linter.unusedSimpArgs false
theorem box_j {W : World} {N : Nat} {a b c : Value} (hb : Box W N [a, b, c]) (fv : Nat → Value) (h0 : fv 0 = a) (h1 : fv 1 = b) (h2 : fv 2 = c) (j : Nat) (hj : j < 3) : W.cell? ⟨N, j, none⟩ = some (fv j) := by
  match j, hj with
  | 0, _ => rw [h0]; exact hb.cell 0 _ rfl
  | 1, _ => rw [h1]; exact hb.cell 1 _ rfl
  | 2, _ => rw [h2]; exact hb.cell 2 _ rfl
theorem Hp.elem {B : Nat} {W : World} {σ : Sig} (h : Hp B W σ) {N : Nat} {nd nd' : Nd} (hN : σ N = some nd) (j : Nat) (hj : j < 3) (v : Value) (hv : W.cell? ⟨N, j, none⟩ = some v) (i : Nat) (u : Value)
    (hi : i < (nd.row j).length) (hrow : nd'.row j = (nd.row j).set i u) (hoth : ∀ i, i < 3 → i ≠ j → nd'.row i = nd.row i) :
    ∃ g c, v = .slice (some ⟨g, 0, none⟩) (nd.row j).length c ∧ (W.cell? ⟨g, i, none⟩).isSome = true ∧ W.frozen? ⟨g, i, none⟩ = false ∧ (nd.row j).length ≤ c ∧ c ≤ 9223372036854775807 ∧
      Hp B (W.setCell ⟨g, i, none⟩ u) (upd σ N nd') ∧ Kept (fun k => v.ownBlock = some k) W (W.setCell ⟨g, i, none⟩ u) ∧ B ≤ g ∧ g ≠ N := by
  obtain ⟨fv, own, h, hF⟩ := h
  obtain ⟨hb, hB, hown, hr⟩ := h N nd hN
  have hvj : fv N j = v := by
    have := box_j hb (fv N) rfl rfl rfl j hj
    rw [hv] at this
    exact (Option.some.inj this).symm
  have hrj := (hr j hj).1
  have hoj := (hr j hj).2
  rw [hvj] at hrj hoj
  rcases hrj with ⟨rfl, h0⟩ | ⟨g, c, rfl, hBg, hnc, hc63, hR, hc⟩
  · rw [h0] at hi; exact absurd hi (Nat.not_lt_zero _)
  have hog : own g = (N, j + 1) := hoj g rfl
  have hgN : g ≠ N := fun e => by rw [e, hown] at hog; cases hog
  have hset : Kept (fun k => k = g) W (W.setCell ⟨g, i, none⟩ u) := (Kept.refl _ W).setCells g i [u] (.inl rfl)
  have hset' : Kept (fun k => (Value.slice (some ⟨g, 0, none⟩) (nd.row j).length c).ownBlock = some k) W (W.setCell ⟨g, i, none⟩ u) := (Kept.refl _ W).setCells g i [u] (.inl rfl)
  refine ⟨g, c, rfl, hR.th i (by omega), hR.fr i, hnc, hc63, ⟨fv, own, ?_, hF.kept hset (fun k hk e => by rw [hk, hog] at e; simp at e; omega) rfl (fun _ _ _ e _ => e)⟩, hset', hBg, hgN⟩
  intro M md hM
  by_cases hMN : M = N
  · subst hMN
    rw [upd_same] at hM
    cases hM
    refine ⟨hb.kept hset (fun e => hgN e.symm), hB, hown, fun k hk => ?_⟩
    by_cases hkj : k = j
    · subst hkj
      refine ⟨?_, by rw [hvj]; exact hoj⟩
      rw [hvj, hrow]
      have hl : ((nd.row k).set i u).length = (nd.row k).length := List.length_set
      refine rowV_slice hl.symm hBg (by rw [hl]; exact hnc) hc63 (hR.set i [u]) (fun t ht => ?_)
      rw [hl] at ht
      refine Eq.trans (hR.at i [u] (by simp; omega) t) ?_
      by_cases h1 : i = t
      · subst h1
        rw [if_pos (by simp), List.getElem?_set_self ht]
        simp
      · rw [if_neg (by simp; omega), List.getElem?_set_ne h1]
        exact hc t ht
    · obtain ⟨h1, h2⟩ := hr k hk
      refine ⟨?_, h2⟩
      rw [hoth k hk hkj]
      refine h1.kept hset (fun t e e2 => ?_)
      have e3 := h2 t e
      rw [e2, hog] at e3
      simp at e3
      exact hkj e3.symm
  · rw [upd_other σ nd' hMN] at hM
    obtain ⟨hb1, hB1, ho1, hr1⟩ := h M md hM
    refine ⟨hb1.kept hset (fun e => ?_), hB1, ho1, fun k hk => ⟨(hr1 k hk).1.kept hset (fun t e e2 => ?_), (hr1 k hk).2⟩⟩
    · rw [e, hog] at ho1
      cases ho1
    · have e3 := (hr1 k hk).2 t e
      rw [e2, hog] at e3
      simp at e3
      exact hMN e3.1.symm
/-- a new node from rows that nobody has -/
theorem Hp.new {B : Nat} {W W2 : World} {σ : Sig} (h : Hp B W σ) (hB : B ≤ W.heap.size) (hk : Kept (fun _ => False) W W2) (nd : Nd) (kv vv dv : Value) (T : Nat)
    (h0 : RowV 9 B W2 kv (strv nd.ks)) (h1 : RowV 9 B W2 vv (strv nd.vs)) (h2 : RowV 64 B W2 dv (ptrv nd.ns))
    (f0 : ∀ g, kv.ownBlock = some g → W.heap.size ≤ g) (f1 : ∀ g, vv.ownBlock = some g → W.heap.size ≤ g) (f2 : ∀ g, dv.ownBlock = some g → W.heap.size ≤ g)
    (d01 : ∀ g, kv.ownBlock = some g → vv.ownBlock ≠ some g) (d02 : ∀ g, kv.ownBlock = some g → dv.ownBlock ≠ some g) (d12 : ∀ g, vv.ownBlock = some g → dv.ownBlock ≠ some g) :
    Hp B (W2.alloc (.cells #[kv, vv, dv] T)) (upd σ W2.heap.size nd) ∧ σ W2.heap.size = none ∧ Kept (fun _ => False) W (W2.alloc (.cells #[kv, vv, dv] T)) := by
  have hk2 : Kept (fun _ => False) W (W2.alloc (.cells #[kv, vv, dv] T)) := hk.alloc _
  have hal : Kept (fun _ => False) W2 (W2.alloc (.cells #[kv, vv, dv] T)) := (Kept.refl _ W2).alloc _
  have hnone : σ W2.heap.size = none := by
    cases hs : σ W2.heap.size with
    | none => rfl
    | some md => have := (h.lt hs).2; have := hk.size; omega
  obtain ⟨fv, own, h, hF⟩ := h
  have g0 := h0.lt
  have g1 := h1.lt
  have g2 := h2.lt
  have hsz := hk.size
  refine ⟨⟨fun M i => if M = W2.heap.size then (match i with | 0 => kv | 1 => vv | _ => dv) else fv M i,
    fun k => if k = W2.heap.size then (k, 0) else if kv.ownBlock = some k then (W2.heap.size, 1) else if vv.ownBlock = some k then (W2.heap.size, 2) else if dv.ownBlock = some k then (W2.heap.size, 3) else own k, ?_, hF.kept hk2 (fun _ h => h.elim) rfl (fun k b _ e hk3 => by
    show (if k = W2.heap.size then ((k, 0) : Nat × Nat) else if kv.ownBlock = some k then (W2.heap.size, 1) else if vv.ownBlock = some k then (W2.heap.size, 2) else if dv.ownBlock = some k then (W2.heap.size, 3) else own k) = (k, 9)
    rw [if_neg (by omega), if_neg (fun e => by have := f0 k e; omega), if_neg (fun e => by have := f1 k e; omega), if_neg (fun e => by have := f2 k e; omega)]
    exact e)⟩, hnone, hk2⟩
  intro M md hM
  by_cases hMR : M = W2.heap.size
  · subst hMR
    rw [upd_same] at hM
    cases hM
    refine ⟨?_, by omega, ?_, fun j hj => ?_⟩
    · simp only [if_true]
      exact Box.new W2 [kv, vv, dv] T
    · simp only [if_true]
    · match j, hj with
      | 0, _ =>
        simp only [if_true]
        refine ⟨h0.kept hal (fun _ _ h => h), fun g e => ?_⟩
        have := (g0 g e).2
        rw [if_neg (by omega), if_pos e]
      | 1, _ =>
        simp only [if_true]
        refine ⟨h1.kept hal (fun _ _ h => h), fun g e => ?_⟩
        have := (g1 g e).2
        rw [if_neg (by omega), if_neg (fun e2 => d01 g e2 e), if_pos e]
      | 2, _ =>
        simp only [if_true]
        refine ⟨h2.kept hal (fun _ _ h => h), fun g e => ?_⟩
        have := (g2 g e).2
        rw [if_neg (by omega), if_neg (fun e2 => d02 g e2 e), if_neg (fun e2 => d12 g e2 e), if_pos e]
  · rw [upd_other σ nd hMR] at hM
    obtain ⟨hb1, hB1, ho1, hr1⟩ := h M md hM
    have hMlt := hb1.lt
    have key : ∀ k, k < W.heap.size → (if k = W2.heap.size then ((k, 0) : Nat × Nat) else if kv.ownBlock = some k then (W2.heap.size, 1) else if vv.ownBlock = some k then (W2.heap.size, 2) else if dv.ownBlock = some k then (W2.heap.size, 3) else own k) = own k := fun k hk3 => by
      rw [if_neg (by omega), if_neg (fun e => by have := f0 k e; omega), if_neg (fun e => by have := f1 k e; omega), if_neg (fun e => by have := f2 k e; omega)]
    simp only [hMR, if_false]
    refine ⟨hb1.kept hk2 (fun h => h), hB1, ?_, fun j hj => ⟨(hr1 j hj).1.kept hk2 (fun _ _ h => h), fun g e => ?_⟩⟩
    · have := key M hMlt
      rw [if_neg hMR] at this
      rw [this]; exact ho1
    · rw [key g ((hr1 j hj).1.lt g e).2]; exact (hr1 j hj).2 g e
end Go.Proofs.Ytegljepgncicjaa
/- Btree: sorted lists of pairs; trees (IsT) over the ghost store. -/
namespace Go.Proofs.Ytegljepgncicjaa
open Go.ChangeShapes Go.WideShapes Go.ChangeAt Go.RowKit Go.Deep
set_option linter.unusedVariables false
set_option linter.unusedSimpArgs false
abbrev Pr := Bs × Bs
def lB (a b : Bs) : Bool := Op.bytesLess a.toList b.toList
theorem less_irrefl : ∀ x : List UInt8, Op.bytesLess x x = false
  | [] => rfl
  | a :: x => by simp [Op.bytesLess, less_irrefl x]
theorem less_trans : ∀ x y z : List UInt8, Op.bytesLess x y = true → Op.bytesLess y z = true → Op.bytesLess x z = true
  | _, [], _, h, _ => by simp [Op.bytesLess] at h
  | [], _ :: _, [], _, h => by simp [Op.bytesLess] at h
  | [], _ :: _, _ :: _, _, _ => rfl
  | _ :: _, _ :: _, [], _, h => by simp [Op.bytesLess] at h
  | a :: x, b :: y, c :: z, h1, h2 => by
    simp only [Op.bytesLess, Bool.or_eq_true, decide_eq_true_eq, Bool.and_eq_true, beq_iff_eq] at *
    rcases h1 with h1 | ⟨rfl, h1⟩
    · rcases h2 with h2 | ⟨rfl, h2⟩
      · exact .inl (UInt8.lt_trans h1 h2)
      · exact .inl h1
    · rcases h2 with h2 | ⟨rfl, h2⟩
      · exact .inl h2
      · exact .inr ⟨rfl, less_trans x y z h1 h2⟩
theorem less_tri : ∀ x y : List UInt8, Op.bytesLess x y = false → Op.bytesLess y x = false → x = y
  | [], [], _, _ => rfl
  | [], _ :: _, h, _ => by simp [Op.bytesLess] at h
  | _ :: _, [], _, h => by simp [Op.bytesLess] at h
  | a :: x, b :: y, h1, h2 => by
    simp only [Op.bytesLess, Bool.or_eq_false_iff, decide_eq_false_iff_not, Bool.and_eq_false_iff, beq_eq_false_iff_ne] at *
    have hab : a = b := UInt8.le_antisymm (UInt8.not_lt.1 h2.1) (UInt8.not_lt.1 h1.1)
    subst hab
    rw [less_tri x y (h1.2.resolve_left (fun h => h rfl)) (h2.2.resolve_left (fun h => h rfl))]
theorem lB_irrefl (a : Bs) : lB a a = false := less_irrefl _
theorem lB_trans {a b c : Bs} (h1 : lB a b = true) (h2 : lB b c = true) : lB a c = true := less_trans _ _ _ h1 h2
theorem lB_tri {a b : Bs} (h1 : lB a b = false) (h2 : lB b a = false) : a = b := by
  have := less_tri _ _ h1 h2
  rw [ByteArray.toList_eq, ByteArray.toList_eq] at this
  cases a; cases b
  simp at this
  exact congrArg _ this
theorem lB_asymm {a b : Bs} (h : lB a b = true) : lB b a = false := by
  cases h2 : lB b a with
  | false => rfl
  | true => have := lB_trans h h2; rw [lB_irrefl] at this; cases this
theorem lB_ne {a b : Bs} (h : lB a b = true) : a ≠ b := fun e => by rw [e, lB_irrefl] at h; cases h
/-- what calls make of the list of pairs -/
def putL : List Pr → Bs → Bs → List Pr
  | [], k, v => [(k, v)]
  | (a, b) :: r, k, v => if lB a k = true then (a, b) :: putL r k v else if a = k then (k, v) :: r else (k, v) :: (a, b) :: r
def delL : List Pr → Bs → List Pr
  | [], _ => []
  | (a, b) :: r, k => if lB a k = true then (a, b) :: delL r k else if a = k then r else (a, b) :: r
def getL : List Pr → Bs → Option Bs
  | [], _ => none
  | (a, b) :: r, k => if lB a k = true then getL r k else if a = k then some b else none
def Srt (L : List Pr) : Prop := L.Pairwise fun x y => lB x.1 y.1 = true
theorem putL_left {A M : List Pr} {k v : Bs} (h : ∀ x ∈ A, lB x.1 k = true) : putL (A ++ M) k v = A ++ putL M k v := by
  induction A with
  | nil => rfl
  | cons a A ih =>
    obtain ⟨a, b⟩ := a
    rw [List.cons_append, putL, if_pos (h (a, b) (by simp)), ih (fun x hx => h x (by simp [hx]))]
    rfl
theorem delL_left {A M : List Pr} {k : Bs} (h : ∀ x ∈ A, lB x.1 k = true) : delL (A ++ M) k = A ++ delL M k := by
  induction A with
  | nil => rfl
  | cons a A ih =>
    obtain ⟨a, b⟩ := a
    rw [List.cons_append, delL, if_pos (h (a, b) (by simp)), ih (fun x hx => h x (by simp [hx]))]
    rfl
theorem getL_left {A M : List Pr} {k : Bs} (h : ∀ x ∈ A, lB x.1 k = true) : getL (A ++ M) k = getL M k := by
  induction A with
  | nil => rfl
  | cons a A ih =>
    obtain ⟨a, b⟩ := a
    rw [List.cons_append, getL, if_pos (h (a, b) (by simp)), ih (fun x hx => h x (by simp [hx]))]
theorem putL_right {M C : List Pr} {k v : Bs} (h : ∀ x ∈ C, lB k x.1 = true) : putL (M ++ C) k v = putL M k v ++ C := by
  induction M with
  | nil =>
    cases C with
    | nil => rfl
    | cons c C =>
      obtain ⟨a, b⟩ := c
      have h1 : lB k a = true := h (a, b) (by simp)
      show putL ((a, b) :: C) k v = (k, v) :: (a, b) :: C
      rw [putL, if_neg (by rw [lB_asymm h1]; simp), if_neg (lB_ne h1).symm]
  | cons a M ih =>
    obtain ⟨a, b⟩ := a
    rw [List.cons_append, putL, putL]
    split
    · rw [ih]; rfl
    · split <;> rfl
theorem delL_right {M C : List Pr} {k : Bs} (h : ∀ x ∈ C, lB k x.1 = true) : delL (M ++ C) k = delL M k ++ C := by
  induction M with
  | nil =>
    cases C with
    | nil => rfl
    | cons c C =>
      obtain ⟨a, b⟩ := c
      have h1 : lB k a = true := h (a, b) (by simp)
      show delL ((a, b) :: C) k = (a, b) :: C
      rw [delL, if_neg (by rw [lB_asymm h1]; simp), if_neg (lB_ne h1).symm]
  | cons a M ih =>
    obtain ⟨a, b⟩ := a
    rw [List.cons_append, delL, delL]
    split
    · rw [ih]; rfl
    · split <;> rfl
theorem getL_right {M C : List Pr} {k : Bs} (h : ∀ x ∈ C, lB k x.1 = true) : getL (M ++ C) k = getL M k := by
  induction M with
  | nil =>
    cases C with
    | nil => rfl
    | cons c C =>
      obtain ⟨a, b⟩ := c
      have h1 : lB k a = true := h (a, b) (by simp)
      show getL ((a, b) :: C) k = none
      rw [getL, if_neg (by rw [lB_asymm h1]; simp), if_neg (lB_ne h1).symm]
  | cons a M ih =>
    obtain ⟨a, b⟩ := a
    rw [List.cons_append, getL, getL]
    split
    · rw [ih]
    · split <;> rfl
/-- in order: a kid, a key, a kid, .. -/
def interR : List Pr → List (List Pr) → List Pr
  | k :: ks, c :: cs => k :: (c ++ interR ks cs)
  | _, _ => []
def inter (ks : List Pr) : List (List Pr) → List Pr
  | [] => []
  | c :: cs => c ++ interR ks cs
def interL : List (List Pr) → List Pr → List Pr
  | a :: A, k :: K => a ++ k :: interL A K
  | _, _ => []
theorem inter_mid : ∀ (A : List (List Pr)) (KA : List Pr) (x : List Pr) (C : List (List Pr)) (KC : List Pr), A.length = KA.length → inter (KA ++ KC) (A ++ x :: C) = interL A KA ++ (x ++ interR KC C)
  | [], [], x, C, KC, _ => rfl
  | a :: A, k :: KA, x, C, KC, h => by
    have ih := inter_mid A KA x C KC (by simpa using h)
    cases hA : A ++ x :: C with
    | nil => simp at hA
    | cons c cs =>
      rw [hA] at ih
      rw [List.cons_append, List.cons_append, hA]
      show a ++ interR (k :: (KA ++ KC)) (c :: cs) = a ++ k :: interL A KA ++ _
      rw [interR, List.append_assoc, List.cons_append]
      exact congrArg (fun t => a ++ k :: t) ih
  | [], _ :: _, _, _, _, h => by simp at h
  | _ :: _, [], _, _, _, h => by simp at h
structure Kid where
  id : Nat
  L : List Pr
  S : Nat → Prop
  lo : Nat
  hi : Nat
/-- a node with kids -/
structure Inn (σ : Sig) (T : Nat → Nat → Nat → List Pr → (Nat → Prop) → Prop) (N : Nat) (ks vs : List Bs) (cs : List Kid) (L : List Pr) (S : Nat → Prop) : Prop where
  at_ : σ N = some ⟨ks, vs, cs.map (·.id)⟩
  lv : vs.length = ks.length
  lc : cs.length = ks.length + 1
  eL : L = inter (ks.zip vs) (cs.map (·.L))
  sN : S N
  dom : ∀ k, S k → σ k ≠ none
  kids : ∀ c ∈ cs, T c.lo c.hi c.id c.L c.S ∧ ∀ k, c.S k → S k ∧ k ≠ N
  apart : cs.Pairwise fun a b => ∀ k, a.S k → ¬ b.S k
/-- a tree of height h + 1: lo to hi keys at N, o / 2 to o at every node below; the pairs L in order; the nodes lie in S -/
def IsT (σ : Sig) (o : Nat) : Nat → Nat → Nat → Nat → List Pr → (Nat → Prop) → Prop
  | 0, lo, hi, N, L, S => ∃ ks vs, σ N = some ⟨ks, vs, []⟩ ∧ vs.length = ks.length ∧ lo ≤ ks.length ∧ ks.length ≤ hi ∧ L = ks.zip vs ∧ S N ∧ ∀ k, S k → σ k ≠ none
  | h + 1, lo, hi, N, L, S => ∃ ks vs cs, lo ≤ ks.length ∧ ks.length ≤ hi ∧ Inn σ (IsT σ o h) N ks vs cs L S ∧ ∀ c ∈ cs, c.lo = o / 2 ∧ c.hi = o
theorem Inn.mono {σ : Sig} {T T' : Nat → Nat → Nat → List Pr → (Nat → Prop) → Prop} {N : Nat} {ks vs : List Bs} {cs : List Kid} {L : List Pr} {S : Nat → Prop} (h : Inn σ T N ks vs cs L S) (hT : ∀ c ∈ cs, T c.lo c.hi c.id c.L c.S → T' c.lo c.hi c.id c.L c.S) : Inn σ T' N ks vs cs L S :=
  ⟨h.at_, h.lv, h.lc, h.eL, h.sN, h.dom, fun c hc => ⟨hT c hc (h.kids c hc).1, (h.kids c hc).2⟩, h.apart⟩
theorem IsT.congr {σ σ' : Sig} {o : Nat} : ∀ {h lo hi N : Nat} {L : List Pr} {S : Nat → Prop}, IsT σ o h lo hi N L S → (∀ k, S k → σ' k = σ k) → IsT σ' o h lo hi N L S
  | 0, _, _, N, _, S, ⟨ks, vs, h1, h2, h3, h4, h5, h6, h7⟩, he => ⟨ks, vs, by rw [he N h6]; exact h1, h2, h3, h4, h5, h6, fun k hk => by rw [he k hk]; exact h7 k hk⟩
  | h + 1, _, _, N, _, S, ⟨ks, vs, cs, h1, h2, h3, h4⟩, he => ⟨ks, vs, cs, h1, h2, ⟨by rw [he N h3.sN]; exact h3.at_, h3.lv, h3.lc, h3.eL, h3.sN, fun k hk => by rw [he k hk]; exact h3.dom k hk, fun c hc => ⟨IsT.congr (h3.kids c hc).1 (fun k hk => he k ((h3.kids c hc).2 k hk).1), (h3.kids c hc).2⟩, h3.apart⟩, h4⟩
theorem IsT.super {σ : Sig} {o : Nat} {S' : Nat → Prop} : ∀ {h lo hi N : Nat} {L : List Pr} {S : Nat → Prop}, IsT σ o h lo hi N L S → (∀ k, S k → S' k) → (∀ k, S' k → σ k ≠ none) → IsT σ o h lo hi N L S'
  | 0, _, _, N, _, S, ⟨ks, vs, h1, h2, h3, h4, h5, h6, h7⟩, hs, hd => ⟨ks, vs, h1, h2, h3, h4, h5, hs _ h6, hd⟩
  | h + 1, _, _, N, _, S, ⟨ks, vs, cs, h1, h2, h3, h4⟩, hs, hd => ⟨ks, vs, cs, h1, h2, ⟨h3.at_, h3.lv, h3.lc, h3.eL, hs _ h3.sN, hd, fun c hc => ⟨(h3.kids c hc).1, fun k hk => ⟨hs k ((h3.kids c hc).2 k hk).1, ((h3.kids c hc).2 k hk).2⟩⟩, h3.apart⟩, h4⟩
theorem IsT.bounds {σ : Sig} {o : Nat} {lo' hi' : Nat} : ∀ {h lo hi N : Nat} {L : List Pr} {S : Nat → Prop}, IsT σ o h lo hi N L S → lo' ≤ lo → hi ≤ hi' → IsT σ o h lo' hi' N L S
  | 0, _, _, N, _, S, ⟨ks, vs, h1, h2, h3, h4, h5, h6, h7⟩, hl, hh => ⟨ks, vs, h1, h2, by omega, by omega, h5, h6, h7⟩
  | h + 1, _, _, N, _, S, ⟨ks, vs, cs, h1, h2, h3, h4⟩, hl, hh => ⟨ks, vs, cs, by omega, by omega, h3, h4⟩
theorem IsT.node {σ : Sig} {o : Nat} : ∀ {h lo hi N : Nat} {L : List Pr} {S : Nat → Prop}, IsT σ o h lo hi N L S → ∃ nd, σ N = some nd ∧ lo ≤ nd.ks.length ∧ nd.ks.length ≤ hi ∧ nd.vs.length = nd.ks.length ∧ S N ∧ (∀ k, S k → σ k ≠ none) ∧ (h = 0 → nd.ns = []) ∧ (h ≠ 0 → nd.ns.length = nd.ks.length + 1)
  | 0, _, _, N, _, S, ⟨ks, vs, h1, h2, h3, h4, h5, h6, h7⟩ => ⟨_, h1, h3, h4, h2, h6, h7, (fun _ => rfl), fun h => absurd rfl h⟩
  | h + 1, _, _, N, _, S, ⟨ks, vs, cs, h1, h2, h3, h4⟩ => ⟨_, h3.at_, h1, h2, h3.lv, h3.sN, h3.dom, (fun h => by cases h), fun _ => by simpa using h3.lc⟩
/-- exact number of keys -/
theorem IsT.exact {σ : Sig} {o : Nat} : ∀ {h lo hi N : Nat} {L : List Pr} {S : Nat → Prop} {nd : Nd}, IsT σ o h lo hi N L S → σ N = some nd → IsT σ o h nd.ks.length nd.ks.length N L S
  | 0, _, _, N, _, S, nd, ⟨ks, vs, h1, h2, h3, h4, h5, h6, h7⟩, hN => by
    rw [h1] at hN; cases hN
    exact ⟨ks, vs, h1, h2, Nat.le_refl _, Nat.le_refl _, h5, h6, h7⟩
  | h + 1, _, _, N, _, S, nd, ⟨ks, vs, cs, h1, h2, h3, h4⟩, hN => by
    have := h3.at_
    rw [hN] at this; cases this
    exact ⟨ks, vs, cs, Nat.le_refl _, Nat.le_refl _, h3, h4⟩
/-- what a call below S may do to the store -/
structure Ext (σ σ' : Sig) (S : Nat → Prop) : Prop where
  same : ∀ k, ¬ S k → σ k ≠ none → σ' k = σ k
  keep : ∀ k, σ k ≠ none → σ' k ≠ none
  frn : σ'.F = σ.F
def Grow (S : Nat → Prop) (σ σ' : Sig) (k : Nat) : Prop := S k ∨ (σ k = none ∧ σ' k ≠ none)
theorem Ext.refl (σ : Sig) (S : Nat → Prop) : Ext σ σ S := ⟨fun _ _ _ => rfl, fun _ h => h, rfl⟩
theorem Ext.trans {σ σ1 σ2 : Sig} {S S1 : Nat → Prop} (h : Ext σ σ1 S) (h2 : Ext σ1 σ2 S1) (hs : ∀ k, S1 k → σ k ≠ none → S k) : Ext σ σ2 S :=
  ⟨fun k hk hn => (h2.same k (fun h3 => hk (hs k h3 hn)) (h.keep k hn)).trans (h.same k hk hn), fun k hn => h2.keep k (h.keep k hn), h2.frn.trans h.frn⟩
theorem Ext.upd {σ : Sig} {S : Nat → Prop} {N : Nat} (nd : Nd) (hS : S N ∨ σ N = none) : Ext σ (upd σ N nd) S :=
  ⟨fun k hk hn => upd_other σ nd (fun e => by subst e; exact hS.elim hk hn), fun k hn => by rw [upd_k]; split <;> simp_all, rfl⟩
end Go.Proofs.Ytegljepgncicjaa
/- Btree: where a key stands among the keys of a node; what calls make of the pairs. -/
namespace Go.Proofs.Ytegljepgncicjaa
open Go.ChangeShapes Go.WideShapes Go.ChangeAt Go.RowKit Go.Deep
set_option linter.unusedVariables false
set_option linter.unusedSimpArgs false
theorem bsGo_upto (less : Nat → Bool) (k n : Nat) (h1 : ∀ t, t < k → less t = true) (h2 : ∀ t, k ≤ t → t < n → less t = false) : ∀ (f lo hi : Nat), hi - lo ≤ f → lo ≤ k → k ≤ hi → hi ≤ n → Lib.bsGo less f lo hi = k := by
  intro f
  induction f with
  | zero => intro lo hi hf a b c; simp [Lib.bsGo]; omega
  | succ f ih =>
    intro lo hi hf a b c
    unfold Lib.bsGo
    by_cases h : lo < hi
    · rw [if_pos h]
      by_cases hm : (lo + hi) / 2 < k
      · rw [h1 _ hm, if_pos rfl]; exact ih _ _ (by omega) (by omega) b c
      · rw [h2 _ (by omega) (by omega)]; exact ih _ _ (by omega) a (by omega) (by omega)
    · rw [if_neg h]; omega
def SrtK (ks : List Bs) : Prop := ks.Pairwise fun x y => lB x y = true
theorem sx_get {xs : List Bs} {j : Nat} (h : j < xs.length) : sx xs j = xs[j] := by
  unfold sx
  rw [List.getElem?_eq_getElem h]
  rfl
/-- where a key stands -/
theorem find_pos (ks : List Bs) (key : Bs) (hs : SrtK ks) : ∃ i, i ≤ ks.length ∧ bsI ks key = i ∧ (∀ x ∈ ks.take i, lB x key = true) ∧
    ((bsF ks key = true ∧ ∃ r, ks.drop i = key :: r ∧ ∀ x ∈ r, lB key x = true) ∨ (bsF ks key = false ∧ ∀ x ∈ ks.drop i, lB key x = true)) := by
  obtain ⟨A, C, hAC, hA, hC⟩ : ∃ A C, ks = A ++ C ∧ (∀ x ∈ A, lB x key = true) ∧ (∀ x ∈ C, lB x key = false) := by
    induction ks with
    | nil => exact ⟨[], [], rfl, by simp, by simp⟩
    | cons a r ih =>
      cases ha : lB a key with
      | true =>
        obtain ⟨A, C, h1, h2, h3⟩ := ih (List.pairwise_cons.1 hs).2
        exact ⟨a :: A, C, by rw [h1]; rfl, fun x hx => by rcases List.mem_cons.1 hx with rfl | h; exact ha; exact h2 x h, h3⟩
      | false =>
        refine ⟨[], a :: r, rfl, by simp, fun x hx => ?_⟩
        rcases List.mem_cons.1 hx with rfl | h
        · exact ha
        · cases hx2 : lB x key with
          | false => rfl
          | true => have := lB_trans ((List.pairwise_cons.1 hs).1 x h) hx2; rw [ha] at this; cases this
  subst hAC
  have hget : ∀ t, t < (A ++ C).length → sx (A ++ C) t = (A ++ C)[t]! := fun t ht => by rw [sx_get ht, getElem!_pos _ t ht]
  have hbs : bsI (A ++ C) key = A.length := by
    unfold bsI
    refine bsGo_upto _ A.length (A ++ C).length (fun t ht => ?_) (fun t h1 h2 => ?_) _ _ _ (by omega) (by omega) (by simp) (Nat.le_refl _)
    · rw [sx_get (by simp; omega)]
      have : (A ++ C)[t]'(by simp; omega) = A[t] := List.getElem_append_left ht
      rw [this]
      exact hA _ (List.getElem_mem _)
    · rw [sx_get h2]
      have : (A ++ C)[t] = C[t - A.length]'(by simp at h2; omega) := List.getElem_append_right h1
      rw [this]
      exact hC _ (List.getElem_mem _)
  refine ⟨A.length, by simp, hbs, ?_, ?_⟩
  · rw [List.take_left']
    · exact hA
    · rfl
  · rw [List.drop_left' rfl]
    unfold bsF
    rw [hbs]
    have hsC : SrtK C := (List.pairwise_append.1 hs).2.1
    cases C with
    | nil => exact .inr ⟨by simp, by simp⟩
    | cons c r =>
      have hl : A.length < (A ++ c :: r).length := by simp
      have hc : sx (A ++ c :: r) A.length = c := by rw [sx_get hl]; simp
      rw [hc]
      have hr := (List.pairwise_cons.1 hsC).1
      by_cases hk : c = key
      · subst hk
        exact .inl ⟨by simp, r, rfl, hr⟩
      · refine .inr ⟨by simp [hk], ?_⟩
        have h1 : lB key c = true := by
          cases h2 : lB key c with
          | true => rfl
          | false => exact absurd (lB_tri (hC c (by simp)) h2) hk
        intro x hx
        rcases List.mem_cons.1 hx with rfl | h
        · exact h1
        · exact lB_trans h1 (hr x h)
theorem Srt.mid {A C : List Pr} {p : Pr} (h : Srt (A ++ p :: C)) : (∀ x ∈ A, lB x.1 p.1 = true) ∧ (∀ x ∈ C, lB p.1 x.1 = true) :=
  ⟨fun x hx => (List.pairwise_append.1 h).2.2 x hx p (by simp), (List.pairwise_cons.1 (List.pairwise_append.1 h).2.1).1⟩
theorem getL_mid {A C : List Pr} {k v : Bs} (h : Srt (A ++ (k, v) :: C)) : getL (A ++ (k, v) :: C) k = some v := by
  rw [getL_left h.mid.1, getL, if_neg (by rw [lB_irrefl]; simp), if_pos rfl]
theorem putL_mid {A C : List Pr} {k v u : Bs} (h : Srt (A ++ (k, v) :: C)) : putL (A ++ (k, v) :: C) k u = A ++ (k, u) :: C := by
  rw [putL_left h.mid.1, putL, if_neg (by rw [lB_irrefl]; simp), if_pos rfl]
theorem delL_mid {A C : List Pr} {k v : Bs} (h : Srt (A ++ (k, v) :: C)) : delL (A ++ (k, v) :: C) k = A ++ C := by
  rw [delL_left h.mid.1, delL, if_neg (by rw [lB_irrefl]; simp), if_pos rfl]
theorem getL_gap {A C : List Pr} {k : Bs} (h1 : ∀ x ∈ A, lB x.1 k = true) (h2 : ∀ x ∈ C, lB k x.1 = true) : getL (A ++ C) k = none := by
  rw [getL_left h1]
  have := getL_right (M := []) h2
  rw [List.nil_append] at this
  rw [this]; rfl
theorem putL_gap {A C : List Pr} {k u : Bs} (h1 : ∀ x ∈ A, lB x.1 k = true) (h2 : ∀ x ∈ C, lB k x.1 = true) : putL (A ++ C) k u = A ++ (k, u) :: C := by
  rw [putL_left h1]
  have := putL_right (M := []) (v := u) h2
  rw [List.nil_append] at this
  rw [this]; rfl
theorem delL_gap {A C : List Pr} {k : Bs} (h1 : ∀ x ∈ A, lB x.1 k = true) (h2 : ∀ x ∈ C, lB k x.1 = true) : delL (A ++ C) k = A ++ C := by
  rw [delL_left h1]
  have := delL_right (M := []) h2
  rw [List.nil_append] at this
  rw [this]; rfl
theorem Srt.sub {L M : List Pr} (h : Srt L) (hs : M.Sublist L) : Srt M := List.Pairwise.sublist hs h
theorem Srt.left {A C : List Pr} (h : Srt (A ++ C)) : Srt A := h.sub (List.sublist_append_left A C)
theorem Srt.right {A C : List Pr} (h : Srt (A ++ C)) : Srt C := h.sub (List.sublist_append_right A C)
theorem srtK_of {L : List Pr} (h : Srt L) : SrtK (L.map (·.1)) := List.pairwise_map.2 h
theorem zip_keys (ks vs : List Bs) (h : vs.length = ks.length) : (ks.zip vs).map (·.1) = ks := List.map_fst_zip (by omega)
theorem interL_lt {key : Bs} : ∀ (A : List (List Pr)) (K : List Pr), Srt (interL A K) → (∀ k ∈ K, lB k.1 key = true) → ∀ y ∈ interL A K, lB y.1 key = true
  | [], _, _, _, y, hy => by simp [interL] at hy
  | _ :: _, [], _, _, y, hy => by simp [interL] at hy
  | a :: A, k :: K, hs, hk, y, hy => by
    have hs' : Srt (a ++ k :: interL A K) := hs
    have hy' : y ∈ a ++ k :: interL A K := hy
    rcases List.mem_append.1 hy' with h | h
    · exact lB_trans (hs'.mid.1 y h) (hk k (by simp))
    · rcases List.mem_cons.1 h with rfl | h
      · exact hk _ (by simp)
      · exact interL_lt A K (hs'.right.sub (List.sublist_cons_self _ _)) (fun x hx => hk x (by simp [hx])) y h
theorem interR_gt {key : Bs} : ∀ (K : List Pr) (C : List (List Pr)), Srt (interR K C) → (∀ k ∈ K, lB key k.1 = true) → ∀ y ∈ interR K C, lB key y.1 = true
  | [], _, _, _, y, hy => by simp [interR] at hy
  | _ :: _, [], _, _, y, hy => by simp [interR] at hy
  | k :: K, c :: C, hs, hk, y, hy => by
    have hs' : Srt (k :: (c ++ interR K C)) := hs
    have hy' : y ∈ k :: (c ++ interR K C) := hy
    have h1 := (List.pairwise_cons.1 hs').1
    rcases List.mem_cons.1 hy' with rfl | h
    · exact hk _ (by simp)
    · exact lB_trans (hk k (by simp)) (h1 y h)
theorem interL_keys : ∀ (A : List (List Pr)) (K : List Pr), A.length = K.length → K.Sublist (interL A K)
  | [], [], _ => List.Sublist.refl _
  | a :: A, k :: K, h => by
    show (k :: K).Sublist (a ++ k :: interL A K)
    exact (List.Sublist.cons_cons k (interL_keys A K (by simpa using h))).trans (List.sublist_append_right a _)
  | [], _ :: _, h => by simp at h
  | _ :: _, [], h => by simp at h
theorem interR_keys : ∀ (K : List Pr) (C : List (List Pr)), C.length = K.length → K.Sublist (interR K C)
  | [], [], _ => List.Sublist.refl _
  | k :: K, c :: C, h => by
    show (k :: K).Sublist (k :: (c ++ interR K C))
    exact List.Sublist.cons_cons k ((interR_keys K C (by simpa using h)).trans (List.sublist_append_right c _))
  | [], _ :: _, h => by simp at h
  | _ :: _, [], h => by simp at h
theorem inter_keys (K : List Pr) (C : List (List Pr)) (h : C.length = K.length + 1) : K.Sublist (inter K C) := by
  cases C with
  | nil => simp at h
  | cons c C => exact (interR_keys K C (by simpa using h)).trans (List.sublist_append_right c _)
theorem Inn.keys {σ : Sig} {T : Nat → Nat → Nat → List Pr → (Nat → Prop) → Prop} {N : Nat} {ks vs : List Bs} {cs : List Kid} {L : List Pr} {S : Nat → Prop} (h : Inn σ T N ks vs cs L S) (hs : Srt L) : SrtK ks := by
  have h1 : Srt (ks.zip vs) := by
    rw [h.eL] at hs
    exact hs.sub (inter_keys _ _ (by rw [List.length_map, h.lc, List.length_zip, h.lv, Nat.min_self]))
  have := srtK_of h1
  rwa [zip_keys ks vs h.lv] at this
/-- the kids around the i-th -/
theorem Inn.around {σ : Sig} {T : Nat → Nat → Nat → List Pr → (Nat → Prop) → Prop} {N : Nat} {ks vs : List Bs} {cs : List Kid} {L : List Pr} {S : Nat → Prop} (h : Inn σ T N ks vs cs L S) (i : Nat) (hi : i ≤ ks.length) :
    ∃ A x C, cs = A ++ x :: C ∧ A.length = i ∧ C.length = ks.length - i ∧ L = interL (A.map (·.L)) ((ks.zip vs).take i) ++ (x.L ++ interR ((ks.zip vs).drop i) (C.map (·.L))) := by
  have hlc := h.lc
  have hz : (ks.zip vs).length = ks.length := by rw [List.length_zip, h.lv, Nat.min_self]
  refine ⟨cs.take i, cs[i]'(by omega), cs.drop (i + 1), ?_, by rw [List.length_take]; omega, by rw [List.length_drop]; omega, ?_⟩
  · rw [← List.drop_eq_getElem_cons (by omega), List.take_append_drop]
  · have e : cs.map (·.L) = (cs.take i).map (·.L) ++ (cs[i]'(by omega)).L :: (cs.drop (i + 1)).map (·.L) := by
      conv => lhs; rw [← List.take_append_drop i cs, List.drop_eq_getElem_cons (i := i) (by omega)]
      rw [List.map_append, List.map_cons]
    rw [h.eL, e]
    conv => lhs; rw [← List.take_append_drop i (ks.zip vs)]
    exact inter_mid _ _ _ _ _ (by rw [List.length_map, List.length_take, List.length_take, hz]; omega)
end Go.Proofs.Ytegljepgncicjaa
/- Btree: what get, put and remove make of a node's pairs. -/
namespace Go.Proofs.Ytegljepgncicjaa
open Go.ChangeShapes Go.WideShapes Go.ChangeAt Go.RowKit Go.Deep
set_option linter.unusedVariables false
set_option linter.unusedSimpArgs false
theorem zip_take (ks vs : List Bs) (i : Nat) : (ks.zip vs).take i = (ks.take i).zip (vs.take i) := by simp [List.zip, List.take_zipWith]
theorem zip_drop (ks vs : List Bs) (i : Nat) : (ks.zip vs).drop i = (ks.drop i).zip (vs.drop i) := by simp [List.zip, List.drop_zipWith]
theorem zip_cut (ks vs : List Bs) (i : Nat) : ks.zip vs = (ks.take i).zip (vs.take i) ++ (ks.drop i).zip (vs.drop i) := by
  rw [← zip_take, ← zip_drop, List.take_append_drop]
theorem mem_zip_fst {ks vs : List Bs} {y : Pr} (h : y ∈ ks.zip vs) : y.1 ∈ ks := by
  obtain ⟨a, b⟩ := y
  exact (List.of_mem_zip h).1
/-- the key is there -/
structure Found (ks vs : List Bs) (key : Bs) (i : Nat) : Prop where
  lt : i < ks.length
  hk : ks.drop i = key :: ks.drop (i + 1)
  hv : vs.drop i = sx vs i :: vs.drop (i + 1)
  gt : ∀ x ∈ ks.drop (i + 1), lB key x = true
  le : ∀ x ∈ ks.take i, lB x key = true
theorem found_of {ks vs : List Bs} {key : Bs} (hs : SrtK ks) (hl : vs.length = ks.length) (hf : bsF ks key = true) : Found ks vs key (bsI ks key) := by
  obtain ⟨i, hi, hb, h1, h2⟩ := find_pos ks key hs
  rw [hb]
  rcases h2 with ⟨_, r, h3, h4⟩ | ⟨h3, _⟩
  · have hlt : i < ks.length := by
      have := congrArg List.length h3
      simp at this
      omega
    have hr : r = ks.drop (i + 1) := by
      rw [List.drop_eq_getElem_cons hlt] at h3
      exact (List.cons.inj h3).2.symm
    subst hr
    refine ⟨hlt, h3, ?_, h4, h1⟩
    rw [List.drop_eq_getElem_cons (i := i) (by omega), sx_get (by omega)]
  · rw [h3] at hf; cases hf
/-- the key is not there -/
structure Gap (ks : List Bs) (key : Bs) (i : Nat) : Prop where
  le : i ≤ ks.length
  lt : ∀ x ∈ ks.take i, lB x key = true
  gt : ∀ x ∈ ks.drop i, lB key x = true
theorem gap_of {ks : List Bs} {key : Bs} (hs : SrtK ks) (hf : bsF ks key = false) : Gap ks key (bsI ks key) := by
  obtain ⟨i, hi, hb, h1, h2⟩ := find_pos ks key hs
  rw [hb]
  rcases h2 with ⟨h3, _⟩ | ⟨_, h3⟩
  · rw [h3] at hf; cases hf
  · exact ⟨hi, h1, h3⟩
theorem bsI_le {ks : List Bs} {key : Bs} (hs : SrtK ks) : bsI ks key ≤ ks.length := by
  obtain ⟨i, hi, hb, _⟩ := find_pos ks key hs
  omega
theorem Found.zip {ks vs : List Bs} {key : Bs} {i : Nat} (h : Found ks vs key i) : (ks.zip vs).drop i = (key, sx vs i) :: (ks.zip vs).drop (i + 1) := by
  rw [zip_drop, h.hk, h.hv, zip_drop]
  rfl
theorem set_zip (ks vs : List Bs) (i : Nat) (val : Bs) (hi : i < vs.length) : ks.zip (vs.set i val) = (ks.zip vs).take i ++ (ks.drop i).zip (val :: vs.drop (i + 1)) := by
  rw [zip_cut ks (vs.set i val) i, zip_take]
  congr 1
  · congr 1
    rw [List.take_set_of_le (Nat.le_refl i)]
  · congr 1
    rw [List.drop_eq_getElem_cons (i := i) (by simpa using hi)]
    congr 1
    · simp
    · rw [List.drop_set_of_lt (by omega)]
theorem Found.set {ks vs : List Bs} {key : Bs} {i : Nat} (h : Found ks vs key i) (hl : vs.length = ks.length) (val : Bs) : ks.zip (vs.set i val) = (ks.zip vs).take i ++ (key, val) :: (ks.zip vs).drop (i + 1) := by
  have := h.lt
  rw [set_zip ks vs i val (by omega), h.hk, zip_drop]
  rfl
theorem Found.split {ks vs : List Bs} {key : Bs} {i : Nat} (h : Found ks vs key i) : ks.zip vs = (ks.zip vs).take i ++ (key, sx vs i) :: (ks.zip vs).drop (i + 1) := by
  rw [← h.zip, List.take_append_drop]
theorem leaf_found {ks vs : List Bs} {key : Bs} {i : Nat} (h : Found ks vs key i) (hl : vs.length = ks.length) (hs : Srt (ks.zip vs)) (val : Bs) :
    getL (ks.zip vs) key = some (sx vs i) ∧ putL (ks.zip vs) key val = ks.zip (vs.set i val) ∧ delL (ks.zip vs) key = (ks.take i ++ ks.drop (i + 1)).zip (vs.take i ++ vs.drop (i + 1)) := by
  have h1 := h.split
  have hs1 := hs
  rw [h1] at hs1
  refine ⟨?_, ?_, ?_⟩
  · rw [h1]; exact getL_mid hs1
  · rw [h.set hl val]
    conv => lhs; rw [h1]
    exact putL_mid hs1
  · conv => lhs; rw [h1]
    rw [delL_mid hs1, List.zip_append (by simp [hl]), zip_take, zip_drop]
theorem leaf_gap {ks vs : List Bs} {key : Bs} {i : Nat} (h : Gap ks key i) (hl : vs.length = ks.length) (val : Bs) :
    getL (ks.zip vs) key = none ∧ putL (ks.zip vs) key val = (ks.take i ++ key :: ks.drop i).zip (vs.take i ++ val :: vs.drop i) ∧ delL (ks.zip vs) key = ks.zip vs := by
  have h1 := zip_cut ks vs i
  have ha : ∀ x ∈ (ks.take i).zip (vs.take i), lB x.1 key = true := fun x hx => h.lt _ (mem_zip_fst hx)
  have hc : ∀ x ∈ (ks.drop i).zip (vs.drop i), lB key x.1 = true := fun x hx => h.gt _ (mem_zip_fst hx)
  refine ⟨?_, ?_, ?_⟩
  · rw [h1]; exact getL_gap ha hc
  · rw [List.zip_append (by simp [hl])]
    conv => lhs; rw [h1]
    exact putL_gap ha hc
  · conv => lhs; rw [h1]
    rw [delL_gap ha hc, ← h1]
theorem inn_found {P x : List Pr} {ks vs : List Bs} {key : Bs} {i : Nat} {L : List Pr} {Cs : List (List Pr)} (h : Found ks vs key i) (hl : vs.length = ks.length) (hC : Cs.length = ks.length - i)
    (hL : L = P ++ (x ++ interR ((ks.zip vs).drop i) Cs)) (hs : Srt L) (val : Bs) :
    ∃ R, L = (P ++ x) ++ (key, sx vs i) :: R ∧ getL L key = some (sx vs i) ∧ putL L key val = P ++ (x ++ interR ((ks.zip (vs.set i val)).drop i) Cs) ∧ delL L key = (P ++ x) ++ R ∧
      ∀ p : Pr, interR (p :: (ks.zip vs).drop (i + 1)) Cs = p :: R := by
  have hlt := h.lt
  cases Cs with
  | nil => simp at hC; omega
  | cons c Cs =>
    have e1 : interR ((ks.zip vs).drop i) (c :: Cs) = (key, sx vs i) :: (c ++ interR ((ks.zip vs).drop (i + 1)) Cs) := by rw [h.zip]; rfl
    have hz : (ks.zip vs).length = ks.length := by rw [List.length_zip, hl, Nat.min_self]
    have e2 : interR ((ks.zip (vs.set i val)).drop i) (c :: Cs) = (key, val) :: (c ++ interR ((ks.zip vs).drop (i + 1)) Cs) := by
      rw [h.set hl val, List.drop_left' (by rw [List.length_take, hz]; omega)]
      rfl
    refine ⟨c ++ interR ((ks.zip vs).drop (i + 1)) Cs, ?_, ?_, ?_, ?_, fun p => rfl⟩
    · rw [hL, e1, List.append_assoc]
    all_goals
      have hL2 : L = (P ++ x) ++ (key, sx vs i) :: (c ++ interR ((ks.zip vs).drop (i + 1)) Cs) := by rw [hL, e1, List.append_assoc]
      rw [hL2] at hs
      rw [hL2]
    · exact getL_mid hs
    · rw [e2, putL_mid hs, List.append_assoc]
    · exact delL_mid hs
theorem inn_gap {As : List (List Pr)} {x : List Pr} {ks vs : List Bs} {key : Bs} {i : Nat} {L : List Pr} {Cs : List (List Pr)} (h : Gap ks key i) (hl : vs.length = ks.length) (hA : As.length = i) (hC : Cs.length = ks.length - i)
    (hL : L = interL As ((ks.zip vs).take i) ++ (x ++ interR ((ks.zip vs).drop i) Cs)) (hs : Srt L) :
    (∀ y ∈ interL As ((ks.zip vs).take i), lB y.1 key = true) ∧ (∀ y ∈ interR ((ks.zip vs).drop i) Cs, lB key y.1 = true) ∧ Srt x ∧
    getL L key = getL x key ∧ (∀ val, putL L key val = interL As ((ks.zip vs).take i) ++ (putL x key val ++ interR ((ks.zip vs).drop i) Cs)) ∧ delL L key = interL As ((ks.zip vs).take i) ++ (delL x key ++ interR ((ks.zip vs).drop i) Cs) := by
  rw [hL] at hs
  have h1 : ∀ y ∈ interL As ((ks.zip vs).take i), lB y.1 key = true := interL_lt _ _ hs.left (fun k hk => by rw [zip_take] at hk; exact h.lt _ (mem_zip_fst hk))
  have h2 : ∀ y ∈ interR ((ks.zip vs).drop i) Cs, lB key y.1 = true := interR_gt _ _ hs.right.right (fun k hk => by rw [zip_drop] at hk; exact h.gt _ (mem_zip_fst hk))
  refine ⟨h1, h2, hs.right.left, ?_, fun val => ?_, ?_⟩
  · rw [hL, getL_left h1, getL_right h2]
  · rw [hL, putL_left h1, putL_right h2]
  · rw [hL, delL_left h1, delL_right h2]
end Go.Proofs.Ytegljepgncicjaa
/- Btree: BinarySearch on rows; the height; get. -/
namespace Go.Proofs.Ytegljepgncicjaa
open Go.ChangeShapes Go.WideShapes Go.ChangeAt Go.RowKit Go.Deep
set_option linter.unusedVariables false
set_option linter.unusedSimpArgs false
theorem bs_str (B : Nat) (v : Value) (xs : List Bs) (x : Bs) (W : World) (h : RowV 9 B W v (strv xs)) (hs : xs.length ≤ 1000) :
    Calls Try.prog 45 #[v, .string x] W fun e W' => e = .returned (.tuple #[.int .i64 (bsI xs x : Nat), .bool (bsF xs x)]) ∧ ∃ q, W' = W.drewN q := by
  rcases h with ⟨rfl, h0⟩ | ⟨g, c, rfl, hBg, hnc, hc63, hR, hc⟩
  · have : xs = [] := by cases xs with
      | nil => rfl
      | cons a b => simp [strv] at h0
    subst this
    refine (Any2.slices_BinarySearch_string_empty Try.laysBS none 0 x W).mono ?_
    rintro e W' ⟨rfl, rfl⟩
    exact ⟨rfl, 0, rfl⟩
  · rw [strv_len] at *
    refine (Any2.slices_BinarySearch_string Try.laysBS g 0 xs.length c (sx xs) x W (by omega) (fun j hj => by rw [Nat.zero_add, hc j hj, strv_at, sx_cell hj])).mono ?_
    rintro e W' ⟨rfl, hq⟩
    exact ⟨rfl, hq⟩
theorem IsT.hu {σ : Sig} {o o' : Nat} : ∀ {h h' lo hi lo' hi' N : Nat} {L L' : List Pr} {S S' : Nat → Prop}, IsT σ o h lo hi N L S → IsT σ o' h' lo' hi' N L' S' → h = h'
  | 0, 0, _, _, _, _, _, _, _, _, _, _, _ => rfl
  | 0, h' + 1, _, _, _, _, _, _, _, _, _, ⟨ks, vs, h1, _⟩, ⟨ks', vs', cs, _, _, h2, _⟩ => by
    have := h2.at_
    rw [h1] at this
    have h3 := h2.lc
    cases cs with
    | nil => simp at h3
    | cons c cs => simp at this
  | h + 1, 0, _, _, _, _, _, _, _, _, _, ⟨ks', vs', cs, _, _, h2, _⟩, ⟨ks, vs, h1, _⟩ => by
    have := h2.at_
    rw [h1] at this
    have h3 := h2.lc
    cases cs with
    | nil => simp at h3
    | cons c cs => simp at this
  | h + 1, h' + 1, _, _, _, _, _, _, _, _, _, ⟨ks, vs, cs, _, _, h1, _⟩, ⟨ks', vs', cs', _, _, h2, _⟩ => by
    have e := h2.at_
    rw [h1.at_] at e
    have h3 := h1.lc
    have h4 := h2.lc
    cases cs with
    | nil => simp at h3
    | cons c cs =>
      cases cs' with
      | nil => simp at h4
      | cons c' cs' =>
        simp at e
        have k1 := (h1.kids c (by simp)).1
        have k2 := (h2.kids c' (by simp)).1
        rw [e.2.2.1] at k1
        rw [IsT.hu k1 k2]
open Classical in
noncomputable def hgt (σ : Sig) (o : Nat) (v : Value) : Nat :=
  if h : ∃ (n : Nat) (N lo hi : Nat) (L : List Pr) (S : Nat → Prop), v = ptr N ∧ IsT σ o n lo hi N L S then Classical.choose h else 0
theorem hgt_eq {σ : Sig} {o h lo hi N : Nat} {L : List Pr} {S : Nat → Prop} (hT : IsT σ o h lo hi N L S) : hgt σ o (ptr N) = h := by
  have hex : ∃ (n : Nat) (M lo hi : Nat) (L : List Pr) (S : Nat → Prop), ptr N = ptr M ∧ IsT σ o n lo hi M L S := ⟨h, N, lo, hi, L, S, rfl, hT⟩
  unfold hgt
  rw [dif_pos hex]
  obtain ⟨M, lo', hi', L', S', e, h2⟩ := Classical.choose_spec hex
  have e' : N = M := by simpa [ptr] using e
  subst e'
  exact h2.hu hT
/-- the rows of a leaf and of a node with kids, as one reads them -/
theorem RowV.get {T B : Nat} {W : World} {v : Value} {us : List Value} (h : RowV T B W v us) (h0 : 0 < us.length) : ∃ g c, v = .slice (some ⟨g, 0, none⟩) us.length c ∧ us.length ≤ c ∧ c ≤ 9223372036854775807 ∧ g < W.heap.size ∧ ∀ j, j < us.length → W.cell? ⟨g, j, none⟩ = us[j]? := by
  rcases h with ⟨rfl, rfl⟩ | ⟨g, c, rfl, _, h1, h2, hR, hc⟩
  · exact absurd h0 (by simp)
  · exact ⟨g, c, rfl, h1, h2, hR.lt, hc⟩
theorem IsT.srtK {σ : Sig} {o : Nat} : ∀ {h lo hi N : Nat} {L : List Pr} {S : Nat → Prop} {nd : Nd}, IsT σ o h lo hi N L S → Srt L → σ N = some nd → SrtK nd.ks
  | 0, _, _, N, _, S, nd, ⟨ks, vs, h1, h2, h3, h4, h5, h6, h7⟩, hs, hN => by
    rw [h1] at hN; cases hN
    subst h5
    have := srtK_of hs
    rwa [zip_keys ks vs h2] at this
  | h + 1, _, _, N, _, S, nd, ⟨ks, vs, cs, h1, h2, h3, h4⟩, hs, hN => by
    have := h3.at_
    rw [hN] at this; cases this
    exact h3.keys hs
theorem IsT.found {σ : Sig} {o : Nat} {key : Bs} : ∀ {h lo hi N : Nat} {L : List Pr} {S : Nat → Prop} {nd : Nd}, IsT σ o h lo hi N L S → Srt L → σ N = some nd → bsF nd.ks key = true → getL L key = some (sx nd.vs (bsI nd.ks key))
  | 0, _, _, N, _, S, nd, hT, hs, hN, hf => by
    have hk := hT.srtK hs hN
    obtain ⟨ks, vs, h1, h2, h3, h4, h5, h6, h7⟩ := hT
    rw [h1] at hN; cases hN
    subst h5
    exact (leaf_found (found_of hk h2 hf) h2 hs ByteArray.empty).1
  | h + 1, _, _, N, _, S, nd, hT, hs, hN, hf => by
    have hk := hT.srtK hs hN
    obtain ⟨ks, vs, cs, h1, h2, h3, h4⟩ := hT
    have := h3.at_
    rw [hN] at this; cases this
    have hF := found_of hk h3.lv hf
    obtain ⟨A, x, C, _, hA, hC, hL⟩ := h3.around _ (Nat.le_of_lt hF.lt)
    obtain ⟨R, _, h5, _⟩ := inn_found hF h3.lv (by rw [List.length_map]; exact hC) hL hs ByteArray.empty
    exact h5
theorem IsT.gap0 {σ : Sig} {o : Nat} {key : Bs} {lo hi N : Nat} {L : List Pr} {S : Nat → Prop} {nd : Nd} (hT : IsT σ o 0 lo hi N L S) (hs : Srt L) (hN : σ N = some nd) (hf : bsF nd.ks key = false) : getL L key = none := by
  have hk := hT.srtK hs hN
  obtain ⟨ks, vs, h1, h2, h3, h4, h5, h6, h7⟩ := hT
  rw [h1] at hN; cases hN
  subst h5
  exact (leaf_gap (gap_of hk hf) h2 ByteArray.empty).1
theorem IsT.gap {σ : Sig} {o : Nat} {key : Bs} {h lo hi N : Nat} {L : List Pr} {S : Nat → Prop} {nd : Nd} (hT : IsT σ o (h + 1) lo hi N L S) (hs : Srt L) (hN : σ N = some nd) (hf : bsF nd.ks key = false) :
    ∃ M Lx Sx, nd.ns[bsI nd.ks key]? = some M ∧ IsT σ o h (o / 2) o M Lx Sx ∧ Srt Lx ∧ getL L key = getL Lx key := by
  have hk := hT.srtK hs hN
  obtain ⟨ks, vs, cs, h1, h2, h3, h4⟩ := hT
  have := h3.at_
  rw [hN] at this; cases this
  have hG := gap_of hk hf
  obtain ⟨A, x, C, hcs, hA, hC, hL⟩ := h3.around _ hG.le
  obtain ⟨_, _, h5, h6, _⟩ := inn_gap hG h3.lv (by rw [List.length_map]; exact hA) (by rw [List.length_map]; exact hC) hL hs
  have hx : x ∈ cs := by rw [hcs]; simp
  refine ⟨x.id, x.L, x.S, ?_, ?_, h5, h6⟩
  · rw [hcs, List.map_append, List.map_cons, List.getElem?_append_right (by rw [List.length_map, hA]; exact Nat.le_refl _), List.length_map, hA, Nat.sub_self]
    rfl
  · have := (h3.kids x hx).1
    rw [(h4 x hx).1, (h4 x hx).2] at this
    exact this
def GetOut (key : Bs) (L : List Pr) (W : World) (e : Ending) (W' : World) : Prop :=
  e = .returned (.tuple #[.string ((getL L key).getD ByteArray.empty), .bool (getL L key).isSome]) ∧ ∃ q, W' = W.drewN q
set_option maxRecDepth 100000 in
set_option maxHeartbeats 1600000 in
theorem get_any (B T N o h lo hi : Nat) (sz : Int) (σ : Sig) (L : List Pr) (S : Nat → Prop) (key : Bs) (W : World) (hp : Hp B W σ) (hb : Box W T [.int .i64 o, .int .i64 sz, .pointer (some ⟨N, 0, none⟩)]) (hT : IsT σ o h lo hi N L S) (hs : Srt L) (ho : o ≤ 256) (hhi : hi ≤ 256) :
    Calls Try.prog 34 #[.pointer (some ⟨T, 0, none⟩), .string key] W (GetOut key L W) := by
  have HP := Lib.hid hp
  have a2 : W.cell? ⟨T, 2, none⟩ = some (.pointer (some ⟨N, 0, none⟩)) := hb.cell 2 _ rfl
  clear hp hb
  go_enter Try.func34, Try.ntmps34
  go_wp2_with fail
  clear a2
  go_loopw [6, 7, 8] (fun n i ok wr => ∃ (h lo hi N : Nat) (L' : List Pr) (S : Nat → Prop) (q : Nat), n = ptr N ∧ IsT σ o h lo hi N L' S ∧ hi ≤ 256 ∧ Srt L' ∧ getL L' key = getL L key ∧ wr = W.drewN q) (fun n i ok wr => hgt σ o n)
  case atStart => exact ⟨h, lo, hi, N, L, S, 0, rfl, hT, hhi, hs, rfl, rfl⟩
  case round =>
    clear hT hs hhi
    obtain ⟨h, lo, hi, N, L', S, q, rfl, hT, hhi, hs, hg, rfl⟩ := hrel
    have hm := hgt_eq hT
    obtain ⟨nd, hN, hlo, hhk, hlv, _, _, hn0, hn1⟩ := hT.node
    obtain ⟨kv, vv, dv, hnd⟩ := (HP.out.drewN q).node hN
    have hbs := Lib.hid (bs_str B kv nd.ks key _ hnd.r0 (by omega))
    obtain ⟨kg, kc, rfl⟩ := hnd.r0.len
    rw [strv_len] at hbs
    have c0 : W.cell? ⟨N, 0, none⟩ = _ := hnd.c0
    rw [strv_len] at c0
    have c1 : W.cell? ⟨N, 1, none⟩ = some vv := hnd.c1
    have c2 : W.cell? ⟨N, 2, none⟩ = some dv := hnd.c2
    have hk : SrtK nd.ks := hT.srtK hs hN
    have hbi : bsI nd.ks key ≤ nd.ks.length := bsI_le hk
    cases hf : bsF nd.ks key with
    | true =>
      have hF := found_of hk hlv hf
      have hg2 : getL L' key = some (sx nd.vs (bsI nd.ks key)) := hT.found hs hN hf
      obtain ⟨i, hi⟩ : ∃ i, i = bsI nd.ks key := ⟨_, rfl⟩
      rw [← hi] at hF hg2
      obtain ⟨vg, vc, rfl, hv1, hv2, _, hvc⟩ := hnd.r1.get (by rw [strv_len, hlv]; have := hF.lt; omega)
      rw [strv_len] at *
      have hil : i < nd.vs.length := by rw [hlv]; exact hF.lt
      have cv : W.cell? ⟨vg, i, none⟩ = some (.string (sx nd.vs i)) := by
        have : W.cell? _ = _ := hvc i hil
        rw [strv_at, sx_cell hil] at this
        exact this
      have HH := Lib.hid (show getL L key = some (sx nd.vs i) by rw [← hg]; exact hg2)
      rw [hf, ← hi] at hbs
      have hvl : nd.vs.length ≤ 256 := by omega
      clear hnd hN hT hn0 hn1 hk hF hg hg2 hvc hm hi hlv hbi
      simp only [ptr]
      go_wp2_with fail
      refine hbs.out.mono ?_
      rintro e W1 ⟨rfl, p, rfl⟩
      clear c2 c0 hbs
      go_wp2_with fail
      go_ret2
      refine ⟨?_, _, rfl⟩
      rw [HH.out]; rfl
    | false =>
      obtain ⟨i, hi⟩ : ∃ i, i = bsI nd.ks key := ⟨_, rfl⟩
      cases h with
      | zero =>
        have HH := Lib.hid (show getL L key = none by rw [← hg]; exact hT.gap0 hs hN hf)
        have hns := hn0 rfl
        obtain ⟨dg, dc, rfl⟩ := hnd.r2.len
        rw [ptrv_len, hns] at c2
        change W.cell? _ = some (.slice dg 0 dc) at c2
        rw [hf, ← hi] at hbs
        clear hnd hN hT hn0 hn1 hk hg hm hi hlv hns hbi c1
        simp only [ptr]
        go_wp2_with fail
        refine hbs.out.mono ?_
        rintro e W1 ⟨rfl, p, rfl⟩
        clear c0 hbs
        go_wp2_with fail
        go_ret2
        refine ⟨?_, _, rfl⟩
        rw [HH.out]; rfl
      | succ h =>
        obtain ⟨M, Lx, Sx, hM, hTx, hsx, hgx⟩ := hT.gap hs hN hf
        have hmx := hgt_eq hTx
        have hnl := hn1 (by omega)
        obtain ⟨dg, dc, rfl, hd1, hd2, _, hdc⟩ := hnd.r2.get (by rw [ptrv_len, hnl]; omega)
        rw [ptrv_len] at *
        rw [← hi] at hM hbi
        have hil : i < nd.ns.length := by rw [hnl]; omega
        have cv : W.cell? ⟨dg, i, none⟩ = some (.pointer (some ⟨M, 0, none⟩)) := by
          have : W.cell? _ = _ := hdc i hil
          rw [ptrv_at, hM] at this
          exact this
        have hnl2 : nd.ns.length ≤ 257 := by omega
        have hnl3 : 0 < nd.ns.length := by omega
        have HR := Lib.hid (And.intro hTx (And.intro hsx (hgx.symm.trans hg)))
        have HM := Lib.hid (And.intro hm hmx)
        rw [hf, ← hi] at hbs
        clear hnd hN hT hn0 hn1 hk hg hm hmx hi hlv hnl c1 hgx hsx hTx hdc hM
        simp only [ptr]
        go_wp2_with fail
        refine hbs.out.mono ?_
        rintro e W1 ⟨rfl, p, rfl⟩
        clear c0 hbs
        go_wp2_with fail
        go_roundw
        case rel => exact ⟨h, o / 2, o, M, Lx, Sx, _, rfl, HR.out.1, ho, HR.out.2.1, HR.out.2.2, rfl⟩
        case measure =>
          have h1 := HM.out.1
          have h2 := HM.out.2
          unfold ptr at h1 h2
          rw [h1, h2]
          exact Nat.lt_succ_self h
end Go.Proofs.Ytegljepgncicjaa
/- Btree: split. -/
namespace Go.Proofs.Ytegljepgncicjaa
open Go.ChangeShapes Go.WideShapes Go.ChangeAt Go.RowKit Go.Deep
set_option linter.unusedVariables false
set_option linter.unusedSimpArgs false
/-- a piece of a block -/
def Piece (W : World) (g o : Nat) (us : List Value) : Prop := g < W.heap.size ∧ ∀ j u, us[j]? = some u → W.cell? ⟨g, o + j, none⟩ = some u
theorem Piece.kept {W W' : World} {g o : Nat} {us : List Value} (h : Piece W g o us) (hk : Kept (fun _ => False) W W') : Piece W' g o us :=
  ⟨Nat.lt_of_lt_of_le h.1 hk.size, fun j u hj => (World.cell?_of_block (a := ⟨g, o + j, none⟩) (hk.block g h.1 (fun h => h))).trans (h.2 j u hj)⟩
theorem cell_kept' {W W' : World} {b j : Nat} {v : Value} (hk : Kept (fun _ => False) W W') (hb : b < W.heap.size) (h : W.cell? ⟨b, j, none⟩ = some v) : W'.cell? ⟨b, j, none⟩ = some v :=
  (World.cell?_of_block (a := ⟨b, j, none⟩) (hk.block b hb (fun h => h))).trans h
theorem Kept.both {W X Y : World} (h : Kept (fun _ => False) W X) (k : Kept (fun _ => False) X Y) : Kept (fun _ => False) W Y := h.trans k (fun _ h => h.elim)
theorem upd_upd (σ : Sig) (N : Nat) (a b : Nd) : upd (upd σ N a) N b = upd σ N b := by
  refine sig_ext (fun k => ?_) rfl; simp only [upd_k]; split <;> rfl
theorem upd_comm (σ : Sig) {N M : Nat} (h : N ≠ M) (a b : Nd) : upd (upd σ N a) M b = upd (upd σ M b) N a := by
  refine sig_ext (fun k => ?_) rfl; simp only [upd_k]
  by_cases h1 : k = N
  · have h2 : k ≠ M := fun e => h (by rw [← h1, e])
    simp [h1, h2, h]
  · by_cases h2 : k = M
    · simp [h1, h2, Ne.symm h]
    · simp [h1, h2]
/-- the ways out of the pieces of split: a heap of nodes, and what lay below B -/
def HB (B : Nat) (w0 : World) (σ : Sig) (W : World) : Prop := Hp B W σ ∧ Below B w0 W
theorem HB.size {B : Nat} {w0 W : World} {σ : Sig} (h : HB B w0 σ W) (hB : B ≤ w0.heap.size) : B ≤ W.heap.size := Nat.le_trans hB h.2.size
/-- the row of the upper keys of a node -/
theorem piece_of {T B : Nat} {W : World} {g n c m : Nat} {us : List Value} (h : RowV T B W (.slice (some ⟨g, 0, none⟩) n c) us) (hm : m ≤ us.length) : Piece W g m (us.drop m) := by
  rcases h with ⟨h, _⟩ | ⟨g', c', h, _, _, _, hR, hc⟩
  · cases h
  · cases h
    refine ⟨hR.lt, fun j u hj => ?_⟩
    rw [List.getElem?_drop] at hj
    rw [hc (m + j) (List.getElem?_eq_some_iff.1 hj).1]
    exact hj
theorem rowk {B : Nat} {W : World} {v : Value} {xs : List Bs} (h : RowV 9 B W v (strv xs)) (h0 : 0 < xs.length) : ∃ g c, v = .slice (some ⟨g, 0, none⟩) xs.length c ∧ xs.length ≤ c ∧ c ≤ 9223372036854775807 ∧ g < W.heap.size ∧ ∀ j, j < xs.length → W.cell? ⟨g, j, none⟩ = some (.string (sx xs j)) := by
  obtain ⟨g, c, h1, h2, h3, h4, h5⟩ := h.get (by rw [strv_len]; exact h0)
  rw [strv_len] at *
  exact ⟨g, c, h1, h2, h3, h4, fun j hj => by rw [h5 j hj, strv_at, sx_cell hj]⟩
theorem rown {B : Nat} {W : World} {v : Value} {ns : List Nat} (h : RowV 64 B W v (ptrv ns)) (h0 : 0 < ns.length) : ∃ g c, v = .slice (some ⟨g, 0, none⟩) ns.length c ∧ ns.length ≤ c ∧ c ≤ 9223372036854775807 ∧ g < W.heap.size ∧ ∀ j n, ns[j]? = some n → W.cell? ⟨g, j, none⟩ = some (.pointer (some ⟨n, 0, none⟩)) := by
  obtain ⟨g, c, h1, h2, h3, h4, h5⟩ := h.get (by rw [ptrv_len]; exact h0)
  rw [ptrv_len] at *
  exact ⟨g, c, h1, h2, h3, h4, fun j n hj => by rw [h5 j (List.getElem?_eq_some_iff.1 hj).1, ptrv_at, hj]; rfl⟩
/-- a call whose result is stored into a field -/
def FieldOut (B : Nat) (W : World) (σ' : Sig) (N j n : Nat) (e : Ending) (W' : World) : Prop :=
  ∃ a c, e = .returned (.slice a n c) ∧ (∃ u, W'.cell? ⟨N, j, none⟩ = some u) ∧ W'.frozen? ⟨N, j, none⟩ = false ∧ Hp B (W'.setCell ⟨N, j, none⟩ (.slice a n c)) σ' ∧ Below B W (W'.setCell ⟨N, j, none⟩ (.slice a n c))
theorem hp_row {B : Nat} {W : World} {σ : Sig} {N j f n : Nat} {nd nd' : Nd} {v : Value} {args : Array Value} (hp : Hp B W σ) (hB : B ≤ W.heap.size) (hN : σ N = some nd) (hj : j < 3) (hv : W.cell? ⟨N, j, none⟩ = some v)
    (hoth : ∀ i, i < 3 → i ≠ j → nd'.row i = nd.row i) (hn : n = (nd'.row j).length) (hc : Calls Try.prog f args W (RowOut (fT j) B v (nd'.row j) W)) :
    Calls Try.prog f args W (FieldOut B W (upd σ N nd') N j n) := by
  refine hc.mono ?_
  rintro e W' ⟨v', rfl, hr, hk, ho⟩
  obtain ⟨h1, h2, h3, h4, h5, h6⟩ := hp.field hN j hj v v' hv hr hoth hk ho
  obtain ⟨a, c, rfl⟩ := hr.len
  subst hn
  exact ⟨a, c, rfl, Option.isSome_iff_exists.1 h6, h5, h1, h2.below hB (fun k hk => hk.elim (h4 k) (fun e => by rw [e]; exact h3))⟩
theorem hins0 {B : Nat} {W : World} {σ : Sig} {N i vb n : Nat} {ks vs : List Bs} {ns : List Nat} {v : Value} {x : Bs} (hp : Hp B W σ) (hB : B ≤ W.heap.size) (hN : σ N = some ⟨ks, vs, ns⟩) (hv : W.cell? ⟨N, 0, none⟩ = some v) (hi : i ≤ ks.length) (hs : ks.length ≤ 1000) (hn : n = ks.length + 1)
    (hvb : W.heap[vb]? = some (.cells #[.string x] 9 (0, 0))) (hne : ∀ g, v.ownBlock = some g → g ≠ vb) :
    Calls Try.prog 47 #[v, .int .i64 i, .slice (some ⟨vb, 0, none⟩) 1 1] W (FieldOut B W (upd σ N ⟨ks.take i ++ x :: ks.drop i, vs, ns⟩) N 0 n) := by
  obtain ⟨kv, vv, dv, hnd⟩ := hp.node hN
  have := hnd.c0
  rw [hv] at this
  cases this
  exact hp_row hp hB hN (by decide) hv (fun k h1 h2 => by match k, h1 with | 0, _ => exact absurd rfl h2 | 1, _ => rfl | 2, _ => rfl) (by show n = (strv _).length; rw [strv_len, ins_len _ _ _ hi, hn]) (ins_str B v ks i x vb W hnd.r0 hi hs hB hvb (fun e => hne vb e rfl))
theorem hins1 {B : Nat} {W : World} {σ : Sig} {N i vb n : Nat} {ks vs : List Bs} {ns : List Nat} {v : Value} {x : Bs} (hp : Hp B W σ) (hB : B ≤ W.heap.size) (hN : σ N = some ⟨ks, vs, ns⟩) (hv : W.cell? ⟨N, 1, none⟩ = some v) (hi : i ≤ vs.length) (hs : vs.length ≤ 1000) (hn : n = vs.length + 1)
    (hvb : W.heap[vb]? = some (.cells #[.string x] 9 (0, 0))) (hne : ∀ g, v.ownBlock = some g → g ≠ vb) :
    Calls Try.prog 47 #[v, .int .i64 i, .slice (some ⟨vb, 0, none⟩) 1 1] W (FieldOut B W (upd σ N ⟨ks, vs.take i ++ x :: vs.drop i, ns⟩) N 1 n) := by
  obtain ⟨kv, vv, dv, hnd⟩ := hp.node hN
  have := hnd.c1
  rw [hv] at this
  cases this
  exact hp_row hp hB hN (by decide) hv (fun k h1 h2 => by match k, h1 with | 0, _ => rfl | 1, _ => exact absurd rfl h2 | 2, _ => rfl) (by show n = (strv _).length; rw [strv_len, ins_len _ _ _ hi, hn]) (ins_str B v vs i x vb W hnd.r1 hi hs hB hvb (fun e => hne vb e rfl))
theorem hins2 {B : Nat} {W : World} {σ : Sig} {N i vb n x : Nat} {ks vs : List Bs} {ns : List Nat} {v : Value} (hp : Hp B W σ) (hB : B ≤ W.heap.size) (hN : σ N = some ⟨ks, vs, ns⟩) (hv : W.cell? ⟨N, 2, none⟩ = some v) (hi : i ≤ ns.length) (hs : ns.length ≤ 1000) (hn : n = ns.length + 1)
    (hvb : W.heap[vb]? = some (.cells #[.pointer (some ⟨x, 0, none⟩)] 64 (0, 0))) (hne : ∀ g, v.ownBlock = some g → g ≠ vb) :
    Calls Try.prog 48 #[v, .int .i64 i, .slice (some ⟨vb, 0, none⟩) 1 1] W (FieldOut B W (upd σ N ⟨ks, vs, ns.take i ++ x :: ns.drop i⟩) N 2 n) := by
  obtain ⟨kv, vv, dv, hnd⟩ := hp.node hN
  have := hnd.c2
  rw [hv] at this
  cases this
  refine hp_row (nd' := ⟨ks, vs, ns.take i ++ x :: ns.drop i⟩) hp hB hN (by decide) hv (fun k h1 h2 => by match k, h1 with | 0, _ => rfl | 1, _ => rfl | 2, _ => exact absurd rfl h2) (by show n = (ptrv _).length; rw [ptrv_len]; simp; omega) ?_
  have := insp_any B v (ptrv ns) i (ptr x) vb W hnd.r2 (by rw [ptrv_len]; exact hi) (by rw [ptrv_len]; exact hs) hB hvb (fun e => hne vb e rfl) (ptrv_one ns) rfl
  rw [← ptrv_ins] at this
  exact this
theorem hdel0 {B : Nat} {W : World} {σ : Sig} {N i j n : Nat} {ks vs : List Bs} {ns : List Nat} {v : Value} (hp : Hp B W σ) (hB : B ≤ W.heap.size) (hN : σ N = some ⟨ks, vs, ns⟩) (hv : W.cell? ⟨N, 0, none⟩ = some v) (hij : i < j) (hj : j ≤ ks.length) (hn : n = ks.length - (j - i)) :
    Calls Try.prog 49 #[v, .int .i64 i, .int .i64 j] W (FieldOut B W (upd σ N ⟨ks.take i ++ ks.drop j, vs, ns⟩) N 0 n) := by
  obtain ⟨kv, vv, dv, hnd⟩ := hp.node hN
  have := hnd.c0
  rw [hv] at this
  cases this
  exact hp_row hp hB hN (by decide) hv (fun k h1 h2 => by match k, h1 with | 0, _ => exact absurd rfl h2 | 1, _ => rfl | 2, _ => rfl) (by show n = (strv _).length; rw [strv_len]; simp; omega) (del_str B v ks i j W hnd.r0 hij hj)
theorem hdel1 {B : Nat} {W : World} {σ : Sig} {N i j n : Nat} {ks vs : List Bs} {ns : List Nat} {v : Value} (hp : Hp B W σ) (hB : B ≤ W.heap.size) (hN : σ N = some ⟨ks, vs, ns⟩) (hv : W.cell? ⟨N, 1, none⟩ = some v) (hij : i < j) (hj : j ≤ vs.length) (hn : n = vs.length - (j - i)) :
    Calls Try.prog 49 #[v, .int .i64 i, .int .i64 j] W (FieldOut B W (upd σ N ⟨ks, vs.take i ++ vs.drop j, ns⟩) N 1 n) := by
  obtain ⟨kv, vv, dv, hnd⟩ := hp.node hN
  have := hnd.c1
  rw [hv] at this
  cases this
  exact hp_row hp hB hN (by decide) hv (fun k h1 h2 => by match k, h1 with | 0, _ => rfl | 1, _ => exact absurd rfl h2 | 2, _ => rfl) (by show n = (strv _).length; rw [strv_len]; simp; omega) (del_str B v vs i j W hnd.r1 hij hj)
theorem hdel2 {B : Nat} {W : World} {σ : Sig} {N i j n : Nat} {ks vs : List Bs} {ns : List Nat} {v : Value} (hp : Hp B W σ) (hB : B ≤ W.heap.size) (hN : σ N = some ⟨ks, vs, ns⟩) (hv : W.cell? ⟨N, 2, none⟩ = some v) (hij : i < j) (hj : j ≤ ns.length) (hn : n = ns.length - (j - i)) :
    Calls Try.prog 51 #[v, .int .i64 i, .int .i64 j] W (FieldOut B W (upd σ N ⟨ks, vs, ns.take i ++ ns.drop j⟩) N 2 n) := by
  obtain ⟨kv, vv, dv, hnd⟩ := hp.node hN
  have := hnd.c2
  rw [hv] at this
  cases this
  exact hp_row hp hB hN (by decide) hv (fun k h1 h2 => by match k, h1 with | 0, _ => rfl | 1, _ => rfl | 2, _ => exact absurd rfl h2) (by show n = (ptrv _).length; rw [ptrv_len]; simp; omega) (del_ptr B v ns i j W hnd.r2 hij hj)
end Go.Proofs.Ytegljepgncicjaa
