/- Btree: rows of strings of one's own; slices.Insert on them. -/
import Derived.Test.YtegljepgncicjaaRows
import Derived.Test.YtegljepgncicjaaShelf
import Derived.WalkKit
import Derived.ProofKit
import Derived.Below
import Derived.Outline
import Derived.OwnWalk
import Derived.Laws.AppendOwn
import Derived.Laws.OwnMore
import Derived.Laws.IdiomCopy
import Derived.Deep.Slices
import Derived.Deep.MidRow
import Derived.Lib.Hide
import Derived.IntWalk
import Derived.Deep.QuietTactic
import Derived.BigQuiet
import Derived.StillTailTactics
import Derived.Shelf.Spec.SlicesInsert
import Derived.Shelf.Spec.SlicesInsertGrow
import Derived.Shelf.Spec.SearchS
namespace Go.Proofs.Ytegljepgncicjaa
open Go.ChangeShapes Go.WideShapes Go.ChangeAt Go.RowKit
set_option linter.unusedVariables false
set_option linter.unusedSimpArgs false
abbrev Bs := ByteArray
/-- what a call may have changed: the blocks of S alone -/
structure Kept (S : Nat → Prop) (W W' : World) : Prop where
  os : W'.os = W.os
  tape : W'.tape = W.tape
  output : W'.output = W.output
  size : W.heap.size ≤ W'.heap.size
  block : ∀ k, k < W.heap.size → ¬ S k → W'.heap[k]? = W.heap[k]?
theorem Kept.refl (S : Nat → Prop) (W : World) : Kept S W W := ⟨rfl, rfl, rfl, Nat.le_refl _, fun _ _ _ => rfl⟩
theorem Kept.below {S : Nat → Prop} {W W' : World} {B : Nat} (h : Kept S W W') (hB : B ≤ W.heap.size) (hS : ∀ k, S k → B ≤ k) : Below B W W' := ⟨h.os, h.tape, h.output, h.size, fun k hk => h.block k (by omega) (fun hs => by have := hS k hs; omega)⟩
theorem Kept.drew {S : Nat → Prop} {W W' : World} (h : Kept S W W') : Kept S W W'.drew := ⟨h.os, h.tape, h.output, h.size, h.block⟩
theorem Kept.drewN {S : Nat → Prop} {W W' : World} (h : Kept S W W') (n : Nat) : Kept S W (W'.drewN n) := ⟨h.os, h.tape, h.output, h.size, h.block⟩
theorem heap_setCells (g : Nat) : ∀ (vs : List Value) (o : Nat) (W : World) (k : Nat), k ≠ g → (W.setCells g o vs).heap[k]? = W.heap[k]?
  | [], _, _, _, _ => rfl
  | v :: r, o, W, k, h => by
    rw [World.setCells, heap_setCells g r (o + 1) _ k h]
    simp only [World.setCell]
    rw [Array.getElem?_modify, if_neg (fun e => h e.symm)]
theorem size_setCells' (g : Nat) : ∀ (vs : List Value) (o : Nat) (W : World), (W.setCells g o vs).heap.size = W.heap.size
  | [], _, _ => rfl
  | v :: r, o, W => by rw [World.setCells, size_setCells' g r (o + 1)]; simp [World.setCell]
theorem rest_setCells (g : Nat) : ∀ (vs : List Value) (o : Nat) (W : World), (W.setCells g o vs).os = W.os ∧ (W.setCells g o vs).tape = W.tape ∧ (W.setCells g o vs).output = W.output
  | [], _, _ => ⟨rfl, rfl, rfl⟩
  | v :: r, o, W => by rw [World.setCells]; exact rest_setCells g r (o + 1) _
theorem Kept.setCells {S : Nat → Prop} {W W' : World} (h : Kept S W W') (g o : Nat) (vs : List Value) (hg : S g ∨ W.heap.size ≤ g) : Kept S W (W'.setCells g o vs) := by
  obtain ⟨h1, h2, h3⟩ := rest_setCells g vs o W'
  refine ⟨h1.trans h.os, h2.trans h.tape, h3.trans h.output, by rw [size_setCells']; exact h.size, fun k hk hs => ?_⟩
  rw [heap_setCells g vs o W' k (fun e => by subst e; rcases hg with hg | hg; exact hs hg; omega)]
  exact h.block k hk hs
theorem Kept.alloc {S : Nat → Prop} {W W' : World} (h : Kept S W W') (ob : Obj) : Kept S W (W'.alloc ob) := by
  refine ⟨h.os, h.tape, h.output, ?_, fun k hk hs => ?_⟩
  · have := h.size; rw [World.size_alloc]; omega
  · rw [← h.block k hk hs]
    show (W'.heap.push ob)[k]? = _
    have := h.size
    rw [Array.getElem?_push, if_neg (by omega)]
theorem Kept.trans {S T : Nat → Prop} {W W' W'' : World} (h : Kept S W W') (h2 : Kept T W' W'') (hT : ∀ k, T k → S k ∨ W.heap.size ≤ k) : Kept S W W'' :=
  ⟨h2.os.trans h.os, h2.tape.trans h.tape, h2.output.trans h.output, Nat.le_trans h.size h2.size, fun k hk hs => (h2.block k (Nat.lt_of_lt_of_le hk h.size) (fun ht => by rcases hT k ht with h3 | h3; exact hs h3; omega)).trans (h.block k hk hs)⟩
/-- a block of c strings -/
structure Row (W : World) (g c : Nat) : Prop where
  sh : W.shape? g = some (9, c)
  fr : ∀ j, W.frozen? ⟨g, j, none⟩ = false
  th : ∀ j, j < c → (W.cell? ⟨g, j, none⟩).isSome = true
theorem Row.lt {W : World} {g c : Nat} (h : Row W g c) : g < W.heap.size := by
  rcases Nat.lt_or_ge g W.heap.size with h2 | h2
  · exact h2
  · have := h.sh
    simp [World.shape?, Array.getElem?_eq_none h2] at this
theorem Row.same {W W' : World} {g c : Nat} (h : Row W g c) (e : W'.heap[g]? = W.heap[g]?) : Row W' g c :=
  ⟨by have := h.sh; unfold World.shape? at *; rw [e]; exact this, fun j => (World.frozen?_of_block (a := ⟨g, j, none⟩) e).trans (h.fr j), fun j hj => by rw [World.cell?_of_block (a := ⟨g, j, none⟩) e]; exact h.th j hj⟩
theorem shape_setCells (g : Nat) : ∀ (vs : List Value) (o : Nat) (W : World) (k : Nat), (W.setCells g o vs).shape? k = W.shape? k
  | [], _, _, _ => rfl
  | v :: r, o, W, k => by
    rw [World.setCells, shape_setCells g r (o + 1) _ k]
    unfold World.shape?
    simp only [World.setCell]
    rw [Array.getElem?_modify]
    by_cases h : g = k
    · rw [if_pos h]
      cases hk : W.heap[k]? with
      | none => rfl
      | some ob => cases ob <;> simp
    · rw [if_neg h]
theorem Row.set {W : World} {g c : Nat} (h : Row W g c) (o : Nat) (vs : List Value) : Row (W.setCells g o vs) g c :=
  ⟨(shape_setCells g vs o W g).trans h.sh, fun j => (World.frozen?_setCells g vs o W _).trans (h.fr j), fun j hj => World.isSome_setCells g vs o W _ (h.th j hj)⟩
theorem Row.at {W : World} {g c : Nat} (h : Row W g c) (o : Nat) (vs : List Value) (ho : o + vs.length ≤ c) (j : Nat) : (W.setCells g o vs).cell? ⟨g, j, none⟩ = if o ≤ j ∧ j < o + vs.length then vs[j - o]? else W.cell? ⟨g, j, none⟩ := by
  split
  · rename_i hj
    have := World.cell?_setCells_in g vs o W (fun i hi => h.th _ (by omega)) (j - o) (by omega)
    rw [show o + (j - o) = j by omega] at this
    rw [this, List.getElem?_eq_getElem]
  · rename_i hj
    exact World.cell?_setCells_out g vs o W _ (fun _ _ => by show j < o ∨ o + vs.length ≤ j; omega)
/-- a slice of strings of one's own: nil, or the first cells of a block -/
def RowS (B : Nat) (W : World) (v : Value) (xs : List Bs) : Prop :=
  (v = .slice none 0 0 ∧ xs = []) ∨ ∃ g c, v = .slice (some ⟨g, 0, none⟩) xs.length c ∧ B ≤ g ∧ xs.length ≤ c ∧ 0 < c ∧ c ≤ 9223372036854775807 ∧ Row W g c ∧ ∀ j, j < xs.length → W.cell? ⟨g, j, none⟩ = (xs[j]?).map .string
theorem RowS.lt {B : Nat} {W : World} {v : Value} {xs : List Bs} (h : RowS B W v xs) : ∀ k, v.ownBlock = some k → B ≤ k ∧ k < W.heap.size := by
  rcases h with ⟨rfl, _⟩ | ⟨g, c, rfl, h1, _, _, _, hR, _⟩
  · intro k hk; simp [Value.ownBlock] at hk
  · intro k hk
    simp [Value.ownBlock] at hk
    subst hk
    exact ⟨h1, hR.lt⟩
theorem RowS.kept {B : Nat} {S : Nat → Prop} {W W' : World} {v : Value} {xs : List Bs} (h : RowS B W v xs) (hk : Kept S W W') (hS : ∀ k, v.ownBlock = some k → ¬ S k) : RowS B W' v xs := by
  rcases h with ⟨rfl, h⟩ | ⟨g, c, rfl, h1, h2, h3, h4, hR, hc⟩
  · exact .inl ⟨rfl, h⟩
  · have e := hk.block g hR.lt (hS g rfl)
    exact .inr ⟨g, c, rfl, h1, h2, h3, h4, hR.same e, fun j hj => (World.cell?_of_block (a := ⟨g, j, none⟩) e).trans (hc j hj)⟩
theorem RowS.len {B : Nat} {W : World} {v : Value} {xs : List Bs} (h : RowS B W v xs) : ∃ a c, v = .slice a xs.length c := by
  rcases h with ⟨rfl, rfl⟩ | ⟨g, c, rfl, _⟩
  · exact ⟨none, 0, rfl⟩
  · exact ⟨_, _, rfl⟩
/-- a new block -/
theorem row_new (W : World) (arr : Array Value) (c : Nat) (hc : arr.size = c) : Row (W.alloc (.cells arr 9)) W.heap.size c := by
  have e : (W.alloc (.cells arr 9)).heap[W.heap.size]? = some (.cells arr 9 (0, 0)) := by
    show (W.heap.push _)[W.heap.size]? = _
    rw [Array.getElem?_push_size]
  refine ⟨by unfold World.shape?; rw [e]; rw [← hc], fun j => by unfold World.frozen?; rw [e]; simp, fun j hj => ?_⟩
  unfold World.cell?
  rw [e]
  simp
  omega
theorem cell_new' (W : World) (arr : Array Value) (j : Nat) : (W.alloc (.cells arr 9)).cell? ⟨W.heap.size, j, none⟩ = arr[j]? := by
  have e : (W.alloc (.cells arr 9)).heap[W.heap.size]? = some (.cells arr 9 (0, 0)) := by
    show (W.heap.push _)[W.heap.size]? = _
    rw [Array.getElem?_push_size]
  unfold World.cell?
  rw [e]
  rfl
def strv (xs : List Bs) : List Value := xs.map .string
theorem strv_at (xs : List Bs) (j : Nat) : (strv xs)[j]? = (xs[j]?).map .string := List.getElem?_map ..
theorem strv_len (xs : List Bs) : (strv xs).length = xs.length := List.length_map ..
theorem strv_one (xs : List Bs) : ∀ v ∈ strv xs, v.oneCell' = true := by
  intro v hv
  obtain ⟨x, _, rfl⟩ := List.mem_map.1 hv
  rfl
theorem zc_size (n : Nat) : (Builtin.zeroCells (Value.string ⟨#[]⟩).cells n).size = n := by simp [Builtin.zeroCells, Value.cells]
theorem ins_len (ks : List Bs) (i : Nat) (x : Bs) (hi : i ≤ ks.length) : (ks.take i ++ x :: ks.drop i).length = ks.length + 1 := by simp; omega
theorem ins_at (ks : List Bs) (i : Nat) (x : Bs) (hi : i ≤ ks.length) (j : Nat) : (ks.take i ++ x :: ks.drop i)[j]? = if j < i then ks[j]? else if j = i then some x else ks[j - 1]? := by
  rw [List.getElem?_append, List.length_take, Nat.min_eq_left hi]
  split
  · rw [List.getElem?_take, if_pos (by assumption)]
  · split
    · rename_i h1 h2
      rw [h2, Nat.sub_self]; rfl
    · rename_i h1 h2
      rw [show j - i = (j - i - 1) + 1 by omega, List.getElem?_cons_succ, List.getElem?_drop]
      congr 1
      omega
def InsOut (B : Nat) (v : Value) (xs : List Bs) (W : World) (e : Ending) (W' : World) : Prop :=
  ∃ v', e = .returned v' ∧ RowS B W' v' xs ∧ Kept (fun k => v.ownBlock = some k) W W' ∧ ∀ g, v'.ownBlock = some g → v.ownBlock = some g ∨ W.heap.size ≤ g
set_option maxHeartbeats 1600000 in
theorem ins_any (B : Nat) (v : Value) (ks : List Bs) (i : Nat) (x : Bs) (vb : Nat) (W : World) (h : RowS B W v ks) (hi : i ≤ ks.length) (hs : ks.length ≤ 1000) (hB : B ≤ W.heap.size)
    (hvb : W.heap[vb]? = some (.cells #[.string x] 9 (0, 0))) (hne : v.ownBlock ≠ some vb) :
    Calls Try.prog 47 #[v, .int .i64 i, .slice (some ⟨vb, 0, none⟩) 1 1] W (InsOut B v (ks.take i ++ x :: ks.drop i) W) := by
  have hvs : ∀ j u, ([Value.string x] : List Value)[j]? = some u → W.cell? ⟨vb, 0 + j, none⟩ = some u := by
    intro j u hj
    have : j = 0 := by
      have := (List.getElem?_eq_some_iff.1 hj).1
      simpa using this
    subst this
    unfold World.cell?
    rw [show (⟨vb, 0 + 0, none⟩ : Addr).block = vb from rfl, hvb]
    simpa using hj
  have h1v : ∀ u ∈ ([Value.string x] : List Value), u.oneCell' = true := by intro u hu; rw [List.mem_singleton.1 hu]; rfl
  rcases h with ⟨rfl, rfl⟩ | ⟨g, c, rfl, hBg, hnc, hc0, hc63, hR, hc⟩
  · obtain rfl : i = 0 := by simpa using hi
    refine (Any2.slices_Insert_string_end_grow Try.laysINS none 0 0 vb 0 1 1 [] [.string x] W (by decide) (by decide) (by decide) (by decide) rfl rfl (fun _ => rfl) (fun a ha => by cases ha) hvs h1v).mono ?_
    rintro e W' ⟨he, hw⟩
    rw [show Try.laysINS_ren.t 9 = 9 from rfl] at he hw
    have hge := grownCap_ge W (0 + 1) 0 9
    have hle := grownCap_le_maxLen W (0 + 1) 0 9 (by decide)
    unfold maxLen at hle
    generalize grownCap W (0 + 1) 0 9 = cap at *
    have hsz : ((([] : List Value) ++ [Value.string x]).toArray ++ Builtin.zeroCells (Value.string ⟨#[]⟩).cells (cap - (0 + 1))).size = cap := by
      rw [Array.size_append, zc_size]
      show 1 + (cap - (0 + 1)) = cap
      omega
    subst he
    subst hw
    refine ⟨_, rfl, .inr ⟨W.heap.size, _, rfl, hB, hge, by omega, by omega, row_new W.drew _ _ hsz, fun j hj => ?_⟩, (Kept.refl _ _).drew.alloc _, fun k hk => .inr ?_⟩
    · have : j = 0 := by simpa using hj
      subst this
      refine Eq.trans (cell_new' W.drew _ 0) ?_
      rw [Array.getElem?_append, if_pos (by simp)]
      rfl
    · simp [Value.ownBlock] at hk
      omega
  · have hl := ins_len ks i x hi
    have hcs : ∀ j u, (strv ks)[j]? = some u → W.cell? ⟨g, 0 + j, none⟩ = some u := by
      intro j u hj
      have hjl := (List.getElem?_eq_some_iff.1 hj).1
      rw [strv_len] at hjl
      rw [Nat.zero_add, hc j hjl, ← strv_at]
      exact hj
    have hsh : ∀ k, g = k → W.shape? k = some (9, c) := fun k e => by rw [← e]; exact hR.sh
    have hnev : vb ≠ g := fun e => hne (by simp [Value.ownBlock, e])
    by_cases hin : i = ks.length
    · subst hin
      by_cases hroom : ks.length + 1 ≤ c
      · refine (Any2.slices_Insert_string_end_room Try.laysINS g 0 ks.length c vb 0 1 1 [.string x] W (by decide) hroom hc63 rfl (fun j hj => hR.th _ (by omega)) (fun j hj => hR.fr _) hvs h1v).mono ?_
        rintro e W' ⟨rfl, rfl⟩
        refine ⟨_, rfl, .inr ⟨g, c, by rw [hl], hBg, by rw [hl]; exact hroom, hc0, hc63, hR.set _ _, fun j hj => ?_⟩, (Kept.refl (fun k => (Value.slice (some ⟨g, 0, none⟩) ks.length c).ownBlock = some k) W).setCells g _ _ (.inl (show _ = some g from rfl)), fun k hk => .inl hk⟩
        rw [hR.at (0 + ks.length) [.string x] (by simp; omega) j, ins_at ks _ x hi j]
        rw [hl] at hj
        by_cases h1 : j < ks.length
        · rw [if_neg (by omega), if_pos h1]; exact hc j h1
        · obtain rfl : j = ks.length := by omega
          rw [if_pos (by simp), if_neg h1, if_pos rfl]
          simp
      · refine (Any2.slices_Insert_string_end_grow Try.laysINS (some ⟨g, 0, none⟩) ks.length c vb 0 1 1 (strv ks) [.string x] W (by decide) hnc (by omega) (by omega) (strv_len ks) rfl (fun e => by cases e) (fun a ha j u hj => by
          cases ha
          have := hcs j u hj
          rw [Nat.zero_add] at this
          simpa [Addr.add] using (by by_cases h0 : j = 0 <;> simp [Addr.add, h0] at this ⊢ <;> first | exact this | (subst h0; exact this))) hvs h1v).mono ?_
        rintro e W' ⟨he, hw⟩
        rw [show Try.laysINS_ren.t 9 = 9 from rfl] at he hw
        have hge := grownCap_ge W (ks.length + 1) c 9
        have hle := grownCap_le_maxLen W (ks.length + 1) c 9 (by unfold maxLen; omega)
        unfold maxLen at hle
        generalize grownCap W (ks.length + 1) c 9 = cap at *
        have hsz : ((strv ks ++ [Value.string x]).toArray ++ Builtin.zeroCells (Value.string ⟨#[]⟩).cells (cap - (ks.length + 1))).size = cap := by
          rw [Array.size_append, zc_size, List.size_toArray, List.length_append, strv_len]
          simp only [List.length_cons, List.length_nil]
          omega
        subst he
        subst hw
        refine ⟨_, rfl, .inr ⟨W.heap.size, _, by rw [hl], hB, by rw [hl]; exact hge, by omega, by omega, row_new W.drew _ _ hsz, fun j hj => ?_⟩, (Kept.refl _ _).drew.alloc _, fun k hk => .inr ?_⟩
        · rw [hl] at hj
          refine Eq.trans (cell_new' W.drew _ j) ?_
          rw [Array.getElem?_append, if_pos (by rw [List.size_toArray, List.length_append, strv_len]; exact hj), ins_at ks _ x hi j]
          rw [List.getElem?_toArray, List.getElem?_append, strv_len]
          by_cases h1 : j < ks.length
          · rw [if_pos h1, if_pos h1, strv_at]
          · obtain rfl : j = ks.length := by omega
            rw [if_neg h1, if_neg h1, if_pos rfl, Nat.sub_self]; rfl
        · simp [Value.ownBlock] at hk
          omega
    · have hin' : i < ks.length := by omega
      by_cases hroom : ks.length + 1 ≤ c
      · refine (Any2.slices_Insert_string_shift Try.laysINS g 0 ks.length c i vb 0 1 1 (strv ks) [.string x] W hin' (by decide) hroom hc63 hnev (strv_len ks) rfl hcs (fun j hj => by rw [Nat.zero_add]; exact hR.th _ (by omega)) (fun j hj => by rw [Nat.zero_add]; exact hR.fr _) hvs (strv_one ks) h1v
          9 9 1 c (by unfold World.shape?; rw [hvb]; rfl) hR.sh (by omega) (by unfold World.frozen?; rw [hvb]; rfl) (by unfold World.frozen?; rw [hvb]; rfl)).mono ?_
        rintro e W' ⟨rfl, rfl⟩
        have hR1 : Row W.drew g c := ⟨hR.sh, hR.fr, hR.th⟩
        have hR2 := hR1.set (0 + (i + 1)) ((strv ks).drop i)
        refine ⟨_, rfl, .inr ⟨g, c, by rw [hl], hBg, by rw [hl]; exact hroom, hc0, hc63, hR2.set _ _, fun j hj => ?_⟩, ((Kept.refl (fun k => (Value.slice (some ⟨g, 0, none⟩) ks.length c).ownBlock = some k) W).drew.setCells g _ _ (.inl (show _ = some g from rfl))).setCells g _ _ (.inl (show _ = some g from rfl)), fun k hk => .inl hk⟩
        rw [hl] at hj
        have hdl : ((strv ks).drop i).length = ks.length - i := by rw [List.length_drop, strv_len]
        rw [hR2.at (0 + i) [.string x] (by simp; omega) j, hR1.at (0 + (i + 1)) _ (by rw [hdl]; omega) j, ins_at ks _ x hi j, hdl]
        by_cases h1 : j < i
        · rw [if_neg (by omega), if_neg (by omega), if_pos h1]; exact hc j (by omega)
        · by_cases h2 : j = i
          · subst h2
            rw [if_pos (by simp), if_neg h1, if_pos rfl]
            simp
          · rw [if_neg (by simp; omega), if_pos (by omega), if_neg h1, if_neg h2, List.getElem?_drop, strv_at]
            congr 2
            omega
      · refine (Any2.slices_Insert_string_grow Try.laysINS g 0 ks.length c i vb 0 1 1 (strv ks) [.string x] W hin' (by decide) hnc (by omega) (by omega) (strv_len ks) rfl hcs hvs (strv_one ks) h1v).mono ?_
        rintro e W' ⟨he, hw⟩
        rw [show Try.laysINS_ren.t 9 = 9 from rfl] at he hw
        have hge := grownCap_ge W (ks.length + 1) c 9
        have hle := grownCap_le_maxLen W (ks.length + 1) c 9 (by unfold maxLen; omega)
        unfold maxLen at hle
        generalize grownCap W (ks.length + 1) c 9 = cap at *
        subst he
        subst hw
        have hsz : (((strv ks).take i).toArray ++ Builtin.zeroCells (Value.string ⟨#[]⟩).cells (ks.length + 1 - i) ++ Builtin.zeroCells (Value.string ⟨#[]⟩).cells (cap - (ks.length + 1))).size = cap := by
          rw [Array.size_append, Array.size_append, zc_size, zc_size, List.size_toArray, List.length_take, strv_len]
          omega
        have hR0 : Row ((W.alloc (.cells (((strv ks).take i).toArray ++ Builtin.zeroCells (Value.string ⟨#[]⟩).cells (ks.length + 1 - i) ++ Builtin.zeroCells (Value.string ⟨#[]⟩).cells (cap - (ks.length + 1))) 9)).drew) W.heap.size cap := by
          have := row_new W _ _ hsz
          exact ⟨this.sh, this.fr, this.th⟩
        have hR1 := hR0.set i [.string x]
        have hR1' : Row ((W.alloc (.cells (((strv ks).take i).toArray ++ Builtin.zeroCells (Value.string ⟨#[]⟩).cells (ks.length + 1 - i) ++ Builtin.zeroCells (Value.string ⟨#[]⟩).cells (cap - (ks.length + 1))) 9)).drew.setCells W.heap.size i [.string x]).drew W.heap.size cap := ⟨hR1.sh, hR1.fr, hR1.th⟩
        have hdl : ((strv ks).drop i).length = ks.length - i := by rw [List.length_drop, strv_len]
        refine ⟨_, rfl, .inr ⟨W.heap.size, _, by rw [hl], hB, by rw [hl]; exact hge, by omega, by omega, hR1'.set _ _, fun j hj => ?_⟩, ((((Kept.refl _ _).alloc _).drew.setCells _ _ _ (.inr (Nat.le_refl _))).drew).setCells _ _ _ (.inr (Nat.le_refl _)), fun k hk => .inr ?_⟩
        · rw [hl] at hj
          rw [hR1'.at (i + 1) _ (by rw [hdl]; omega) j, ins_at ks _ x hi j, hdl]
          by_cases h1 : j < i
          · rw [if_neg (by omega), if_pos h1]
            refine Eq.trans (hR0.at i [.string x] (by simp; omega) j) ?_
            rw [if_neg (by omega)]
            refine Eq.trans (cell_new' W _ j) ?_
            rw [Array.getElem?_append, if_pos (by rw [Array.size_append, zc_size, List.size_toArray, List.length_take, strv_len]; omega), Array.getElem?_append, if_pos (by rw [List.size_toArray, List.length_take, strv_len]; omega)]
            rw [List.getElem?_toArray, List.getElem?_take, if_pos h1, strv_at]
          · by_cases h2 : j = i
            · subst h2
              rw [if_neg (by omega), if_neg h1, if_pos rfl]
              refine Eq.trans (hR0.at j [.string x] (by simp; omega) j) ?_
              rw [if_pos (by simp)]
              simp
            · rw [if_pos (by omega), if_neg h1, if_neg h2, List.getElem?_drop, strv_at]
              congr 2
              omega
        · simp [Value.ownBlock] at hk
          omega
end Go.Proofs.Ytegljepgncicjaa
