/- Btree: BinarySearch and Delete on rows of one's own; a node without kids; put into it. -/
import Derived.Test.YtegljepgncicjaaBt1
import Derived.Test.YtegljepgncicjaaBox
namespace Go.Proofs.Ytegljepgncicjaa
open Go.ChangeShapes Go.WideShapes Go.ChangeAt Go.RowKit Go.Deep
set_option linter.unusedVariables false
set_option linter.unusedSimpArgs false
def sx (xs : List Bs) (j : Nat) : Bs := (xs[j]?).getD ByteArray.empty
def bsI (xs : List Bs) (x : Bs) : Nat := Lib.bsGo (fun t => Op.bytesLess (sx xs t).toList x.toList) xs.length 0 xs.length
def bsF (xs : List Bs) (x : Bs) : Bool := decide (bsI xs x < xs.length ∧ sx xs (bsI xs x) = x)
theorem sx_cell {xs : List Bs} {j : Nat} (h : j < xs.length) : (xs[j]?).map Value.string = some (.string (sx xs j)) := by
  unfold sx
  rw [List.getElem?_eq_getElem h]
  rfl
theorem bs_any (B : Nat) (v : Value) (xs : List Bs) (x : Bs) (W : World) (h : RowS B W v xs) (hs : xs.length ≤ 1000) :
    Calls Try.prog 45 #[v, .string x] W fun e W' => e = .returned (.tuple #[.int .i64 (bsI xs x : Nat), .bool (bsF xs x)]) ∧ ∃ q, W' = W.drewN q := by
  rcases h with ⟨rfl, rfl⟩ | ⟨g, c, rfl, hBg, hnc, hc0, hc63, hR, hc⟩
  · refine (Any2.slices_BinarySearch_string_empty Try.laysBS none 0 x W).mono ?_
    rintro e W' ⟨rfl, rfl⟩
    exact ⟨rfl, 0, rfl⟩
  · refine (Any2.slices_BinarySearch_string Try.laysBS g 0 xs.length c (sx xs) x W (by omega) (fun j hj => by rw [Nat.zero_add, hc j hj, sx_cell hj])).mono ?_
    rintro e W' ⟨rfl, hq⟩
    exact ⟨rfl, hq⟩
theorem enc_str (b : Bs) : (⟨b.data.toList.toArray⟩ : ByteArray) = b := by cases b; simp
theorem del_any (B : Nat) (v : Value) (xs : List Bs) (i : Nat) (W : World) (h : RowS B W v xs) (hi : i < xs.length) :
    Calls Try.prog 49 #[v, .int .i64 i, .int .i64 ((i : Int) + 1)] W fun e W' => ∃ v', e = .returned v' ∧ RowS B W' v' (xs.eraseIdx i) ∧ Kept (fun k => v.ownBlock = some k) W W' ∧ v'.ownBlock = v.ownBlock := by
  rw [show ((i : Int) + 1) = ((i + 1 : Nat) : Int) by omega]
  rcases h with ⟨rfl, rfl⟩ | ⟨g, c, rfl, hBg, hnc, hc0, hc63, hR, hc⟩
  · exact absurd hi (Nat.not_lt_zero _)
  · refine (Try.slices_Delete_string_cells g 0 xs.length c i (i + 1) (sx xs) W hnc hc63 (by omega) (by omega) (fun j hj => by rw [Nat.zero_add, hc j hj, sx_cell hj]) (fun j hj => hR.fr _)).mono ?_
    rintro e W' ⟨rfl, q, rfl⟩
    have hl : (xs.eraseIdx i).length = xs.length - 1 := by rw [List.length_eraseIdx, if_pos hi]
    have hRq : Row (W.drewN q) g c := ⟨hR.sh, hR.fr, hR.th⟩
    have hsl : (Lib.strsOf (sx xs) xs.length).length = xs.length := Lib.strsOf_length _ _
    have hlen : ((((Lib.strsOf (sx xs) xs.length).take i ++ (Lib.strsOf (sx xs) xs.length).drop (i + 1) ++ List.replicate (i + 1 - i) []).map Go.Proofs.encStr)).length = xs.length := by
      simp [hsl]; omega
    refine ⟨_, rfl, .inr ⟨g, c, by rw [hl]; congr 1; omega, hBg, by omega, hc0, hc63, hRq.set _ _, fun j hj => ?_⟩, ((Kept.refl (fun k => (Value.slice (some ⟨g, 0, none⟩) xs.length c).ownBlock = some k) W).drewN q).setCells g _ _ (.inl (show _ = some g from rfl)), rfl⟩
    rw [hl] at hj
    rw [hRq.at 0 _ (by rw [hlen]; omega) j, hlen, if_pos (by omega), Nat.sub_zero, List.getElem?_map]
    rw [List.getElem?_append, if_pos (by simp [hsl]; omega), List.getElem?_append, List.length_take, hsl, Nat.min_eq_left (by omega), List.getElem?_eraseIdx]
    by_cases h1 : j < i
    · rw [if_pos h1, if_pos h1, List.getElem?_take, if_pos h1]
      unfold Lib.strsOf
      rw [List.getElem?_map, List.getElem?_range (by omega), sx_cell (by omega)]
      show some (Value.string _) = _
      rw [enc_str]
    · rw [if_neg h1, if_neg h1, List.getElem?_drop]
      unfold Lib.strsOf
      rw [List.getElem?_map, List.getElem?_range (by omega), show i + 1 + (j - i) = j + 1 by omega, sx_cell (by omega)]
      show some (Value.string _) = _
      rw [enc_str]
/-- a node without kids -/
structure Leaf (B : Nat) (W : World) (N : Nat) (kv vv : Value) (ks vs : List Bs) : Prop where
  box : Box W N [kv, vv, .slice none 0 0]
  rk : RowS B W kv ks
  rv : RowS B W vv vs
  nk : kv.ownBlock ≠ some N
  nv : vv.ownBlock ≠ some N
  kvv : ∀ g, kv.ownBlock = some g → vv.ownBlock ≠ some g
  bN : B ≤ N
/-- the blocks of a node -/
def Own (N : Nat) (kv vv : Value) (k : Nat) : Prop := k = N ∨ kv.ownBlock = some k ∨ vv.ownBlock = some k
theorem Box.kept {S : Nat → Prop} {W W' : World} {b : Nat} {cs : List Value} (h : Box W b cs) (hk : Kept S W W') (hS : ¬ S b) : Box W' b cs := by
  have e := hk.block b h.lt hS
  exact ⟨fun j v hv => (World.cell?_of_block (a := ⟨b, 0 + j, none⟩) e).trans (h.rng j v hv), fun o => (World.frozen?_of_block (a := ⟨b, o, none⟩) e).trans (h.free o), Nat.lt_of_lt_of_le h.lt hk.size⟩
theorem Leaf.kept {B : Nat} {S : Nat → Prop} {W W' : World} {N : Nat} {kv vv : Value} {ks vs : List Bs} (h : Leaf B W N kv vv ks vs) (hk : Kept S W W') (hS : ∀ k, Own N kv vv k → ¬ S k) : Leaf B W' N kv vv ks vs :=
  ⟨h.box.kept hk (hS _ (.inl rfl)), h.rk.kept hk (fun k e => hS _ (.inr (.inl e))), h.rv.kept hk (fun k e => hS _ (.inr (.inr e))), h.nk, h.nv, h.kvv, h.bN⟩
theorem Leaf.drewN {B : Nat} {W : World} {N : Nat} {kv vv : Value} {ks vs : List Bs} (h : Leaf B W N kv vv ks vs) (q : Nat) : Leaf B (W.drewN q) N kv vv ks vs := h.kept ((Kept.refl (fun _ => False) W).drewN q) (fun _ _ h => h)
theorem Leaf.ge {B : Nat} {W : World} {N : Nat} {kv vv : Value} {ks vs : List Bs} (h : Leaf B W N kv vv ks vs) : ∀ k, Own N kv vv k → B ≤ k ∧ k < W.heap.size := by
  rintro k (rfl | h1 | h1)
  · exact ⟨h.bN, h.box.lt⟩
  · exact h.rk.lt k h1
  · exact h.rv.lt k h1
theorem heap_new (W : World) (ob : Obj) : (W.alloc ob).heap[W.heap.size]? = some ob := by
  show (W.heap.push ob)[W.heap.size]? = _
  rw [Array.getElem?_push_size]
theorem Leaf.newk {B : Nat} {W W2 : World} {N : Nat} {kv vv v' : Value} {ks vs ks' : List Bs} (L : Leaf B W N kv vv ks vs) (hv : RowS B W2 v' ks') (hk : Kept (fun k => kv.ownBlock = some k) W W2) (ho : ∀ g, v'.ownBlock = some g → kv.ownBlock = some g ∨ W.heap.size ≤ g) :
    Leaf B (W2.setCell ⟨N, 0, none⟩ v') N v' vv ks' vs ∧ Kept (Own N kv vv) W (W2.setCell ⟨N, 0, none⟩ v') ∧ W2.cell? ⟨N, 0, none⟩ = some kv ∧ W2.frozen? ⟨N, 0, none⟩ = false ∧ W2.cell? ⟨N, 1, none⟩ = some vv ∧ (∀ k, Own N v' vv k → Own N kv vv k ∨ W.heap.size ≤ k) := by
  have hbx := L.box.kept hk L.nk
  have hnn : v'.ownBlock ≠ some N := fun e => by
    rcases ho N e with h | h
    · exact L.nk h
    · have := L.box.lt; omega
  have hset : Kept (fun k => k = N) W2 (W2.setCell ⟨N, 0, none⟩ v') := (Kept.refl _ W2).setCells N 0 [v'] (.inl rfl)
  refine ⟨⟨hbx.setCell 0 v' (by simp), hv.kept hset (fun k hk2 e => hnn (by rw [hk2, e])), (L.rv.kept hk (fun k h2 h1 => L.kvv k h1 h2)).kept hset (fun k hk2 e => L.nv (by rw [hk2, e])), hnn, L.nv, fun g h1 h2 => ?_, L.bN⟩, ?_, hbx.cell 0 _ rfl, hbx.free 0, hbx.cell 1 _ rfl, ?_⟩
  · rcases ho g h1 with h | h
    · exact L.kvv g h h2
    · have := (L.rv.lt g h2).2; omega
  · exact (Kept.trans (S := Own N kv vv) ⟨hk.os, hk.tape, hk.output, hk.size, fun k hk2 hs => hk.block k hk2 (fun h => hs (.inr (.inl h)))⟩ hset (fun k h => .inl (.inl h)))
  · rintro k (h | h | h)
    · exact .inl (.inl h)
    · rcases ho k h with h | h
      · exact .inl (.inr (.inl h))
      · exact .inr h
    · exact .inl (.inr (.inr h))
theorem Leaf.newv {B : Nat} {W W2 : World} {N : Nat} {kv vv v' : Value} {ks vs vs' : List Bs} (L : Leaf B W N kv vv ks vs) (hv : RowS B W2 v' vs') (hk : Kept (fun k => vv.ownBlock = some k) W W2) (ho : ∀ g, v'.ownBlock = some g → vv.ownBlock = some g ∨ W.heap.size ≤ g) :
    Leaf B (W2.setCell ⟨N, 1, none⟩ v') N kv v' ks vs' ∧ Kept (Own N kv vv) W (W2.setCell ⟨N, 1, none⟩ v') ∧ W2.cell? ⟨N, 1, none⟩ = some vv ∧ W2.frozen? ⟨N, 1, none⟩ = false ∧ (∀ k, Own N kv v' k → Own N kv vv k ∨ W.heap.size ≤ k) := by
  have hbx := L.box.kept hk L.nv
  have hnn : v'.ownBlock ≠ some N := fun e => by
    rcases ho N e with h | h
    · exact L.nv h
    · have := L.box.lt; omega
  have hset : Kept (fun k => k = N) W2 (W2.setCell ⟨N, 1, none⟩ v') := (Kept.refl _ W2).setCells N 1 [v'] (.inl rfl)
  refine ⟨⟨hbx.setCell 1 v' (by simp), (L.rk.kept hk (fun k h1 h2 => L.kvv k h1 h2)).kept hset (fun k hk2 e => L.nk (by rw [hk2, e])), hv.kept hset (fun k hk2 e => hnn (by rw [hk2, e])), L.nk, hnn, fun g h1 h2 => ?_, L.bN⟩, ?_, hbx.cell 1 _ rfl, hbx.free 1, ?_⟩
  · rcases ho g h2 with h | h
    · exact L.kvv g h1 h
    · have := (L.rk.lt g h1).2; omega
  · exact (Kept.trans (S := Own N kv vv) ⟨hk.os, hk.tape, hk.output, hk.size, fun k hk2 hs => hk.block k hk2 (fun h => hs (.inr (.inr h)))⟩ hset (fun k h => .inl (.inl h)))
  · rintro k (h | h | h)
    · exact .inl (.inl h)
    · exact .inl (.inr (.inl h))
    · rcases ho k h with h | h
      · exact .inl (.inr (.inr h))
      · exact .inr h
end Go.Proofs.Ytegljepgncicjaa
