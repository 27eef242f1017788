/- Mvcc: rows of keys; slices.Sort on them. -/
import Derived.Test.YtpcjmceakelilaaMv13
import Derived.Sort.OwnSorted
import Derived.Sort.Walk0
namespace Go.Proofs.Ytpcjmceakelilaa
open Go.ChangeShapes Go.WideShapes Go.ChangeAt Go.RowKit Go.Deep Go.ChangeMaps Go.Shelf Go.Sort
set_option linter.unusedVariables false
set_option linter.unusedSimpArgs false
/-- a row of keys of one's own -/
def KRow (B : Nat) (W : World) (v : Value) (ks : List Bs) : Prop := W.ownsRow B 9 1 v ks.length (ks.map Value.string)
theorem KRow.nil (B : Nat) (W : World) : KRow B W (.slice none 0 0) [] := World.ownsRow_nil _ _ _ _
theorem KRow.len {B : Nat} {W : World} {v : Value} {ks : List Bs} (h : KRow B W v ks) : ∃ a c, v = .slice a ks.length c := by
  rcases h.2 with ⟨rfl, h1⟩ | ⟨g, c, cur, rfl, _⟩
  · rw [h1]; exact ⟨none, 0, rfl⟩
  · exact ⟨_, _, rfl⟩
theorem KRow.lt {B : Nat} {W : World} {v : Value} {ks : List Bs} (h : KRow B W v ks) : ∀ k, v.ownBlock = some k → B ≤ k ∧ k < W.heap.size := World.ownsRow.lt h
theorem KRow.same {B : Nat} {W W' : World} {v : Value} {ks : List Bs} (h : KRow B W v ks) (hk : ∀ k, v.ownBlock = some k → W'.heap[k]? = W.heap[k]?) : KRow B W' v ks := by
  refine ⟨h.1, ?_⟩
  rcases h.2 with h1 | ⟨g, c, cur, rfl, h1, h2, h3⟩
  · exact .inl h1
  · exact .inr ⟨g, c, cur, rfl, h1, by rw [hk g rfl]; exact h2, h3⟩
theorem KRow.get {B : Nat} {W : World} {v : Value} {ks : List Bs} (h : KRow B W v ks) (h0 : 0 < ks.length) : ∃ g c cur, v = .slice (some ⟨g, 0, none⟩) ks.length c ∧ ks.length ≤ c ∧ c ≤ 9223372036854775807 ∧ W.heap[g]? = some (.cells cur 9 (0, 0)) ∧ B ≤ g ∧ ∀ j (h : j < ks.length), W.cell? ⟨g, j, none⟩ = some (.string ks[j]) := by
  have h0' : W.ownsRow B 9 1 v ks.length (ks.map Value.string) := h
  rcases h.2 with ⟨_, h1⟩ | ⟨g, c, cur, rfl, h1, h2, h3, h4, h5, h6⟩
  · omega
  · refine ⟨g, c, cur, rfl, h3, by unfold maxLen at h4; omega, h2, h1, fun j hj => ?_⟩
    rw [h0'.cellAt j (by omega), List.getElem?_map, List.getElem?_eq_getElem hj]
    rfl
def toL (k : Bs) : List UInt8 := k.data.toList
def ofL (l : List UInt8) : Bs := ⟨l.toArray⟩
theorem ofL_toL (k : Bs) : ofL (toL k) = k := by cases k; simp [ofL, toL]
theorem toL_ofL (l : List UInt8) : toL (ofL l) = l := by simp [ofL, toL]
theorem keys_enc (ks : List Bs) : ks.map Value.string = (ks.map toL).map encStr := by
  rw [List.map_map]
  refine List.map_congr_left (fun k _ => ?_)
  show Value.string k = .string (ofL (toL k))
  rw [ofL_toL]
def sortB (ks : List Bs) : List Bs := ((ks.map toL).mergeSort fun x y => decide (x ≤ y)).map ofL
theorem sortB_perm (ks : List Bs) : (sortB ks).Perm ks := by
  have h := (List.mergeSort_perm (ks.map toL) (fun x y => decide (x ≤ y))).map ofL
  rw [List.map_map] at h
  have e : ks.map (ofL ∘ toL) = ks := by
    rw [show (ofL ∘ toL) = id from funext ofL_toL]; simp
  rwa [e] at h
theorem lB_toL (a b : Bs) : lB a b = decide (toL a < toL b) := by
  unfold lB toL
  rw [bytesLess_eq, ByteArray.toList_eq, ByteArray.toList_eq]
theorem sortB_srt {ks : List Bs} (hn : ks.Nodup) : (sortB ks).Pairwise fun a b => lB a b = true := by
  have h1 := List.pairwise_mergeSort (le := fun x y : List UInt8 => decide (x ≤ y)) (fun a b c h1 h2 => by
    simp only [decide_eq_true_eq] at *
    exact List.le_trans h1 h2) (fun a b => by
    simp only [Bool.or_eq_true, decide_eq_true_eq]
    exact List.le_total a b) (ks.map toL)
  have h2 : (sortB ks).Nodup := (sortB_perm ks).nodup_iff.2 hn
  unfold sortB at h2 ⊢
  generalize (ks.map toL).mergeSort (fun x y => decide (x ≤ y)) = M at h1 h2 ⊢
  have h3 : M.Nodup := by
    unfold List.Nodup at h2 ⊢
    rw [List.pairwise_map] at h2
    exact h2.imp (fun h e => h (by rw [e]))
  rw [List.pairwise_map]
  refine (h1.and h3).imp (fun {a b} hab => ?_)
  have hle : ¬ b < a := by simpa using hab.1
  cases h : lB (ofL a) (ofL b) with
  | true => rfl
  | false =>
    have h5 : lB (ofL b) (ofL a) = false := by rw [lB_toL, toL_ofL, toL_ofL]; exact decide_eq_false hle
    have h6 := congrArg toL (lB_tri h h5)
    rw [toL_ofL, toL_ofL] at h6
    exact absurd h6 hab.2
theorem sort_keys (B : Nat) (v : Value) (ks : List Bs) (w : World) (hv : KRow B w v ks) (hl : ks.length ≤ 1000000) :
    Calls Try.prog 43 #[v] w fun e w' => e = .returned (.tuple #[]) ∧ KRow B w' v (sortB ks) ∧ Kept (fun k => v.ownBlock = some k) w w' := by
  have hsl : (sortB ks).length = ks.length := (sortB_perm ks).length_eq
  have hms : ((ks.map toL).mergeSort fun x y => decide (x ≤ y)).length = (ks.map toL).length := List.length_mergeSort _
  have hnil : ks.length = 0 → sortB ks = ks := fun h => by rw [List.eq_nil_of_length_eq_zero h]; simp [sortB]
  rcases hv.2 with ⟨rfl, h0⟩ | ⟨g, cap, cur, rfl, hbase, hb, h1, h2, h3, h4⟩
  · rw [hnil h0]
    refine (Try.slices_Sort_string_none _ _ _).mono ?_
    rintro e w1 ⟨rfl, rfl⟩
    exact ⟨rfl, hv, Kept.refl _ _⟩
  · by_cases hz : ks.length = 0
    · rw [hnil hz]
      rw [hz] at hv
      have hv' : KRow B w (.slice (some ⟨g, 0, none⟩) 0 cap) ks := hv
      rw [hz]
      refine (Try.slices_Sort_string_none _ _ _).mono ?_
      rintro e w1 ⟨rfl, rfl⟩
      exact ⟨rfl, hv', Kept.refl _ _⟩
    · have hm : (ks.map toL).length = ks.length := List.length_map ..
      have hh : Holds encStr w g 0 (ks.map toL).toArray := holds_of_block hb (by rw [Nat.mul_one] at h4; rw [hm, h4, keys_enc])
      have hc := Try.slices_Sort_string g 0 cap (ks.map toL) w hh (Array.getElem?_eq_some_iff.1 hb).1 (by omega)
      rw [hm] at hc
      refine hc.mono ?_
      rintro e w1 ⟨rfl, n, os, rfl⟩
      have hg : w.grownBy (grow (putRow encStr (Sort.ahead w n) g 0 ((ks.map toL).mergeSort fun x y => decide (x ≤ y)).toArray) os) (some g) := grownBy_sorted _
      have hO := ownsRow_sorted (n := n) (os := os) hms hbase hb (by rw [hm]; exact h1) h2 h3
      refine ⟨rfl, ?_, ⟨hg.os, hg.tape, hg.output, hg.size, fun k hk hs => hg.block k hk (fun e => hs e.symm)⟩⟩
      unfold KRow
      rw [hsl, keys_enc]
      have e : (sortB ks).map toL = (ks.map toL).mergeSort fun x y => decide (x ≤ y) := by
        unfold sortB
        rw [List.map_map, show (toL ∘ ofL) = id from funext toL_ofL]; simp
      rw [e]
      rw [hm] at hO
      exact hO
end Go.Proofs.Ytpcjmceakelilaa
