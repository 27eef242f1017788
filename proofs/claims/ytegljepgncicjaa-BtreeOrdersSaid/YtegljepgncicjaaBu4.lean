/- Btree: Insert, Delete, Clone of rows of strings and of nodes. -/
import Derived.Test.YtegljepgncicjaaBu3
import Derived.Test.YtegljepgncicjaaShelfp
import Derived.Lib.RowBridge
namespace Go.Proofs.Ytegljepgncicjaa
open Go.ChangeShapes Go.WideShapes Go.ChangeAt Go.RowKit Go.Deep
set_option linter.unusedVariables false
set_option linter.unusedSimpArgs false
def ptr (n : Nat) : Value := .pointer (some ⟨n, 0, none⟩)
theorem ptrv_one (ns : List Nat) : ∀ v ∈ ptrv ns, v.oneCell' = true := by
  intro v hv
  obtain ⟨x, _, rfl⟩ := List.mem_map.1 hv
  rfl
theorem strv_ins (ks : List Bs) (i : Nat) (x : Bs) : strv (ks.take i ++ x :: ks.drop i) = insf (strv ks) i (.string x) := by simp [strv, insf, List.map_take, List.map_drop]
theorem ptrv_ins (ns : List Nat) (i : Nat) (x : Nat) : ptrv (ns.take i ++ x :: ns.drop i) = insf (ptrv ns) i (ptr x) := by simp [ptrv, ptr, insf, List.map_take, List.map_drop]
/-- what a call on a row gives -/
def RowOut (T B : Nat) (v : Value) (us : List Value) (W : World) (e : Ending) (W' : World) : Prop :=
  ∃ v', e = .returned v' ∧ RowV T B W' v' us ∧ Kept (fun k => v.ownBlock = some k) W W' ∧ ∀ g, v'.ownBlock = some g → v.ownBlock = some g ∨ W.heap.size ≤ g
theorem At.row {T : Nat} {W : World} {g c : Nat} {us : List Value} (hc : ∀ j, j < us.length → W.cell? ⟨g, j, none⟩ = us[j]?) : At W g us := fun j v hj => by
  rw [hc j (List.getElem?_eq_some_iff.1 hj).1]
  exact hj
theorem rowV_slice {T B : Nat} {W : World} {g c n : Nat} {us : List Value} (hn : n = us.length) (hB : B ≤ g) (h1 : us.length ≤ c) (h2 : c ≤ 9223372036854775807) (hR : RowT T W g c) (hc : ∀ j, j < us.length → W.cell? ⟨g, j, none⟩ = us[j]?) : RowV T B W (.slice (some ⟨g, 0, none⟩) n c) us :=
  .inr ⟨g, c, by rw [hn], hB, h1, h2, hR, hc⟩
/-- Insert of one node -/
theorem insp_any (B : Nat) (v : Value) (us : List Value) (i : Nat) (u : Value) (vb : Nat) (W : World) (h : RowV 64 B W v us) (hi : i ≤ us.length) (hs : us.length ≤ 1000) (hB : B ≤ W.heap.size)
    (hvb : W.heap[vb]? = some (.cells #[u] 64 (0, 0))) (hne : v.ownBlock ≠ some vb) (h1 : ∀ v ∈ us, v.oneCell' = true) (h1u : u.oneCell' = true) :
    Calls Try.prog 48 #[v, .int .i64 i, .slice (some ⟨vb, 0, none⟩) 1 1] W (RowOut 64 B v (insf us i u) W) := by
  rcases h with ⟨rfl, rfl⟩ | ⟨g, c, rfl, hBg, hnc, hc63, hR, hc⟩
  · obtain rfl : i = 0 := by simpa using hi
    refine (insp_end_grow none 0 vb [] u W (Nat.le_refl _) (by simp) (by simp) hvb h1u (fun _ => rfl) (fun g hg => by cases hg)).mono ?_
    rintro e W' ⟨G, hG1, hG2, rfl, rfl⟩
    have hsz : (([] ++ [u] : List Value).toArray ++ Builtin.zeroCells (Value.pointer none).cells (G - (0 + 1))).size = G := by
      simp [Builtin.zeroCells, Value.cells]; simp at hG1; omega
    refine ⟨_, rfl, rowV_slice rfl hB (by simpa [insf] using hG1) hG2 (rowV_new 64 W.drew _ G hsz) (fun j hj => ?_), (Kept.refl _ _).drew.alloc _, fun k hk => .inr ?_⟩
    · have : j = 0 := by simp [insf] at hj; omega
      subst this
      refine Eq.trans (cn W.drew _ 64 0) ?_
      rw [Array.getElem?_append, if_pos (by simp)]
      rfl
    · simp [Value.ownBlock] at hk
      omega
  · have hat : At W g us := At.row (T := 64) (c := c) hc
    have hl := insf_len us i u hi
    have hneb : vb ≠ g := fun e => hne (by simp [Value.ownBlock, e])
    by_cases hroom : us.length + 1 ≤ c
    · by_cases hin : i = us.length
      · subst hin
        refine (insp_end_room g c vb us u W hroom hc63 hR hvb h1u).mono ?_
        rintro e W' ⟨rfl, rfl⟩
        refine ⟨_, rfl, rowV_slice hl.symm hBg (by rw [hl]; exact hroom) hc63 (hR.set _ _) (fun j hj => ?_), (Kept.refl (fun k => (Value.slice (some ⟨g, 0, none⟩) us.length c).ownBlock = some k) W).setCells g _ _ (.inl rfl), fun k hk => .inl hk⟩
        rw [hR.at us.length [u] (by simpa using hroom) j, insf_at us _ u hi j]
        rw [hl] at hj
        by_cases h1 : j < us.length
        · rw [if_neg (by omega), if_pos h1]; exact hc j h1
        · obtain rfl : j = us.length := by omega
          rw [if_pos (by simp), if_neg h1, if_pos rfl]
          simp
      · have hin' : i < us.length := by omega
        refine (insp_shift g c i vb us u W hin' hroom hc63 hneb hR hat hvb h1 h1u).mono ?_
        rintro e W' ⟨rfl, rfl⟩
        have hR1 : RowT 64 W.drew g c := ⟨hR.sh, hR.fr, hR.th⟩
        have hR2 := hR1.set (i + 1) (us.drop i)
        have hdl : (us.drop i).length = us.length - i := List.length_drop
        refine ⟨_, rfl, rowV_slice hl.symm hBg (by rw [hl]; exact hroom) hc63 (hR2.set _ _) (fun j hj => ?_), ((Kept.refl (fun k => (Value.slice (some ⟨g, 0, none⟩) us.length c).ownBlock = some k) W).drew.setCells g _ _ (.inl rfl)).setCells g _ _ (.inl rfl), fun k hk => .inl hk⟩
        rw [hl] at hj
        rw [hR2.at i [u] (by simp; omega) j, hR1.at (i + 1) _ (by rw [hdl]; omega) j, insf_at us i u hi j, hdl]
        by_cases h1 : j < i
        · rw [if_neg (by omega), if_neg (by omega), if_pos h1]; exact hc j (by omega)
        · by_cases h2 : j = i
          · subst h2
            rw [if_pos (by simp), if_neg h1, if_pos rfl]
            simp
          · rw [if_neg (by simp; omega), if_pos (by omega), if_neg h1, if_neg h2, List.getElem?_drop]
            congr 1
            omega
    · by_cases hin : i = us.length
      · subst hin
        refine (insp_end_grow (some ⟨g, 0, none⟩) c vb us u W hnc (by omega) hs hvb h1u (fun e => by cases e) (fun g' e => by cases e; exact ⟨rfl, rfl, hat⟩)).mono ?_
        rintro e W' ⟨G, hG1, hG2, rfl, rfl⟩
        have hsz : ((us ++ [u]).toArray ++ Builtin.zeroCells (Value.pointer none).cells (G - (us.length + 1))).size = G := by
          simp [Builtin.zeroCells, Value.cells]; omega
        refine ⟨_, rfl, rowV_slice hl.symm hB (by rw [hl]; exact hG1) hG2 (rowV_new 64 W.drew _ G hsz) (fun j hj => ?_), (Kept.refl _ _).drew.alloc _, fun k hk => .inr ?_⟩
        · refine Eq.trans (cn W.drew _ 64 j) ?_
          rw [hl] at hj
          rw [Array.getElem?_append, if_pos (by simp; omega), List.getElem?_toArray, insf_at us _ u hi j, List.getElem?_append]
          by_cases h1 : j < us.length
          · rw [if_pos h1, if_pos h1]
          · obtain rfl : j = us.length := by omega
            rw [if_neg h1, if_neg h1, if_pos rfl, Nat.sub_self]; rfl
        · simp [Value.ownBlock] at hk
          omega
      · have hin' : i < us.length := by omega
        refine (insp_grow g c i vb us u W hin' hnc (by omega) hs hR hat hvb h1 h1u).mono ?_
        rintro e W' ⟨G, arr, hG1, hG2, hsz, hfirst, rfl, rfl⟩
        have hR0 : RowT 64 ((W.alloc (.cells arr 64)).drew) W.heap.size G := by
          have := rowV_new 64 W arr G hsz
          exact ⟨this.sh, this.fr, this.th⟩
        have hR1 := hR0.set i [u]
        have hR1' : RowT 64 ((((W.alloc (.cells arr 64)).drew).setCells W.heap.size i [u]).drew) W.heap.size G := ⟨hR1.sh, hR1.fr, hR1.th⟩
        have hdl : (us.drop i).length = us.length - i := List.length_drop
        refine ⟨_, rfl, rowV_slice hl.symm hB (by rw [hl]; exact hG1) hG2 (hR1'.set _ _) (fun j hj => ?_), ((((Kept.refl _ _).alloc _).drew.setCells _ _ _ (.inr (Nat.le_refl _))).drew).setCells _ _ _ (.inr (Nat.le_refl _)), fun k hk => .inr ?_⟩
        · rw [hl] at hj
          rw [hR1'.at (i + 1) _ (by rw [hdl]; omega) j, insf_at us i u hi j, hdl]
          by_cases h1 : j < i
          · rw [if_neg (by omega), if_pos h1]
            refine Eq.trans (hR0.at i [u] (by simp; omega) j) ?_
            rw [if_neg (by omega)]
            refine Eq.trans (cn W arr 64 j) ?_
            exact hfirst j h1
          · by_cases h2 : j = i
            · subst h2
              rw [if_neg (by omega), if_neg h1, if_pos rfl]
              refine Eq.trans (hR0.at j [u] (by simp; omega) j) ?_
              rw [if_pos (by simp)]
              simp
            · rw [if_pos (by omega), if_neg h1, if_neg h2, List.getElem?_drop]
              congr 1
              omega
        · simp [Value.ownBlock] at hk
          omega
theorem InsOut.toV {B : Nat} {v : Value} {xs : List Bs} {W W' : World} {e : Ending} (h : InsOut B v xs W e W') : RowOut 9 B v (strv xs) W e W' := by
  obtain ⟨v', h1, h2, h3, h4⟩ := h
  exact ⟨v', h1, rowV_S h2, h3, h4⟩
theorem rowS_V {B : Nat} {W : World} {g c : Nat} {xs : List Bs} (h0 : 0 < c) (h : RowV 9 B W (.slice (some ⟨g, 0, none⟩) xs.length c) (strv xs)) : RowS B W (.slice (some ⟨g, 0, none⟩) xs.length c) xs := by
  rcases h with ⟨h, _⟩ | ⟨g', c', h, h1, h2, h4, hR, hc⟩
  · cases h
  · rw [strv_len] at h
    cases h
    exact .inr ⟨g, c, rfl, h1, by rw [strv_len] at h2; exact h2, h0, h4, ⟨hR.sh, hR.fr, hR.th⟩, fun j hj => by rw [hc j (by rw [strv_len]; exact hj), strv_at]⟩
/-- Insert of one string -/
theorem ins_str (B : Nat) (v : Value) (ks : List Bs) (i : Nat) (x : Bs) (vb : Nat) (W : World) (h : RowV 9 B W v (strv ks)) (hi : i ≤ ks.length) (hs : ks.length ≤ 1000) (hB : B ≤ W.heap.size)
    (hvb : W.heap[vb]? = some (.cells #[.string x] 9 (0, 0))) (hne : v.ownBlock ≠ some vb) :
    Calls Try.prog 47 #[v, .int .i64 i, .slice (some ⟨vb, 0, none⟩) 1 1] W (RowOut 9 B v (strv (ks.take i ++ x :: ks.drop i)) W) := by
  have h' := h
  rcases h with ⟨rfl, h0⟩ | ⟨g, c, rfl, hBg, hnc, hc63, hR, hc⟩
  · have : ks = [] := by cases ks with
      | nil => rfl
      | cons a b => simp [strv] at h0
    subst this
    exact (ins_any B (.slice none 0 0) [] i x vb W (.inl ⟨rfl, rfl⟩) hi hs hB hvb hne).mono fun _ _ h => InsOut.toV h
  · rw [strv_len] at *
    by_cases hc0 : 0 < c
    · exact (ins_any B _ ks i x vb W (rowS_V hc0 h') hi hs hB hvb hne).mono fun _ _ h => InsOut.toV h
    · have : ks = [] := List.eq_nil_of_length_eq_zero (by omega)
      subst this
      obtain rfl : c = 0 := by omega
      obtain rfl : i = 0 := by simpa using hi
      have hvs : ∀ j u, ([Value.string x] : List Value)[j]? = some u → W.cell? ⟨vb, 0 + j, none⟩ = some u := by
        intro j u hj
        match j with
        | 0 => simp at hj; subst hj; unfold World.cell?; rw [show (⟨vb, 0 + 0, none⟩ : Addr).block = vb from rfl, hvb]; rfl
        | j + 1 => simp at hj
      refine (Any2.slices_Insert_string_end_grow Try.laysINS (some ⟨g, 0, none⟩) 0 0 vb 0 1 1 [] [.string x] W (by decide) (by decide) (by decide) (by decide) rfl rfl (fun e => by cases e) (fun a ha j v hj => by simp at hj) hvs (fun u hu => by rw [List.mem_singleton.1 hu]; rfl)).mono ?_
      rintro e W' ⟨he, hw⟩
      rw [show Try.laysINS_ren.t 9 = 9 from rfl] at he hw
      have hge := grownCap_ge W (0 + 1) 0 9
      have hle := grownCap_le_maxLen W (0 + 1) 0 9 (by decide)
      unfold maxLen at hle
      generalize grownCap W (0 + 1) 0 9 = cap at *
      have hsz : ((([] : List Value) ++ [Value.string x]).toArray ++ Builtin.zeroCells (Value.string ⟨#[]⟩).cells (cap - (0 + 1))).size = cap := by
        rw [Array.size_append, zc_size]
        show 1 + (cap - (0 + 1)) = cap
        omega
      subst he
      subst hw
      refine ⟨_, rfl, rowV_slice rfl hB hge (by omega) (rowV_new 9 W.drew _ _ hsz) (fun j hj => ?_), (Kept.refl _ _).drew.alloc _, fun k hk => .inr ?_⟩
      · have : j = 0 := by simp [strv] at hj; omega
        subst this
        refine Eq.trans (cn W.drew _ 9 0) ?_
        rw [Array.getElem?_append, if_pos (by simp)]
        rfl
      · simp [Value.ownBlock] at hk
        omega
theorem rowV_del {T B : Nat} {W : World} {g c : Nat} {us : List Value} {i j q : Nat} {z : Value} (hBg : B ≤ g) (hnc : us.length ≤ c) (hc63 : c ≤ 9223372036854775807) (hR : RowT T W g c) (hij : i ≤ j) (hj : j ≤ us.length) :
    RowV T B ((W.drewN q).setCells g 0 (us.take i ++ us.drop j ++ List.replicate (j - i) z)) (.slice (some ⟨g, 0, none⟩) (us.length - (j - i)) c) (us.take i ++ us.drop j) := by
  have hRq : RowT T (W.drewN q) g c := ⟨hR.sh, hR.fr, hR.th⟩
  have hl : (us.take i ++ us.drop j).length = us.length - (j - i) := by simp; omega
  refine rowV_slice hl.symm hBg (by omega) hc63 (hRq.set _ _) (fun k hk => ?_)
  rw [hRq.at 0 _ (by rw [List.length_append, hl]; simp; omega) k, List.length_append, List.length_replicate, if_pos (by omega), Nat.sub_zero, List.getElem?_append, if_pos hk]
/-- Delete of some strings -/
theorem del_str (B : Nat) (v : Value) (xs : List Bs) (i j : Nat) (W : World) (h : RowV 9 B W v (strv xs)) (hij : i < j) (hj : j ≤ xs.length) :
    Calls Try.prog 49 #[v, .int .i64 i, .int .i64 j] W (RowOut 9 B v (strv (xs.take i ++ xs.drop j)) W) := by
  rcases h with ⟨rfl, h0⟩ | ⟨g, c, rfl, hBg, hnc, hc63, hR, hc⟩
  · have : xs = [] := by cases xs with
      | nil => rfl
      | cons a b => simp [strv] at h0
    subst this
    exact absurd (Nat.lt_of_lt_of_le hij hj) (Nat.not_lt_zero _)
  · have hc' := hc
    rw [strv_len] at *
    refine (Try.slices_Delete_string_cells g 0 xs.length c i j (sx xs) W hnc hc63 (by omega) hj (fun k hk => by rw [Nat.zero_add, hc k hk, strv_at, sx_cell hk]) (fun k hk => hR.fr _)).mono ?_
    rintro e W' ⟨rfl, q, rfl⟩
    have hst : (Lib.strsOf (sx xs) xs.length).map Go.Proofs.encStr = strv xs := by
      refine List.ext_getElem? fun k => ?_
      unfold Lib.strsOf strv
      rw [List.map_map, List.getElem?_map, List.getElem?_map]
      rcases Nat.lt_or_ge k xs.length with h | h
      · rw [List.getElem?_range h, sx_cell h]
        show some (Value.string _) = _
        rw [enc_str]
      · rw [List.getElem?_eq_none (by simpa using h), List.getElem?_eq_none h]
        rfl
    have e : (((Lib.strsOf (sx xs) xs.length).take i ++ (Lib.strsOf (sx xs) xs.length).drop j ++ List.replicate (j - i) []).map Go.Proofs.encStr) = (strv xs).take i ++ (strv xs).drop j ++ List.replicate (j - i) (Go.Proofs.encStr []) := by
      rw [List.map_append, List.map_append, List.map_take, List.map_drop, hst, List.map_replicate]
    rw [e]
    have := rowV_del (q := q) (z := Go.Proofs.encStr []) hBg (us := strv xs) (by rw [strv_len]; exact hnc) hc63 hR (Nat.le_of_lt hij) (by rw [strv_len]; exact hj)
    rw [strv_len] at this
    refine ⟨_, rfl, ?_, ((Kept.refl (fun k => (Value.slice (some ⟨g, 0, none⟩) xs.length c).ownBlock = some k) W).drewN q).setCells g _ _ (.inl rfl), fun k hk => .inl hk⟩
    rw [show strv (xs.take i ++ xs.drop j) = (strv xs).take i ++ (strv xs).drop j by simp [strv, List.map_take, List.map_drop]]
    exact this
/-- Delete of some nodes -/
theorem del_ptr (B : Nat) (v : Value) (ns : List Nat) (i j : Nat) (W : World) (h : RowV 64 B W v (ptrv ns)) (hij : i < j) (hj : j ≤ ns.length) :
    Calls Try.prog 51 #[v, .int .i64 i, .int .i64 j] W (RowOut 64 B v (ptrv (ns.take i ++ ns.drop j)) W) := by
  obtain ⟨i0, hi0, _, hz1, _⟩ := info_parts info64
  rcases h with ⟨rfl, h0⟩ | ⟨g, c, rfl, hBg, hnc, hc63, hR, hc⟩
  · have : ns = [] := by cases ns with
      | nil => rfl
      | cons a b => simp [ptrv] at h0
    subst this
    exact absurd (Nat.lt_of_lt_of_le hij hj) (Nat.not_lt_zero _)
  · rw [ptrv_len] at *
    let enc : Option Nat → Value := fun o => .pointer (o.map fun n => ⟨n, 0, none⟩)
    have hH : Sort.Holds enc W g 0 (ns.map some).toArray := fun k hk => by
      have hk' : k < ns.length := by simpa using hk
      refine ⟨?_, hR.fr _⟩
      rw [Nat.zero_add, hc k hk', ptrv_at, List.getElem?_eq_getElem hk']
      simp [enc, hk']
    have hcon := AnyE.slices_Delete Try.laysDP enc (fun _ => rfl) none (fun w => Try.zeroValue64 w) i0 hi0 hz1 g 0 c i j (ns.map some).toArray W hH (by simpa using hnc) hc63 (Nat.le_of_lt hij) (by simpa using hj)
    have hsz : (ns.map some).toArray.size = ns.length := by simp
    rw [hsz] at hcon
    refine Calls.mono (show Calls Try.prog 51 _ _ _ from hcon) ?_
    rintro e W' ⟨rfl, q, rfl⟩
    rw [Lib.putRow_eq_setCells enc W g 0 (ns.map some).toArray _ q hH (by simp; omega)]
    have e : (((ns.map some).toArray.toList.take i ++ (ns.map some).toArray.toList.drop j ++ List.replicate (j - i) none).map enc) = (ptrv ns).take i ++ (ptrv ns).drop j ++ List.replicate (j - i) (enc none) := by
      simp only [List.map_append, List.map_take, List.map_drop, List.map_replicate]
      have : (ns.map some).map enc = ptrv ns := by simp [ptrv, enc]
      rw [this]
    rw [e]
    have := rowV_del (q := q) (z := enc none) hBg (us := ptrv ns) (by rw [ptrv_len]; exact hnc) hc63 hR (Nat.le_of_lt hij) (by rw [ptrv_len]; exact hj)
    rw [ptrv_len] at this
    refine ⟨_, rfl, ?_, ((Kept.refl (fun k => (Value.slice (some ⟨g, 0, none⟩) ns.length c).ownBlock = some k) W).drewN q).setCells g _ _ (.inl rfl), fun k hk => .inl hk⟩
    rw [show ptrv (ns.take i ++ ns.drop j) = (ptrv ns).take i ++ (ptrv ns).drop j by simp [ptrv, List.map_take, List.map_drop]]
    exact this
/-- Clone of some strings -/
theorem clone_str (g o n c : Nat) (us : List Value) (W : World) (hn : us.length = n) (h1000 : n ≤ 1000) (hc : ∀ j u, us[j]? = some u → W.cell? ⟨g, o + j, none⟩ = some u) (h1 : ∀ u ∈ us, u.oneCell' = true) :
    Calls Try.prog 46 #[.slice (some ⟨g, o, none⟩) n c] W fun e W' => ∃ v', e = .returned v' ∧ RowV 9 W.heap.size W' v' us ∧ Kept (fun _ => False) W W' := by
  obtain ⟨i9, hi9, hz0, hz1, hz2⟩ := info_parts info9
  refine (Try.slices_Clone i9 (.string ⟨#[]⟩) 1 16 hi9 hz0 hz1 hz2 rfl (by decide) (fun w => Try.sizeOf9 w) g o n c us W (by omega) (by unfold maxLen; omega) (by omega) hc h1).mono ?_
  rintro e W' ⟨v', rfl, hr, _, hb⟩
  exact ⟨v', rfl, rowV_of_own hn.symm hr, kept_below hb⟩
/-- Clone of some nodes -/
theorem clone_ptr (g o n c : Nat) (us : List Value) (W : World) (hn : us.length = n) (h1000 : n ≤ 1000) (hc : ∀ j u, us[j]? = some u → W.cell? ⟨g, o + j, none⟩ = some u) (h1 : ∀ u ∈ us, u.oneCell' = true) :
    Calls Try.prog 50 #[.slice (some ⟨g, o, none⟩) n c] W fun e W' => ∃ v', e = .returned v' ∧ RowV 64 W.heap.size W' v' us ∧ Kept (fun _ => False) W W' := by
  obtain ⟨i9, hi9, hz0, hz1, hz2⟩ := info_parts info64
  refine Calls.mono (AnyE.slices_Clone Try.laysCP i9 (.pointer none) 1 8 hi9 hz0 hz1 hz2 rfl (by decide) (fun w => Try.sizeOf64 w) g o n c us W (by omega) (by unfold maxLen; omega) (by omega) hc h1) ?_
  rintro e W' ⟨v', rfl, hr, _, hb⟩
  exact ⟨v', rfl, rowV_of_own hn.symm hr, kept_below hb⟩
end Go.Proofs.Ytegljepgncicjaa
