/- Engine: record.text: the data of a record. -/
import Derived.Test.YtpcjmceakelilaaEn5
namespace Go.Proofs.Ytpcjmceakelilaa
open Go.ChangeShapes Go.WideShapes Go.ChangeAt Go.RowKit Go.Deep Go.Shelf
set_option linter.unusedVariables false
set_option linter.unusedSimpArgs false
theorem Bld.start {B b : Nat} {l : List UInt8} {w0 w : World} (h : Bld B b l w0 w) : Bld B b l w w := ⟨h.1, Below.refl _ _, h.2.2.1, KeepsX.refl _⟩
theorem Bld.trans {B b : Nat} {l l' : List UInt8} {w0 w w' : World} (h : Bld B b l w0 w) (g : Bld B b l' w w') : Bld B b l' w0 w' := ⟨g.1, h.2.1.trans g.2.1, g.2.2.1, h.2.2.2.trans g.2.2.2⟩
theorem Bld.cellX {B b : Nat} {l : List UInt8} {w0 w : World} (h : Bld B b l w0 w) {k : Nat} {cs : Array Value} {T : TypeId} (hb : w0.heap[k]? = some (.cells cs T (0, 0))) (h1 : T ≠ 99) (h2 : T ≠ 5) (j : Nat) : w.cell? ⟨k, j, none⟩ = cs[j]? := Lib.cell_of_heap (h.2.2.2 k cs T (0, 0) hb h1 h2) j
theorem Bld.new (W : World) : Bld W.heap.size W.heap.size [] W (W.alloc (.cells #[.pointer none, .slice none 0 0] 99)) :=
  ⟨Lib.fresh_isBuilder _ _ W, (Below.refl _ _).alloc (Nat.le_refl _) _, by simp, (KeepsX.refl W).alloc _⟩
theorem rec_cells (W : World) (a b c : Value) (T : TypeId) : (W.alloc (.cells #[a, b, c] T)).heap[W.heap.size]? = some (.cells #[a, b, c] T (0, 0)) := heap_alloc_new W _
theorem chsB_snoc (l : List Chg) (x : Chg) : chsB (l ++ [x]) = chsB l ++ chB x := by simp [chsB]
/-- sizes that a record's changes have -/
def Small (L : List Chg) : Prop := L.length ≤ 1000 ∧ ∀ x ∈ L, x.1.size ≤ 20000 ∧ x.2.1.size ≤ 20000 ∧ x.2.2.1.size ≤ 20000
theorem strB_len (s : Bs) (h : s.size ≤ 20000) : (strB s).length ≤ 20009 := by
  unfold strB
  rw [List.length_append]
  have := numB_len s.size (by omega)
  have e : s.data.toList.length = s.size := Array.length_toList
  omega
theorem chB_len (x : Chg) (h : x.1.size ≤ 20000 ∧ x.2.1.size ≤ 20000 ∧ x.2.2.1.size ≤ 20000) : (chB x).length ≤ 60100 := by
  unfold chB
  have h1 := strB_len x.1 h.1
  have h2 := strB_len x.2.1 h.2.1
  have h3 := strB_len x.2.2.1 h.2.2
  simp only [List.length_append, List.length_cons]
  omega
theorem chsB_len : ∀ (L : List Chg), (∀ x ∈ L, x.1.size ≤ 20000 ∧ x.2.1.size ≤ 20000 ∧ x.2.2.1.size ≤ 20000) → (chsB L).length ≤ 60100 * L.length
  | [], _ => Nat.zero_le _
  | x :: L, h => by
    have h1 := chB_len x (h x (List.mem_cons_self ..))
    have h2 := chsB_len L (fun y hy => h y (List.mem_cons_of_mem _ hy))
    have e : chsB (x :: L) = chB x ++ chsB L := by simp [chsB]
    rw [e, List.length_append, List.length_cons]
    omega
theorem Bld.rec {B b : Nat} {l : List UInt8} {W w' : World} {x y z : Value} {T : TypeId} (h : Bld B b l (W.alloc (.cells #[x, y, z] T)) w') (hB : W.heap.size < B) :
    w'.cell? ⟨W.heap.size, 0, none⟩ = some x ∧ w'.cell? ⟨W.heap.size, 1, none⟩ = some y ∧ w'.cell? ⟨W.heap.size, 2, none⟩ = some z := by
  have hb := h.2.1
  have e := rec_cells W x y z T
  exact ⟨(hb.cell (p := ⟨W.heap.size, 0, none⟩) hB).trans (Lib.cell_of_heap e 0), (hb.cell (p := ⟨W.heap.size, 1, none⟩) hB).trans (Lib.cell_of_heap e 1), (hb.cell (p := ⟨W.heap.size, 2, none⟩) hB).trans (Lib.cell_of_heap e 2)⟩
theorem Bld.low {B b : Nat} {l : List UInt8} {W w' : World} {o : Obj} (h : Bld B b l (W.alloc o) w') (hB : B = W.heap.size + 1) : Below W.heap.size W w' :=
  ((Below.refl _ W).alloc (Nat.le_refl _) o).trans (h.2.1.mono (by omega))
set_option maxRecDepth 100000 in
set_option maxHeartbeats 2000000 in
theorem text_short (k s : Nat) (v : Value) (w : World) (hk : k = 2 ∨ k = 4) (hs : s < 4611686018427387904) :
    Calls Try.prog 38 #[.agg #[.int .i64 k, .int .i64 s, v]] w fun e w' => e = .returned (.string (mkS (recB k s []))) ∧ Below w.heap.size w w' := by
  have HN := Lib.hid (numB_len s hs)
  have e2 : ((k : Int) != 1) = true := by rcases hk with rfl | rfl <;> rfl
  have e3 : ((k : Int) != 3) = true := by rcases hk with rfl | rfl <;> rfl
  have e4 : ((k : Int) % 256) = (((UInt8.ofNat k).toNat : Nat) : Int) := by rcases hk with rfl | rfl <;> rfl
  have HK := Lib.hid hk
  have HE4 := Lib.hid e4
  clear hk e4
  have HE : Bld _ _ _ _ _ := Bld.new (w.alloc (.cells #[.int .i64 k, .int .i64 s, v] 54))
  rw [World.size_alloc] at HE
  go_enter Try.func38, Try.ntmps38
  go_wp2_with fail
  refine (bld_byte _ _ [] (UInt8.ofNat k) _ HE4.out _ _ HE (by simp)).mono ?_
  rintro e w1 ⟨rfl, h1⟩
  obtain ⟨c0, c1, c2⟩ := h1.rec (Nat.lt_succ_self _)
  have H1 := Lib.hid h1
  clear h1 HE
  go_wp2_with fail
  refine (num_any s _ hs).mono ?_
  rintro e w2 ⟨rfl, hb2⟩
  have h2 := H1.out.below hb2
  obtain ⟨c0, c1, c2⟩ := h2.rec (Nat.lt_succ_self _)
  have H2 := Lib.hid h2
  clear h2 hb2
  go_wp2_with fail
  refine (bld_str _ _ _ _ _ _ H2.out (by simp) (by rw [mkS_size]; have := HN.out; omega)).mono ?_
  rintro e w3 ⟨rfl, h3⟩
  obtain ⟨c0, c1, c2⟩ := h3.rec (Nat.lt_succ_self _)
  rw [mkS_list] at h3
  have H3 := Lib.hid h3
  clear h3
  go_wp2_with fail
  refine (Try.Builder_String_any _ _ _ _ H3.out.1 H3.out.2.2.1).mono ?_
  rintro e w4 ⟨rfl, hb4⟩
  have HB4 := Lib.hid hb4
  clear hb4
  go_wp2_with fail
  go_ret
  refine ⟨?_, (H3.out.low rfl).trans (HB4.out.mono (Nat.le_succ _))⟩
  have e5 : recB k s [] = UInt8.ofNat k :: numB s := by
    unfold recB
    rw [if_neg (by have := HK.out; omega), List.append_nil]
  rw [e5]
  rfl
set_option maxRecDepth 100000 in
set_option maxHeartbeats 4000000 in
theorem text_1 (s : Nat) (v : Value) (L : List Chg) (w : World) (hs : s < 4611686018427387904) (hv : ChAt w v L) (hL : Small L) :
    Calls Try.prog 38 #[.agg #[.int .i64 1, .int .i64 s, v]] w fun e w' => e = .returned (.string (mkS (recB 1 s L))) ∧ Below w.heap.size w w' := by
  have HN := Lib.hid (numB_len s hs)
  have HL := Lib.hid hL
  have HNL := Lib.hid (numB_len L.length (by have := hL.1; omega))
  have HCL := Lib.hid (chsB_len L hL.2)
  obtain ⟨va, vc, rfl⟩ := hv.len
  have HV := Lib.hid hv
  clear hL hv
  have HE : Bld _ _ _ _ _ := Bld.new (w.alloc (.cells #[.int .i64 1, .int .i64 s, .slice va L.length vc] 54))
  rw [World.size_alloc] at HE
  go_enter Try.func38, Try.ntmps38
  go_wp2_with fail
  refine (bld_byte _ _ [] 1 _ rfl _ _ HE (by simp)).mono ?_
  rintro e w1 ⟨rfl, h1⟩
  obtain ⟨c0, c1, c2⟩ := h1.rec (Nat.lt_succ_self _)
  have H1 := Lib.hid h1
  clear h1 HE
  go_wp2_with fail
  refine (num_any s _ hs).mono ?_
  rintro e w2 ⟨rfl, hb2⟩
  have h2 := H1.out.below hb2
  obtain ⟨c0, c1, c2⟩ := h2.rec (Nat.lt_succ_self _)
  have H2 := Lib.hid h2
  clear h2 hb2
  go_wp2_with fail
  refine (bld_str _ _ _ _ _ _ H2.out (by simp) (by rw [mkS_size]; have := HN.out; omega)).mono ?_
  rintro e w3 ⟨rfl, h3⟩
  obtain ⟨c0, c1, c2⟩ := h3.rec (Nat.lt_succ_self _)
  rw [mkS_list] at h3
  have H3 := Lib.hid h3
  clear h3 H1 H2
  go_wp2_with fail
  refine (num_any L.length _ (by have := HL.out.1; omega)).mono ?_
  rintro e w4 ⟨rfl, hb4⟩
  have h4 := H3.out.below hb4
  obtain ⟨c0, c1, c2⟩ := h4.rec (Nat.lt_succ_self _)
  have H4 := Lib.hid h4
  clear h4 hb4
  go_wp2_with fail
  refine (bld_str _ _ _ _ _ _ H4.out (by simp only [List.length_append, List.length_cons, List.length_nil]; have := HN.out; omega) (by rw [mkS_size]; have := HNL.out; omega)).mono ?_
  rintro e w5 ⟨rfl, h5⟩
  obtain ⟨c0, c1, c2⟩ := h5.rec (Nat.lt_succ_self _)
  rw [mkS_list] at h5
  have H5 := Lib.hid h5
  clear h5 H3 H4
  obtain ⟨P0, hP0⟩ : ∃ P0, P0 = ([] ++ [1] ++ numB s ++ numB L.length : List UInt8) := ⟨_, rfl⟩
  rw [← hP0] at H5
  have HP0 := Lib.hid hP0
  have HPL := Lib.hid (show P0.length ≤ 100 by rw [hP0]; simp only [List.length_append, List.length_cons, List.length_nil]; have := HN.out; have := HNL.out; omega)
  clear hP0
  have HLOW := Lib.hid (show Below w.heap.size w w5 from H5.out.low rfl)
  go_wp2_with fail
  clear c0 c1 c2
  go_loopw [31] (fun i wr => ∃ k : Nat, k ≤ L.length ∧ i = .int .i64 k ∧ Bld (w.heap.size + 1) (w.heap.size + 1) (P0 ++ chsB (L.take k)) (w.alloc (.cells #[.int .i64 1, .int .i64 s, .slice va L.length vc] 54)) wr) (fun i _ => L.length - (intOf i).toNat)
  case atStart => exact ⟨0, Nat.zero_le _, rfl, by simpa [chsB] using H5.out⟩
  case round =>
    obtain ⟨k, hk, rfl, hB⟩ := hrel
    have HB := Lib.hid hB
    have HLW := Lib.hid (show Below w.heap.size w wr from hB.low rfl)
    have HCK := Lib.hid (chsB_len (L.take k) (fun x hx => HL.out.2 x (List.mem_of_mem_take hx)))
    clear hB H5
    by_cases hlt : k < L.length
    · have HX := Lib.hid (HL.out.2 L[k] (List.getElem_mem hlt))
      have HTK := Lib.hid (show L.take (k + 1) = L.take k ++ [L[k]] by rw [List.take_succ_eq_append_getElem hlt])
      obtain ⟨g, c, hva, h1, h2, hgl, hc⟩ : ∃ g c, Value.slice va L.length vc = .slice (some ⟨g, 0, none⟩) L.length c ∧ L.length ≤ c ∧ c ≤ 9223372036854775807 ∧ g < w.heap.size ∧ _ := by
        rcases HV.out with ⟨_, h⟩ | h
        · rw [h] at hlt; simp at hlt
        · exact h
      cases hva
      obtain ⟨a0, a1, a2, a3⟩ := hc k hlt
      clear hc HV
      have b0 := (HLW.out.cell (p := ⟨g, k * 4, none⟩) hgl).trans a0
      have b1 := (HLW.out.cell (p := ⟨g, k * 4 + 1, none⟩) hgl).trans a1
      have b2 := (HLW.out.cell (p := ⟨g, k * 4 + 2, none⟩) hgl).trans a2
      have b3 := (HLW.out.cell (p := ⟨g, k * 4 + 3, none⟩) hgl).trans a3
      clear a0 a1 a2 a3
      generalize hxe : L[k] = x at *
      obtain ⟨tb, ky, vl, dl⟩ := x
      simp only at b0 b1 b2 b3
      have HXE := Lib.hid hxe
      clear hxe
      have HKL := Lib.hid (show L.length ≤ 1000 from HL.out.1)
      have HLL := Lib.hid (show (P0 ++ chsB (L.take k)).length ≤ 100000000 by rw [List.length_append]; have := HPL.out; have := HCK.out; rw [List.length_take] at this; have := HKL.out; omega)
      have hE : P0 ++ chsB (L.take (k + 1)) = P0 ++ chsB (L.take k) ++ strB tb ++ strB ky ++ [if dl = true then 1 else 0] ++ strB vl := by
        rw [HTK.out, chsB_snoc]
        simp [chB]
      have HE2 := Lib.hid hE
      clear hE
      have hB3 := (HB.out.below ((Below.refl _ wr).alloc (Nat.le_refl _) (.cells #[.string tb, .string ky, .string vl, .bool dl] 58)))
      generalize P0 ++ chsB (L.take k) = L0 at *
      have HB3 := Lib.hid hB3
      have HC := Lib.hid (heap_alloc_new wr (.cells #[.string tb, .string ky, .string vl, .bool dl] 58))
      obtain ⟨z1, z2, z3⟩ := HX.out
      have s1 := strB_len tb z1
      have s2 := strB_len ky z2
      have HS := Lib.hid (And.intro z1 (And.intro z2 (And.intro z3 (And.intro s1 s2))))
      clear hB3 HB z1 z2 z3 s1 s2 HX HLW
      go_wp2_with fail
      clear b0 b1 b2 b3
      refine (writeString_any _ _ _ tb _ _ HB3.out.start (by have := HLL.out; omega) (by have := HS.out; omega)).mono ?_
      rintro e w6 ⟨rfl, h6⟩
      have d1 := h6.cellX HC.out (by decide) (by decide) 1
      have H6 := Lib.hid h6
      clear h6
      go_wp2_with fail
      clear d1
      refine (writeString_any _ _ _ ky _ _ H6.out (by rw [List.length_append]; have := HLL.out; have := HS.out; omega) (by have := HS.out; omega)).mono ?_
      rintro e w7 ⟨rfl, h7⟩
      have d3 := h7.cellX HC.out (by decide) (by decide) 3
      have H7 := Lib.hid h7
      clear h7 H6
      cases dl with
      | true =>
        go_wp2_with fail
        clear d3
        refine (bld_byte _ _ _ 1 _ rfl _ _ H7.out (by simp only [List.length_append]; have := HLL.out; have := HS.out; omega)).mono ?_
        rintro e w8 ⟨rfl, h8⟩
        have d2 := h8.cellX HC.out (by decide) (by decide) 2
        have H8 := Lib.hid h8
        clear h8 H7
        go_wp2_with fail
        clear d2
        refine (writeString_any _ _ _ vl _ _ H8.out (by simp only [List.length_append, List.length_cons, List.length_nil]; have := HLL.out; have := HS.out; omega) (by have := HS.out; omega)).mono ?_
        rintro e w9 ⟨rfl, h9⟩
        have H9 := Lib.hid (HB3.out.trans h9)
        clear h9 H8
        go_wp2_with fail
        go_roundw
        case rel => exact ⟨k + 1, by omega, by go_num, by rw [HE2.out]; exact H9.out⟩
        case measure => simp [intOf]; omega
      | false =>
        go_wp2_with fail
        clear d3
        refine (bld_byte _ _ _ 0 _ rfl _ _ H7.out (by simp only [List.length_append]; have := HLL.out; have := HS.out; omega)).mono ?_
        rintro e w8 ⟨rfl, h8⟩
        have d2 := h8.cellX HC.out (by decide) (by decide) 2
        have H8 := Lib.hid h8
        clear h8 H7
        go_wp2_with fail
        clear d2
        refine (writeString_any _ _ _ vl _ _ H8.out (by simp only [List.length_append, List.length_cons, List.length_nil]; have := HLL.out; have := HS.out; omega) (by have := HS.out; omega)).mono ?_
        rintro e w9 ⟨rfl, h9⟩
        have H9 := Lib.hid (HB3.out.trans h9)
        clear h9 H8
        go_wp2_with fail
        go_roundw
        case rel => exact ⟨k + 1, by omega, by go_num, by rw [HE2.out]; exact H9.out⟩
        case measure => simp [intOf]; omega
    · have HTK := Lib.hid (show L.take k = L from List.take_of_length_le (by omega))
      go_wp2_with fail
      refine (Try.Builder_String_any _ _ _ _ HB.out.1 HB.out.2.2.1).mono ?_
      rintro e w6 ⟨rfl, hb6⟩
      have HB6 := Lib.hid hb6
      clear hb6
      go_wp2_with fail
      go_ret
      refine ⟨?_, HLW.out.trans (HB6.out.mono (Nat.le_succ _))⟩
      have e5 : recB 1 s L = P0 ++ chsB (L.take k) := by
        rw [HTK.out, HP0.out]
        unfold recB
        rw [if_pos (by decide)]
        simp
      rw [e5]
      rfl
set_option maxRecDepth 100000 in
set_option maxHeartbeats 4000000 in
theorem text_3 (s : Nat) (v : Value) (L : List Chg) (w : World) (hs : s < 4611686018427387904) (hv : ChAt w v L) (hL : Small L) :
    Calls Try.prog 38 #[.agg #[.int .i64 3, .int .i64 s, v]] w fun e w' => e = .returned (.string (mkS (recB 3 s L))) ∧ Below w.heap.size w w' := by
  have HN := Lib.hid (numB_len s hs)
  have HL := Lib.hid hL
  have HNL := Lib.hid (numB_len L.length (by have := hL.1; omega))
  have HCL := Lib.hid (chsB_len L hL.2)
  obtain ⟨va, vc, rfl⟩ := hv.len
  have HV := Lib.hid hv
  clear hL hv
  have HE : Bld _ _ _ _ _ := Bld.new (w.alloc (.cells #[.int .i64 3, .int .i64 s, .slice va L.length vc] 54))
  rw [World.size_alloc] at HE
  go_enter Try.func38, Try.ntmps38
  go_wp2_with fail
  refine (bld_byte _ _ [] 3 _ rfl _ _ HE (by simp)).mono ?_
  rintro e w1 ⟨rfl, h1⟩
  obtain ⟨c0, c1, c2⟩ := h1.rec (Nat.lt_succ_self _)
  have H1 := Lib.hid h1
  clear h1 HE
  go_wp2_with fail
  refine (num_any s _ hs).mono ?_
  rintro e w2 ⟨rfl, hb2⟩
  have h2 := H1.out.below hb2
  obtain ⟨c0, c1, c2⟩ := h2.rec (Nat.lt_succ_self _)
  have H2 := Lib.hid h2
  clear h2 hb2
  go_wp2_with fail
  refine (bld_str _ _ _ _ _ _ H2.out (by simp) (by rw [mkS_size]; have := HN.out; omega)).mono ?_
  rintro e w3 ⟨rfl, h3⟩
  obtain ⟨c0, c1, c2⟩ := h3.rec (Nat.lt_succ_self _)
  rw [mkS_list] at h3
  have H3 := Lib.hid h3
  clear h3 H1 H2
  go_wp2_with fail
  refine (num_any L.length _ (by have := HL.out.1; omega)).mono ?_
  rintro e w4 ⟨rfl, hb4⟩
  have h4 := H3.out.below hb4
  obtain ⟨c0, c1, c2⟩ := h4.rec (Nat.lt_succ_self _)
  have H4 := Lib.hid h4
  clear h4 hb4
  go_wp2_with fail
  refine (bld_str _ _ _ _ _ _ H4.out (by simp only [List.length_append, List.length_cons, List.length_nil]; have := HN.out; omega) (by rw [mkS_size]; have := HNL.out; omega)).mono ?_
  rintro e w5 ⟨rfl, h5⟩
  obtain ⟨c0, c1, c2⟩ := h5.rec (Nat.lt_succ_self _)
  rw [mkS_list] at h5
  have H5 := Lib.hid h5
  clear h5 H3 H4
  obtain ⟨P0, hP0⟩ : ∃ P0, P0 = ([] ++ [3] ++ numB s ++ numB L.length : List UInt8) := ⟨_, rfl⟩
  rw [← hP0] at H5
  have HP0 := Lib.hid hP0
  have HPL := Lib.hid (show P0.length ≤ 100 by rw [hP0]; simp only [List.length_append, List.length_cons, List.length_nil]; have := HN.out; have := HNL.out; omega)
  clear hP0
  have HLOW := Lib.hid (show Below w.heap.size w w5 from H5.out.low rfl)
  go_wp2_with fail
  clear c0 c1 c2
  go_loopw [31] (fun i wr => ∃ k : Nat, k ≤ L.length ∧ i = .int .i64 k ∧ Bld (w.heap.size + 1) (w.heap.size + 1) (P0 ++ chsB (L.take k)) (w.alloc (.cells #[.int .i64 3, .int .i64 s, .slice va L.length vc] 54)) wr) (fun i _ => L.length - (intOf i).toNat)
  case atStart => exact ⟨0, Nat.zero_le _, rfl, by simpa [chsB] using H5.out⟩
  case round =>
    obtain ⟨k, hk, rfl, hB⟩ := hrel
    have HB := Lib.hid hB
    have HLW := Lib.hid (show Below w.heap.size w wr from hB.low rfl)
    have HCK := Lib.hid (chsB_len (L.take k) (fun x hx => HL.out.2 x (List.mem_of_mem_take hx)))
    clear hB H5
    by_cases hlt : k < L.length
    · have HX := Lib.hid (HL.out.2 L[k] (List.getElem_mem hlt))
      have HTK := Lib.hid (show L.take (k + 1) = L.take k ++ [L[k]] by rw [List.take_succ_eq_append_getElem hlt])
      obtain ⟨g, c, hva, h1, h2, hgl, hc⟩ : ∃ g c, Value.slice va L.length vc = .slice (some ⟨g, 0, none⟩) L.length c ∧ L.length ≤ c ∧ c ≤ 9223372036854775807 ∧ g < w.heap.size ∧ _ := by
        rcases HV.out with ⟨_, h⟩ | h
        · rw [h] at hlt; simp at hlt
        · exact h
      cases hva
      obtain ⟨a0, a1, a2, a3⟩ := hc k hlt
      clear hc HV
      have b0 := (HLW.out.cell (p := ⟨g, k * 4, none⟩) hgl).trans a0
      have b1 := (HLW.out.cell (p := ⟨g, k * 4 + 1, none⟩) hgl).trans a1
      have b2 := (HLW.out.cell (p := ⟨g, k * 4 + 2, none⟩) hgl).trans a2
      have b3 := (HLW.out.cell (p := ⟨g, k * 4 + 3, none⟩) hgl).trans a3
      clear a0 a1 a2 a3
      generalize hxe : L[k] = x at *
      obtain ⟨tb, ky, vl, dl⟩ := x
      simp only at b0 b1 b2 b3
      have HXE := Lib.hid hxe
      clear hxe
      have HKL := Lib.hid (show L.length ≤ 1000 from HL.out.1)
      have HLL := Lib.hid (show (P0 ++ chsB (L.take k)).length ≤ 100000000 by rw [List.length_append]; have := HPL.out; have := HCK.out; rw [List.length_take] at this; have := HKL.out; omega)
      have hE : P0 ++ chsB (L.take (k + 1)) = P0 ++ chsB (L.take k) ++ strB tb ++ strB ky ++ [if dl = true then 1 else 0] ++ strB vl := by
        rw [HTK.out, chsB_snoc]
        simp [chB]
      have HE2 := Lib.hid hE
      clear hE
      have hB3 := (HB.out.below ((Below.refl _ wr).alloc (Nat.le_refl _) (.cells #[.string tb, .string ky, .string vl, .bool dl] 58)))
      generalize P0 ++ chsB (L.take k) = L0 at *
      have HB3 := Lib.hid hB3
      have HC := Lib.hid (heap_alloc_new wr (.cells #[.string tb, .string ky, .string vl, .bool dl] 58))
      obtain ⟨z1, z2, z3⟩ := HX.out
      have s1 := strB_len tb z1
      have s2 := strB_len ky z2
      have HS := Lib.hid (And.intro z1 (And.intro z2 (And.intro z3 (And.intro s1 s2))))
      clear hB3 HB z1 z2 z3 s1 s2 HX HLW
      go_wp2_with fail
      clear b0 b1 b2 b3
      refine (writeString_any _ _ _ tb _ _ HB3.out.start (by have := HLL.out; omega) (by have := HS.out; omega)).mono ?_
      rintro e w6 ⟨rfl, h6⟩
      have d1 := h6.cellX HC.out (by decide) (by decide) 1
      have H6 := Lib.hid h6
      clear h6
      go_wp2_with fail
      clear d1
      refine (writeString_any _ _ _ ky _ _ H6.out (by rw [List.length_append]; have := HLL.out; have := HS.out; omega) (by have := HS.out; omega)).mono ?_
      rintro e w7 ⟨rfl, h7⟩
      have d3 := h7.cellX HC.out (by decide) (by decide) 3
      have H7 := Lib.hid h7
      clear h7 H6
      cases dl with
      | true =>
        go_wp2_with fail
        clear d3
        refine (bld_byte _ _ _ 1 _ rfl _ _ H7.out (by simp only [List.length_append]; have := HLL.out; have := HS.out; omega)).mono ?_
        rintro e w8 ⟨rfl, h8⟩
        have d2 := h8.cellX HC.out (by decide) (by decide) 2
        have H8 := Lib.hid h8
        clear h8 H7
        go_wp2_with fail
        clear d2
        refine (writeString_any _ _ _ vl _ _ H8.out (by simp only [List.length_append, List.length_cons, List.length_nil]; have := HLL.out; have := HS.out; omega) (by have := HS.out; omega)).mono ?_
        rintro e w9 ⟨rfl, h9⟩
        have H9 := Lib.hid (HB3.out.trans h9)
        clear h9 H8
        go_wp2_with fail
        go_roundw
        case rel => exact ⟨k + 1, by omega, by go_num, by rw [HE2.out]; exact H9.out⟩
        case measure => simp [intOf]; omega
      | false =>
        go_wp2_with fail
        clear d3
        refine (bld_byte _ _ _ 0 _ rfl _ _ H7.out (by simp only [List.length_append]; have := HLL.out; have := HS.out; omega)).mono ?_
        rintro e w8 ⟨rfl, h8⟩
        have d2 := h8.cellX HC.out (by decide) (by decide) 2
        have H8 := Lib.hid h8
        clear h8 H7
        go_wp2_with fail
        clear d2
        refine (writeString_any _ _ _ vl _ _ H8.out (by simp only [List.length_append, List.length_cons, List.length_nil]; have := HLL.out; have := HS.out; omega) (by have := HS.out; omega)).mono ?_
        rintro e w9 ⟨rfl, h9⟩
        have H9 := Lib.hid (HB3.out.trans h9)
        clear h9 H8
        go_wp2_with fail
        go_roundw
        case rel => exact ⟨k + 1, by omega, by go_num, by rw [HE2.out]; exact H9.out⟩
        case measure => simp [intOf]; omega
    · have HTK := Lib.hid (show L.take k = L from List.take_of_length_le (by omega))
      go_wp2_with fail
      refine (Try.Builder_String_any _ _ _ _ HB.out.1 HB.out.2.2.1).mono ?_
      rintro e w6 ⟨rfl, hb6⟩
      have HB6 := Lib.hid hb6
      clear hb6
      go_wp2_with fail
      go_ret
      refine ⟨?_, HLW.out.trans (HB6.out.mono (Nat.le_succ _))⟩
      have e5 : recB 3 s L = P0 ++ chsB (L.take k) := by
        rw [HTK.out, HP0.out]
        unfold recB
        rw [if_pos (by decide)]
        simp
      rw [e5]
      rfl
end Go.Proofs.Ytpcjmceakelilaa
