/- Btree: the reference's Put and Delete. -/
import Derived.Test.YtegljepgncicjaaBu25
namespace Go.Proofs.Ytegljepgncicjaa
open Go.ChangeShapes Go.WideShapes Go.ChangeAt Go.RowKit Go.Deep Go.Shelf
set_option linter.unusedVariables false
set_option linter.unusedSimpArgs false
set_option maxRecDepth 100000 in
set_option maxHeartbeats 1600000 in
theorem rPut_some (o : Int) (g c : Nat) (L : List Pr) (key val : Bs) (w : World) (hv : PrAt w (.slice (some ⟨g, 0, none⟩) L.length c) L) (hl : L.length ≤ 5000) (hc : L.length ≤ c) (hc2 : c ≤ 9223372036854775807) :
    Calls Try.prog 26 #[.agg #[.int .i64 o, .slice (some ⟨g, 0, none⟩) L.length c], .string key, .string val] w (RPutOut o (.slice (some ⟨g, 0, none⟩) L.length c) (putL L key val) (!(hasL L key)) w) := by
  have HR := Lib.hid (PW.start (o := o) hv)
  obtain ⟨N, hN⟩ : ∃ N, N = w.heap.size := ⟨_, rfl⟩
  clear hv 
  go_enter Try.func26, Try.ntmps26
  go_wp2_with fail
  rw [← hN] at HR
  refine (place_any o (.slice (some ⟨g, 0, none⟩) L.length c) L key _ HR.out.pr hl).mono ?_
  rw [← hN]
  clear hN
  generalize (w.alloc _).alloc _ = W1 at HR ⊢
  rintro e W2 ⟨rfl, hb⟩
  have HR2 := Lib.hid ((HR.out.up HR.out.sz (Nat.le_refl _)).next hb)
  generalize W1.heap.size = B at HR2
  clear hb HR
  have c0 := HR2.out.b0.cell 0 _ rfl
  have c1 := HR2.out.b0.cell 1 _ rfl
  have hp := posL_le L key
  have HL := Lib.hid (show putL L key val = (([] ++ L.take (posL L key)) ++ [(key, val)]) ++ L.drop (if hasL L key = true then posL L key + 1 else posL L key) by rw [putL_pos]; simp)
  have HLT := Lib.hid (fun h => hasL_lt (L := L) (k := key) h)
  generalize posL L key = n at *
  generalize hasL L key = b at *
  have hnc : n ≤ c := by omega
  go_wp2_with (with_reducible refine wpList_appP 17 21 B (.slice none 0 0) (.slice (some ⟨g, 0, none⟩) n c) [] (L.take n) _ _ _ _ _ ?_ ?_ ?_ ?_)
  · exact World.ownsRow_nil _ _ _ _
  · exact src_take HR2.out.pr hp
  · exact ⟨rfl, rfl, by simp, by rw [List.length_take]; omega, HR2.out.sz⟩
  intro v1 W3 hr1 hb1
  have HR3 := Lib.hid (HR2.out.next hb1)
  have HO3 := Lib.hid hr1
  clear hr1 hb1 HR2 c0 c1
  have hz3 : N < W3.heap.size := HR3.out.b0.lt
  have c0 := HR3.out.b0.cell 0 _ rfl
  have c1 := HR3.out.b0.cell 1 _ rfl
  go_wp2_with (with_reducible refine wpList_appP 23 27 B v1 (.slice (some ⟨W3.heap.size, 0, none⟩) 1 1) ([] ++ L.take n) [(key, val)] _ _ _ _ _ ?_ ?_ ?_ ?_)
  · exact HO3.out.alloc _
  · exact src_new W3 key val _
  · exact ⟨rfl, rfl, by rw [List.nil_append, List.length_take]; omega, by simp, by have := HR3.out.sz; simp; omega⟩
  intro v2 W4 hr2 hb2
  obtain ⟨a2, c2, rfl, hac2⟩ := own_form hr2
  have hm2 : ([] ++ L.take n ++ [(key, val)]).length = n + 1 := by simp; omega
  rw [hm2] at hr2 hac2
  rw [hm2]
  have HR4 := Lib.hid (HR3.out.next (((Below.refl B W3).alloc HR3.out.sz _).trans hb2))
  have HO4 := Lib.hid hr2
  clear hr2 hb2 HR3 HO3 hz3 c0 c1
  have c0 := HR4.out.b0.cell 0 _ rfl
  have c1 := HR4.out.b0.cell 1 _ rfl
  cases b with
  | true =>
    simp only [if_true] at HL
    have hlt := HLT.out rfl
    have hw : IntKind.i64.wrap ((n : Int) + 1) = ((n + 1 : Nat) : Int) := by rw [IntKind.wrap_i64]; omega
    go_wp2_with (with_reducible refine wpList_dropP 32 34 (n + 1) _ L _ _ _ _ _ HR4.out.pr ?_ ?_)
    · exact ⟨rfl, rfl, by omega⟩
    intro sv hsv
    have HS := Lib.hid hsv
    clear hsv
    go_wp2_with (with_reducible refine wpList_appP 30 35 B (.slice a2 (n + 1) c2) sv ([] ++ L.take n ++ [(key, val)]) (L.drop (n + 1)) _ _ _ _ _ (by rw [hm2]; exact HO4.out) ?_ ?_ ?_)
    · exact HS.out
    · exact ⟨rfl, rfl, by rw [hm2]; omega, by rw [List.length_drop]; omega, HR4.out.sz⟩
    intro v3 W5 hr3 hb3
    have HR5 := Lib.hid (HR4.out.next hb3)
    obtain ⟨a3, c3, rfl, _⟩ := own_form hr3
    rw [← HL.out] at hr3
    obtain ⟨m3, hm3⟩ : ∃ m3, m3 = (([] ++ L.take n ++ [(key, val)]) ++ L.drop (n + 1)).length := ⟨_, rfl⟩
    rw [← HL.out] at hm3 ⊢
    rw [← hm3] at hr3
    rw [← hm3]
    have HO5 := Lib.hid (And.intro hr3 hm3)
    clear hr3 hb3 HR4 HO4 c0 c1 hm3
    have c0 := HR5.out.b0.cell 0 _ rfl
    have c1 := HR5.out.b0.cell 1 _ rfl
    have f0 := HR5.out.b0.free
    have f1 := HR5.out.b1.free
    have d0 := HR5.out.b1.cell 0 _ rfl
    have d1 := HR5.out.b1.cell 1 _ rfl
    have hz5 := HR5.out.b1.lt
    have hz6 := HR5.out.b0.lt
    go_wp2_with fail
    have hend := rput_end HR5.out HO5.out.1 HO5.out.2
    have e0 := hend.2.2.cell 0 _ rfl
    have e1 := hend.2.2.cell 1 _ rfl
    exact bodyPost_ret (v := .tuple #[.agg #[.int .i64 o, .slice a3 m3 c3], .bool false]) (by simp [results, Try.results26, go_sem, e0, e1]) rfl ⟨_, rfl, hend.1, hend.2.1, fun k hk => .inr (by have := (HO5.out.1.lt k hk).1; have := HR5.out.lt; have := HR5.out.ge; omega)⟩
  | false =>
    simp only [Bool.false_eq_true, if_false] at HL
    go_wp2_with (with_reducible refine wpList_dropP 39 40 n _ L _ _ _ _ _ HR4.out.pr ?_ ?_)
    · exact ⟨rfl, rfl, by omega⟩
    intro sv hsv
    have HS := Lib.hid hsv
    clear hsv
    go_wp2_with (with_reducible refine wpList_appP 37 41 B (.slice a2 (n + 1) c2) sv ([] ++ L.take n ++ [(key, val)]) (L.drop n) _ _ _ _ _ (by rw [hm2]; exact HO4.out) ?_ ?_ ?_)
    · exact HS.out
    · exact ⟨rfl, rfl, by rw [hm2]; omega, by rw [List.length_drop]; omega, HR4.out.sz⟩
    intro v3 W5 hr3 hb3
    have HR5 := Lib.hid (HR4.out.next hb3)
    obtain ⟨a3, c3, rfl, _⟩ := own_form hr3
    rw [← HL.out] at hr3
    obtain ⟨m3, hm3⟩ : ∃ m3, m3 = (([] ++ L.take n ++ [(key, val)]) ++ L.drop n).length := ⟨_, rfl⟩
    rw [← HL.out] at hm3 ⊢
    rw [← hm3] at hr3
    rw [← hm3]
    have HO5 := Lib.hid (And.intro hr3 hm3)
    clear hr3 hb3 HR4 HO4 c0 c1 hm3
    have c0 := HR5.out.b0.cell 0 _ rfl
    have c1 := HR5.out.b0.cell 1 _ rfl
    have f0 := HR5.out.b0.free
    have f1 := HR5.out.b1.free
    have d0 := HR5.out.b1.cell 0 _ rfl
    have d1 := HR5.out.b1.cell 1 _ rfl
    have hz5 := HR5.out.b1.lt
    have hz6 := HR5.out.b0.lt
    go_wp2_with fail
    have hend := rput_end HR5.out HO5.out.1 HO5.out.2
    have e0 := hend.2.2.cell 0 _ rfl
    have e1 := hend.2.2.cell 1 _ rfl
    exact bodyPost_ret (v := .tuple #[.agg #[.int .i64 o, .slice a3 m3 c3], .bool true]) (by simp [results, Try.results26, go_sem, e0, e1]) rfl ⟨_, rfl, hend.1, hend.2.1, fun k hk => .inr (by have := (HO5.out.1.lt k hk).1; have := HR5.out.lt; have := HR5.out.ge; omega)⟩
set_option maxRecDepth 100000 in
set_option maxHeartbeats 1600000 in
theorem rPut_nil (o : Int) (L : List Pr) (key val : Bs) (w : World) (hL : L = []) (hv : PrAt w (.slice none 0 0) L) :
    Calls Try.prog 26 #[.agg #[.int .i64 o, .slice none 0 0], .string key, .string val] w (RPutOut o (.slice none 0 0) (putL L key val) (!(hasL L key)) w) := by
  have HR := Lib.hid (PW.start (o := o) hv)
  obtain ⟨N, hN⟩ : ∃ N, N = w.heap.size := ⟨_, rfl⟩
  have hl : L.length ≤ 5000 := by rw [hL]; simp
  have HL0 := Lib.hid (show L.length = 0 by rw [hL]; rfl)
  clear hv hL
  go_enter Try.func26, Try.ntmps26
  go_wp2_with fail
  rw [← hN] at HR
  refine (place_any o (.slice none 0 0) L key _ HR.out.pr hl).mono ?_
  rw [← hN]
  clear hN
  generalize (w.alloc _).alloc _ = W1 at HR ⊢
  rintro e W2 ⟨rfl, hb⟩
  have HR2 := Lib.hid ((HR.out.up HR.out.sz (Nat.le_refl _)).next hb)
  generalize W1.heap.size = B at HR2
  clear hb HR
  have c0 := HR2.out.b0.cell 0 _ rfl
  have c1 := HR2.out.b0.cell 1 _ rfl
  have hp := posL_le L key
  have HL := Lib.hid (show putL L key val = (([] ++ L.take (posL L key)) ++ [(key, val)]) ++ L.drop (if hasL L key = true then posL L key + 1 else posL L key) by rw [putL_pos]; simp)
  have HLT := Lib.hid (fun h => hasL_lt (L := L) (k := key) h)
  generalize posL L key = n at *
  generalize hasL L key = b at *
  obtain rfl : n = 0 := by have := HL0.out; omega
  cases b with
  | true => exact absurd (HLT.out rfl) (by have := HL0.out; omega)
  | false =>
    go_wp2_with (with_reducible refine wpList_appP 17 21 B (.slice none 0 0) (.slice none 0 0) [] (L.take 0) _ _ _ _ _ ?_ ?_ ?_ ?_)
    · exact World.ownsRow_nil _ _ _ _
    · exact .inl ⟨0, rfl, rfl⟩
    · exact ⟨rfl, rfl, by simp, by rw [List.length_take]; omega, HR2.out.sz⟩
    intro v1 W3 hr1 hb1
    have HR3 := Lib.hid (HR2.out.next hb1)
    have HO3 := Lib.hid hr1
    clear hr1 hb1 HR2 c0 c1
    have hz3 : N < W3.heap.size := HR3.out.b0.lt
    have c0 := HR3.out.b0.cell 0 _ rfl
    have c1 := HR3.out.b0.cell 1 _ rfl
    go_wp2_with (with_reducible refine wpList_appP 23 27 B v1 (.slice (some ⟨W3.heap.size, 0, none⟩) 1 1) ([] ++ L.take 0) [(key, val)] _ _ _ _ _ ?_ ?_ ?_ ?_)
    · exact HO3.out.alloc _
    · exact src_new W3 key val _
    · exact ⟨rfl, rfl, by rw [List.nil_append, List.length_take]; omega, by simp, by have := HR3.out.sz; simp; omega⟩
    intro v2 W4 hr2 hb2
    obtain ⟨a2, c2, rfl, hac2⟩ := own_form hr2
    have hm2 : ([] ++ L.take 0 ++ [(key, val)]).length = 0 + 1 := by simp
    rw [hm2] at hr2 hac2
    rw [hm2]
    have HR4 := Lib.hid (HR3.out.next (((Below.refl B W3).alloc HR3.out.sz _).trans hb2))
    have HO4 := Lib.hid hr2
    clear hr2 hb2 HR3 HO3 hz3 c0 c1
    have c0 := HR4.out.b0.cell 0 _ rfl
    have c1 := HR4.out.b0.cell 1 _ rfl
    simp only [Bool.false_eq_true, if_false] at HL
    go_wp2_with (with_reducible refine wpList_dropP 39 40 0 _ L _ _ _ _ _ HR4.out.pr ?_ ?_)
    · exact ⟨rfl, rfl, by omega⟩
    intro sv hsv
    have HS := Lib.hid hsv
    clear hsv
    go_wp2_with (with_reducible refine wpList_appP 37 41 B (.slice a2 (0 + 1) c2) sv ([] ++ L.take 0 ++ [(key, val)]) (L.drop 0) _ _ _ _ _ (by rw [hm2]; exact HO4.out) ?_ ?_ ?_)
    · exact HS.out
    · exact ⟨rfl, rfl, by rw [hm2]; omega, by rw [List.length_drop]; omega, HR4.out.sz⟩
    intro v3 W5 hr3 hb3
    have HR5 := Lib.hid (HR4.out.next hb3)
    obtain ⟨a3, c3, rfl, _⟩ := own_form hr3
    rw [← HL.out] at hr3
    obtain ⟨m3, hm3⟩ : ∃ m3, m3 = (([] ++ L.take 0 ++ [(key, val)]) ++ L.drop 0).length := ⟨_, rfl⟩
    rw [← HL.out] at hm3 ⊢
    rw [← hm3] at hr3
    rw [← hm3]
    have HO5 := Lib.hid (And.intro hr3 hm3)
    clear hr3 hb3 HR4 HO4 c0 c1 hm3
    have c0 := HR5.out.b0.cell 0 _ rfl
    have c1 := HR5.out.b0.cell 1 _ rfl
    have f0 := HR5.out.b0.free
    have f1 := HR5.out.b1.free
    have d0 := HR5.out.b1.cell 0 _ rfl
    have d1 := HR5.out.b1.cell 1 _ rfl
    have hz5 := HR5.out.b1.lt
    have hz6 := HR5.out.b0.lt
    go_wp2_with fail
    have hend := rput_end HR5.out HO5.out.1 HO5.out.2
    have e0 := hend.2.2.cell 0 _ rfl
    have e1 := hend.2.2.cell 1 _ rfl
    exact bodyPost_ret (v := .tuple #[.agg #[.int .i64 o, .slice a3 m3 c3], .bool true]) (by simp [results, Try.results26, go_sem, e0, e1]) rfl ⟨_, rfl, hend.1, hend.2.1, fun k hk => .inr (by have := (HO5.out.1.lt k hk).1; have := HR5.out.lt; have := HR5.out.ge; omega)⟩
end Go.Proofs.Ytegljepgncicjaa
