/- Btree: the reference's Delete. -/
import Derived.Test.YtegljepgncicjaaBu26
namespace Go.Proofs.Ytegljepgncicjaa
open Go.ChangeShapes Go.WideShapes Go.ChangeAt Go.RowKit Go.Deep Go.Shelf
set_option linter.unusedVariables false
set_option linter.unusedSimpArgs false
theorem rdel_end {w W : World} {N B n c : Nat} {o : Int} {a : Option Addr} {L : List Pr} (h : PW w N o (.slice a n c) L B W) :
    PrAt ((W.setCell ⟨N + 1, 0, none⟩ (.int .i64 o)).setCell ⟨N + 1, 1, none⟩ (.slice a n c)) (.slice a n c) L ∧ Below w.heap.size w ((W.setCell ⟨N + 1, 0, none⟩ (.int .i64 o)).setCell ⟨N + 1, 1, none⟩ (.slice a n c)) ∧
    Box ((W.setCell ⟨N + 1, 0, none⟩ (.int .i64 o)).setCell ⟨N + 1, 1, none⟩ (.slice a n c)) (N + 1) [.int .i64 o, .slice a n c] := by
  have hge := h.ge
  have k2 : Kept (fun k => k = N + 1) W ((W.setCell ⟨N + 1, 0, none⟩ (.int .i64 o)).setCell ⟨N + 1, 1, none⟩ (.slice a n c)) :=
    ((Kept.refl (fun k => k = N + 1) _).setCells (N + 1) 0 [.int .i64 o, .slice a n c] (.inl rfl))
  have hb := (h.b1.setCell 0 (.int .i64 o) (by simp)).setCell 1 (.slice a n c) (by simp)
  refine ⟨?_, h.b.trans (k2.below (Nat.le_trans (by have := h.lt; omega) h.sz) (fun k e => by omega)), hb⟩
  have hp := h.pr
  have hv := h.vb
  have hlt := h.lt
  have hb1 : ∀ k, (Value.slice a n c).ownBlock = some k → k ≠ N + 1 := fun k hk e => h.nb k hk e
  exact hp.kept k2 (fun k hk e => hb1 k hk e)
set_option maxRecDepth 100000 in
set_option maxHeartbeats 1600000 in
theorem rDel_some (o : Int) (g c : Nat) (L : List Pr) (key : Bs) (w : World) (hv : PrAt w (.slice (some ⟨g, 0, none⟩) L.length c) L) (hl : L.length ≤ 5000) (hc : L.length ≤ c) (hc2 : c ≤ 9223372036854775807) :
    Calls Try.prog 27 #[.agg #[.int .i64 o, .slice (some ⟨g, 0, none⟩) L.length c], .string key] w (RPutOut o (.slice (some ⟨g, 0, none⟩) L.length c) (delL L key) (hasL L key) w) := by
  have HR := Lib.hid (PW.start (o := o) hv)
  obtain ⟨N, hN⟩ : ∃ N, N = w.heap.size := ⟨_, rfl⟩
  clear hv 
  go_enter Try.func27, Try.ntmps27
  go_wp2_with fail
  rw [← hN] at HR
  refine (place_any o (.slice (some ⟨g, 0, none⟩) L.length c) L key _ HR.out.pr hl).mono ?_
  rw [← hN]
  clear hN
  generalize (w.alloc _).alloc _ = W1 at HR ⊢
  rintro e W2 ⟨rfl, hb⟩
  have HR2 := Lib.hid ((HR.out.up HR.out.sz (Nat.le_refl _)).next hb)
  generalize W1.heap.size = B at HR2
  clear hb HR
  have c0 := HR2.out.b0.cell 0 _ rfl
  have c1 := HR2.out.b0.cell 1 _ rfl
  have hp := posL_le L key
  have HL := Lib.hid (show delL L key = if hasL L key = true then (([] ++ L.take (posL L key)) ++ L.drop (posL L key + 1)) else L by rw [delL_pos]; simp)
  have HLT := Lib.hid (fun h => hasL_lt (L := L) (k := key) h)
  generalize posL L key = n at *
  generalize hasL L key = b at *
  cases b with
  | false =>
    simp only [Bool.false_eq_true, if_false] at HL
    have f1 := HR2.out.b1.free
    have d0 := HR2.out.b1.cell 0 _ rfl
    have d1 := HR2.out.b1.cell 1 _ rfl
    have hz5 := HR2.out.b1.lt
    have hz6 := HR2.out.b0.lt
    go_wp2_with fail
    have hend := rdel_end HR2.out
    have e0 := hend.2.2.cell 0 _ rfl
    have e1 := hend.2.2.cell 1 _ rfl
    exact bodyPost_ret (v := .tuple #[.agg #[.int .i64 o, .slice (some ⟨g, 0, none⟩) L.length c], .bool false]) (by simp [results, Try.results27, go_sem, e0, e1]) rfl ⟨_, rfl, by rw [HL.out]; exact hend.1, hend.2.1, fun k hk => .inl hk⟩
  | true =>
    simp only [if_true] at HL
    have hlt := HLT.out rfl
    have hnc : n ≤ c := by omega
    have hw : IntKind.i64.wrap ((n : Int) + 1) = ((n + 1 : Nat) : Int) := by rw [IntKind.wrap_i64]; omega
    go_wp2_with (with_reducible refine wpList_appP 18 22 B (.slice none 0 0) (.slice (some ⟨g, 0, none⟩) n c) [] (L.take n) _ _ _ _ _ ?_ ?_ ?_ ?_)
    · exact World.ownsRow_nil _ _ _ _
    · exact src_take HR2.out.pr hp
    · exact ⟨rfl, rfl, by simp, by rw [List.length_take]; omega, HR2.out.sz⟩
    intro v2 W4 hr2 hb2
    obtain ⟨a2, c2, rfl, hac2⟩ := own_form hr2
    have hm2 : ([] ++ L.take n).length = n := by simp; omega
    rw [hm2] at hr2 hac2
    rw [hm2]
    have HR4 := Lib.hid (HR2.out.next hb2)
    have HO4 := Lib.hid hr2
    clear hr2 hb2 HR2 c0 c1
    have c0 := HR4.out.b0.cell 0 _ rfl
    have c1 := HR4.out.b0.cell 1 _ rfl
    go_wp2_with (with_reducible refine wpList_dropP 26 28 (n + 1) _ L _ _ _ _ _ HR4.out.pr ?_ ?_)
    · exact ⟨rfl, rfl, by omega⟩
    intro sv hsv
    have HS := Lib.hid hsv
    clear hsv
    go_wp2_with (with_reducible refine wpList_appP 24 29 B (.slice a2 n c2) sv ([] ++ L.take n) (L.drop (n + 1)) _ _ _ _ _ (by rw [hm2]; exact HO4.out) ?_ ?_ ?_)
    · exact HS.out
    · exact ⟨rfl, rfl, by rw [hm2]; omega, by rw [List.length_drop]; omega, HR4.out.sz⟩
    intro v3 W5 hr3 hb3
    have HR5 := Lib.hid (HR4.out.next hb3)
    obtain ⟨a3, c3, rfl, _⟩ := own_form hr3
    rw [← HL.out] at hr3
    obtain ⟨m3, hm3⟩ : ∃ m3, m3 = (([] ++ L.take n) ++ L.drop (n + 1)).length := ⟨_, rfl⟩
    rw [← HL.out] at hm3 ⊢
    rw [← hm3] at hr3
    rw [← hm3]
    have HO5 := Lib.hid (And.intro hr3 hm3)
    clear hr3 hb3 HR4 HO4 c0 c1 hm3
    have c0 := HR5.out.b0.cell 0 _ rfl
    have c1 := HR5.out.b0.cell 1 _ rfl
    have f0 := HR5.out.b0.free
    have f1 := HR5.out.b1.free
    have d0 := HR5.out.b1.cell 0 _ rfl
    have d1 := HR5.out.b1.cell 1 _ rfl
    have hz5 := HR5.out.b1.lt
    have hz6 := HR5.out.b0.lt
    go_wp2_with fail
    have hend := rput_end HR5.out HO5.out.1 HO5.out.2
    have e0 := hend.2.2.cell 0 _ rfl
    have e1 := hend.2.2.cell 1 _ rfl
    exact bodyPost_ret (v := .tuple #[.agg #[.int .i64 o, .slice a3 m3 c3], .bool true]) (by simp [results, Try.results27, go_sem, e0, e1]) rfl ⟨_, rfl, hend.1, hend.2.1, fun k hk => .inr (by have := (HO5.out.1.lt k hk).1; have := HR5.out.lt; have := HR5.out.ge; omega)⟩
set_option maxRecDepth 100000 in
set_option maxHeartbeats 1600000 in
theorem rDel_nil (o : Int) (L : List Pr) (key : Bs) (w : World) (hL : L = []) (hv : PrAt w (.slice none 0 0) L) :
    Calls Try.prog 27 #[.agg #[.int .i64 o, .slice none 0 0], .string key] w (RPutOut o (.slice none 0 0) (delL L key) (hasL L key) w) := by
  have HR := Lib.hid (PW.start (o := o) hv)
  obtain ⟨N, hN⟩ : ∃ N, N = w.heap.size := ⟨_, rfl⟩
  have hl : L.length ≤ 5000 := by rw [hL]; simp
  have HL0 := Lib.hid (show L.length = 0 by rw [hL]; rfl)
  clear hv hL
  go_enter Try.func27, Try.ntmps27
  go_wp2_with fail
  rw [← hN] at HR
  refine (place_any o (.slice none 0 0) L key _ HR.out.pr hl).mono ?_
  rw [← hN]
  clear hN
  generalize (w.alloc _).alloc _ = W1 at HR ⊢
  rintro e W2 ⟨rfl, hb⟩
  have HR2 := Lib.hid ((HR.out.up HR.out.sz (Nat.le_refl _)).next hb)
  generalize W1.heap.size = B at HR2
  clear hb HR
  have c0 := HR2.out.b0.cell 0 _ rfl
  have c1 := HR2.out.b0.cell 1 _ rfl
  have hp := posL_le L key
  have HL := Lib.hid (show delL L key = if hasL L key = true then (([] ++ L.take (posL L key)) ++ L.drop (posL L key + 1)) else L by rw [delL_pos]; simp)
  have HLT := Lib.hid (fun h => hasL_lt (L := L) (k := key) h)
  generalize posL L key = n at *
  generalize hasL L key = b at *
  cases b with
  | false =>
    simp only [Bool.false_eq_true, if_false] at HL
    have f1 := HR2.out.b1.free
    have d0 := HR2.out.b1.cell 0 _ rfl
    have d1 := HR2.out.b1.cell 1 _ rfl
    have hz5 := HR2.out.b1.lt
    have hz6 := HR2.out.b0.lt
    go_wp2_with fail
    have hend := rdel_end HR2.out
    have e0 := hend.2.2.cell 0 _ rfl
    have e1 := hend.2.2.cell 1 _ rfl
    exact bodyPost_ret (v := .tuple #[.agg #[.int .i64 o, .slice none 0 0], .bool false]) (by simp [results, Try.results27, go_sem, e0, e1]) rfl ⟨_, rfl, by rw [HL.out]; exact hend.1, hend.2.1, fun k hk => .inl hk⟩
  | true =>
    simp only [if_true] at HL
    have hlt := HLT.out rfl
    exact absurd hlt (by have := HL0.out; omega)
theorem rPut_any (o : Int) (v : Value) (L : List Pr) (key val : Bs) (w : World) (hv : PrAt w v L) (hl : L.length ≤ 5000) :
    Calls Try.prog 26 #[.agg #[.int .i64 o, v], .string key, .string val] w (RPutOut o v (putL L key val) (!(hasL L key)) w) := by
  have hv2 := hv
  rcases hv with ⟨rfl, hL⟩ | ⟨g, c, rfl, h1, h2, h3, h4⟩
  · exact rPut_nil o L key val w hL hv2
  · exact rPut_some o g c L key val w hv2 hl h1 h2
theorem rDel_any (o : Int) (v : Value) (L : List Pr) (key : Bs) (w : World) (hv : PrAt w v L) (hl : L.length ≤ 5000) :
    Calls Try.prog 27 #[.agg #[.int .i64 o, v], .string key] w (RPutOut o v (delL L key) (hasL L key) w) := by
  have hv2 := hv
  rcases hv with ⟨rfl, hL⟩ | ⟨g, c, rfl, h1, h2, h3, h4⟩
  · exact rDel_nil o L key w hL hv2
  · exact rDel_some o g c L key w hv2 hl h1 h2
end Go.Proofs.Ytegljepgncicjaa
