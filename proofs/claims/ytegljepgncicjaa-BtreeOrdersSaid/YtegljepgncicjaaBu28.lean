/- Btree: the reference's Scan. -/
import Derived.Test.YtegljepgncicjaaBu27
namespace Go.Proofs.Ytegljepgncicjaa
open Go.ChangeShapes Go.WideShapes Go.ChangeAt Go.RowKit Go.Deep Go.Shelf
set_option linter.unusedVariables false
set_option linter.unusedSimpArgs false
theorem dirL_len (back : Bool) (L : List Pr) : (dirL back L).length = L.length := by unfold dirL; split <;> simp
theorem dirL_at (back : Bool) (L : List Pr) (k : Nat) (h : k < L.length) : (dirL back L)[k]'(by rw [dirL_len]; exact h) = if back = true then L[L.length - 1 - k]'(by omega) else L[k] := by
  cases back with
  | true =>
    show L.reverse[k]'(by simp; exact h) = _
    rw [List.getElem_reverse]
    simp
  | false => rfl
theorem scan_step (lo hi : Bs) (D : List Pr) (k : Nat) (h : k < D.length) (f : Pr → Bool) : (D.take (k + 1)).filter f = (D.take k).filter f ++ (if f D[k] = true then [D[k]] else []) := by
  rw [List.take_succ_eq_append_getElem h, List.filter_append]
  congr 1
  cases hf : f D[k] <;> simp [hf]
structure SW (w : World) (N : Nat) (o : Int) (v : Value) (L : List Pr) (B : Nat) (W : World) : Prop where
  b0 : Box W N [.int .i64 o, v]
  pr : PrAt W v L
  lt : N < B
  vb : ∀ k, v.ownBlock = some k → k < B
  sz : B ≤ W.heap.size
  b : Below w.heap.size w W
theorem SW.next {w W W' : World} {N B : Nat} {o : Int} {v : Value} {L : List Pr} (h : SW w N o v L B W) (hb : Below B W W') (hw : w.heap.size ≤ B) : SW w N o v L B W' :=
  ⟨h.b0.far hb h.lt, h.pr.below' hb h.vb, h.lt, h.vb, Nat.le_trans h.sz hb.size, h.b.trans (hb.mono hw)⟩
theorem SW.start {w : World} {o : Int} {v : Value} {L : List Pr} (h : PrAt w v L) : SW w w.heap.size o v L (w.heap.size + 1) (w.alloc (.cells #[.int .i64 o, v] 30)) := by
  have hb1 : Below w.heap.size w (w.alloc (.cells #[.int .i64 o, v] 30)) := (Below.refl _ w).alloc (Nat.le_refl _) _
  exact ⟨Box.new w [.int .i64 o, v] 30, h.below hb1, by omega, fun k hk => by have := h.own_lt k hk; omega, by simp, hb1⟩
def RScanOut (L : List Pr) (w : World) (e : Ending) (W' : World) : Prop := ∃ v, e = .returned v ∧ PrAt W' v L ∧ Below w.heap.size w W'
set_option maxRecDepth 100000 in
set_option maxHeartbeats 1600000 in
theorem rScan_some (o : Int) (g c : Nat) (L : List Pr) (lo hi : Bs) (back : Bool) (w : World) (hv : PrAt w (.slice (some ⟨g, 0, none⟩) L.length c) L) (hl : L.length ≤ 5000) :
    Calls Try.prog 17 #[.agg #[.int .i64 o, .slice (some ⟨g, 0, none⟩) L.length c], .string lo, .string hi, .bool back] w (RScanOut (scanL lo hi back L) w) := by
  have HR := Lib.hid (SW.start (o := o) hv)
  have HN := Lib.hid (show w.heap.size ≤ w.heap.size + 1 by omega)
  obtain ⟨N, hN⟩ : ∃ N, N = w.heap.size := ⟨_, rfl⟩
  clear hv
  go_enter Try.func17, Try.ntmps17
  go_wp2_with fail
  rw [← hN] at HR
  rw [← hN]
  rw [show w.heap.size + 1 = N + 1 by rw [hN]] at HN
  obtain ⟨B, hB⟩ : ∃ B, B = N + 1 := ⟨_, rfl⟩
  rw [← hB] at HR HN
  clear hN hB
  generalize w.alloc _ = W1 at HR ⊢
  go_loopw [9, 10] (fun out i wr => ∃ k : Nat, k ≤ L.length ∧ i = .int .i64 k ∧ SW w N o (.slice (some ⟨g, 0, none⟩) L.length c) L B wr ∧ wr.ownsRow B 59 2 out (((dirL back L).take k).filter (inU lo hi (bdOf hi))).length (prv (((dirL back L).take k).filter (inU lo hi (bdOf hi))))) (fun _ i _ => L.length - (intOf i).toNat)
  case atStart => exact ⟨0, Nat.zero_le _, rfl, HR.out, World.ownsRow_nil _ _ _ _⟩
  case round =>
    clear HR
    obtain ⟨k, hk, rfl, hsw, hown⟩ := hrel
    have HR := Lib.hid hsw
    have HO := Lib.hid hown
    clear hsw hown
    have c1 := HR.out.b0.cell 1 _ rfl
    by_cases hlt : k < L.length
    · obtain ⟨g', c', hg, _, _, hgl, hcell⟩ := HR.out.pr.get (by omega)
      cases hg
      have hgn : g ≠ wr.heap.size := Nat.ne_of_lt hgl
      have hNl : N < wr.heap.size := HR.out.b0.lt
      have hNn : N ≠ wr.heap.size := Nat.ne_of_lt hNl
      have a0 := (hcell k hlt).1
      have a1 := (hcell k hlt).2
      cases back with
      | false =>
        have HST0 := Lib.hid (scan_step lo hi (dirL false L) k (by rw [dirL_len]; exact hlt) (inU lo hi (bdOf hi)))
        have hx : (dirL false L)[k]'(by rw [dirL_len]; exact hlt) = L[k] := dirL_at false L k hlt
        rw [hx] at HST0
        clear hcell hx
        generalize L[k] = x at a0 a1 HST0
        cases h1 : Op.bytesLess (ByteArray.toList x.1) (ByteArray.toList lo)
        rotate_left
        · have HST := Lib.hid (show ((dirL false L).take (k + 1)).filter (inU lo hi (bdOf hi)) = ((dirL false L).take k).filter (inU lo hi (bdOf hi)) ++ [] by rw [HST0.out]; simp [inU, lB, h1, bdOf])
          go_wp2_with fail
          go_roundw
          case rel =>
            refine ⟨k + 1, by omega, by go_num, HR.out.next (((Below.refl B wr).alloc HR.out.sz _)) HN.out, ?_⟩
            rw [HST.out, List.append_nil]
            exact HO.out.alloc _
          case measure => simp [intOf]; omega
        · cases h2 : (ByteArray.toList hi).isEmpty with
          | true =>
            have HST := Lib.hid (show ((dirL false L).take (k + 1)).filter (inU lo hi (bdOf hi)) = ((dirL false L).take k).filter (inU lo hi (bdOf hi)) ++ [x] by rw [HST0.out]; simp [inU, lB, h1, bdOf, h2])
            have h4 : ((ByteArray.toList hi) == []) = true := by rw [List.isEmpty_iff.1 h2]; rfl
            go_wp2_with (with_reducible refine wpList_appP 49 51 B u9 (.slice (some ⟨wr.heap.size + 1, 0, none⟩) 1 1) (((dirL false L).take k).filter (inU lo hi (bdOf hi))) [x] _ _ _ _ _ ?_ ?_ ?_ ?_)
            · exact (HO.out.alloc _).alloc _
            · have := src_new (wr.alloc (.cells #[.string x.1, .string x.2] 59)) x.1 x.2 59
              rw [World.size_alloc] at this
              exact this
            · refine ⟨rfl, rfl, ?_, by simp, by have := HR.out.sz; simp; omega⟩
              refine Nat.le_trans (List.length_filter_le ..) ?_
              rw [List.length_take]; omega
            intro v' w' hr' hb'
            have HR' := Lib.hid (HR.out.next (((((Below.refl B wr).alloc HR.out.sz _).alloc (by have := HR.out.sz; simp; omega) _)).trans hb') HN.out)
            have HO' := Lib.hid hr'
            clear hr' hb'
            go_wp2_with fail
            go_roundw
            case rel =>
              refine ⟨k + 1, by omega, by go_num, HR'.out, ?_⟩
              rw [HST.out]
              exact HO'.out
            case measure => simp [intOf]; omega
          | false =>
            have h4 : ((ByteArray.toList hi) == []) = false := by
              cases hh : ByteArray.toList hi with
              | nil => rw [hh] at h2; cases h2
              | cons a b => rfl
            cases h3 : Op.bytesLess (ByteArray.toList x.1) (ByteArray.toList hi) with
            | true =>
              have HST := Lib.hid (show ((dirL false L).take (k + 1)).filter (inU lo hi (bdOf hi)) = ((dirL false L).take k).filter (inU lo hi (bdOf hi)) ++ [x] by rw [HST0.out]; simp [inU, lB, h1, bdOf, h2, h3])
              go_wp2_with (with_reducible refine wpList_appP 49 51 B u9 (.slice (some ⟨wr.heap.size + 1, 0, none⟩) 1 1) (((dirL false L).take k).filter (inU lo hi (bdOf hi))) [x] _ _ _ _ _ ?_ ?_ ?_ ?_)
              · exact (HO.out.alloc _).alloc _
              · have := src_new (wr.alloc (.cells #[.string x.1, .string x.2] 59)) x.1 x.2 59
                rw [World.size_alloc] at this
                exact this
              · refine ⟨rfl, rfl, ?_, by simp, by have := HR.out.sz; simp; omega⟩
                refine Nat.le_trans (List.length_filter_le ..) ?_
                rw [List.length_take]; omega
              intro v' w' hr' hb'
              have HR' := Lib.hid (HR.out.next (((((Below.refl B wr).alloc HR.out.sz _).alloc (by have := HR.out.sz; simp; omega) _)).trans hb') HN.out)
              have HO' := Lib.hid hr'
              clear hr' hb'
              go_wp2_with fail
              go_roundw
              case rel =>
                refine ⟨k + 1, by omega, by go_num, HR'.out, ?_⟩
                rw [HST.out]
                exact HO'.out
              case measure => simp [intOf]; omega
            | false =>
              have HST := Lib.hid (show ((dirL false L).take (k + 1)).filter (inU lo hi (bdOf hi)) = ((dirL false L).take k).filter (inU lo hi (bdOf hi)) ++ [] by rw [HST0.out]; simp [inU, lB, h1, bdOf, h2, h3])
              go_wp2_with fail
              go_roundw
              case rel =>
                refine ⟨k + 1, by omega, by go_num, HR.out.next (((Below.refl B wr).alloc HR.out.sz _)) HN.out, ?_⟩
                rw [HST.out, List.append_nil]
                exact HO.out.alloc _
              case measure => simp [intOf]; omega
      | true =>
        have HST0 := Lib.hid (scan_step lo hi (dirL true L) k (by rw [dirL_len]; exact hlt) (inU lo hi (bdOf hi)))
        have hx : (dirL true L)[k]'(by rw [dirL_len]; exact hlt) = L[L.length - 1 - k]'(by omega) := dirL_at true L k hlt
        rw [hx] at HST0
        have d0 := (hcell (L.length - 1 - k) (by omega)).1
        have d1 := (hcell (L.length - 1 - k) (by omega)).2
        have hw1 : IntKind.i64.wrap ((L.length : Int) - 1) = ((L.length - 1 : Nat) : Int) := by rw [IntKind.wrap_i64]; omega
        have hw2 : IntKind.i64.wrap (((L.length - 1 : Nat) : Int) - (k : Int)) = ((L.length - 1 - k : Nat) : Int) := by rw [IntKind.wrap_i64]; omega
        have hjl : L.length - 1 - k < L.length := by omega
        clear hcell hx
        generalize L[L.length - 1 - k] = x at d0 d1 HST0
        generalize L[k] = y at a0 a1
        generalize L.length - 1 - k = j at d0 d1 hw2 hjl
        cases h1 : Op.bytesLess (ByteArray.toList x.1) (ByteArray.toList lo)
        rotate_left
        · have HST := Lib.hid (show ((dirL true L).take (k + 1)).filter (inU lo hi (bdOf hi)) = ((dirL true L).take k).filter (inU lo hi (bdOf hi)) ++ [] by rw [HST0.out]; simp [inU, lB, h1, bdOf])
          go_wp2_with fail
          go_roundw
          case rel =>
            refine ⟨k + 1, by omega, by go_num, HR.out.next (((Below.refl B wr).alloc HR.out.sz _)) HN.out, ?_⟩
            rw [HST.out, List.append_nil]
            exact HO.out.alloc _
          case measure => simp [intOf]; omega
        · cases h2 : (ByteArray.toList hi).isEmpty with
          | true =>
            have HST := Lib.hid (show ((dirL true L).take (k + 1)).filter (inU lo hi (bdOf hi)) = ((dirL true L).take k).filter (inU lo hi (bdOf hi)) ++ [x] by rw [HST0.out]; simp [inU, lB, h1, bdOf, h2])
            have h4 : ((ByteArray.toList hi) == []) = true := by rw [List.isEmpty_iff.1 h2]; rfl
            go_wp2_with (with_reducible refine wpList_appP 49 51 B u9 (.slice (some ⟨wr.heap.size + 1, 0, none⟩) 1 1) (((dirL true L).take k).filter (inU lo hi (bdOf hi))) [x] _ _ _ _ _ ?_ ?_ ?_ ?_)
            · exact (HO.out.alloc _).alloc _
            · have := src_new (wr.alloc (.cells #[.string x.1, .string x.2] 59)) x.1 x.2 59
              rw [World.size_alloc] at this
              exact this
            · refine ⟨rfl, rfl, ?_, by simp, by have := HR.out.sz; simp; omega⟩
              refine Nat.le_trans (List.length_filter_le ..) ?_
              rw [List.length_take]; omega
            intro v' w' hr' hb'
            have HR' := Lib.hid (HR.out.next (((((Below.refl B wr).alloc HR.out.sz _).alloc (by have := HR.out.sz; simp; omega) _)).trans hb') HN.out)
            have HO' := Lib.hid hr'
            clear hr' hb'
            go_wp2_with fail
            go_roundw
            case rel =>
              refine ⟨k + 1, by omega, by go_num, HR'.out, ?_⟩
              rw [HST.out]
              exact HO'.out
            case measure => simp [intOf]; omega
          | false =>
            have h4 : ((ByteArray.toList hi) == []) = false := by
              cases hh : ByteArray.toList hi with
              | nil => rw [hh] at h2; cases h2
              | cons a b => rfl
            cases h3 : Op.bytesLess (ByteArray.toList x.1) (ByteArray.toList hi) with
            | true =>
              have HST := Lib.hid (show ((dirL true L).take (k + 1)).filter (inU lo hi (bdOf hi)) = ((dirL true L).take k).filter (inU lo hi (bdOf hi)) ++ [x] by rw [HST0.out]; simp [inU, lB, h1, bdOf, h2, h3])
              go_wp2_with (with_reducible refine wpList_appP 49 51 B u9 (.slice (some ⟨wr.heap.size + 1, 0, none⟩) 1 1) (((dirL true L).take k).filter (inU lo hi (bdOf hi))) [x] _ _ _ _ _ ?_ ?_ ?_ ?_)
              · exact (HO.out.alloc _).alloc _
              · have := src_new (wr.alloc (.cells #[.string x.1, .string x.2] 59)) x.1 x.2 59
                rw [World.size_alloc] at this
                exact this
              · refine ⟨rfl, rfl, ?_, by simp, by have := HR.out.sz; simp; omega⟩
                refine Nat.le_trans (List.length_filter_le ..) ?_
                rw [List.length_take]; omega
              intro v' w' hr' hb'
              have HR' := Lib.hid (HR.out.next (((((Below.refl B wr).alloc HR.out.sz _).alloc (by have := HR.out.sz; simp; omega) _)).trans hb') HN.out)
              have HO' := Lib.hid hr'
              clear hr' hb'
              go_wp2_with fail
              go_roundw
              case rel =>
                refine ⟨k + 1, by omega, by go_num, HR'.out, ?_⟩
                rw [HST.out]
                exact HO'.out
              case measure => simp [intOf]; omega
            | false =>
              have HST := Lib.hid (show ((dirL true L).take (k + 1)).filter (inU lo hi (bdOf hi)) = ((dirL true L).take k).filter (inU lo hi (bdOf hi)) ++ [] by rw [HST0.out]; simp [inU, lB, h1, bdOf, h2, h3])
              go_wp2_with fail
              go_roundw
              case rel =>
                refine ⟨k + 1, by omega, by go_num, HR.out.next (((Below.refl B wr).alloc HR.out.sz _)) HN.out, ?_⟩
                rw [HST.out, List.append_nil]
                exact HO.out.alloc _
              case measure => simp [intOf]; omega
    · have hkl : k = L.length := by omega
      subst hkl
      have HS := Lib.hid (show ((dirL back L).take L.length).filter (inU lo hi (bdOf hi)) = scanL lo hi back L by rw [List.take_of_length_le (by rw [dirL_len]; exact Nat.le_refl _)]; rfl)
      go_wp2_with fail
      go_ret
      refine ⟨_, rfl, ?_, HR.out.b⟩
      have := HO.out
      rw [HS.out] at this
      exact PrAt.of_own rfl this
theorem rScan_any (o : Int) (v : Value) (L : List Pr) (lo hi : Bs) (back : Bool) (w : World) (hv : PrAt w v L) (hl : L.length ≤ 5000) :
    Calls Try.prog 17 #[.agg #[.int .i64 o, v], .string lo, .string hi, .bool back] w (RScanOut (scanL lo hi back L) w) := by
  have hv2 := hv
  rcases hv with ⟨rfl, hL⟩ | ⟨g, c, rfl, h1, h2, h3, h4⟩
  · have HR := Lib.hid (SW.start (o := o) hv2)
    have hs : scanL lo hi back L = [] := by rw [hL]; unfold scanL dirL; cases back <;> rfl
    rw [hs]
    clear hv2 hL hs
    go_enter Try.func17, Try.ntmps17
    go_wp2_with fail
    refine wp_loop_rounds 1 ?_
    rw [rounds_succ]
    go_wp2_with fail
    go_ret
    exact ⟨_, rfl, .inl ⟨rfl, rfl⟩, HR.out.b⟩
  · exact rScan_some o g c L lo hi back w hv2 hl
end Go.Proofs.Ytegljepgncicjaa
