/- The walk of the reference's Read. -/
import Derived.Test.YtkpnjabgphaccaaWal2
namespace Go.Proofs.Ytkpnjabgphaccaa
open Go.ChangeShapes Go.WideShapes Go.ChangeAt Go.RowKit
set_option linter.unusedVariables false

theorem ropen_is (b : ByteArray) (X d : List UInt8) (E : Int) (hX : b.data.toList = X) (hd : Crc.openS X = d) (hE : Crc.openE X = E) (w : World) (hs : b.size ≤ 1000000000) :
    Calls Try.prog 23 #[.string b] w fun e w' => e = .returned (.tuple #[.string ⟨d.toArray⟩, .int .i64 E]) ∧ Below w.heap.size w w' := by
  subst hd; subst hE; subst hX; exact ropen_any b w hs
theorem log_cut (s : ByteArray) (k n : Nat) : (s.extract (k + 4) (k + 8 + n)).data.toList = ((s.data.toList.drop k).drop 4).take (n + 4) := by
  rw [Lib.extract_data, List.drop_drop, show k + 8 + n - (k + 4) = n + 4 from by omega]
theorem cut_facts2 (s : ByteArray) (k n : Nat) (hs : s.size ≤ 1000000) : ∃ (X d : List UInt8) (E : Int), Hid ((s.extract (k + 4) (k + 8 + n)).data.toList = X) ∧ Hid (Crc.openS X = d) ∧ Hid (Crc.openE X = E) ∧
    Hid (((s.data.toList.drop k).drop 4).take (n + 4) = X) ∧ Hid ((s.extract (k + 4) (k + 8 + n)).size ≤ 1000000000) :=
  ⟨_, _, _, log_cut s k n, rfl, rfl, rfl, by show _ ≤ _; simp only [ByteArray.size_extract]; omega⟩
theorem log_get (s : ByteArray) (k j : Nat) (h : k + j < s.size) (h' : j < (s.data.toList.drop k).length) : s[k + j] = (s.data.toList.drop k)[j] := by
  rw [List.getElem_drop]; rfl
theorem log_nums (s : ByteArray) (k : Nat) (h : ¬ s.size - k < 4) : ∃ x0 x1 x2 x3 : Nat, x0 < 256 ∧ x1 < 256 ∧ x2 < 256 ∧ x3 < 256 ∧
    (∀ h, (s[k]'h).toNat = x0) ∧ (∀ h, (s[k + 1]'h).toNat = x1) ∧ (∀ h, (s[k + 2]'h).toNat = x2) ∧ (∀ h, (s[k + 3]'h).toNat = x3) ∧
    Crc.len4 (s.data.toList.drop k) = x0 + 256 * x1 + 65536 * x2 + 16777216 * x3 := by
  have hd : (s.data.toList.drop k).length = s.size - k := by rw [List.length_drop, size_list]
  refine ⟨_, _, _, _, UInt8.toNat_lt _, UInt8.toNat_lt _, UInt8.toNat_lt _, UInt8.toNat_lt _, fun h' => ?_, fun h' => ?_, fun h' => ?_, fun h' => ?_, Crc.len4_eq (by rw [hd]; exact h)⟩
  · rw [← log_get s k 0 h' (by rw [hd]; omega)]; rfl
  · rw [← log_get s k 1 h' (by rw [hd]; omega)]
  · rw [← log_get s k 2 h' (by rw [hd]; omega)]
  · rw [← log_get s k 3 h' (by rw [hd]; omega)]

set_option maxRecDepth 100000 in
set_option maxHeartbeats 1000000 in
theorem rread_any (s : ByteArray) (w : World) (hs : s.size ≤ 1000000) :
    Calls Try.prog 15 #[.string s] w (ReadPost s.data.toList w) := by
  obtain ⟨i9, hi9, hz0, hz1, hz2⟩ := info_parts info9
  have hsl := size_list s
  have HSL := Lib.hid hsl
  go_enter Try.func15, Try.ntmps15
  go_wp2
  clear hsl
  go_loopw [5, 6] (fun v i wr => ∃ (k : Nat) (ls : List (List UInt8)), k ≤ s.size ∧ i = .int .i64 k ∧ wr.ownsRow w.heap.size 9 1 v ls.length (strs ls) ∧ Below w.heap.size w wr ∧ Crc.Done s.data.toList ls k) (fun _ i _ => s.size - (intOf i).toNat)
  case atStart => exact ⟨0, [], Nat.zero_le _, rfl, ⟨rfl, .inl ⟨rfl, rfl⟩⟩, Below.refl _ _, Crc.Done.start _⟩
  case round =>
    obtain ⟨k, ls, hk, rfl, hown, hbk, hdone⟩ := hrel
    have HD := Lib.hid hdone
    have HDN := Lib.hid (Crc.Done.count hdone)
    clear hdone
    by_cases hlt : k < s.size
    · have hkl : k < s.data.toList.length := by rw [HSL.out]; exact hlt
      have hdl : (s.data.toList.drop k).length = s.size - k := by rw [List.length_drop, HSL.out]
      have HDL := Lib.hid hdl
      clear hdl
      by_cases h4 : s.size - k < 4
      · go_wp2
        go_ret3
        exact (ReadPost.mk (HD.out.fail hkl (Crc.recAt_short (by rw [HDL.out]; exact h4)) (by decide)) hown hbk)
      · have i0 : k < s.size := hlt
        have i1 : (k : Int) + 1 < (s.size : Int) := by omega
        have i2 : (k : Int) + 2 < (s.size : Int) := by omega
        have i3 : (k : Int) + 3 < (s.size : Int) := by omega
        have p1 : (0 : Int) ≤ (k : Int) + 1 := by omega
        have p2 : (0 : Int) ≤ (k : Int) + 2 := by omega
        have p3 : (0 : Int) ≤ (k : Int) + 3 := by omega
        obtain ⟨x0, x1, x2, x3, l0, l1, l2, l3, g0, g1, g2, g3, hlen⟩ := log_nums s k h4
        have hor : (x0 : Int) + 256 * (x1 : Int) + 65536 * (x2 : Int) + 16777216 * (x3 : Int) = ((Crc.len4 (s.data.toList.drop k) : Nat) : Int) := by rw [hlen]; omega
        have HLEN := Lib.hid hlen
        clear hlen
        generalize hn : Crc.len4 (s.data.toList.drop k) = n at *
        have HN := Lib.hid hn
        clear hn
        have q1 : ((k : Int) + 1).toNat = k + 1 := by omega
        have q2 : ((k : Int) + 2).toNat = k + 2 := by omega
        have q3 : ((k : Int) + 3).toNat = k + 3 := by omega
        go_wp2
        go_region
        clear l0 l1 l2 l3 i0 i1 i2 i3 g0 g1 g2 g3 p1 p2 p3 q1 q2 q3 hor
        by_cases hform : 65536 < n
        · go_wp2_with fail
          go_ret3
          exact (ReadPost.mk (HD.out.fail hkl (Crc.recAt_form (by rw [HDL.out]; exact h4) (by rw [HN.out]; exact hform)) (by decide)) hown hbk.drew)
        · by_cases htorn : s.size - k < n + 8
          · go_wp2_with fail
            go_ret3
            exact (ReadPost.mk (HD.out.fail hkl (Crc.recAt_torn (by rw [HDL.out]; exact h4) (by rw [HN.out]; exact hform) (by rw [HN.out, HDL.out]; exact htorn)) (by decide)) hown hbk.drew)
          · go_wp2_with fail
            obtain ⟨X, d, E, HX, HD2, HE, HY, HXS⟩ := cut_facts2 s k n hs
            by_cases h0 : E = 0
            · subst h0
              have hok : Crc.recAt (s.data.toList.drop k) = (0, d) := by
                have := Crc.recAt_ok (l := s.data.toList.drop k) (by rw [HDL.out]; exact h4) (by rw [HN.out]; exact hform) (by rw [HN.out, HDL.out]; exact htorn) (by rw [HN.out, HY.out]; exact HE.out)
                rw [HN.out, HY.out, HD2.out] at this
                exact this
              have HOK := Lib.hid hok
              clear hok
              refine (ropen_is _ X d 0 HX.out HD2.out HE.out _ HXS.out).mono ?_
              rintro e w1 ⟨rfl, hb0⟩
              have hb1 : Below wr.heap.size wr w1 := ((Below.refl _ _).drew).trans hb0
              clear hb0
              have hz : wr.heap.size ≤ w1.heap.size := hb1.size
              have hown1 : w1.ownsRow w.heap.size 9 1 u5 ls.length (strs ls) := ownsRow_below hown hb1
              have hbw : Below w.heap.size w w1 := hbk.trans (hb1.mono hbk.size)
              have hbs : w.heap.size ≤ w1.heap.size := hbw.size
              have hll : ls.length ≤ 1000000 := by have := HDN.out; omega
              clear hz hb1 hbk hown HX HXS HE HY HDL
              go_wp2_with (at_builtin; refine wpList_append_own _ rfl _ _ 28 rfl w.heap.size 9 i9 (.string ⟨#[]⟩) 1 16 Try.underlying28 hi9 hz0 hz1 hz2 rfl (by decide) _ _ _ rfl (hown1.alloc _) ⟨w1.heap.size, 0, none⟩ 1 1 [.string ⟨d.toArray⟩] rfl rfl ?c1 ?c2 ?c3 ?c4 ?c5 ?_)
              case c1 =>
                intro j u hj
                match j with
                | 0 =>
                  simp only [List.getElem?_cons_zero, Option.some.injEq] at hj
                  subst hj
                  simp [go_sem]
                | j + 1 => simp at hj
              case c2 => intro u hu; simp only [List.mem_singleton] at hu; subst hu; rfl
              case c3 => unfold maxLen; omega
              case c4 => omega
              case c5 => simp; omega
              intro v' w2 hown2 hgrow _
              have hb2 : Below w.heap.size w w2 := (hbw.alloc hbs _).grown hgrow (by simp; omega) (own_ge hown1)
              have hown3 : w2.ownsRow w.heap.size 9 1 v' (ls ++ [d]).length (strs (ls ++ [d])) := by rw [List.length_append, strs_snoc]; exact hown2
              clear hown2 hgrow hown1 hbw
              go_wp2_with fail
              go_roundw
              case rel => exact ⟨k + n + 8, ls ++ [d], by omega, by go_num, hown3, hb2, by have := HD.out.next hkl HOK.out; rw [HN.out] at this; exact this⟩
              case measure => simp [intOf]; omega
            · have hne : (E != 0) = true := by simpa using h0
              refine (ropen_is _ X d E HX.out HD2.out HE.out _ HXS.out).mono ?_
              rintro e w1 ⟨rfl, hb0⟩
              have hb1 : Below wr.heap.size wr w1 := ((Below.refl _ _).drew).trans hb0
              clear hb0
              go_wp2_with fail
              go_ret3
              exact (ReadPost.mk (HD.out.fail hkl (Crc.recAt_sum (by rw [HDL.out]; exact h4) (by rw [HN.out]; exact hform) (by rw [HN.out, HDL.out]; exact htorn) (by rw [HN.out, HY.out, HE.out]; exact h0)) (by decide)) (ownsRow_below hown hb1) (hbk.trans (hb1.mono hbk.size)))
    · go_wp2
      go_ret3
      exact (ReadPost.mk (HD.out.over (by rw [HSL.out]; omega)) hown hbk)
end Go.Proofs.Ytkpnjabgphaccaa
