/- The walk of wal.Read. -/
import Derived.Test.YtkpnjabgphaccaaWal1
import Derived.Test.YtkpnjabgphaccaaWalPlain
import Derived.Laws.AppendOwn
import Derived.Deep.QuietTactic
import Derived.BigQuiet
import Derived.WalkSpells
namespace Go.Proofs.Ytkpnjabgphaccaa
open Go.ChangeShapes Go.WideShapes Go.ChangeAt Go.RowKit
set_option linter.unusedVariables false

def strs (ls : List (List UInt8)) : List Value := ls.map fun l => .string ⟨l.toArray⟩
theorem or_i64 (lo hi i : Nat) (hlo : lo < 2 ^ i) (hhi : hi % 2 ^ i = 0) (hb : lo + hi < 9223372036854775808) : bits .or .i64 (lo : Int) (hi : Int) = ((lo + hi : Nat) : Int) := by
  show IntKind.i64.wrap ((BitVec.ofInt 64 (lo : Int) ||| BitVec.ofInt 64 (hi : Int)).toNat : Int) = _
  rw [BitVec.toNat_or, ofInt_u64 lo (by omega), ofInt_u64 hi (by omega), Nat.or_comm, nat_join i hi lo hhi hlo, IntKind.wrap_i64, Nat.add_comm]
  omega
theorem or4 (x0 x1 x2 x3 : Nat) (h0 : x0 < 256) (h1 : x1 < 256) (h2 : x2 < 256) (h3 : x3 < 256) :
    bits .or .i64 (bits .or .i64 (bits .or .i64 (x0 : Int) ((x1 : Int) * 256)) ((x2 : Int) * 65536)) ((x3 : Int) * 16777216) = ((x0 + 256 * x1 + 65536 * x2 + 16777216 * x3 : Nat) : Int) := by
  have e1 : ((x1 : Int) * 256) = ((256 * x1 : Nat) : Int) := by omega
  have e2 : ((x2 : Int) * 65536) = ((65536 * x2 : Nat) : Int) := by omega
  have e3 : ((x3 : Int) * 16777216) = ((16777216 * x3 : Nat) : Int) := by omega
  rw [e1, e2, e3, or_i64 _ _ 8 (by omega) (by omega) (by omega), or_i64 _ _ 16 (by omega) (by omega) (by omega), or_i64 _ _ 24 (by omega) (by omega) (by omega)]
/-- what Read hands back -/
def ReadPost (L : List UInt8) (w : World) (e : Ending) (w' : World) : Prop :=
  ∃ v, e = .returned (.tuple #[v, .int .i64 ((Crc.read L).2.1 : Nat), .int .i64 (Crc.read L).2.2]) ∧ w'.ownsRow w.heap.size 9 1 v (Crc.read L).1.length (strs (Crc.read L).1) ∧ Below w.heap.size w w'
theorem ReadPost.mk {L : List UInt8} {w w' : World} {v : Value} {k : Nat} {x : Int} {ls : List (List UInt8)} (h : Crc.read L = (ls, k, x)) (ho : w'.ownsRow w.heap.size 9 1 v ls.length (strs ls)) (hb : Below w.heap.size w w') :
    ReadPost L w (.returned (.tuple #[v, .int .i64 k, .int .i64 x])) w' := ⟨v, by rw [h], by rw [h]; exact ho, hb⟩
/-- Open of a string whose bytes are known -/
theorem open_at (b : ByteArray) (X : List UInt8) (hX : b.data.toList = X) (w : World) (hs : b.size ≤ 1000000000) :
    Calls Try.prog 22 #[.string b] w fun e w' => e = .returned (.tuple #[.string ⟨(Crc.openS X).toArray⟩, .int .i64 (Crc.openE X)]) ∧ Below w.heap.size w w' := by
  subst hX; exact open_any b w hs
theorem rest_get (s : ByteArray) (k j : Nat) (h : j < (s.extract k s.size).size) (h' : j < (s.data.toList.drop k).length) : (s.extract k s.size)[j] = (s.data.toList.drop k)[j] := by
  have e := Lib.extract_to_end s k
  have : (s.extract k s.size)[j] = (s.extract k s.size).data.toList[j]'(by rw [e]; exact h') := rfl
  rw [this]
  simp only [e]

theorem rest_cut (s : ByteArray) (k n : Nat) : ((s.extract k s.size).extract 4 (n + 8)).data.toList = ((s.data.toList.drop k).drop 4).take (n + 4) := by
  rw [Lib.extract_data, Lib.extract_to_end, show n + 8 - 4 = n + 4 from by omega]
theorem open_is (b : ByteArray) (X d : List UInt8) (E : Int) (hX : b.data.toList = X) (hd : Crc.openS X = d) (hE : Crc.openE X = E) (w : World) (hs : b.size ≤ 1000000000) :
    Calls Try.prog 22 #[.string b] w fun e w' => e = .returned (.tuple #[.string ⟨d.toArray⟩, .int .i64 E]) ∧ Below w.heap.size w w' := by
  subst hd; subst hE; exact open_at b X hX w hs
theorem ownsRow_below {w w' : World} {B : Nat} {E : TypeId} {v : Value} {n : Nat} {xs : List Value} (h : w.ownsRow B E 1 v n xs) (hb : Below w.heap.size w w') : w'.ownsRow B E 1 v n xs := by
  obtain ⟨h1, h2⟩ := h
  refine ⟨h1, ?_⟩
  rcases h2 with h2 | ⟨g, cap, cur, e1, e2, e3, e4⟩
  · exact .inl h2
  · refine .inr ⟨g, cap, cur, e1, e2, ?_, e4⟩
    have hg : g < w.heap.size := by
      rcases Nat.lt_or_ge g w.heap.size with h | h
      · exact h
      · rw [Array.getElem?_eq_none h] at e3; cases e3
    rw [hb.block g hg]; exact e3
theorem cut_facts (s : ByteArray) (k n : Nat) (hs : s.size ≤ 1000000) : ∃ (X d : List UInt8) (E : Int), Hid (((s.extract k s.size).extract 4 (n + 8)).data.toList = X) ∧ Hid (Crc.openS X = d) ∧ Hid (Crc.openE X = E) ∧
    Hid (((s.data.toList.drop k).drop 4).take (n + 4) = X) ∧ Hid (((s.extract k s.size).extract 4 (n + 8)).size ≤ 1000000000) :=
  ⟨_, _, _, rest_cut s k n, rfl, rfl, rfl, by show _ ≤ _; simp only [ByteArray.size_extract]; omega⟩
theorem info9 : (Try.prog.info? 9).map (fun i => (i.zero, i.size, i.bytes)) = some (some (.string ⟨#[]⟩), 1, 16) := by kernel_rfl
theorem own_ge {w : World} {B : Nat} {E : TypeId} {v : Value} {n : Nat} {xs : List Value} (h : w.ownsRow B E 1 v n xs) : ∀ k, v.ownBlock = some k → B ≤ k := by
  intro k hk
  obtain ⟨_, h2⟩ := h
  rcases h2 with ⟨rfl, _⟩ | ⟨g, cap, cur, rfl, e2, _⟩
  · simp [Value.ownBlock] at hk
  · simp only [Value.ownBlock, Option.some.injEq] at hk; omega
theorem strs_snoc (ls : List (List UInt8)) (d : List UInt8) : strs (ls ++ [d]) = strs ls ++ [.string ⟨d.toArray⟩] := by simp [strs]
theorem rest_nums (s : ByteArray) (k : Nat) (h : ¬ s.size - k < 4) : ∃ x0 x1 x2 x3 : Nat, x0 < 256 ∧ x1 < 256 ∧ x2 < 256 ∧ x3 < 256 ∧
    (∀ h, ((s.extract k s.size)[0]'h).toNat = x0) ∧ (∀ h, ((s.extract k s.size)[1]'h).toNat = x1) ∧ (∀ h, ((s.extract k s.size)[2]'h).toNat = x2) ∧ (∀ h, ((s.extract k s.size)[3]'h).toNat = x3) ∧
    Crc.len4 (s.data.toList.drop k) = x0 + 256 * x1 + 65536 * x2 + 16777216 * x3 := by
  have hd : (s.data.toList.drop k).length = s.size - k := by rw [List.length_drop, size_list]
  refine ⟨_, _, _, _, UInt8.toNat_lt _, UInt8.toNat_lt _, UInt8.toNat_lt _, UInt8.toNat_lt _, fun h' => ?_, fun h' => ?_, fun h' => ?_, fun h' => ?_, Crc.len4_eq (by rw [hd]; exact h)⟩
  · rw [rest_get s k 0 h' (by rw [hd]; omega)]
  · rw [rest_get s k 1 h' (by rw [hd]; omega)]
  · rw [rest_get s k 2 h' (by rw [hd]; omega)]
  · rw [rest_get s k 3 h' (by rw [hd]; omega)]

set_option maxHeartbeats 1000000 in
theorem read_any (s : ByteArray) (w : World) (hs : s.size ≤ 1000000) :
    Calls Try.prog 14 #[.string s] w (ReadPost s.data.toList w) := by
  obtain ⟨i9, hi9, hz0, hz1, hz2⟩ := info_parts info9
  have hsl := size_list s
  have HSL := Lib.hid hsl
  go_enter Try.func14, Try.ntmps14
  go_wp2
  clear hsl
  go_loopw [5, 6] (fun v i wr => ∃ (k : Nat) (ls : List (List UInt8)), k ≤ s.size ∧ i = .int .i64 k ∧ wr.ownsRow w.heap.size 9 1 v ls.length (strs ls) ∧ Below w.heap.size w wr ∧ Crc.Done s.data.toList ls k) (fun _ i _ => s.size - (intOf i).toNat)
  case atStart => exact ⟨0, [], Nat.zero_le _, rfl, ⟨rfl, .inl ⟨rfl, rfl⟩⟩, Below.refl _ _, Crc.Done.start _⟩
  case round =>
    obtain ⟨k, ls, hk, rfl, hown, hbk, hdone⟩ := hrel
    have HD := Lib.hid hdone
    have HDN := Lib.hid (Crc.Done.count hdone)
    clear hdone
    by_cases hlt : k < s.size
    · have hkl : k < s.data.toList.length := by rw [HSL.out]; exact hlt
      have hdl : (s.data.toList.drop k).length = s.size - k := by rw [List.length_drop, HSL.out]
      have HDL := Lib.hid hdl
      clear hdl
      by_cases h4 : s.size - k < 4
      · go_wp2
        go_ret3
        exact (ReadPost.mk (HD.out.fail hkl (Crc.recAt_short (by rw [HDL.out]; exact h4)) (by decide)) hown hbk)
      · have i0 : 0 < s.size - k := by omega
        have i1 : (1 : Int) < ((s.size - k : Nat) : Int) := by omega
        have i2 : (2 : Int) < ((s.size - k : Nat) : Int) := by omega
        have i3 : (3 : Int) < ((s.size - k : Nat) : Int) := by omega
        obtain ⟨x0, x1, x2, x3, l0, l1, l2, l3, g0, g1, g2, g3, hlen⟩ := rest_nums s k h4
        have hor := or4 x0 x1 x2 x3 l0 l1 l2 l3
        rw [← hlen] at hor
        have HLEN := Lib.hid hlen
        clear hlen
        generalize hn : Crc.len4 (s.data.toList.drop k) = n at *
        have HN := Lib.hid hn
        clear hn
        go_wp2
        go_region
        clear l0 l1 l2 l3 i0 i1 i2 i3 g0 g1 g2 g3 hor
        by_cases hform : 65536 < n
        · go_wp2_with fail
          go_ret3
          exact (ReadPost.mk (HD.out.fail hkl (Crc.recAt_form (by rw [HDL.out]; exact h4) (by rw [HN.out]; exact hform)) (by decide)) hown hbk.drew)
        · by_cases htorn : s.size - k < n + 8
          · go_wp2_with fail
            go_ret3
            exact (ReadPost.mk (HD.out.fail hkl (Crc.recAt_torn (by rw [HDL.out]; exact h4) (by rw [HN.out]; exact hform) (by rw [HN.out, HDL.out]; exact htorn)) (by decide)) hown hbk.drew)
          · have j1 : (4 : Int) ≤ 4 + (n : Int) + 4 := by omega
            have j2 : 4 + (n : Int) + 4 ≤ ((s.size - k : Nat) : Int) := by omega
            have j3 : (0 : Int) ≤ 4 + (n : Int) + 4 := by omega
            have j4 : (4 + (n : Int) + 4).toNat = n + 8 := by omega
            go_wp2_with fail
            clear j1 j2 j3 j4
            obtain ⟨X, d, E, HX, HD2, HE, HY, HXS⟩ := cut_facts s k n hs
            by_cases h0 : E = 0
            · subst h0
              have hok : Crc.recAt (s.data.toList.drop k) = (0, d) := by
                have := Crc.recAt_ok (l := s.data.toList.drop k) (by rw [HDL.out]; exact h4) (by rw [HN.out]; exact hform) (by rw [HN.out, HDL.out]; exact htorn) (by rw [HN.out, HY.out]; exact HE.out)
                rw [HN.out, HY.out, HD2.out] at this
                exact this
              have HOK := Lib.hid hok
              clear hok
              refine (open_is _ X d 0 HX.out HD2.out HE.out _ HXS.out).mono ?_
              rintro e w1 ⟨rfl, hb0⟩
              have hb1 : Below wr.heap.size wr w1 := ((Below.refl _ _).drew).trans hb0
              clear hb0
              have hz : wr.heap.size ≤ w1.heap.size := hb1.size
              have hown1 : w1.ownsRow w.heap.size 9 1 u5 ls.length (strs ls) := ownsRow_below hown hb1
              have hbw : Below w.heap.size w w1 := hbk.trans (hb1.mono hbk.size)
              have hbs : w.heap.size ≤ w1.heap.size := hbw.size
              have hll : ls.length ≤ 1000000 := by have := HDN.out; omega
              clear hz hb1 hbk hown HX HXS HE HY HDL
              go_wp2_with (at_builtin; refine wpList_append_own _ rfl _ _ 28 rfl w.heap.size 9 i9 (.string ⟨#[]⟩) 1 16 Try.underlying28 hi9 hz0 hz1 hz2 rfl (by decide) _ _ _ rfl (hown1.alloc _) ⟨w1.heap.size, 0, none⟩ 1 1 [.string ⟨d.toArray⟩] rfl rfl ?c1 ?c2 ?c3 ?c4 ?c5 ?_)
              case c1 =>
                intro j u hj
                match j with
                | 0 =>
                  simp only [List.getElem?_cons_zero, Option.some.injEq] at hj
                  subst hj
                  simp [go_sem]
                | j + 1 => simp at hj
              case c2 => intro u hu; simp only [List.mem_singleton] at hu; subst hu; rfl
              case c3 => unfold maxLen; omega
              case c4 => omega
              case c5 => simp; omega
              intro v' w2 hown2 hgrow _
              have hb2 : Below w.heap.size w w2 := (hbw.alloc hbs _).grown hgrow (by simp; omega) (own_ge hown1)
              have hown3 : w2.ownsRow w.heap.size 9 1 v' (ls ++ [d]).length (strs (ls ++ [d])) := by rw [List.length_append, strs_snoc]; exact hown2
              clear hown2 hgrow hown1 hbw
              go_wp2_with fail
              go_roundw
              case rel => exact ⟨k + n + 8, ls ++ [d], by omega, by go_num, hown3, hb2, by have := HD.out.next hkl HOK.out; rw [HN.out] at this; exact this⟩
              case measure => simp [intOf]; omega
            · have hne : (E != 0) = true := by simpa using h0
              refine (open_is _ X d E HX.out HD2.out HE.out _ HXS.out).mono ?_
              rintro e w1 ⟨rfl, hb0⟩
              have hb1 : Below wr.heap.size wr w1 := ((Below.refl _ _).drew).trans hb0
              clear hb0
              go_wp2_with fail
              go_ret3
              exact (ReadPost.mk (HD.out.fail hkl (Crc.recAt_sum (by rw [HDL.out]; exact h4) (by rw [HN.out]; exact hform) (by rw [HN.out, HDL.out]; exact htorn) (by rw [HN.out, HY.out, HE.out]; exact h0)) (by decide)) (ownsRow_below hown hb1) (hbk.trans (hb1.mono hbk.size)))
    · go_wp2
      go_ret3
      exact (ReadPost.mk (HD.out.over (by rw [HSL.out]; omega)) hown hbk)
end Go.Proofs.Ytkpnjabgphaccaa
