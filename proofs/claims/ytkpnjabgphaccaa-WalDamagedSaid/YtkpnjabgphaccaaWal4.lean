/- The walks of Recover, Append, equal and the reference's Frame and Append. -/
import Derived.Test.YtkpnjabgphaccaaWal3
namespace Go.Proofs.Ytkpnjabgphaccaa
open Go.ChangeShapes Go.WideShapes Go.ChangeAt Go.RowKit
set_option linter.unusedVariables false

/-- a slice of strings reads as ls -/
def StrsAt (w : World) (v : Value) (ls : List (List UInt8)) : Prop :=
  (v = .slice none 0 0 ∧ ls = []) ∨ ∃ B o cap, v = .slice (some ⟨B, o, none⟩) ls.length cap ∧ B < w.heap.size ∧ ∀ j (h : j < ls.length), w.cell? ⟨B, o + j, none⟩ = some (.string ⟨ls[j].toArray⟩)
theorem StrsAt.below {w w' : World} {v : Value} {ls : List (List UInt8)} (h : StrsAt w v ls) (hb : Below w.heap.size w w') : StrsAt w' v ls := by
  rcases h with h | ⟨B, o, cap, h1, h2, h3⟩
  · exact .inl h
  · exact .inr ⟨B, o, cap, h1, Nat.lt_of_lt_of_le h2 hb.size, fun j hj => by rw [hb.cell (p := ⟨B, o + j, none⟩) h2]; exact h3 j hj⟩
theorem StrsAt.of_owns {w : World} {B : Nat} {v : Value} {ls : List (List UInt8)} (h : w.ownsRow B 9 1 v ls.length (strs ls)) : StrsAt w v ls := by
  obtain ⟨_, h2⟩ := h
  rcases h2 with ⟨h1, h0⟩ | ⟨g, cap, cur, e1, e2, e3, e4, e5, e6, e7⟩
  · exact .inl ⟨h1, List.eq_nil_of_length_eq_zero h0⟩
  · refine .inr ⟨g, 0, cap, e1, ?_, fun j hj => ?_⟩
    · rcases Nat.lt_or_ge g w.heap.size with h | h
      · exact h
      · rw [Array.getElem?_eq_none h] at e3; cases e3
    · have hc : cur[j]? = some (.string ⟨ls[j].toArray⟩) := by
        have : (cur.toList.take (ls.length * 1))[j]? = (strs ls)[j]? := by rw [e7]
        rw [List.getElem?_take_of_lt (by omega)] at this
        rw [← Array.getElem?_toList, this]
        simp [strs, hj]
      simp [World.cell?, e3, hc]
def ReadPost2 (L : List UInt8) (w : World) (e : Ending) (w' : World) : Prop :=
  ∃ v, e = .returned (.tuple #[v, .int .i64 ((Crc.read L).2.1 : Nat), .int .i64 (Crc.read L).2.2]) ∧ StrsAt w' v (Crc.read L).1 ∧ Below w.heap.size w w'
theorem read_call (s : ByteArray) (w : World) (hs : s.size ≤ 1000000) : Calls Try.prog 14 #[.string s] w (ReadPost2 s.data.toList w) :=
  (read_any s w hs).mono fun e w' ⟨v, h1, h2, h3⟩ => ⟨v, h1, .of_owns h2, h3⟩
theorem rread_call (s : ByteArray) (w : World) (hs : s.size ≤ 1000000) : Calls Try.prog 15 #[.string s] w (ReadPost2 s.data.toList w) :=
  (rread_any s w hs).mono fun e w' ⟨v, h1, h2, h3⟩ => ⟨v, h1, .of_owns h2, h3⟩

theorem two_res2 (v : Value) (b c : ByteArray) (h : b = c) : Ending.returned (.tuple #[v, .string b]) = .returned (.tuple #[v, .string c]) := by rw [h]
/-- equal slices are found equal -/
theorem equal_some (B1 o1 c1 B2 o2 c2 : Nat) (ls : List (List UInt8)) (w : World) (hl : ls.length ≤ 1000000) (hB1 : B1 < w.heap.size) (hB2 : B2 < w.heap.size)
    (h1 : ∀ j (h : j < ls.length), w.cell? ⟨B1, o1 + j, none⟩ = some (.string ⟨ls[j].toArray⟩)) (h2 : ∀ j (h : j < ls.length), w.cell? ⟨B2, o2 + j, none⟩ = some (.string ⟨ls[j].toArray⟩)) :
    Calls Try.prog 16 #[.slice (some ⟨B1, o1, none⟩) ls.length c1, .slice (some ⟨B2, o2, none⟩) ls.length c2] w fun e w' => e = .returned (.bool true) ∧ Below w.heap.size w w' := by
  have H1 := Lib.hid h1
  have H2 := Lib.hid h2
  clear h1 h2
  go_enter Try.func16, Try.ntmps16
  go_wp2
  go_loopw [5] (fun i wr => ∃ k : Nat, k ≤ ls.length ∧ i = .int .i64 k ∧ Below w.heap.size w wr) (fun i _ => ls.length - (intOf i).toNat)
  case atStart => exact ⟨0, Nat.zero_le _, rfl, Below.refl _ _⟩
  case round =>
    obtain ⟨k, hk, rfl, hbk⟩ := hrel
    by_cases hlt : k < ls.length
    · have c1 : wr.cell? ⟨B1, o1 + k, none⟩ = some (.string ⟨ls[k].toArray⟩) := by rw [hbk.cell (p := ⟨B1, o1 + k, none⟩) hB1]; exact H1.out k hlt
      have c2 : wr.cell? ⟨B2, o2 + k, none⟩ = some (.string ⟨ls[k].toArray⟩) := by rw [hbk.cell (p := ⟨B2, o2 + k, none⟩) hB2]; exact H2.out k hlt
      generalize ls[k] = x at c1 c2
      go_wp2
      go_region
      go_wp2
      go_roundw
      case rel => exact ⟨k + 1, by omega, by go_num, hbk.drew⟩
      case measure => simp [intOf]; omega
    · go_wp2
      go_ret
      exact ⟨rfl, hbk⟩
theorem equal_nn (w : World) : Calls Try.prog 16 #[.slice none 0 0, .slice none 0 0] w fun e w' => e = .returned (.bool true) ∧ Below w.heap.size w w' := by
  go_enter Try.func16, Try.ntmps16
  go_wp2
  go_loopw [5] (fun i wr => i = .int .i64 0 ∧ Below w.heap.size w wr) (fun _ _ => 0)
  case atStart => exact ⟨rfl, Below.refl _ _⟩
  case round =>
    obtain ⟨rfl, hbk⟩ := hrel
    go_wp2
    go_ret
    exact ⟨rfl, hbk⟩
theorem equal_ns (a : Addr) (c : Nat) (w : World) : Calls Try.prog 16 #[.slice none 0 0, .slice (some a) 0 c] w fun e w' => e = .returned (.bool true) ∧ Below w.heap.size w w' := by
  go_enter Try.func16, Try.ntmps16
  go_wp2
  go_loopw [5] (fun i wr => i = .int .i64 0 ∧ Below w.heap.size w wr) (fun _ _ => 0)
  case atStart => exact ⟨rfl, Below.refl _ _⟩
  case round =>
    obtain ⟨rfl, hbk⟩ := hrel
    go_wp2
    go_ret
    exact ⟨rfl, hbk⟩
theorem equal_sn (a : Addr) (c : Nat) (w : World) : Calls Try.prog 16 #[.slice (some a) 0 c, .slice none 0 0] w fun e w' => e = .returned (.bool true) ∧ Below w.heap.size w w' := by
  go_enter Try.func16, Try.ntmps16
  go_wp2
  go_loopw [5] (fun i wr => i = .int .i64 0 ∧ Below w.heap.size w wr) (fun _ _ => 0)
  case atStart => exact ⟨rfl, Below.refl _ _⟩
  case round =>
    obtain ⟨rfl, hbk⟩ := hrel
    go_wp2
    go_ret
    exact ⟨rfl, hbk⟩
theorem equal_any (a b : Value) (ls : List (List UInt8)) (w : World) (hl : ls.length ≤ 1000000) (ha : StrsAt w a ls) (hb : StrsAt w b ls) :
    Calls Try.prog 16 #[a, b] w fun e w' => e = .returned (.bool true) ∧ Below w.heap.size w w' := by
  rcases ha with ⟨rfl, rfl⟩ | ⟨B1, o1, c1, rfl, p1, q1⟩
  · rcases hb with ⟨rfl, _⟩ | ⟨B2, o2, c2, rfl, p2, q2⟩
    · exact equal_nn w
    · exact equal_ns _ _ w
  · rcases hb with ⟨rfl, rfl⟩ | ⟨B2, o2, c2, rfl, p2, q2⟩
    · exact equal_sn _ _ w
    · exact equal_some B1 o1 c1 B2 o2 c2 ls w hl p1 p2 q1 q2

def RecPost (L : List UInt8) (w : World) (e : Ending) (w' : World) : Prop :=
  ∃ v, e = .returned (.tuple #[v, .string ⟨(L.take (Crc.read L).2.1).toArray⟩]) ∧ StrsAt w' v (Crc.read L).1 ∧ Below w.heap.size w w'
theorem recover_any (s : ByteArray) (w : World) (hs : s.size ≤ 1000000) (hr : (Crc.read s.data.toList).2.1 ≤ s.size) :
    Calls Try.prog 17 #[.string s] w (RecPost s.data.toList w) := by
  go_enter Try.func17, Try.ntmps17
  go_wp2_with fail
  refine (read_call _ _ hs).mono ?_
  rintro e w1 ⟨v, rfl, hv, hb⟩
  have HV := Lib.hid hv
  clear hv
  generalize hk : (Crc.read s.data.toList).2.1 = k at *
  have HK := Lib.hid hk
  clear hk
  go_wp2_with fail
  go_region
  go_wp2
  go_ret2
  exact ⟨v, two_res2 _ _ _ (by rw [HK.out]; exact take_str _ _), HV.out, hb.drew⟩

/-- what Frame makes, under a name of its own -/
def framed (s : ByteArray) : ByteArray := ⟨(Crc.frame s.data.toList).toArray⟩
theorem framed_size (s : ByteArray) : (framed s).size = s.size + 8 := by show (Crc.frame s.data.toList).length = _; rw [Crc.frame_length, size_list]
theorem frame_call (s : ByteArray) (w : World) (hs : s.size ≤ 65536) :
    Calls Try.prog 10 #[.string s] w fun e w' => e = .returned (.tuple #[.string (framed s), .int .i64 0]) ∧ Below w.heap.size w w' := frame_any s w hs
theorem add_mk (a s : ByteArray) : a ++ framed s = ⟨(a.data.toList ++ Crc.frame s.data.toList).toArray⟩ := append_str a _

set_option maxRecDepth 100000 in
set_option maxHeartbeats 400000 in
theorem append_any (a s : ByteArray) (w : World) (ha : a.size ≤ 1000000) (hs : s.size ≤ 5000) :
    Calls Try.prog 12 #[.string a, .string s] w fun e w' => e = .returned (.tuple #[.string ⟨(a.data.toList ++ Crc.frame s.data.toList).toArray⟩, .int .i64 0]) ∧ Below w.heap.size w w' := by
  have hf := framed_size s
  have hn1 : decide ((16777216 : Int) < (a.size : Int) + ((s.size : Int) + 8)) = false := by simp; omega
  have hn2 : (a.size : Int) + ((s.size : Int) + 8) ≤ 16777216 := by omega
  go_enter Try.func12, Try.ntmps12
  go_wp2_with fail
  refine (frame_call _ _ (by omega)).mono ?_
  rintro e w1 ⟨rfl, hb⟩
  go_wp2_with fail
  go_ret2
  exact ⟨two_res _ _ _ _ (add_mk _ _) rfl, hb⟩
end Go.Proofs.Ytkpnjabgphaccaa
