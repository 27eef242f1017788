/- Engine: writeString, record.text: the data of a record. -/
import Derived.Test.YtpcjmceakelilaaEn4
namespace Go.Proofs.Ytpcjmceakelilaa
open Go.ChangeShapes Go.WideShapes Go.ChangeAt Go.RowKit Go.Deep Go.Shelf
set_option linter.unusedVariables false
set_option linter.unusedSimpArgs false
/-- a change: its table, key, value, whether it deletes -/
abbrev Chg := Bs × Bs × Bs × Bool
def strB (s : Bs) : List UInt8 := numB s.size ++ s.data.toList
def chB (x : Chg) : List UInt8 := strB x.1 ++ (strB x.2.1 ++ ((if x.2.2.2 then 1 else 0) :: strB x.2.2.1))
def chsB (l : List Chg) : List UInt8 := l.flatMap chB
/-- the data of a record -/
def recB (kind stamp : Nat) (l : List Chg) : List UInt8 := UInt8.ofNat kind :: (numB stamp ++ if kind = 1 ∨ kind = 3 then numB l.length ++ chsB l else [])
/-- a slice of changes that is read -/
def ChAt (W : World) (v : Value) (L : List Chg) : Prop :=
  (v = .slice none 0 0 ∧ L = []) ∨ ∃ g c, v = .slice (some ⟨g, 0, none⟩) L.length c ∧ L.length ≤ c ∧ c ≤ 9223372036854775807 ∧ g < W.heap.size ∧ ∀ j (h : j < L.length), W.cell? ⟨g, j * 4, none⟩ = some (.string L[j].1) ∧ W.cell? ⟨g, j * 4 + 1, none⟩ = some (.string L[j].2.1) ∧ W.cell? ⟨g, j * 4 + 2, none⟩ = some (.string L[j].2.2.1) ∧ W.cell? ⟨g, j * 4 + 3, none⟩ = some (.bool L[j].2.2.2)
theorem ChAt.below {W W' : World} {v : Value} {L : List Chg} {B : Nat} (h : ChAt W v L) (hb : Below B W W') (hB : ∀ k, v.ownBlock = some k → k < B) : ChAt W' v L := by
  rcases h with h | ⟨g, c, rfl, h1, h2, h3, h4⟩
  · exact .inl h
  · refine .inr ⟨g, c, rfl, h1, h2, Nat.lt_of_lt_of_le h3 hb.size, fun j hj => ?_⟩
    have hg := hB g rfl
    obtain ⟨a0, a1, a2, a3⟩ := h4 j hj
    exact ⟨(hb.cell (p := ⟨g, _, none⟩) hg).trans a0, (hb.cell (p := ⟨g, _, none⟩) hg).trans a1, (hb.cell (p := ⟨g, _, none⟩) hg).trans a2, (hb.cell (p := ⟨g, _, none⟩) hg).trans a3⟩
theorem ChAt.len {W : World} {v : Value} {L : List Chg} (h : ChAt W v L) : ∃ a c, v = .slice a L.length c := by
  rcases h with ⟨rfl, rfl⟩ | ⟨g, c, rfl, _⟩
  · exact ⟨_, _, rfl⟩
  · exact ⟨_, _, rfl⟩
theorem ChAt.lt {W : World} {v : Value} {L : List Chg} (h : ChAt W v L) : ∀ k, v.ownBlock = some k → k < W.heap.size := by
  rcases h with ⟨rfl, rfl⟩ | ⟨g, c, rfl, h1, h2, h3, h4⟩
  · intro k hk; simp [Value.ownBlock] at hk
  · intro k hk; simp only [Value.ownBlock, Option.some.injEq] at hk; omega
/-- a builder at work -/
def Bld (B b : Nat) (l : List UInt8) (w0 w : World) : Prop := Lib.IsBuilder 99 5 B b (Lib.byteCells l) w ∧ Below B w0 w ∧ B ≤ w.heap.size ∧ KeepsX w0 w
theorem byteCells_app (a b : List UInt8) : Lib.byteCells (a ++ b) = Lib.byteCells a ++ Lib.byteCells b := by simp [Lib.byteCells]
theorem byteCells_len (a : List UInt8) : (Lib.byteCells a).length = a.length := by simp [Lib.byteCells]
theorem strCells_eq (s : Bs) : Lib.strCells s = Lib.byteCells s.data.toList := rfl
theorem bld_byte (B b : Nat) (l : List UInt8) (x : UInt8) (c : Int) (hc : c = x.toNat) (w0 w : World) (h : Bld B b l w0 w) (hlen : l.length ≤ 100000000000) :
    Calls Try.prog 53 #[.pointer (some ⟨b, 0, none⟩), .int .u8 c] w fun e w' => e = .returned .nilIface ∧ Bld B b (l ++ [x]) w0 w' := by
  obtain ⟨h1, h2, h3, h4⟩ := h
  refine (writeByte_any B b _ c w h1 (by rw [byteCells_len]; omega) h3).mono ?_
  rintro e w' ⟨rfl, g1, g2, g3⟩
  refine ⟨rfl, .inr ?_, h2.trans g2, Nat.le_trans h3 g2.size, h4.trans g3⟩
  rw [byteCells_app]
  rw [hc] at g1
  exact g1
theorem bld_str (B b : Nat) (l : List UInt8) (s : Bs) (w0 w : World) (h : Bld B b l w0 w) (hlen : l.length ≤ 100000000000) (hs : s.size ≤ 1000000000) :
    Calls Try.prog 54 #[.pointer (some ⟨b, 0, none⟩), .string s] w fun e w' => e = .returned (.tuple #[.int .i64 s.size, .nilIface]) ∧ Bld B b (l ++ s.data.toList) w0 w' := by
  obtain ⟨h1, h2, h3, h4⟩ := h
  refine (writeStringB_any B b _ s w h1 (by rw [byteCells_len]; omega) h3).mono ?_
  rintro e w' ⟨rfl, g1, g2, g3⟩
  refine ⟨rfl, .inr ?_, h2.trans g2, Nat.le_trans h3 g2.size, h4.trans g3⟩
  rw [byteCells_app]
  exact g1
theorem Bld.below {B b : Nat} {l : List UInt8} {w0 w w' : World} (h : Bld B b l w0 w) (hb : Below w.heap.size w w') : Bld B b l w0 w' := by
  obtain ⟨h1, h2, h3, h4⟩ := h
  have key : ∀ p, Lib.BuilderAt 99 5 B b p (Lib.byteCells l) w → Lib.BuilderAt 99 5 B b p (Lib.byteCells l) w' := by
    rintro p ⟨hB, v, hbk, hown, hne⟩
    have hlt : b < w.heap.size := (Array.getElem?_eq_some_iff.1 hbk).1
    refine ⟨hB, v, (hb.block b hlt).trans hbk, ?_, hne⟩
    refine ⟨hown.1, ?_⟩
    rcases hown.2 with h | ⟨g, c, cur, rfl, q1, q2, q3⟩
    · exact .inl h
    · exact .inr ⟨g, c, cur, rfl, q1, (hb.block g (Array.getElem?_eq_some_iff.1 q2).1).trans q2, q3⟩
  exact ⟨h1.imp (key _) (key _), h2.trans (hb.mono h3), Nat.le_trans h3 hb.size, h4.trans (KeepsX.below hb)⟩
theorem mkS_list (l : List UInt8) : (mkS l).data.toList = l := by simp [mkS]
set_option maxRecDepth 100000 in
theorem writeString_any (B b : Nat) (l : List UInt8) (s : Bs) (w0 w : World) (h : Bld B b l w0 w) (hlen : l.length ≤ 10000000000) (hs : s.size ≤ 1000000000) :
    Calls Try.prog 57 #[.pointer (some ⟨b, 0, none⟩), .string s] w fun e w' => e = .returned (.tuple #[]) ∧ Bld B b (l ++ strB s) w0 w' := by
  have HH := Lib.hid h
  have HL := Lib.hid hlen
  have HN := Lib.hid (numB_len s.size (by omega))
  clear h hlen
  go_enter Try.func57, Try.ntmps57
  go_wp2_with (go_at_call 55; refine (num_any s.size _ (by omega)).mono ?_)
  rintro e w1 ⟨rfl, hb⟩
  have HB := Lib.hid (HH.out.below hb)
  clear hb
  go_wp2_with (go_at_call 54; refine (bld_str B b l _ w0 _ HB.out (by have := HL.out; omega) (by rw [mkS_size]; have := HN.out; omega)).mono ?_)
  rintro e w2 ⟨rfl, hb⟩
  rw [mkS_list] at hb
  have HB2 := Lib.hid hb
  clear hb
  go_wp2_with (go_at_call 54; refine (bld_str B b _ s w0 _ HB2.out (by rw [List.length_append]; have := HL.out; have := HN.out; omega) hs).mono ?_)
  rintro e w3 ⟨rfl, hb⟩
  have HB3 := Lib.hid hb
  clear hb
  go_wp2
  go_end0
  refine ⟨rfl, ?_⟩
  unfold strB
  rw [← List.append_assoc]
  exact HB3.out
end Go.Proofs.Ytpcjmceakelilaa
