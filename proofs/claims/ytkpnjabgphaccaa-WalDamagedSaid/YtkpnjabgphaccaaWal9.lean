/- The walk of build. -/
import Derived.Test.YtkpnjabgphaccaaWal8
namespace Go.Proofs.Ytkpnjabgphaccaa
open Go.ChangeShapes Go.WideShapes Go.ChangeAt Go.RowKit
set_option linter.unusedVariables false

def logS (ds : List (List UInt8)) (k : Nat) : ByteArray := ⟨(Crc.logOf (ds.take k)).toArray⟩
theorem logS_size (ds : List (List UInt8)) (k : Nat) : (logS ds k).size = Crc.endAt ds k := rfl
def ends (ds : List (List UInt8)) (k : Nat) : List Value := (List.range (k + 1)).map fun i => .int .i64 (Crc.endAt ds i : Nat)
theorem ends_succ (ds : List (List UInt8)) (k : Nat) : ends ds (k + 1) = ends ds k ++ [.int .i64 (Crc.endAt ds (k + 1) : Nat)] := by simp [ends, List.range_succ]
theorem append_log (ds : List (List UInt8)) (k : Nat) (d : List UInt8) (hk : k < ds.length) (hd : ds[k] = d) (w : World) (ha : (logS ds k).size ≤ 1000000) (hs : d.length ≤ 5000) :
    Calls Try.prog 12 #[.string (logS ds k), .string ⟨d.toArray⟩] w fun e w' => e = .returned (.tuple #[.string (logS ds (k + 1)), .int .i64 0]) ∧ Below w.heap.size w w' :=
  (append_any (logS ds k) ⟨d.toArray⟩ w ha hs).mono fun e w' ⟨h, hb⟩ => ⟨h.trans (two_res _ _ _ _ (by unfold logS; rw [Crc.take_snoc' ds k hk, Crc.logOf_snoc, hd]) rfl), hb⟩
theorem info3 : (Try.prog.info? 3).map (fun i => (i.zero, i.size, i.bytes)) = some (some (.int .i64 0), 1, 8) := by kernel_rfl

/-- what build hands back for few data -/
def BuildPost (ds : List (List UInt8)) (w : World) (e : Ending) (w' : World) : Prop :=
  ∃ v, e = .returned (.tuple #[.string (logS ds ds.length), v, .bool true]) ∧ w'.ownsRow w.heap.size 3 1 v (ds.length + 1) (ends ds ds.length) ∧ Below w.heap.size w w'

set_option maxRecDepth 100000 in
set_option maxHeartbeats 1000000 in
theorem build_some (B o cap : Nat) (ds : List (List UInt8)) (w : World) (hB : B < w.heap.size) (hl : ds.length ≤ 50) (ht : Crc.total ds ≤ 5000)
    (hc : ∀ j (h : j < ds.length), w.cell? ⟨B, o + j, none⟩ = some (.string ⟨ds[j].toArray⟩)) :
    Calls Try.prog 19 #[.slice (some ⟨B, o, none⟩) ds.length cap] w (BuildPost ds w) := by
  have HC := Lib.hid hc
  clear hc
  obtain ⟨i3, hi3, hz0, hz1, hz2⟩ := info_parts info3
  go_enter Try.func19, Try.ntmps19
  go_wp2
  have hown0 := Lib.hid (World.ownsRow_lit (base := w.heap.size) (e := 3) (size := 1) w #[.int .i64 0] 1 (Nat.le_refl _) (by decide) rfl)
  have hbw0 : Below w.heap.size w (w.alloc (.cells #[.int .i64 0] 3)) := (Below.refl _ _).alloc (Nat.le_refl _) _
  generalize w.alloc _ = W0 at hown0 hbw0 ⊢
  go_loopw [5, 6, 7, 18] (fun g v t i wr => ∃ k : Nat, k ≤ ds.length ∧ i = .int .i64 k ∧ t = .int .i64 (Crc.total (ds.take k)) ∧ g = .string (logS ds k) ∧ wr.ownsRow w.heap.size 3 1 v (k + 1) (ends ds k) ∧ Below w.heap.size w wr) (fun _ _ _ i _ => ds.length - (intOf i).toNat)
  case atStart => exact ⟨0, Nat.zero_le _, rfl, by simp [Crc.total], by simp [logS, Crc.logOf], hown0.out, hbw0⟩
  case round =>
    obtain ⟨k, hk, rfl, rfl, rfl, hown, hbk⟩ := hrel
    by_cases hlt : k < ds.length
    · have hcell : wr.cell? ⟨B, o + k, none⟩ = some (.string ⟨ds[k].toArray⟩) := by rw [hbk.cell (p := ⟨B, o + k, none⟩) hB]; exact HC.out k hlt
      have hnext : Crc.total (ds.take (k + 1)) = Crc.total (ds.take k) + ds[k].length := by rw [Crc.take_snoc' ds k hlt, Crc.total_snoc]
      have hle := Crc.total_take_le ds (k + 1)
      have hel : Crc.endAt ds k ≤ 100000 := by
        have h1 := Crc.logOf_length (ds.take k)
        have h2 := Crc.total_take_le ds k
        have h3 : (ds.take k).length ≤ ds.length := List.length_take_le' _ _
        unfold Crc.endAt; omega
      have hel2 : Crc.endAt ds (k + 1) ≤ 100000 := by
        have h1 := Crc.logOf_length (ds.take (k + 1))
        have h2 := Crc.total_take_le ds (k + 1)
        have h3 : (ds.take (k + 1)).length ≤ ds.length := List.length_take_le' _ _
        unfold Crc.endAt; omega
      rw [hnext] at hle
      have HN := Lib.hid hnext
      have hs1 := logS_size ds k
      have hs2 := logS_size ds (k + 1)
      have HS1 := Lib.hid hs1
      clear hnext hs1
      generalize hd : ds[k] = d at *
      have HDD := Lib.hid hd
      clear hd
      generalize htt : Crc.total (ds.take k) = t at *
      have HT := Lib.hid htt
      clear htt
      go_wp2_with fail
      refine (append_log ds k d hlt HDD.out _ (by rw [HS1.out]; omega) (by omega)).mono ?_
      rintro e w1 ⟨rfl, hb1⟩
      have hown1 : w1.ownsRow w.heap.size 3 1 u6 (k + 1) (ends ds k) := ownsRow_below hown hb1
      have hbw : Below w.heap.size w w1 := hbk.trans (hb1.mono hbk.size)
      have hbs : w.heap.size ≤ w1.heap.size := hbw.size
      clear hown hb1 hbk hcell
      go_wp2_with (at_builtin; refine wpList_append_own _ rfl _ _ 36 rfl w.heap.size 3 i3 (.int .i64 0) 1 8 Try.underlying36 hi3 hz0 hz1 hz2 rfl (by decide) _ _ _ rfl (hown1.alloc _) ⟨w1.heap.size, 0, none⟩ 1 1 [.int .i64 (Crc.endAt ds (k + 1) : Nat)] rfl rfl ?c1 ?c2 ?c3 ?c4 ?c5 ?_)
      case c1 =>
        intro j u hj
        match j with
        | 0 =>
          simp only [List.getElem?_cons_zero, Option.some.injEq] at hj
          subst hj
          simp [go_sem]
        | j + 1 => simp at hj
      case c2 => intro u hu; simp only [List.mem_singleton] at hu; subst hu; rfl
      case c3 => unfold maxLen; omega
      case c4 => omega
      case c5 => simp; omega
      intro v' w2 hown2 hgrow _
      have hb2 : Below w.heap.size w w2 := (hbw.alloc hbs _).grown hgrow (by simp; omega) (own_ge hown1)
      rw [← ends_succ] at hown2
      clear hgrow hown1 hbw hs2
      go_wp2_with fail
      go_roundw
      case rel => exact ⟨k + 1, by omega, by go_num, by rw [HN.out]; go_num, rfl, hown2, hb2⟩
      case measure => simp [intOf]; omega
    · obtain rfl : k = ds.length := by omega
      go_wp2
      go_ret3
      exact ⟨_, rfl, hown, hbk⟩
end Go.Proofs.Ytkpnjabgphaccaa
