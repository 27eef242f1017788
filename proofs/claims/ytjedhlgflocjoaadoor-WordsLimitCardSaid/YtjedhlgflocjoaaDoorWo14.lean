/- Words: the reference's stems and Index. -/
import Derived.Test.YtjedhlgflocjoaaDoorWo13
namespace Wd
theorem ins_len (l : List Str) (x : Str) : (ins l x).length ≤ l.length + 1 := by
  unfold ins
  split
  · omega
  · have := @List.takeWhile_append_dropWhile _ (fun y => decide (y ≤ x)) l
    have := congrArg List.length this
    simp only [List.length_append] at this ⊢
    simp; omega
theorem addAll_len : ∀ (xs l : List Str), (addAll l xs).length ≤ l.length + xs.length
  | [], l => Nat.le_refl _
  | x :: xs, l => by
    have h1 := addAll_len xs (ins l x)
    have h2 := ins_len l x
    show (addAll (ins l x) xs).length ≤ _
    simp; omega
theorem addAll_append (l a b : List Str) : addAll l (a ++ b) = addAll (addAll l a) b := by simp [addAll, List.foldl_append]
theorem stemsOf_snoc (ws : List Str) (k : Nat) (h : k < ws.length) : stemsOf (ws.take (k + 1)) = stemsOf (ws.take k) ++ (if stop ws[k] then [] else [stem ws[k]]) := by
  rw [List.take_succ_eq_append_getElem h, stemsOf_append, stemsOf_one]
end Wd
namespace Go.Proofs.YtjedhlgflocjoaaDoor
open Go.ChangeShapes Go.WideShapes Go.ChangeAt Go.RowKit Go.Sort
set_option linter.unusedVariables false
set_option linter.unusedSimpArgs false
theorem add_any (v : Value) (ls : List Wd.Str) (x : ByteArray) (w : World) (hv : StrsAt w v ls) (hl : ls.length ≤ 500000) (ha : Wd.Asc ls) :
    Calls Tryd.prog 54 #[v, .string x] w (AtOut v (Wd.ins ls x.data.toList) w) := by
  cases hx : Wd.has ls x.data.toList with
  | true => exact add_has v ls x w hv (by omega) hx
  | false =>
    rcases hv with ⟨rfl, rfl⟩ | ⟨g, cap, rfl, hc, hg, hcell⟩
    · exact add_nil x w
    · exact add_new g cap ls x w hc hg hcell hl ha hx
/-- where a slice lies that came of v since w -/
def BlkOf (w : World) (v v' : Value) : Prop := ∀ k, v'.ownBlock = some k → v.ownBlock = some k ∨ w.heap.size ≤ k
theorem StrsAt.nil (w : World) : StrsAt w (.slice none 0 0) [] := .inl ⟨rfl, rfl⟩
set_option maxHeartbeats 1000000 in
theorem stems_any (v : Value) (ls : List Wd.Str) (u : Value) (ws : List Wd.Str) (w : World) (hw : Env w) (hv : StrsAt w v ls) (hu : StrsAt w u ws) (hl : ls.length + ws.length ≤ 400000) (ha : Wd.Asc ls) (hs : ∀ x ∈ ws, x.length ≤ 1000000) :
    Calls Tryd.prog 35 #[v, u] w (AtOut v (Wd.addAll ls (Wd.stemsOf ws)) w) := by
  have HW := Lib.hid hw
  have HV := Lib.hid hv
  have HA := Lib.hid ha
  have HS := Lib.hid hs
  clear hw hv ha hs
  rcases hu with ⟨rfl, rfl⟩ | ⟨g, cap, rfl, hcp, hg, hc⟩
  · go_enter Tryd.func35, Tryd.ntmps35
    go_wp2_with fail
    go_loop [0, 5] (fun a i => a = v ∧ i = .int .i64 0) (fun _ _ => 0)
    case atStart => exact ⟨rfl, rfl⟩
    case round =>
      obtain ⟨rfl, rfl⟩ := hrel
      go_wp2_with fail
      go_ret
      exact ⟨_, rfl, HV.out, Below.refl _ _, fun k hk => .inl hk⟩
  · have HC := Lib.hid hc
    clear hc
    go_enter Tryd.func35, Tryd.ntmps35
    go_wp2_with fail
    go_loopw [0, 5] (fun a i wr => ∃ k : Nat, k ≤ ws.length ∧ i = .int .i64 k ∧ StrsAt wr a (Wd.addAll ls (Wd.stemsOf (ws.take k))) ∧ Below w.heap.size w wr ∧ BlkOf w v a) (fun _ i _ => ws.length - (intOf i).toNat)
    case atStart => exact ⟨0, Nat.zero_le _, rfl, HV.out, Below.refl _ _, fun k hk => .inl hk⟩
    case round =>
      obtain ⟨k, hk, rfl, hat, hbk, hblk⟩ := hrel
      have HBLK := Lib.hid hblk
      clear hblk
      have HAT := Lib.hid hat
      clear hat
      by_cases hlt : k < ws.length
      · have hcell : wr.cell? ⟨g, k, none⟩ = some (.string (Wd.bs ws[k])) := (hbk.cell (p := ⟨g, k, none⟩) hg).trans (HC.out k hlt)
        have HSN := Lib.hid (Wd.stemsOf_snoc ws k hlt)
        have HEN : Hid (Env wr) := Lib.hid (HW.out.keep hbk)
        have HLN : Hid ((Wd.addAll ls (Wd.stemsOf (ws.take k))).length ≤ 500000) := Lib.hid (by
          have h1 := Wd.addAll_len (Wd.stemsOf (ws.take k)) ls
          have h2 := Wd.stemsOf_len (ws.take k)
          have h3 := List.length_take_le k ws
          omega)
        have HASC : Hid (Wd.Asc (Wd.addAll ls (Wd.stemsOf (ws.take k)))) := Lib.hid (Wd.asc_addAll _ HA.out)
        have HXL : Hid (ws[k].length ≤ 1000000) := Lib.hid (HS.out _ (List.getElem_mem hlt))
        have HSM : Hid (Wd.addAll ls (Wd.stemsOf (ws.take (k + 1))) = Wd.addAll (Wd.addAll ls (Wd.stemsOf (ws.take k))) (if Wd.stop ws[k] then [] else [Wd.stem ws[k]])) := Lib.hid (by rw [HSN.out, Wd.addAll_append])
        clear HSN
        generalize Wd.addAll ls (Wd.stemsOf (ws.take k)) = A at *
        have hsz : (Wd.bs ws[k]).size ≤ 1000000 := HXL.out
        have hlist : (Wd.bs ws[k]).data.toList = ws[k] := rfl
        have HL := Lib.hid hlist
        clear hlist
        generalize ws[k] = x at *
        have HSZ := Lib.hid hsz
        clear hsz
        generalize hxs : Wd.bs x = xs at *
        have HSTOP : Hid (∀ W, Env W → Calls Tryd.prog 47 #[.string xs] W fun e w' => e = .returned (.bool (Wd.stop x)) ∧ W = w') := Lib.hid (fun W h => by have := rstop_any xs W h; rw [HL.out] at this; exact this)
        have HSTEM : Hid (∀ W, Calls Tryd.prog 15 #[.string xs] W fun e w' => e = .returned (.string (Wd.bs (Wd.stem x))) ∧ W = w') := Lib.hid (fun W => by have := rstem_any xs W HSZ.out; rw [HL.out] at this; exact this)
        have HADD : Hid (Calls Tryd.prog 54 #[u0, .string (Wd.bs (Wd.stem x))] wr (AtOut u0 (Wd.ins A (Wd.stem x)) wr)) := Lib.hid (add_any u0 A (Wd.bs (Wd.stem x)) wr HAT.out HLN.out HASC.out)
        clear hxs
        cases hst : Wd.stop x with
        | true =>
          rw [hst] at HSTOP HSM
          rw [if_pos rfl] at HSM
          clear hst
          go_wp2_with fail
          refine (HSTOP.out _ HEN.out).mono ?_
          rintro e w1 ⟨rfl, rfl⟩
          go_wp2_with fail
          go_roundw
          case rel => exact ⟨k + 1, by omega, by go_num, by rw [HSM.out]; exact HAT.out, hbk, HBLK.out⟩
          case measure => simp [intOf] <;> omega
        | false =>
          rw [hst] at HSTOP HSM
          rw [if_neg (by simp)] at HSM
          clear hst
          go_wp2_with fail
          refine (HSTOP.out _ HEN.out).mono ?_
          rintro e w1 ⟨rfl, rfl⟩
          go_wp2_with fail
          refine (HSTEM.out _).mono ?_
          rintro e w1 ⟨rfl, rfl⟩
          go_wp2_with fail
          refine HADD.out.mono ?_
          rintro e w2 ⟨v', rfl, hat2, hb2, hblk2⟩
          have HBL2 : Hid (BlkOf w v v') := Lib.hid (fun k hk => by
            rcases hblk2 k hk with h | h
            · exact HBLK.out k h
            · exact .inr (Nat.le_trans hbk.size h))
          have HAT2 := Lib.hid hat2
          have HB2 := Lib.hid hb2
          clear hat2 hb2 hblk2
          go_wp2_with fail
          go_roundw
          case rel => exact ⟨k + 1, by omega, by go_num, by rw [HSM.out]; exact HAT2.out, hbk.trans (HB2.out.mono hbk.size), HBL2.out⟩
          case measure => simp [intOf] <;> omega
      · obtain rfl : k = ws.length := by omega
        have HT : Hid (ws.take ws.length = ws) := Lib.hid (List.take_of_length_le (Nat.le_refl _))
        go_wp2_with fail
        go_ret
        exact ⟨_, rfl, by have h := HAT.out; rw [HT.out] at h; exact h, hbk, HBLK.out⟩
end Go.Proofs.YtjedhlgflocjoaaDoor
