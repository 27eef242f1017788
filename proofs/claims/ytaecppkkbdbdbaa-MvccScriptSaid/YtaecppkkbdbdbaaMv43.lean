/- Mvcc: the reference's Last, at, Get. -/
import Derived.Test.YtaecppkkbdbdbaaMv42
namespace Go.Proofs.Ytaecppkkbdbdbaa
open Go.ChangeShapes Go.WideShapes Go.ChangeAt Go.RowKit Go.Deep Go.ChangeMaps Go.Shelf Go.Sort
set_option linter.unusedVariables false
set_option linter.unusedSimpArgs false
/-- a counter that goes down to -1 -/
def iv2 (v : Value) : Nat := match v with
  | .int _ i => (i + 1).toNat
  | _ => 0
set_option maxRecDepth 100000 in
set_option maxHeartbeats 1600000 in
theorem last_ref (v : Value) (Z : List Itm) (key : Bs) (W : World) (h : RIt W v Z) (hl : Z.length ≤ 1000) (hL : (lookZ Z key).length ≤ 100000) :
    Calls Try.prog 19 #[.agg #[v], .string key] W fun e w' => e = .returned (.int .i64 (lastT (lookZ Z key))) ∧ Below W.heap.size W w' := by
  obtain ⟨a, c, rfl, _⟩ := h.1
  have hb0 := box_below W (.slice a Z.length c) 28
  have hcb := (Boxed.new W 28 (.slice a Z.length c)).cell
  have HH := Lib.hid (h.below hb0)
  have HB := Lib.hid hb0
  clear h hb0
  obtain ⟨n, hn⟩ : ∃ n, n = Z.length := ⟨_, rfl⟩
  have HN := Lib.hid (show Z.length ≤ 1000 from hl)
  rw [← hn] at HH HB hcb ⊢
  clear hn hl
  obtain ⟨L, hLe⟩ : ∃ L, L = lookZ Z key := ⟨_, rfl⟩
  have HLE := Lib.hid hLe
  rw [← hLe] at hL ⊢
  clear hLe
  go_enter Try.func19, Try.ntmps19
  go_wp2_with fail
  generalize W.alloc (.cells #[.slice a n c] 28) = W1 at *
  refine (versions_ref _ Z key W1 HH.out HN.out).mono ?_
  rintro e W2 ⟨r, rfl, hr, hb⟩
  rw [← HLE.out] at hr
  obtain ⟨ra, rc, rfl, hrc⟩ := id hr
  have HR := Lib.hid hr
  have HB2 := Lib.hid (HB.out.trans (hb.mono HB.out.size))
  clear hr hb hrc HH
  by_cases h0 : L.length = 0
  · have hL0 : L = [] := List.eq_nil_of_length_eq_zero h0
    subst hL0
    go_wp2_with fail
    go_ret
    exact ⟨rfl, HB2.out⟩
  · obtain ⟨g, o, rfl, hg, hc⟩ := RR.cellE okV HR.out (by omega)
    obtain ⟨s, hs⟩ : ∃ s, s = lastT L := ⟨_, rfl⟩
    have hL1 := lastT_at (show 0 < L.length by omega)
    have q0 : W2.cell? ⟨g, o + (L.length - 1) * 3, none⟩ = some (.int .i64 s) := by rw [hs, hL1]; exact hc (L.length - 1) (by omega) 0 _ rfl
    have HLT := Lib.hid hs
    have hw1 : IntKind.i64.wrap ((L.length : Int) - 1) = ((L.length - 1 : Nat) : Int) := by rw [IntKind.wrap_i64]; omega
    have hp0 : (0 : Int) ≤ ((L.length - 1 : Nat) : Int) := by omega
    have hp1 : ((L.length - 1 : Nat) : Int) < (L.length : Int) := by omega
    have hz : ((L.length : Int) == 0) = false := beq_eq_false_iff_ne.2 (by omega)
    have hz2 : ¬ L.length = 0 := h0
    clear hc hs hL1 HR
    generalize L.length - 1 = m at *
    generalize L.length = k at *
    clear h0
    go_wp2_with fail
    go_ret
    exact ⟨by rw [← HLT.out]; rfl, HB2.out⟩
theorem upto_eq {L : List Ver} {t : Int} (ha : Asc L) {j : Nat} (hj : j ≤ L.length) (h1 : ∀ m (hm : m < L.length), j ≤ m → t < L[m].1) (h2 : ∀ h : 0 < j, (L[j - 1]'(by omega)).1 ≤ t) : upto L t = j := by
  rcases Nat.lt_trichotomy (upto L t) j with hlt | heq | hgt
  · have h3 := upto_ge ha (i := j - 1) (t := t) (by omega) (by omega)
    have h4 := h2 (by omega)
    omega
  · exact heq
  · have hle := upto_le L t
    have h3 := upto_lt (L := L) (t := t) (i := j) hgt (by omega)
    have h4 := h1 j (by omega) (Nat.le_refl _)
    omega
def DelOk (L : List Ver) : Prop := ∀ x ∈ L, x.2.2 = true → x.2.1 = ⟨#[]⟩
set_option maxRecDepth 100000 in
set_option maxHeartbeats 1600000 in
theorem at_ref (v : Value) (L : List Ver) (t : Int) (W : World) (h : RR KV W v L) (ha : Asc L) (hd : DelOk L) (hl : L.length ≤ 100000) :
    Calls Try.prog 47 #[v, .int .i64 t] W fun e w' => e = .returned (.tuple #[.string ((valAt L t).getD ⟨#[]⟩), .bool (valAt L t).isSome]) ∧ Below W.heap.size W w' := by
  obtain ⟨a, c, rfl, _⟩ := id h
  obtain ⟨n, hn⟩ : ∃ n, n = L.length := ⟨_, rfl⟩
  have HN := Lib.hid hn
  have HH := Lib.hid h
  have HAD := Lib.hid (And.intro ha hd)
  rw [← hn] at hl ⊢
  clear h hn ha hd
  have hw0 : IntKind.i64.wrap ((n : Int) - 1) = (n : Int) - 1 := by rw [IntKind.wrap_i64]; omega
  go_enter Try.func47, Try.ntmps47
  go_wp2_with fail
  go_loopw [6] (fun i wr => ∃ j : Nat, i = .int .i64 ((j : Int) - 1) ∧ j ≤ n ∧ Hid (∀ m (hm : m < L.length), j ≤ m → t < L[m].1) ∧ wr = W) (fun i _ => (iv2 i))
  case atStart => exact ⟨n, rfl, Nat.le_refl _, Lib.hid (fun m hm h => absurd hm (by have := HN.out; omega)), rfl⟩
  case round =>
    obtain ⟨j, rfl, hj, HJ, rfl⟩ := hrel
    by_cases h0 : j = 0
    · subst h0
      have HV := Lib.hid (show valAt L t = none from valAt_zero (upto_eq HAD.out.1 (Nat.zero_le _) (fun m hm h => HJ.out m hm h) (fun h => absurd h (by omega))))
      go_wp2_with fail
      go_ret2
      exact ⟨by rw [HV.out]; rfl, Below.refl _ _⟩
    · obtain ⟨p, rfl⟩ : ∃ p, j = p + 1 := ⟨j - 1, by omega⟩
      have hpl : p < L.length := by have := HN.out; omega
      obtain ⟨g, o, rfl, hg, hc⟩ := RR.cellE okV HH.out (by omega)
      have e1 : ((p + 1 : Nat) : Int) - 1 = (p : Int) := by omega
      rw [e1]
      have q0 : wr.cell? ⟨g, o + p * 3, none⟩ = some (.int .i64 L[p].1) := hc p hpl 0 _ rfl
      have q1 : wr.cell? ⟨g, o + p * 3 + 1, none⟩ = some (.string L[p].2.1) := hc p hpl 1 _ rfl
      have q2 : wr.cell? ⟨g, o + p * 3 + 2, none⟩ = some (.bool L[p].2.2) := hc p hpl 2 _ rfl
      have hw1 : IntKind.i64.wrap ((p : Int) - 1) = (p : Int) - 1 := by rw [IntKind.wrap_i64]; omega
      have hp0 : (0 : Int) ≤ (p : Int) := by omega
      have hp1 : (p : Int) < (n : Int) := by omega
      have HX := Lib.hid (show L[p].1 ≤ t → upto L t = p + 1 from fun h => upto_eq HAD.out.1 (by omega) (fun m hm h2 => HJ.out m hm h2) (fun _ => h))
      have HD := Lib.hid (show L[p].2.2 = true → L[p].2.1 = ⟨#[]⟩ from HAD.out.2 _ (List.getElem_mem hpl))
      have HG := Lib.hid (show L[p]? = some L[p] from List.getElem?_eq_getElem hpl)
      have HJ2 := Lib.hid (show t < L[p].1 → ∀ m (hm : m < L.length), p ≤ m → t < L[m].1 from fun h m hm h2 => by
        rcases Nat.lt_or_eq_of_le h2 with h3 | h3
        · exact HJ.out m hm h3
        · subst h3; exact h)
      clear hc
      obtain ⟨x, hx⟩ : ∃ x, x = L[p] := ⟨_, rfl⟩
      rw [← hx] at q0 q1 q2 HX HD HG HJ2
      clear hx
      obtain ⟨xs, xv, xd⟩ := x
      by_cases hs : xs ≤ t
      · have hdc : decide (xs ≤ t) = true := decide_eq_true hs
        have HV : Hid (valAt L t = if xd = true then none else some xv) := Lib.hid (by
          unfold valAt
          rw [HX.out hs, Nat.add_sub_cancel, HG.out]
          simp)
        clear hs
        go_wp2_with fail
        go_quiet (fail)
        go_wp2_with fail
        go_ret2
        refine ⟨?_, ⟨rfl, rfl, rfl, Nat.le_refl _, fun _ _ => rfl⟩⟩
        rw [HV.out]
        cases xd with
        | true => rw [show xv = ⟨#[]⟩ from HD.out rfl]; rfl
        | false => rfl
      · have hdc : decide (xs ≤ t) = false := decide_eq_false hs
        have HJ3 := Lib.hid (HJ2.out (by show t < xs; omega))
        clear hs
        go_wp2_with fail
        go_roundw
        case rel => exact ⟨p, rfl, by omega, HJ3, by first | rfl | trivial⟩
        case measure => show iv2 (.int .i64 ((p : Int) - 1)) < iv2 (.int .i64 ((p : Int))); simp only [iv2]; omega
set_option maxRecDepth 100000 in
set_option maxHeartbeats 1600000 in
theorem get_ref (v : Value) (Z : List Itm) (key : Bs) (t : Int) (W : World) (h : RIt W v Z) (hl : Z.length ≤ 1000) (ha : Asc (lookZ Z key)) (hd : DelOk (lookZ Z key)) (hL : (lookZ Z key).length ≤ 100000) :
    Calls Try.prog 17 #[.agg #[v], .string key, .int .i64 t] W fun e w' => e = .returned (.tuple #[.string ((valAt (lookZ Z key) t).getD ⟨#[]⟩), .bool (valAt (lookZ Z key) t).isSome]) ∧ Below W.heap.size W w' := by
  obtain ⟨a, c, rfl, _⟩ := h.1
  have hb0 := box_below W (.slice a Z.length c) 28
  have hcb := (Boxed.new W 28 (.slice a Z.length c)).cell
  have HH := Lib.hid (h.below hb0)
  have HB := Lib.hid hb0
  clear h hb0
  obtain ⟨n, hn⟩ : ∃ n, n = Z.length := ⟨_, rfl⟩
  have HN := Lib.hid (show Z.length ≤ 1000 from hl)
  rw [← hn] at HH HB hcb ⊢
  clear hn hl
  obtain ⟨L, hLe⟩ : ∃ L, L = lookZ Z key := ⟨_, rfl⟩
  have HLE := Lib.hid hLe
  rw [← hLe] at hL ha hd ⊢
  have HL := Lib.hid (And.intro hL (And.intro ha hd))
  clear hLe ha hd hL
  obtain ⟨s1, hs1⟩ : ∃ s1, s1 = (valAt L t).getD ⟨#[]⟩ := ⟨_, rfl⟩
  obtain ⟨b1, hb1⟩ : ∃ b1, b1 = (valAt L t).isSome := ⟨_, rfl⟩
  rw [← hs1, ← hb1]
  have HSB := Lib.hid (And.intro hs1 hb1)
  clear hs1 hb1
  go_enter Try.func17, Try.ntmps17
  go_wp2_with fail
  generalize W.alloc (.cells #[.slice a n c] 28) = W1 at *
  refine (versions_ref _ Z key W1 HH.out HN.out).mono ?_
  rintro e W2 ⟨r, rfl, hr, hb⟩
  rw [← HLE.out] at hr
  have HR := Lib.hid hr
  have HB2 := Lib.hid (HB.out.trans (hb.mono HB.out.size))
  clear hr hb HH
  go_wp2_with fail
  refine (at_ref r L t W2 HR.out HL.out.2.1 HL.out.2.2 HL.out.1).mono ?_
  rintro e W3 ⟨he, hb⟩
  rw [← HSB.out.1, ← HSB.out.2] at he
  subst he
  have HB3 := Lib.hid (HB2.out.trans (hb.mono HB2.out.size))
  clear hb
  go_wp2_with fail
  go_ret2
  exact ⟨rfl, HB3.out⟩
end Go.Proofs.Ytaecppkkbdbdbaa
