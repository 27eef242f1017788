/- Mvcc: the reference's Find, versions, Last, at, Get. -/
import Derived.Test.YtaecppkkbdbdbaaMv41
namespace Go.Proofs.Ytaecppkkbdbdbaa
open Go.ChangeShapes Go.WideShapes Go.ChangeAt Go.RowKit Go.Deep Go.ChangeMaps Go.Shelf Go.Sort
set_option linter.unusedVariables false
set_option linter.unusedSimpArgs false
/-- the place of a key -/
def posZ : List Itm → Bs → Nat
  | [], _ => 0
  | z :: Z, k => if lB z.key k = true then posZ Z k + 1 else 0
theorem posZ_le : ∀ (Z : List Itm) (k : Bs), posZ Z k ≤ Z.length
  | [], _ => Nat.le_refl _
  | z :: Z, k => by
    unfold posZ
    split
    · exact Nat.succ_le_succ (posZ_le Z k)
    · exact Nat.zero_le _
theorem posZ_lt : ∀ {Z : List Itm} {k : Bs} {j : Nat} (h : j < posZ Z k) (hj : j < Z.length), lB Z[j].key k = true
  | z :: Z, k, 0, h, _ => by
    unfold posZ at h
    split at h
    · assumption
    · cases h
  | z :: Z, k, j + 1, h, hj => by
    unfold posZ at h
    split at h
    · have h' : j < posZ Z k := by omega
      have hj' : j < Z.length := by simpa using hj
      exact posZ_lt h' hj'
    · cases h
theorem posZ_ge : ∀ {Z : List Itm} {k : Bs} (h : posZ Z k < Z.length), lB Z[posZ Z k].key k = false
  | z :: Z, k, h => by
    by_cases hb : lB z.key k = true
    · have e : posZ (z :: Z) k = posZ Z k + 1 := by show (if _ then _ else _) = _; rw [if_pos hb]
      have h2 : posZ Z k < Z.length := by rw [e] at h; simpa using h
      have := posZ_ge h2
      simp only [e, List.getElem_cons_succ]
      exact this
    · have e : posZ (z :: Z) k = 0 := by show (if _ then _ else _) = _; rw [if_neg hb]
      simp only [e, List.getElem_cons_zero]
      simpa using hb
theorem posZ_eq {Z : List Itm} {k : Bs} {j : Nat} (h : j ≤ Z.length) (h1 : ∀ m (hm : m < j), lB (Z[m]'(by omega)).key k = true) (h2 : ∀ (hj : j < Z.length), lB Z[j].key k = false) : posZ Z k = j := by
  rcases Nat.lt_trichotomy (posZ Z k) j with hlt | heq | hgt
  · have := h1 _ hlt
    rw [posZ_ge (by omega)] at this
    cases this
  · exact heq
  · have hj : j < Z.length := Nat.lt_of_lt_of_le hgt (posZ_le Z k)
    have := posZ_lt hgt hj
    rw [h2 hj] at this
    cases this
/-- the versions of a key -/
def lookZ (Z : List Itm) (k : Bs) : List Ver := match Z[posZ Z k]? with
  | some z => if z.key = k then z.vs else []
  | none => []
theorem eqB (a b : Bs) : (ByteArray.toList a == ByteArray.toList b) = decide (a = b) := by
  rw [Bool.eq_iff_iff, beq_iff_eq, decide_eq_true_iff]
  exact ⟨fun h => by
    rw [ByteArray.toList_eq, ByteArray.toList_eq] at h
    cases a; cases b
    simp at h
    exact congrArg _ h, fun h => by rw [h]⟩
set_option maxRecDepth 100000 in
set_option maxHeartbeats 1600000 in
theorem find_any (v : Value) (Z : List Itm) (key : Bs) (W : World) (h : RIt W v Z) (hl : Z.length ≤ 1000) :
    Calls Try.prog 56 #[.agg #[v], .string key] W fun e w' => e = .returned (.int .i64 (posZ Z key)) ∧ Below W.heap.size W w' := by
  obtain ⟨a, c, rfl, h1, h2, _⟩ := h.1
  have HH := Lib.hid (h.1.below ((Below.refl _ W).alloc (Nat.le_refl _) (.cells #[.slice a Z.length c] 28)))
  have hbox := Boxed.new W 28 (.slice a Z.length c)
  have HB := Lib.hid ((Below.refl _ W).alloc (Nat.le_refl _) (.cells #[.slice a Z.length c] 28))
  clear h h1
  obtain ⟨n, hn⟩ : ∃ n, n = Z.length := ⟨_, rfl⟩
  have HN := Lib.hid hn
  rw [← hn] at hbox HH HB hl ⊢
  clear hn
  have hcb := hbox.cell
  clear hbox
  go_enter Try.func56, Try.ntmps56
  go_wp2_with fail
  generalize W.alloc (.cells #[.slice a n c] 28) = W1 at *
  go_loopw [5] (fun i wr => ∃ j : Nat, i = .int .i64 j ∧ j ≤ n ∧ Hid (∀ m (hm : m < j) (hm2 : m < Z.length), lB Z[m].key key = true) ∧ wr = W1) (fun i _ => n - iv i)
  case atStart => exact ⟨0, rfl, Nat.zero_le _, Lib.hid (fun m hm => absurd hm (by omega)), rfl⟩
  case round =>
    obtain ⟨j, rfl, hj, HJ, rfl⟩ := hrel
    by_cases hlast : j = n
    · subst hlast
      have HP := Lib.hid (show posZ Z key = j from posZ_eq (by rw [← HN.out]; exact Nat.le_refl _) (fun m hm => HJ.out m hm (by rw [← HN.out]; exact hm)) (fun h => absurd h (by rw [← HN.out]; omega)))
      go_wp2_with fail
      go_ret
      exact ⟨by rw [HP.out]; rfl, HB.out⟩
    · have hjn : j < n := by omega
      have hjl : j < Z.length := by rw [← HN.out]; exact hjn
      obtain ⟨g, o, rfl, hg, hc⟩ := RR.cellE okI (HN.out ▸ HH.out) (by omega)
      have q0 := hc j hjl 0 (.string Z[j].key) rfl
      have q0 : wr.cell? ⟨g, o + j * 2, none⟩ = some (.string Z[j].key) := q0
      have hw1 : IntKind.i64.wrap ((j : Int) + 1) = ((j + 1 : Nat) : Int) := by rw [IntKind.wrap_i64]; omega
      have HK := Lib.hid (show ∀ b, Op.bytesLess (ByteArray.toList Z[j].key) (ByteArray.toList key) = b → lB Z[j].key key = b from fun b h => h)
      clear hc hlast
      obtain ⟨zk, hzk⟩ : ∃ zk, zk = Z[j].key := ⟨_, rfl⟩
      rw [← hzk] at q0 HK
      have HZK := Lib.hid hzk
      clear hzk
      rcases (show Op.bytesLess (ByteArray.toList zk) (ByteArray.toList key) = true ∨ Op.bytesLess (ByteArray.toList zk) (ByteArray.toList key) = false from by cases Op.bytesLess (ByteArray.toList zk) (ByteArray.toList key) <;> simp) with hb | hb
      · have HJ2 : Hid (∀ m (hm : m < j + 1) (hm2 : m < Z.length), lB Z[m].key key = true) := Lib.hid (fun m hm hm2 => by
          rcases Nat.lt_or_eq_of_le (Nat.lt_succ_iff.1 hm) with h3 | h3
          · exact HJ.out m h3 hm2
          · subst h3
            rw [← HZK.out]
            exact HK.out _ hb)
        clear HJ
        go_wp2_with fail
        go_roundw
        case rel => exact ⟨j + 1, by first | rfl | (push_cast; rfl), hjn, HJ2, by first | rfl | trivial⟩
        case measure => show n - (((j + 1 : Nat) : Int).toNat) < n - ((j : Int)).toNat; omega
      · have HP := Lib.hid (show posZ Z key = j from posZ_eq (by omega) (fun m hm => HJ.out m hm (by omega)) (fun h => by rw [← HZK.out]; exact HK.out _ hb))
        go_wp2_with fail
        go_ret
        exact ⟨by rw [HP.out]; rfl, HB.out⟩
theorem look_hit {Z : List Itm} {k : Bs} (h : posZ Z k < Z.length) (he : Z[posZ Z k].key = k) : lookZ Z k = Z[posZ Z k].vs := by
  unfold lookZ
  rw [List.getElem?_eq_getElem h]
  exact if_pos he
theorem look_miss {Z : List Itm} {k : Bs} (h : posZ Z k < Z.length) (he : Z[posZ Z k].key ≠ k) : lookZ Z k = [] := by
  unfold lookZ
  rw [List.getElem?_eq_getElem h]
  exact if_neg he
theorem look_end {Z : List Itm} {k : Bs} (h : ¬ posZ Z k < Z.length) : lookZ Z k = [] := by
  unfold lookZ
  rw [List.getElem?_eq_none (by omega)]
theorem box_below (W : World) (x : Value) (t : TypeId) : Below W.heap.size W (W.alloc (.cells #[x] t)) := (Below.refl _ W).alloc (Nat.le_refl _) _
set_option maxRecDepth 100000 in
set_option maxHeartbeats 1600000 in
theorem versions_ref (v : Value) (Z : List Itm) (key : Bs) (W : World) (h : RIt W v Z) (hl : Z.length ≤ 1000) :
    Calls Try.prog 48 #[.agg #[v], .string key] W fun e w' => ∃ r, e = .returned r ∧ RR KV w' r (lookZ Z key) ∧ Below W.heap.size W w' := by
  obtain ⟨a, c, rfl, h1, h2, _⟩ := h.1
  obtain ⟨n, hn⟩ : ∃ n, n = Z.length := ⟨_, rfl⟩
  have HN := Lib.hid hn
  rw [← hn] at h hl ⊢
  have hbox := Boxed.new W 28 (.slice a n c)
  have hb0 := box_below W (.slice a n c) 28
  have HH := Lib.hid (h.below hb0)
  have HB := Lib.hid (And.intro hb0 hbox.lt)
  have HBX := Lib.hid hbox
  have hcb := hbox.cell
  clear h h1 hn hb0 hbox
  go_enter Try.func48, Try.ntmps48
  go_wp2_with fail
  generalize W.alloc (.cells #[.slice a n c] 28) = W1 at *
  refine (find_any _ Z key W1 HH.out (by have := HN.out; omega)).mono ?_
  rintro e W2 ⟨rfl, hb⟩
  have HH2 := Lib.hid (HH.out.below hb)
  have HB2 := Lib.hid (HB.out.1.trans (hb.mono HB.out.1.size))
  have hcb := (hb.cell (p := ⟨W.heap.size, 0, none⟩) HB.out.2).trans hcb
  have hpl := posZ_le Z key
  clear hb HH
  by_cases hp : posZ Z key < Z.length
  · obtain ⟨g, o, rfl, hg, hc⟩ := RR.cellE okI (HN.out ▸ HH2.out.1) (by omega)
    have q0 : W2.cell? ⟨g, o + posZ Z key * 2, none⟩ = some (.string Z[posZ Z key].key) := hc (posZ Z key) hp 0 (.string Z[posZ Z key].key) rfl
    have q1 : W2.cell? ⟨g, o + posZ Z key * 2 + 1, none⟩ = some Z[posZ Z key].sl := hc (posZ Z key) hp 1 _ rfl
    have HL := Lib.hid (And.intro (look_hit hp) (look_miss hp))
    have HV := Lib.hid (HH2.out.2 _ (List.getElem_mem hp))
    have hpi : ((posZ Z key : Nat) : Int) < (n : Int) := by rw [HN.out]; omega
    have hp0 : (0 : Int) ≤ ((posZ Z key : Nat) : Int) := by omega
    have hpn : posZ Z key < n := by rw [HN.out]; exact hp
    clear hc hpl
    generalize Z[posZ Z key] = z at *
    generalize posZ Z key = p at *
    clear hp
    by_cases he : z.key = key
    · have hd : (ByteArray.toList z.key == ByteArray.toList key) = true := by rw [eqB]; exact decide_eq_true he
      have HR := Lib.hid (show RR KV W2 z.sl (lookZ Z key) by rw [HL.out.1 he]; exact HV.out)
      clear he
      generalize z.key = zk at *
      generalize z.sl = zs at *
      go_wp2_with fail
      go_ret
      exact ⟨_, rfl, HR.out, HB2.out⟩
    · have hd : (ByteArray.toList z.key == ByteArray.toList key) = false := by rw [eqB]; exact decide_eq_false he
      have HR := Lib.hid (show RR KV W2 (.slice none 0 0) (lookZ Z key) by rw [HL.out.2 he]; exact RR.nil _ _)
      clear he
      generalize z.key = zk at *
      go_wp2_with fail
      go_ret
      exact ⟨_, rfl, HR.out, HB2.out⟩
  · have HR := Lib.hid (show RR KV W2 (.slice none 0 0) (lookZ Z key) by rw [look_end hp]; exact RR.nil _ _)
    have hpn : ¬ posZ Z key < n := by rw [HN.out]; exact hp
    clear hp hpl
    generalize posZ Z key = p at *
    go_wp2_with fail
    go_ret
    exact ⟨_, rfl, HR.out, HB2.out⟩
end Go.Proofs.Ytaecppkkbdbdbaa
