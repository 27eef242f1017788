/- Mvcc: until: how many versions have a time of at most a number. -/
import Derived.Test.YtpcjmceakelilaaMv3
import Derived.Test.YtpcjmceakelilaaOrd
namespace Go.Proofs.Ytpcjmceakelilaa
open Go.ChangeShapes Go.WideShapes Go.ChangeAt Go.RowKit Go.Deep Go.ChangeMaps
set_option linter.unusedVariables false
set_option linter.unusedSimpArgs false
theorem wp_named {P : Program} {c : Code} {Q : Exit → Act → World → Prop} {a : Act} {w : World} (F : World → Prop) (hF : F w) (h : ∀ w', F w' → Code.wp P c Q a w') : Code.wp P c Q a w := h w hF
/-- ascending times -/
def Asc (L : List Ver) : Prop := L.Pairwise fun a b => a.1 < b.1
/-- how many versions have a time of at most t -/
def upto : List Ver → Int → Nat
  | [], _ => 0
  | a :: L, t => if a.1 ≤ t then upto L t + 1 else 0
theorem upto_le : ∀ (L : List Ver) (t : Int), upto L t ≤ L.length
  | [], _ => Nat.le_refl _
  | a :: L, t => by
    have := upto_le L t
    unfold upto
    split <;> simp <;> omega
theorem upto_lt : ∀ {L : List Ver} {t : Int} {i : Nat} (h : i < upto L t) (h2 : i < L.length), L[i].1 ≤ t
  | [], _, _, _, h2 => by simp at h2
  | a :: L, t, i, h, h2 => by
    unfold upto at h
    split at h
    · rename_i hat
      match i, h, h2 with
      | 0, _, _ => exact hat
      | i + 1, h, h2 => exact upto_lt (L := L) (by omega) (by simpa using h2)
    · omega
theorem upto_ge : ∀ {L : List Ver} {t : Int} (ha : Asc L) {i : Nat} (h1 : upto L t ≤ i) (h : i < L.length), t < L[i].1
  | [], _, _, _, _, h => by simp at h
  | a :: L, t, ha, i, h1, h => by
    have ha' := List.pairwise_cons.1 ha
    unfold upto at h1
    split at h1
    · match i, h1, h with
      | 0, h1, _ => omega
      | i + 1, h1, h => exact upto_ge (L := L) ha'.2 (by omega) (by simpa using h)
    · rename_i hat
      match i, h with
      | 0, _ => show t < a.1; omega
      | i + 1, h =>
        have hi : i < L.length := by simpa using h
        have := ha'.1 L[i] (List.getElem_mem hi)
        show t < L[i].1
        omega
set_option maxRecDepth 100000 in
set_option maxHeartbeats 1600000 in
theorem until1_any (b1 b2 g c i : Nat) (t : Int) (L : List Ver) (W : World) (hi : i < L.length) (hL : L.length ≤ 100000) (h1 : W.cell? ⟨b1, 0, none⟩ = some (.slice (some ⟨g, 0, none⟩) L.length c)) (h2 : W.cell? ⟨b2, 0, none⟩ = some (.int .i64 t)) (h3 : W.cell? ⟨g, i * 3, none⟩ = some (.int .i64 L[i].1)) :
    Calls Try.prog 63 #[.int .i64 i, .pointer (some ⟨b1, 0, none⟩), .pointer (some ⟨b2, 0, none⟩)] W fun e W' => e = .returned (.bool (decide (t < L[i].1))) ∧ ∃ q, W' = W.drewN q := by
  generalize L[i].1 = s at *
  go_enter Try.func63, Try.ntmps63
  go_wp2_with fail
  go_quiet (fail)
  go_wp2_with fail
  go_ret
  exact ⟨rfl, _, rfl⟩
set_option maxRecDepth 100000 in
set_option maxHeartbeats 3200000 in
theorem search_any (n r : Nat) (fv : Value) (p : Nat → Bool) (W : World) (hn : n ≤ 100000) (hr : r ≤ n) (hlo : ∀ i, i < r → p i = false) (hhi : ∀ i, r ≤ i → i < n → p i = true)
    (K : Nat) (cap cap2 : Array Value) (hfv : fv = .func (.func 63) #[] cap)
    (hc : ∀ i, i < n → ∀ q, Calls Try.prog 63 (#[.int .i64 i] ++ cap) (W.drewN q) fun e W' => e = .returned (.bool (p i)) ∧ ∃ q', W' = (W.drewN q).drewN q') :
    Calls Try.prog 62 #[.int .i64 n, fv] W fun e W' => e = .returned (.int .i64 r) ∧ ∃ q, W' = W.drewN q := by
  subst hfv
  have HC := Lib.hid hc
  have HP := Lib.hid (And.intro hlo hhi)
  clear hc hlo hhi
  go_enter Try.func62, Try.ntmps62
  go_wp2_with fail
  go_loopw [5, 6] (fun x y wr => ∃ i j q : Nat, i ≤ r ∧ r ≤ j ∧ j ≤ n ∧ x = .int .i64 i ∧ y = .int .i64 j ∧ wr = W.drewN q) (fun x y _ => (intOf y - intOf x).toNat)
  case atStart => exact ⟨0, n, 0, Nat.zero_le _, hr, Nat.le_refl _, rfl, rfl, rfl⟩
  case round =>
    obtain ⟨i, j, q, h1, h2, h3, rfl, rfl, rfl⟩ := hrel
    by_cases hlt : i < j
    · obtain ⟨h, hh⟩ : ∃ h, h = (i + j) / 2 := ⟨_, rfl⟩
      have hhi : i ≤ h := by omega
      have hhj : h < j := by omega
      have w1 : IntKind.i64.wrap ((i : Int) + (j : Int)) = ((i + j : Nat) : Int) := by rw [IntKind.wrap_i64]; omega
      have e : ((i : Int) + (j : Int)) / 2 = (h : Int) := by omega
      have HE := Lib.hid e
      clear e hh
      cases hp : p h with
      | true =>
        have hrh : r ≤ h := by
          rcases Nat.lt_or_ge h r with h4 | h4
          · have := HP.out.1 h h4; rw [hp] at this; cases this
          · exact h4
        have HPH := Lib.hid hp
        clear hp
        go_wp2_with fail
        rw [HE.out]
        refine (HC.out h (by omega) q).mono ?_
        rintro e w2 ⟨rfl, q', rfl⟩
        rw [HPH.out]
        go_wp2_with fail
        go_roundw
        case rel => exact ⟨i, h, q + q', h1, hrh, by omega, rfl, rfl, by simp [World.drewN_drewN]⟩
        case measure => simp [intOf]; omega
      | false =>
        have hrh : h + 1 ≤ r := by
          rcases Nat.lt_or_ge h r with h4 | h4
          · omega
          · have := HP.out.2 h h4 (by omega); rw [hp] at this; cases this
        have HPH := Lib.hid hp
        clear hp
        go_wp2_with fail
        rw [HE.out]
        refine (HC.out h (by omega) q).mono ?_
        rintro e w2 ⟨rfl, q', rfl⟩
        rw [HPH.out]
        go_wp2_with fail
        go_roundw
        case rel => exact ⟨h + 1, j, q + q', hrh, h2, h3, by go_num, rfl, by simp [World.drewN_drewN]⟩
        case measure => simp [intOf]; omega
    · have hij : i = r := by omega
      subst hij
      go_wp2_with fail
      go_ret
      exact ⟨rfl, q, rfl⟩
/-- what until returns -/
def UntilOut (n : Nat) (W : World) (e : Ending) (W' : World) : Prop := e = .returned (.int .i64 n) ∧ Below W.heap.size W W'
set_option maxRecDepth 100000 in
set_option maxHeartbeats 1600000 in
theorem until_any (v : Value) (L : List Ver) (t : Int) (W : World) (hv : VrAt W v L) (ha : Asc L) (hL : L.length ≤ 100000) :
    Calls Try.prog 46 #[v, .int .i64 t] W (UntilOut (upto L t) W) := by
  have HV := Lib.hid hv
  have HA := Lib.hid ha
  obtain ⟨va, vc, rfl⟩ : ∃ a c, v = .slice a L.length c := by
    rcases hv with ⟨rfl, rfl⟩ | ⟨g, c, rfl, _⟩
    · exact ⟨none, 0, rfl⟩
    · exact ⟨_, _, rfl⟩
  have hb1 := Box.new W [.slice va L.length vc] 90
  have hb2 := Box.new (W.alloc (.cells #[.slice va L.length vc] 90)) [.int .i64 t] 3
  rw [World.size_alloc] at hb2
  have hbb : Below W.heap.size W ((W.alloc (.cells #[.slice va L.length vc] 90)).alloc (.cells #[.int .i64 t] 3)) := ((Below.refl _ W).alloc (Nat.le_refl _) _).alloc (by simp) _
  have HB := Lib.hid (And.intro (hb1.alloc (.cells #[.int .i64 t] 3)) (And.intro hb2 hbb))
  clear hv ha hb1 hb2 hbb
  go_enter Try.func46, Try.ntmps46
  go_wp2_with fail
  refine (search_any L.length (upto L t) _ (fun i => match L[i]? with | some x => decide (t < x.1) | none => true) _ hL (upto_le L t) (fun i hi => ?_) (fun i h1 h2 => ?_) 0 _ #[] rfl (fun i hi q => ?_)).mono ?_
  · have h2 : i < L.length := Nat.lt_of_lt_of_le hi (upto_le L t)
    rw [List.getElem?_eq_getElem h2]
    exact decide_eq_false (Int.not_lt.2 (upto_lt hi h2))
  · rw [List.getElem?_eq_getElem h2]
    exact decide_eq_true (upto_ge HA.out h1 h2)
  · rw [List.getElem?_eq_getElem hi]
    rcases HV.out with ⟨_, h0⟩ | ⟨g, c, hve, _, _, hgl, hcell⟩
    · rw [h0] at hi; simp at hi
    · cases hve
      have hbx := HB.out.1.drewN q
      have hby := HB.out.2.1.drewN q
      exact until1_any _ _ g vc i t L _ hi hL (hbx.cell 0 _ rfl) (hby.cell 0 _ rfl) ((HB.out.2.2.cell (p := ⟨g, i * 3, none⟩) hgl).trans (hcell i hi).1)
  · rintro e w2 ⟨rfl, q, rfl⟩
    go_wp2_with fail
    go_ret
    exact ⟨rfl, HB.out.2.2.trans ⟨rfl, rfl, rfl, Nat.le_refl _, fun _ _ => rfl⟩⟩
end Go.Proofs.Ytpcjmceakelilaa
