/- Mvcc: what awake meets. -/
import Derived.Test.YtaecppkkbdbdbaaMv26
namespace Go.Proofs.Ytaecppkkbdbdbaa
open Go.ChangeShapes Go.WideShapes Go.ChangeAt Go.RowKit Go.ChangeMaps Go.Deep Go.Shelf Go.Sort
set_option linter.unusedVariables false
set_option linter.unusedSimpArgs false
def kk : Bs := ⟨#[107]⟩
def aa : Bs := ⟨#[97]⟩
def vv : Bs := ⟨#[118]⟩
def ww : Bs := ⟨#[119]⟩
def oo : Bs := ⟨#[49]⟩
def ee : Bs := ⟨#[]⟩
def A1 : Bs → List Ver := stepA noA ⟨1, kk, vv, 5, false⟩
def A2 : Bs → List Ver := stepA A1 ⟨1, kk, ww, 5, false⟩
def A3 : Bs → List Ver := stepA A2 ⟨2, kk, ⟨#[]⟩, 6, false⟩
def A4 : Bs → List Ver := stepA A3 ⟨1, aa, oo, 1, false⟩
theorem ok1 : (if okT (noA kk) 5 then (0 : Int) else 1) = 0 := by decide +kernel
theorem ok2 : (if okT (A1 kk) 5 then (0 : Int) else 1) = 1 := by decide +kernel
theorem ok3 : (if okT (A2 kk) 6 then (0 : Int) else 1) = 0 := by decide +kernel
theorem ok4 : (if okT (A3 aa) 1 then (0 : Int) else 1) = 0 := by decide +kernel
theorem A4_k : A4 kk = [(5, vv, false), (6, ee, true)] := by decide +kernel
theorem A4_a : A4 aa = [(1, oo, false)] := by decide +kernel
theorem addA_other (A : Bs → List Ver) (k : Bs) (x : Ver) {k' : Bs} (h : k' ≠ k) : addA A k x k' = A k' := by
  unfold addA
  split
  · show (if k' = k then _ else _) = _
    rw [if_neg h]
  · rfl
theorem step1 (A : Bs → List Ver) (k v : Bs) (t : Int) (b : Bool) : stepA A ⟨1, k, v, t, b⟩ = addA A k (t, v, false) := by unfold stepA; rw [if_pos rfl]
theorem step2 (A : Bs → List Ver) (k v : Bs) (t : Int) (b : Bool) : stepA A ⟨2, k, v, t, b⟩ = addA A k (t, ⟨#[]⟩, true) := by unfold stepA; rw [if_neg (show ¬ ((2 : Int) = 1) by decide), if_pos rfl]
theorem A4_o (k : Bs) (h1 : k ≠ kk) (h2 : k ≠ aa) : A4 k = [] := by
  unfold A4
  rw [step1, addA_other _ _ _ h2]
  unfold A3
  rw [step2, addA_other _ _ _ h1]
  unfold A2
  rw [step1, addA_other _ _ _ h1]
  unfold A1
  rw [step1, addA_other _ _ _ h1]
  rfl
theorem ne_ka : kk ≠ aa := by decide +kernel
theorem lt_ak : lB aa kk = true := by
  unfold lB
  rw [ByteArray.toList_eq, ByteArray.toList_eq]
  decide +kernel
theorem ord4 {E : List En} (g : Gd E) (h : lkL E = A4) : ordE E = [aa, kk] := by
  refine ord_of g _ (by simp [lt_ak]) fun k => ?_
  rw [h]
  by_cases h1 : k = kk
  · subst h1; rw [A4_k]; simp
  · by_cases h2 : k = aa
    · subst h2; rw [A4_a]; simp
    · rw [A4_o k h1 h2]; simp [h1, h2]
theorem inR_all (k : Bs) : inR ⟨#[]⟩ ⟨#[]⟩ k = true := by
  have e : (⟨#[]⟩ : Bs).toList = [] := by rw [ByteArray.toList_eq]
  unfold inR
  rw [e]
  cases k.toList <;> rfl
theorem scanT_all (E : List En) (back : Bool) : scanT E ⟨#[]⟩ ⟨#[]⟩ back = if back = true then (ordE E).reverse else ordE E := by
  unfold scanT
  rw [List.filter_eq_self.2 (fun k _ => inR_all k)]
theorem scan4 {E : List En} (g : Gd E) (h : lkL E = A4) : scanK E 5 (scanT E ⟨#[]⟩ ⟨#[]⟩ true) = [(kk, vv), (aa, oo)] := by
  rw [scanT_all, ord4 g h]
  unfold scanK
  rw [h]
  decide +kernel
theorem prune4 {E : List En} (g : Gd E) (h : lkL E = A4) : (E.map fun e => pn e.vs 6).sum = 2 := by
  rw [sum_ord g (fun L => pn L 6), ord4 g h, h]
  decide +kernel
theorem total4 {E : List En} (g : Gd E) (h : lkL E = A4) : total E = 3 := by
  rw [show total E = _ from sum_ord g (fun L => L.length), ord4 g h, h]
  decide +kernel
theorem roll4 {E : List En} (g : Gd E) (h : lkL E = A4) : (E.map fun e => e.vs.length - upto e.vs 5).sum = 1 := by
  rw [sum_ord g (fun L => L.length - upto L 5), ord4 g h, h]
  decide +kernel
theorem total5 {E : List En} (g : Gd E) (h : lkL E = stepA A4 ⟨6, ⟨#[]⟩, ⟨#[]⟩, 6, false⟩) : total E = 1 := by
  have ho : ordE E = [aa] := by
    refine ord_of g _ (by simp) fun k => ?_
    rw [h]
    show _ ↔ pruneF 6 (A4 k) ≠ []
    by_cases h1 : k = kk
    · subst h1; rw [A4_k, show pruneF 6 [(5, vv, false), (6, ee, true)] = [] by decide +kernel]; simp [ne_ka]
    · by_cases h2 : k = aa
      · subst h2; rw [A4_a, show pruneF 6 [(1, oo, false)] = [(1, oo, false)] by decide +kernel]; simp
      · rw [A4_o k h1 h2, prune_nil]; simp [h2]
  rw [show total E = _ from sum_ord g (fun L => L.length), ho, h]
  decide +kernel
theorem vw6 {E : List En} (g : Gd E) (h : lkL E = stepA A4 ⟨5, ⟨#[]⟩, ⟨#[]⟩, 5, false⟩) : (allK E (ordE E)).length = 2 := by
  have ho : ordE E = [aa, kk] := by
    refine ord_of g _ (by simp [lt_ak]) fun k => ?_
    rw [h]
    show _ ↔ rollF 5 (A4 k) ≠ []
    by_cases h1 : k = kk
    · subst h1; rw [A4_k, show rollF 5 [(5, vv, false), (6, ee, true)] = [(5, vv, false)] by decide +kernel]; simp
    · by_cases h2 : k = aa
      · subst h2; rw [A4_a, show rollF 5 [(1, oo, false)] = [(1, oo, false)] by decide +kernel]; simp
      · rw [A4_o k h1 h2, roll_nil]; simp [h1, h2]
  rw [ho]
  unfold allK
  rw [h]
  decide +kernel
theorem val5 : valAt (A4 kk) 5 = some vv := by decide +kernel
theorem val6 : valAt (A4 kk) 6 = none := by decide +kernel
theorem last4 : lastT (A4 kk) = 6 := by decide +kernel
set_option maxRecDepth 100000 in
theorem nil_add (k : Bs) (s : Int) (vl : Bs) (dl : Bool) (W : World) :
    Calls Try.prog 44 #[.pointer none, .string k, .agg #[.int .i64 s, .string vl, .bool dl]] W fun e W' => e = .returned (.int .i64 3) ∧ Below W.heap.size W W' := by
  go_enter Try.func44, Try.ntmps44
  go_wp2_with fail
  go_ret
  exact ⟨rfl, (Below.refl _ W).alloc (Nat.le_refl _) _⟩
set_option maxRecDepth 100000 in
theorem nil_put (k vl : Bs) (s : Int) (W : World) :
    Calls Try.prog 12 #[.pointer none, .string k, .string vl, .int .i64 s] W fun e W' => e = .returned (.int .i64 3) ∧ Below W.heap.size W W' := by
  go_enter Try.func12, Try.ntmps12
  go_wp2_with fail
  refine (nil_add _ _ _ _ _).mono ?_
  rintro e W1 ⟨rfl, hb⟩
  have HB := Lib.hid hb
  clear hb
  go_wp2_with fail
  go_ret
  exact ⟨rfl, HB.out⟩
set_option maxRecDepth 100000 in
theorem nil_last (k : Bs) (W : World) :
    Calls Try.prog 18 #[.pointer none, .string k] W fun e W' => e = .returned (.int .i64 (-1)) ∧ W' = W := by
  go_enter Try.func18, Try.ntmps18
  go_wp2_with fail
  go_ret
  exact ⟨rfl, rfl⟩
end Go.Proofs.Ytaecppkkbdbdbaa
