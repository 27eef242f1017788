/- Mvcc: slices of calls that are made: Clone and append. -/
import Derived.Test.YtaecppkkbdbdbaaMv30
import Derived.Maps.AppendAt
import Derived.Laws.OwnMore
namespace Go.Proofs.Ytaecppkkbdbdbaa
open Go.ChangeShapes Go.WideShapes Go.ChangeAt Go.RowKit Go.ChangeMaps Go.Deep Go.Shelf Go.Sort
set_option linter.unusedVariables false
set_option linter.unusedSimpArgs false
def opr (l : List Opv) : List Value := l.flatMap opl
theorem opr_app (a b : List Opv) : opr (a ++ b) = opr a ++ opr b := by simp [opr]
theorem opr_len : ∀ l : List Opv, (opr l).length = l.length * 5
  | [] => rfl
  | x :: l => by
    have e : opr (x :: l) = opl x ++ opr l := rfl
    rw [e, List.length_append, opr_len l, List.length_cons]
    show 5 + l.length * 5 = _
    omega
theorem opr_at : ∀ (l : List Opv) (j : Nat) (h : j < l.length), (opr l)[j * 5]? = some (.int .i64 l[j].kind) ∧ (opr l)[j * 5 + 1]? = some (.string l[j].key) ∧ (opr l)[j * 5 + 2]? = some (.string l[j].value) ∧ (opr l)[j * 5 + 3]? = some (.int .i64 l[j].stamp) ∧ (opr l)[j * 5 + 4]? = some (.bool l[j].back)
  | x :: l, 0, _ => ⟨rfl, rfl, rfl, rfl, rfl⟩
  | x :: l, j + 1, h => by
    have := opr_at l j (by simpa using h)
    have e : opr (x :: l) = .int .i64 x.kind :: .string x.key :: .string x.value :: .int .i64 x.stamp :: .bool x.back :: opr l := rfl
    rw [e, show (j + 1) * 5 = j * 5 + 1 + 1 + 1 + 1 + 1 by omega]
    simpa using this
theorem opr_one (l : List Opv) : ∀ u ∈ opr l, u.oneCell' = true := fun u hu => by
  obtain ⟨x, _, hx⟩ := List.mem_flatMap.1 hu
  simp only [opl, List.mem_cons, List.not_mem_nil, or_false] at hx
  rcases hx with rfl | rfl | rfl | rfl | rfl <;> rfl
theorem infoO : (Try.prog.info? 31).map (fun i => (i.zero, i.size, i.bytes)) = some (some (.agg #[.int .i64 0, .string ⟨#[]⟩, .string ⟨#[]⟩, .int .i64 0, .bool false]), 5, 56) := by kernel_rfl
/-- a row of calls of one's own -/
def ORow (B : Nat) (W : World) (v : Value) (l : List Opv) : Prop := W.ownsRow B 31 5 v l.length (opr l)
theorem ORow.arg {B : Nat} {W : World} {v : Value} {l : List Opv} (h : ORow B W v l) : OpsArg W v l := by
  have h' : W.ownsRow B 31 5 v l.length (opr l) := h
  rcases h.2 with ⟨hv, h0⟩ | ⟨g, c, cur, rfl, h1, h2, h3, h4, _⟩
  · exact ⟨none, 0, by rw [hv, h0], fun hp => by omega⟩
  · refine ⟨_, c, rfl, fun _ => ⟨g, 0, rfl, (Array.getElem?_eq_some_iff.1 h2).1, fun j hj => ?_⟩⟩
    simp only [Nat.zero_add]
    rw [h'.cellAt (j * 5) (by omega), h'.cellAt (j * 5 + 1) (by omega), h'.cellAt (j * 5 + 2) (by omega), h'.cellAt (j * 5 + 3) (by omega), h'.cellAt (j * 5 + 4) (by omega)]
    exact opr_at l j hj
theorem opsSrc {W : World} {a : Option Addr} {c : Nat} {l : List Opv} (h : OpsArg W (.slice a l.length c) l) : (∀ ad, a = some ad → ∀ j u, (opr l)[j]? = some u → W.cell? (ad.add j) = some u) ∧ (a = none → l = []) := by
  obtain ⟨a', c', e, h⟩ := h
  cases e
  refine ⟨fun ad ha j u hj => ?_, fun ha => ?_⟩
  · have hl := (List.getElem?_eq_some_iff.1 hj).1
    rw [opr_len] at hl
    obtain ⟨g, o, e, hg, hc⟩ := h (by omega)
    rw [ha] at e
    cases e
    obtain ⟨i, k, hk, rfl⟩ : ∃ i k, k < 5 ∧ j = i * 5 + k := ⟨j / 5, j % 5, Nat.mod_lt _ (by omega), by omega⟩
    have hi : i < l.length := by omega
    obtain ⟨c0, c1, c2, c3, c4⟩ := hc i hi
    obtain ⟨a0, a1, a2, a3, a4⟩ := opr_at l i hi
    rw [addr_add', show o + (i * 5 + k) = o + i * 5 + k by omega]
    match k, hk with
    | 0, _ => rw [Nat.add_zero] at hj ⊢; rw [a0] at hj; rw [c0, hj]
    | 1, _ => rw [a1] at hj; rw [c1, hj]
    | 2, _ => rw [a2] at hj; rw [c2, hj]
    | 3, _ => rw [a3] at hj; rw [c3, hj]
    | 4, _ => rw [a4] at hj; rw [c4, hj]
  · refine List.eq_nil_of_length_eq_zero (Decidable.byContradiction fun h0 => ?_)
    obtain ⟨g, o, e, _⟩ := h (by omega)
    rw [ha] at e
    cases e
theorem run_app_none (W : World) (B c : Nat) (i : TypeInfo) (hi : Try.prog.info? 31 = some i) (v : Value) (l : List Opv) (h : ORow B W v l) :
    (Builtin.append_ #[22, 22] 22 #[v, .slice none 0 c]).run Try.prog W = .ok v W := by
  have ht := Try.underlying22
  rcases h.2 with ⟨rfl, _⟩ | ⟨g, cap, cur, rfl, _, _, hnc, _⟩
  · simp [Builtin.append_, run_underlying ht, sizeOf, typeInfo, hi, Builtin.lenOf, Builtin.firstCells]
  · simp [Builtin.append_, run_underlying ht, sizeOf, typeInfo, hi, Builtin.lenOf, Builtin.firstCells, hnc, storeCells]
theorem run_app_ops (W : World) (B : Nat) (v : Value) (l one : List Opv) (a : Option Addr) (c : Nat) (h : ORow B W v l) (hu : OpsArg W (.slice a one.length c) one) (hB : B ≤ W.heap.size) (hl : l.length ≤ 1000) (hl2 : one.length ≤ 1000) :
    ∃ v' W', (Builtin.append_ #[22, 22] 22 #[v, .slice a one.length c]).run Try.prog W = .ok v' W' ∧ ORow B W' v' (l ++ one) ∧ Below B W W' := by
  obtain ⟨i, hi, hz0, hz1, hz2⟩ := info_parts infoO
  obtain ⟨h1, h2⟩ := opsSrc hu
  cases ha : a with
  | none =>
    have hn := h2 ha
    subst hn
    refine ⟨v, W, run_app_none W B c i hi v l h, by rw [List.append_nil]; exact h, Below.refl _ _⟩
  | some ad =>
    obtain ⟨v', W', hr, h3, h4, _⟩ := run_append_own_at (P := Try.prog) W B 22 22 31 i (.agg #[.int .i64 0, .string ⟨#[]⟩, .string ⟨#[]⟩, .int .i64 0, .bool false]) 5 56 Try.underlying22 hi hz0 hz1 hz2 rfl (by decide) v l.length (opr l) h ad one.length c (opr one) (opr_len one) (h1 ad ha) (opr_one one) (by unfold maxLen; omega) (by omega) hB
    refine ⟨v', W', hr, ?_, ⟨h4.os, h4.tape, h4.output, h4.size, fun k hk => h4.block k (Nat.lt_of_lt_of_le hk hB) (fun e => by have := (World.ownsRow.lt h k e.symm).1; omega)⟩⟩
    unfold ORow
    rw [List.length_append, opr_app]
    exact h3
theorem wpList_app_ops {ops : Array Oper} {rest : List Oper} {o : Oper} {a : Act} {W : World} {Q : Exit → Act → World → Prop} (hgd : o.guard = none) (s x : Operand)
    (ho : o.op = .call { callee := .builtin .append, args := #[s, x], argTypes := #[22, 22] }) (hty : o.type = 22)
    (B : Nat) (v : Value) (l one : List Opv) (ao : Option Addr) (c : Nat) (hs : a.eval s = v) (hx : a.eval x = .slice ao one.length c) (h : ORow B W v l) (hu : OpsArg W (.slice ao one.length c) one) (hB : B ≤ W.heap.size) (hl : l.length ≤ 1000) (hl2 : one.length ≤ 1000)
    (hk : ∀ v' w', ORow B w' v' (l ++ one) → Below B W w' → wpList Try.prog ops Q rest (a.put o.dst v') w') :
    wpList Try.prog ops Q (o :: rest) a W := by
  refine wpList_plain hgd fun K hK => ?_
  obtain ⟨v', w', hr, h2, h3⟩ := run_app_ops W B v l one ao c h hu hB hl hl2
  unfold Oper.wp execOp
  simp only [ho, hty, resolve, invoke, builtin, Sem.run_bind, Sem.run_pure, Result.andThen_ok, List.map_toArray, List.map_cons, List.map_nil, hs, hx, hr]
  exact hK _ _ (hk v' w' h2 h3)
set_option maxRecDepth 100000 in
theorem cloneO_any (v : Value) (l : List Opv) (W : World) (h : OpsArg W v l) (hl : l.length ≤ 1000) :
    Calls Try.prog 35 #[v] W fun e W' => ∃ v', e = .returned v' ∧ ORow W.heap.size W' v' l ∧ Below W.heap.size W W' := by
  obtain ⟨a, c, rfl, h'⟩ := h
  have HH : Hid (OpsArg W (.slice a l.length c) l) := Lib.hid ⟨a, c, rfl, h'⟩
  clear h'
  have q22 : ∀ (w : World) (a : Option Addr) (n c n' c' : Nat), (binOp .eql 22 (.slice a n c) (.slice none n' c')).run Try.prog w = .ok (.bool a.isNone) w := fun w a n c n' c' => Lib.run_eql_slice_nil w _ _ a n c n' c' Try.underlying22
  cases ha : a with
  | none =>
    have hn : l = [] := (opsSrc HH.out).2 ha
    subst hn
    go_enter Try.func35, Try.ntmps35
    go_wp2_with fail
    go_ret
    exact ⟨_, rfl, World.ownsRow_nil _ _ _ _, Below.refl _ _⟩
  | some ad =>
    subst ha
    go_enter Try.func35, Try.ntmps35
    go_wp2_with (at_builtin; refine wpList_app_ops rfl _ _ rfl rfl W.heap.size _ [] l (some ad) c rfl rfl ?_ ?_ ?_ (by simp) hl ?_)
    · exact World.ownsRow_made W #[] 0 (Nat.le_refl _) (Nat.zero_le _) (by simp)
    · exact HH.out.below ((Below.refl _ W).alloc (Nat.le_refl _) _)
    · simp
    · intro v' w' hr hb
      have HR := Lib.hid (And.intro hr hb)
      clear hr hb
      go_wp2_with fail
      go_ret
      exact ⟨_, rfl, HR.out.1, ((Below.refl _ W).alloc (Nat.le_refl _) _).trans HR.out.2⟩
end Go.Proofs.Ytaecppkkbdbdbaa
