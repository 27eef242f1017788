/- Merged texts: Eh8, Eh9, Eh10, Eh11. -/
import Derived.Test.YtfpgklhbghahoaaOe8
/- Election: the functions of the references that compare logs say yes to logs that hold the same. -/
namespace Go.Proofs.Ytfpgklhbghahoaa
open Go.ChangeShapes Go.WideShapes Go.ChangeAt Go.RowKit Go.ChangeMaps Go.Joins Go.Deep
set_option linter.unusedVariables false
set_option linter.unusedSimpArgs false
set_option maxRecDepth 100000
theorem tab_nil {Pd : FuncId → TypeId → Prop} : ∀ g t, ([] : List (FuncId × TypeId)).contains (g, t) = true → Pd g t := fun g t h => by simp at h
theorem tab_cons {Pd : FuncId → TypeId → Prop} {L : List (FuncId × TypeId)} {g0 t0 : Nat} (h0 : Pd g0 t0) (hL : ∀ g t, L.contains (g, t) = true → Pd g t) : ∀ g t, ((g0, t0) :: L).contains (g, t) = true → Pd g t := fun g t h => by
  rw [List.contains_cons, Bool.or_eq_true] at h
  rcases h with h | h
  · obtain ⟨rfl, rfl⟩ := Prod.mk.inj (eq_of_beq h)
    exact h0
  · exact hL g t h
theorem cmp_nil : ∀ t, ([] : List TypeId).contains t = true → CmpOK Try.prog t := fun t h => by simp at h
theorem cmp_cons {L : List TypeId} {t0 : Nat} (h0 : CmpOK Try.prog t0) (hL : ∀ t, L.contains t = true → CmpOK Try.prog t) : ∀ t, (t0 :: L).contains t = true → CmpOK Try.prog t := fun t h => by
  rw [List.contains_cons, Bool.or_eq_true] at h
  rcases h with h | h
  · obtain rfl := eq_of_beq h
    exact h0
  · exact hL t h
theorem mixed : Try.prog.follows .mixedOrders = true := by kernel_rfl
theorem cmp_3 : CmpOK Try.prog 3 := cmp_int Try.underlying3
theorem cmp_4 : CmpOK Try.prog 4 := cmp_bool Try.underlying4
theorem cmp_9 : CmpOK Try.prog 9 := cmp_string Try.underlying9
theorem cmp_point : CmpOK Try.prog 129 := by
  intro n w xs ys x y he
  have hk : Try.prog.cellsOf 129 = 2 := by kernel_rfl
  have e3 : Try.prog.cellsOf 3 = 1 := by kernel_rfl
  cases n with
  | zero => exact he.elim
  | succ n =>
    obtain ⟨h1, h2, h3⟩ := (eqC_struct Try.underlying129).1 he
    rw [hk] at h1 h2
    match xs, h1, ys, h2 with
    | [a, b], _, [c, d], _ =>
      have f0 : EqC Try.prog w w TT TT n 3 (part_ [a, b] 0 (Try.prog.cellsOf 3)) (part_ [c, d] 0 (Try.prog.cellsOf 3)) := h3 0 _ rfl
      have f1 : EqC Try.prog w w TT TT n 3 (part_ [a, b] 1 (Try.prog.cellsOf 3)) (part_ [c, d] 1 (Try.prog.cellsOf 3)) := h3 1 _ rfl
      rw [e3] at f0 f1
      have key : ∀ u v, EqC Try.prog w w TT TT n 3 [u] [v] → ∃ m, u = .int .i64 m ∧ v = .int .i64 m := fun u v h => by
        cases n with
        | zero => exact h.elim
        | succ n =>
          unfold EqC at h
          simp only [Try.underlying3] at h
          obtain ⟨m, g1, g2, _⟩ := h
          exact ⟨m, (List.cons.inj g1).1, (List.cons.inj g2).1⟩
      obtain ⟨m0, rfl, rfl⟩ := key a c f0
      obtain ⟨m1, rfl, rfl⟩ := key b d f1
      have hv : valOf Try.prog 129 [.int .i64 m0, .int .i64 m1] = .agg #[.int .i64 m0, .int .i64 m1] := by unfold valOf; simp only [Try.underlying129]; rfl
      rw [hv]
      constructor <;> simp [go_sem, Try.underlying129, Try.underlying3]
theorem fnOK_numbers : FnOK Try.prog 29 := ⟨_, Try.func29, rfl, rfl⟩
theorem numbers_at (n : Nat)  : SameOK Try.prog 29 23 n := by
  have hc : CfgOK Try.prog { tab := [], tabA := [], cmp := [3], T := 23, boxed := false, N := 26 } n := ⟨tab_nil, tab_nil, cmp_cons cmp_3 (cmp_nil)⟩
  exact same_rows (e := 3) (lts := [(0, 23, 3)]) mixed hc rfl Try.func29 rfl rfl rfl (by decide) (by kernel_rfl) (by kernel_rfl) (by kernel_rfl)
theorem numbers_ok (n : Nat) : SameOK Try.prog 29 23 n := numbers_at n
theorem fnOK_prefix : FnOK Try.prog 76 := ⟨_, Try.func76, rfl, rfl⟩
theorem prefix_at (n : Nat)  : SameOK Try.prog 76 50 n := by
  have hc : CfgOK Try.prog { tab := [], tabA := [], cmp := [9], T := 50, boxed := false, N := 26 } n := ⟨tab_nil, tab_nil, cmp_cons cmp_9 (cmp_nil)⟩
  exact same_rows (e := 9) (lts := [(0, 50, 9)]) mixed hc rfl Try.func76 rfl rfl rfl (by decide) (by kernel_rfl) (by kernel_rfl) (by kernel_rfl)
theorem prefix_ok (n : Nat) : SameOK Try.prog 76 50 n := prefix_at n
theorem fnOK_Same04 : FnOK Try.prog 65 := ⟨_, Try.func65, rfl, rfl⟩
theorem Same04_at (n : Nat)  : SameOK Try.prog 65 50 n := by
  have hc : CfgOK Try.prog { tab := [], tabA := [(76, 50)], cmp := [], T := 50, boxed := false, N := 15 } n := ⟨tab_nil, tab_cons (Pd := fun g t => FnOK Try.prog g ∧ ∀ m, SameOK Try.prog g t m) ⟨fnOK_prefix, prefix_ok⟩ (tab_nil), cmp_nil⟩
  exact same_rows (e := 9) (lts := []) mixed hc rfl Try.func65 rfl rfl rfl (by decide) (by kernel_rfl) (by kernel_rfl) (by kernel_rfl)
theorem Same04_ok (n : Nat) : SameOK Try.prog 65 50 n := Same04_at n
theorem fnOK_Same01 : FnOK Try.prog 52 := ⟨_, Try.func52, rfl, rfl⟩
theorem Same01_at (n : Nat) (hSame01 : ∀ m, m < n → SameOK Try.prog 52 48 m) : SameOK Try.prog 52 48 n := by
  have hc : CfgOK Try.prog { tab := [(52, 48)], tabA := [], cmp := [3, 9], T := 48, boxed := true, N := (Try.f52).ntmps } n := ⟨tab_cons (Pd := fun g t => FnOK Try.prog g ∧ ∀ m, m < n → SameOK Try.prog g t m) ⟨fnOK_Same01, hSame01⟩ (tab_nil), tab_nil, cmp_cons cmp_3 (cmp_cons cmp_9 (cmp_nil))⟩
  exact same_structs (lts := [(3, 45, 48), (4, 46, 104)]) mixed hc rfl Try.func52 rfl rfl rfl (by decide) Try.underlying48 (by kernel_rfl)
theorem Same01_ok (n : Nat) : SameOK Try.prog 52 48 n := by
  induction n using Nat.strongRecOn with
  | _ n ih => exact Same01_at n ih
theorem fnOK_SameList01 : FnOK Try.prog 64 := ⟨_, Try.func64, rfl, rfl⟩
set_option maxHeartbeats 1600000 in
theorem SameList01_ok (n : Nat) : SameOK Try.prog 64 45 n := by
  intro w xs ys he
  obtain ⟨u, v, rfl, rfl⟩ := eqC_one (fun fs h => by rw [Try.underlying45] at h; cases h) he
  have hv : ∀ u, valOf Try.prog 45 [u] = u := fun u => by unfold valOf; simp only [Try.underlying45]; rfl
  have hl : EqC Try.prog w w TT TT (n + 1) 48 [.int .i64 6, .int .i64 0, .string ⟨#[]⟩, u, .slice none 0 0] [.int .i64 6, .int .i64 0, .string ⟨#[]⟩, v, .slice none 0 0] := by
    cases n with
    | zero => exact he.elim
    | succ n =>
      have e1 : Try.prog.cellsOf 48 = 5 := by kernel_rfl
      have e9 : Try.prog.cellsOf 9 = 1 := by kernel_rfl
      have e3 : Try.prog.cellsOf 3 = 1 := by kernel_rfl
      have eL : Try.prog.cellsOf 45 = 1 := by kernel_rfl
      have eD : Try.prog.cellsOf 46 = 1 := by kernel_rfl
      refine (eqC_struct Try.underlying48).2 ⟨by rw [e1]; rfl, by rw [e1]; rfl, fun i f hfi => ?_⟩
      match i, hfi with
      | 0, hfi => obtain rfl := Option.some.inj hfi; show EqC Try.prog _ _ _ _ (n + 1) 3 (part_ _ 0 (Try.prog.cellsOf 3)) (part_ _ 0 (Try.prog.cellsOf 3)); rw [e3]; unfold EqC; simp only [Try.underlying3]; exact ⟨6, rfl, rfl, by decide⟩
      | 1, hfi => obtain rfl := Option.some.inj hfi; show EqC Try.prog _ _ _ _ (n + 1) 3 (part_ _ 1 (Try.prog.cellsOf 3)) (part_ _ 1 (Try.prog.cellsOf 3)); rw [e3]; unfold EqC; simp only [Try.underlying3]; exact ⟨0, rfl, rfl, by decide⟩
      | 2, hfi => obtain rfl := Option.some.inj hfi; show EqC Try.prog _ _ _ _ (n + 1) 9 (part_ _ 2 (Try.prog.cellsOf 9)) (part_ _ 2 (Try.prog.cellsOf 9)); rw [e9]; unfold EqC; simp only [Try.underlying9]; exact ⟨⟨#[]⟩, rfl, rfl, Nat.zero_le _⟩
      | 3, hfi => obtain rfl := Option.some.inj hfi; show EqC Try.prog _ _ _ _ (n + 1) 45 (part_ _ 3 (Try.prog.cellsOf 45)) (part_ _ 3 (Try.prog.cellsOf 45)); rw [eL]; exact he
      | 4, hfi => obtain rfl := Option.some.inj hfi; show EqC Try.prog _ _ _ _ (n + 1) 46 (part_ _ 4 (Try.prog.cellsOf 46)) (part_ _ 4 (Try.prog.cellsOf 46)); rw [eD]; exact eqC_slice Try.underlying46 ⟨none, 0, 0, none, 0, rfl, rfl, Nat.le_refl _, ⟨by unfold maxLen; omega, by omega, fun _ => rfl⟩, Nat.le_refl _, ⟨by unfold maxLen; omega, by omega, fun _ => rfl⟩, fun h0 => absurd h0 (Nat.lt_irrefl _)⟩
      | j + 5, hfi => simp at hfi
  rw [hv, hv]
  have hcall := Same01_ok (n + 1) w _ _ hl
  have hV : ∀ cs, valOf Try.prog 48 cs = .agg cs.toArray := fun cs => by unfold valOf; simp only [Try.underlying48]; rfl
  rw [hV, hV] at hcall
  obtain ⟨a1, l1, c1, rfl⟩ := eqC_form Try.underlying45 he
  obtain ⟨a0, l0, c0, rfl⟩ := eqC_form Try.underlying45 (EqC.symm _ _ _ _ he)
  clear hl he
  go_enter Try.func64, Try.ntmps64
  go_wp2_with fail
  refine hcall.mono ?_
  rintro e w' ⟨rfl, hb⟩
  go_wp2_with fail
  go_ret
  exact ⟨rfl, hb⟩
theorem fnOK_SameShape : FnOK Try.prog 66 := ⟨_, Try.func66, rfl, rfl⟩
theorem SameShape_at (n : Nat)  : SameOK Try.prog 66 60 n := by
  have hc : CfgOK Try.prog { tab := [], tabA := [], cmp := [3, 129], T := 60, boxed := true, N := (Try.f66).ntmps } n := ⟨tab_nil, tab_nil, cmp_cons cmp_3 (cmp_cons cmp_point (cmp_nil))⟩
  exact same_structs (lts := [(1, 58, 129)]) mixed hc rfl Try.func66 rfl rfl rfl (by decide) Try.underlying60 (by kernel_rfl)
theorem SameShape_ok (n : Nat) : SameOK Try.prog 66 60 n := SameShape_at n
theorem fnOK_SameExpr : FnOK Try.prog 67 := ⟨_, Try.func67, rfl, rfl⟩
theorem SameExpr_at (n : Nat) (hSameExpr : ∀ m, m < n → SameOK Try.prog 67 63 m) : SameOK Try.prog 67 63 n := by
  have hc : CfgOK Try.prog { tab := [(67, 63)], tabA := [(65, 50), (52, 48)], cmp := [3, 9], T := 63, boxed := true, N := (Try.f67).ntmps } n := ⟨tab_cons (Pd := fun g t => FnOK Try.prog g ∧ ∀ m, m < n → SameOK Try.prog g t m) ⟨fnOK_SameExpr, hSameExpr⟩ (tab_nil), tab_cons (Pd := fun g t => FnOK Try.prog g ∧ ∀ m, SameOK Try.prog g t m) ⟨fnOK_Same04, Same04_ok⟩ (tab_cons (Pd := fun g t => FnOK Try.prog g ∧ ∀ m, SameOK Try.prog g t m) ⟨fnOK_Same01, Same01_ok⟩ (tab_nil)), cmp_cons cmp_3 (cmp_cons cmp_9 (cmp_nil))⟩
  exact same_structs (lts := [(10, 61, 63)]) mixed hc rfl Try.func67 rfl rfl rfl (by decide) Try.underlying63 (by kernel_rfl)
theorem SameExpr_ok (n : Nat) : SameOK Try.prog 67 63 n := by
  induction n using Nat.strongRecOn with
  | _ n ih => exact SameExpr_at n ih
theorem fnOK_SamePred : FnOK Try.prog 59 := ⟨_, Try.func59, rfl, rfl⟩
theorem SamePred_at (n : Nat) (hSamePred : ∀ m, m < n → SameOK Try.prog 59 66 m) : SameOK Try.prog 59 66 n := by
  have hc : CfgOK Try.prog { tab := [(59, 66)], tabA := [(65, 50), (52, 48), (64, 45), (66, 60), (67, 63)], cmp := [3], T := 66, boxed := true, N := (Try.f59).ntmps } n := ⟨tab_cons (Pd := fun g t => FnOK Try.prog g ∧ ∀ m, m < n → SameOK Try.prog g t m) ⟨fnOK_SamePred, hSamePred⟩ (tab_nil), tab_cons (Pd := fun g t => FnOK Try.prog g ∧ ∀ m, SameOK Try.prog g t m) ⟨fnOK_Same04, Same04_ok⟩ (tab_cons (Pd := fun g t => FnOK Try.prog g ∧ ∀ m, SameOK Try.prog g t m) ⟨fnOK_Same01, Same01_ok⟩ (tab_cons (Pd := fun g t => FnOK Try.prog g ∧ ∀ m, SameOK Try.prog g t m) ⟨fnOK_SameList01, SameList01_ok⟩ (tab_cons (Pd := fun g t => FnOK Try.prog g ∧ ∀ m, SameOK Try.prog g t m) ⟨fnOK_SameShape, SameShape_ok⟩ (tab_cons (Pd := fun g t => FnOK Try.prog g ∧ ∀ m, SameOK Try.prog g t m) ⟨fnOK_SameExpr, SameExpr_ok⟩ (tab_nil))))), cmp_cons cmp_3 (cmp_nil)⟩
  exact same_structs (lts := [(24, 64, 66)]) mixed hc rfl Try.func59 rfl rfl rfl (by decide) Try.underlying66 (by kernel_rfl)
theorem SamePred_ok (n : Nat) : SameOK Try.prog 59 66 n := by
  induction n using Nat.strongRecOn with
  | _ n ih => exact SamePred_at n ih
theorem fnOK_SameOrders : FnOK Try.prog 58 := ⟨_, Try.func58, rfl, rfl⟩
theorem SameOrders_at (n : Nat)  : SameOK Try.prog 58 57 n := by
  have hc : CfgOK Try.prog { tab := [], tabA := [(65, 50)], cmp := [4], T := 57, boxed := false, N := (Try.f58).ntmps } n := ⟨tab_nil, tab_cons (Pd := fun g t => FnOK Try.prog g ∧ ∀ m, SameOK Try.prog g t m) ⟨fnOK_Same04, Same04_ok⟩ (tab_nil), cmp_cons cmp_4 (cmp_nil)⟩
  exact same_rows (e := 117) (lts := [(0, 57, 117)]) mixed hc rfl Try.func58 rfl rfl rfl (by decide) (by kernel_rfl) (by kernel_rfl) (by kernel_rfl)
theorem SameOrders_ok (n : Nat) : SameOK Try.prog 58 57 n := SameOrders_at n
theorem fnOK_SameIndex : FnOK Try.prog 54 := ⟨_, Try.func54, rfl, rfl⟩
theorem SameIndex_at (n : Nat)  : SameOK Try.prog 54 68 n := by
  have hc : CfgOK Try.prog { tab := [], tabA := [(58, 57), (59, 66)], cmp := [9, 3, 4], T := 68, boxed := true, N := (Try.f54).ntmps } n := ⟨tab_nil, tab_cons (Pd := fun g t => FnOK Try.prog g ∧ ∀ m, SameOK Try.prog g t m) ⟨fnOK_SameOrders, SameOrders_ok⟩ (tab_cons (Pd := fun g t => FnOK Try.prog g ∧ ∀ m, SameOK Try.prog g t m) ⟨fnOK_SamePred, SamePred_ok⟩ (tab_nil)), cmp_cons cmp_9 (cmp_cons cmp_3 (cmp_cons cmp_4 (cmp_nil)))⟩
  exact same_structs (lts := []) mixed hc rfl Try.func54 rfl rfl rfl (by decide) Try.underlying68 (by kernel_rfl)
theorem SameIndex_ok (n : Nat) : SameOK Try.prog 54 68 n := SameIndex_at n
theorem fnOK_SameSchema : FnOK Try.prog 57 := ⟨_, Try.func57, rfl, rfl⟩
theorem SameSchema_at (n : Nat) (hSameSchema : ∀ m, m < n → SameOK Try.prog 57 54 m) : SameOK Try.prog 57 54 n := by
  have hc : CfgOK Try.prog { tab := [(57, 54)], tabA := [(52, 48), (64, 45), (65, 50)], cmp := [3, 4, 9], T := 54, boxed := true, N := (Try.f57).ntmps } n := ⟨tab_cons (Pd := fun g t => FnOK Try.prog g ∧ ∀ m, m < n → SameOK Try.prog g t m) ⟨fnOK_SameSchema, hSameSchema⟩ (tab_nil), tab_cons (Pd := fun g t => FnOK Try.prog g ∧ ∀ m, SameOK Try.prog g t m) ⟨fnOK_Same01, Same01_ok⟩ (tab_cons (Pd := fun g t => FnOK Try.prog g ∧ ∀ m, SameOK Try.prog g t m) ⟨fnOK_SameList01, SameList01_ok⟩ (tab_cons (Pd := fun g t => FnOK Try.prog g ∧ ∀ m, SameOK Try.prog g t m) ⟨fnOK_Same04, Same04_ok⟩ (tab_nil))), cmp_cons cmp_3 (cmp_cons cmp_4 (cmp_cons cmp_9 (cmp_nil)))⟩
  exact same_structs (lts := [(17, 51, 115), (19, 52, 54)]) mixed hc rfl Try.func57 rfl rfl rfl (by decide) Try.underlying54 (by kernel_rfl)
theorem SameSchema_ok (n : Nat) : SameOK Try.prog 57 54 n := by
  induction n using Nat.strongRecOn with
  | _ n ih => exact SameSchema_at n ih
theorem fnOK_Same23 : FnOK Try.prog 53 := ⟨_, Try.func53, rfl, rfl⟩
theorem Same23_at (n : Nat)  : SameOK Try.prog 53 56 n := by
  have hc : CfgOK Try.prog { tab := [], tabA := [(57, 54), (54, 68)], cmp := [9, 3], T := 56, boxed := true, N := (Try.f53).ntmps } n := ⟨tab_nil, tab_cons (Pd := fun g t => FnOK Try.prog g ∧ ∀ m, SameOK Try.prog g t m) ⟨fnOK_SameSchema, SameSchema_ok⟩ (tab_cons (Pd := fun g t => FnOK Try.prog g ∧ ∀ m, SameOK Try.prog g t m) ⟨fnOK_SameIndex, SameIndex_ok⟩ (tab_nil)), cmp_cons cmp_9 (cmp_cons cmp_3 (cmp_nil))⟩
  exact same_structs (lts := [(1, 49, 68)]) mixed hc rfl Try.func53 rfl rfl rfl (by decide) Try.underlying56 (by kernel_rfl)
theorem Same23_ok (n : Nat) : SameOK Try.prog 53 56 n := Same23_at n
theorem fnOK_SameWrites : FnOK Try.prog 55 := ⟨_, Try.func55, rfl, rfl⟩
theorem fnOK_SameWrite : FnOK Try.prog 45 := ⟨_, Try.func45, rfl, rfl⟩
theorem SameWrite_at (n : Nat) (hSameWrites : ∀ m, m < n → SameOK Try.prog 55 69 m) : SameOK Try.prog 45 71 n := by
  have hc : CfgOK Try.prog { tab := [(55, 69)], tabA := [(52, 48), (29, 23), (53, 56), (54, 68)], cmp := [3, 9, 4], T := 71, boxed := true, N := (Try.f45).ntmps } n := ⟨tab_cons (Pd := fun g t => FnOK Try.prog g ∧ ∀ m, m < n → SameOK Try.prog g t m) ⟨fnOK_SameWrites, hSameWrites⟩ (tab_nil), tab_cons (Pd := fun g t => FnOK Try.prog g ∧ ∀ m, SameOK Try.prog g t m) ⟨fnOK_Same01, Same01_ok⟩ (tab_cons (Pd := fun g t => FnOK Try.prog g ∧ ∀ m, SameOK Try.prog g t m) ⟨fnOK_numbers, numbers_ok⟩ (tab_cons (Pd := fun g t => FnOK Try.prog g ∧ ∀ m, SameOK Try.prog g t m) ⟨fnOK_Same23, Same23_ok⟩ (tab_cons (Pd := fun g t => FnOK Try.prog g ∧ ∀ m, SameOK Try.prog g t m) ⟨fnOK_SameIndex, SameIndex_ok⟩ (tab_nil)))), cmp_cons cmp_3 (cmp_cons cmp_9 (cmp_cons cmp_4 (cmp_nil)))⟩
  exact same_structs (lts := []) mixed hc rfl Try.func45 rfl rfl rfl (by decide) Try.underlying71 (by kernel_rfl)
theorem SameWrites_at (n : Nat) (hSameWrite : ∀ m, m < n → SameOK Try.prog 45 71 m) : SameOK Try.prog 55 69 n := by
  have hc : CfgOK Try.prog { tab := [(45, 71)], tabA := [], cmp := [], T := 69, boxed := false, N := (Try.f55).ntmps } n := ⟨tab_cons (Pd := fun g t => FnOK Try.prog g ∧ ∀ m, m < n → SameOK Try.prog g t m) ⟨fnOK_SameWrite, hSameWrite⟩ (tab_nil), tab_nil, cmp_nil⟩
  exact same_rows (e := 71) (lts := [(0, 69, 71)]) mixed hc rfl Try.func55 rfl rfl rfl (by decide) (by kernel_rfl) (by kernel_rfl) (by kernel_rfl)
theorem sameWs (n : Nat) : SameOK Try.prog 45 71 n ∧ SameOK Try.prog 55 69 n := by
  induction n using Nat.strongRecOn with
  | _ n ih => exact ⟨SameWrite_at n (fun m hm => (ih m hm).2), SameWrites_at n (fun m hm => (ih m hm).1)⟩
theorem SameWrite_ok (n : Nat) : SameOK Try.prog 45 71 n := (sameWs n).1
theorem SameLog_at (n : Nat)  : SameOK Try.prog 25 22 n := by
  have hc : CfgOK Try.prog { tab := [], tabA := [(45, 71)], cmp := [3, 9], T := 22, boxed := false, N := (Try.f25).ntmps } n := ⟨tab_nil, tab_cons (Pd := fun g t => FnOK Try.prog g ∧ ∀ m, SameOK Try.prog g t m) ⟨fnOK_SameWrite, SameWrite_ok⟩ (tab_nil), cmp_cons cmp_3 (cmp_cons cmp_9 (cmp_nil))⟩
  exact same_rows (e := 73) (lts := [(0, 22, 73)]) mixed hc rfl Try.func25 rfl rfl rfl (by decide) (by kernel_rfl) (by kernel_rfl) (by kernel_rfl)
theorem SameLog_ok (n : Nat) : SameOK Try.prog 25 22 n := SameLog_at n
end Go.Proofs.Ytfpgklhbghahoaa
/- Election: walks with known temporaries: preparations; small functions. -/
namespace Go.Proofs.Ytfpgklhbghahoaa
open Go.ChangeShapes Go.WideShapes Go.ChangeAt Go.RowKit Go.ChangeMaps Go.Joins Go.Deep
set_option linter.unusedVariables false
set_option linter.unusedSimpArgs false
set_option maxRecDepth 100000
theorem info_int : (Try.prog.info? 3).map (·.size) = some 1 := by kernel_rfl
theorem sz_int : ((Try.prog.info? 3).map (·.size)).getD 0 ≠ 0 := by rw [info_int]; decide
theorem info_bool : (Try.prog.info? 4).map (·.size) = some 1 := by kernel_rfl
theorem sz_bool : ((Try.prog.info? 4).map (·.size)).getD 0 ≠ 0 := by rw [info_bool]; decide
theorem info_ents : (Try.prog.info? 22).map (·.size) = some 1 := by kernel_rfl
theorem sz_ents : ((Try.prog.info? 22).map (·.size)).getD 0 ≠ 0 := by rw [info_ents]; decide
theorem info_ints : (Try.prog.info? 23).map (·.size) = some 1 := by kernel_rfl
theorem sz_ints : ((Try.prog.info? 23).map (·.size)).getD 0 ≠ 0 := by rw [info_ints]; decide
theorem info_mem : (Try.prog.info? 25).map (·.size) = some 12 := by kernel_rfl
theorem info_msg : (Try.prog.info? 35).map (·.size) = some 9 := by kernel_rfl
theorem info_ent : (Try.prog.info? 73).map (·.size) = some 82 := by kernel_rfl
theorem einfo_ents : (Try.prog.info? 73).map (·.size) = some 82 := info_ent
theorem einfo_ints : (Try.prog.info? 3).map (·.size) = some 1 := info_int
theorem einfo_msgs : (Try.prog.info? 35).map (·.size) = some 9 := info_msg
theorem zero_mem : (Try.prog.info? 25).bind (·.zero) = some (.agg (List.toArray [.int .i64 0, .int .i64 0, .int .i64 0, .int .i64 0, .int .i64 0, .int .i64 0, .int .i64 0, .int .i64 0, .slice none 0 0, .int .i64 0, .slice none 0 0, .slice none 0 0])) := by kernel_rfl
theorem zero_msg : (Try.prog.info? 35).bind (·.zero) = some (.agg (List.toArray [.int .i64 0, .int .i64 0, .int .i64 0, .int .i64 0, .int .i64 0, .int .i64 0, .int .i64 0, .slice none 0 0, .bool false])) := by kernel_rfl
theorem fnOK_27 : FnOK Try.prog 27 := ⟨_, Try.func27, rfl, rfl⟩
theorem fnOK_36 : FnOK Try.prog 36 := ⟨_, Try.func36, rfl, rfl⟩
theorem fnOK_37 : FnOK Try.prog 37 := ⟨_, Try.func37, rfl, rfl⟩
theorem fnOK_38 : FnOK Try.prog 38 := ⟨_, Try.func38, rfl, rfl⟩
theorem fnOK_41 : FnOK Try.prog 41 := ⟨_, Try.func41, rfl, rfl⟩
theorem fnOK_19 : FnOK Try.prog 19 := ⟨_, Try.func19, rfl, rfl⟩
theorem fnOK_22 : FnOK Try.prog 22 := ⟨_, Try.func22, rfl, rfl⟩
theorem fnOK_43 : FnOK Try.prog 43 := ⟨_, Try.func43, rfl, rfl⟩
theorem fnOK_17 : FnOK Try.prog 17 := ⟨_, Try.func17, rfl, rfl⟩
theorem fnOK_14 : FnOK Try.prog 14 := ⟨_, Try.func14, rfl, rfl⟩
theorem fnOK_24 : FnOK Try.prog 24 := ⟨_, Try.func24, rfl, rfl⟩
theorem fnOK_26 : FnOK Try.prog 26 := ⟨_, Try.func26, rfl, rfl⟩
theorem fnOK_25 : FnOK Try.prog 25 := ⟨_, Try.func25, rfl, rfl⟩
theorem fnOK_16 : FnOK Try.prog 16 := ⟨_, Try.func16, rfl, rfl⟩
theorem fnOK_9 : FnOK Try.prog 9 := ⟨_, Try.func9, rfl, rfl⟩
theorem fnOK_12 : FnOK Try.prog 12 := ⟨_, Try.func12, rfl, rfl⟩
theorem fnOK_42 : FnOK Try.prog 42 := ⟨_, Try.func42, rfl, rfl⟩
theorem res_cell {fn : Func} {T : TypeId} {c C : Nat} {cs : List Value} {a : Act} {w : World} {fs : Array Field} (hr : fn.results = #[.cell c T]) (ha : a.eval (.tmp c) = .pointer (some ⟨C, 0, none⟩)) (hc : Box w C cs) (hu : Try.prog.underlying T = some (.struct fs)) (hi : (Try.prog.info? T).map (·.size) = some cs.length) : (results fn a.tmps).run Try.prog w = .ok (.agg cs.toArray) w := by
  have hl := run_loadVar_mid (P := Try.prog) w C 0 T cs (.struct fs) hc.rng hu rfl hi
  have h3 : a.tmps[c]?.getD undef = .pointer (some ⟨C, 0, none⟩) := by simpa [Act.eval] using ha
  simp [results, hr, asAddr, h3, hl]
theorem res_cell_tmp {fn : Func} {T : TypeId} {c d C : Nat} {cs : List Value} {v : Value} {a : Act} {w : World} {fs : Array Field} (hr : fn.results = #[.cell c T, .tmp d]) (ha : a.eval (.tmp c) = .pointer (some ⟨C, 0, none⟩)) (hd : a.eval (.tmp d) = v) (hc : Box w C cs) (hu : Try.prog.underlying T = some (.struct fs)) (hi : (Try.prog.info? T).map (·.size) = some cs.length) : (results fn a.tmps).run Try.prog w = .ok (.tuple #[.agg cs.toArray, v]) w := by
  have hl := run_loadVar_mid (P := Try.prog) w C 0 T cs (.struct fs) hc.rng hu rfl hi
  have h3 : a.tmps[c]?.getD undef = .pointer (some ⟨C, 0, none⟩) := by simpa [Act.eval] using ha
  have h4 : a.tmps[d]?.getD undef = v := by simpa [Act.eval] using hd
  simp [results, hr, asAddr, h3, h4, hl]
theorem res_tmp {fn : Func} {d : Nat} {v : Value} {a : Act} {w : World} (hr : fn.results = #[.tmp d]) (hd : a.eval (.tmp d) = v) : (results fn a.tmps).run Try.prog w = .ok v w := by
  rw [results_tmp hr, show a.tmps.getD d undef = v from hd]
end Go.Proofs.Ytfpgklhbghahoaa
/- Election: the last term of a log; copies of members by letters; what follow gives. -/
namespace Go.Proofs.Ytfpgklhbghahoaa
open Go.ChangeShapes Go.WideShapes Go.ChangeAt Go.RowKit Go.ChangeMaps Go.Joins Go.Deep
set_option linter.unusedVariables false
set_option linter.unusedSimpArgs false
set_option maxRecDepth 100000
/-- the term of the last entry of a log, or 0 -/
def LastAt (W : World) (lg : Value) (t : Int) : Prop := ∃ ga gl gc, lg = .slice ga gl gc ∧ ((gl = 0 ∧ t = 0) ∨ ∃ B o k, ga = some ⟨B, o, none⟩ ∧ gl = k + 1 ∧ gl ≤ 9223372036854775807 ∧ B < W.heap.size ∧ W.cell? ⟨B, o + k * 82, none⟩ = some (.int .i64 t))
theorem LastAt.below {W W' : World} {lg : Value} {t : Int} (h : LastAt W lg t) (hb : Below W.heap.size W W') : LastAt W' lg t := by
  obtain ⟨ga, gl, gc, e, h⟩ := h
  refine ⟨ga, gl, gc, e, ?_⟩
  rcases h with h | ⟨B, o, k, h1, h2, h3, h4, h5⟩
  · exact .inl h
  · exact .inr ⟨B, o, k, h1, h2, h3, Nat.lt_of_lt_of_le h4 hb.size, (hb.cell (p := ⟨B, o + k * 82, none⟩) h4).trans h5⟩
/-- logs that hold the same end alike -/
theorem lastAt_eq {W : World} {n : Nat} {u v : Value} (h : EqC Try.prog W W TT TT n 22 [u] [v]) : ∃ t ga gl gc ga' gc', u = .slice ga gl gc ∧ v = .slice ga' gl gc' ∧ LastAt W u t ∧ LastAt W v t ∧ gl ≤ 9223372036854775807 ∧ (Lit.int .i64 t).wf = true := by
  have e82 : Try.prog.cellsOf 73 = 82 := by kernel_rfl
  have e3 : Try.prog.cellsOf 3 = 1 := by kernel_rfl
  cases n with
  | zero => exact h.elim
  | succ n =>
    unfold EqC at h
    simp only [Try.underlying22] at h
    obtain ⟨a, l, c, a', c', h1, h2, h3, h4, h5, h6, h7⟩ := h
    obtain rfl := (List.cons.inj h1).1
    obtain rfl := (List.cons.inj h2).1
    have hl : l ≤ 9223372036854775807 := by have := h4.1; unfold maxLen at this; omega
    cases l with
    | zero => exact ⟨0, a, 0, c, a', c', rfl, rfl, ⟨_, _, _, rfl, .inl ⟨rfl, rfl⟩⟩, ⟨_, _, _, rfl, .inl ⟨rfl, rfl⟩⟩, hl, by decide⟩
    | succ k =>
      obtain ⟨B, o, B', o', rfl, rfl, hB, hB', hj⟩ := h7 (Nat.succ_pos k)
      obtain ⟨xs, ys, k1, k2, k3, k4, k5⟩ := hj k (Nat.lt_succ_self k)
      rw [e82] at k1 k2 k3 k4
      cases n with
      | zero => exact k5.elim
      | succ n =>
        have f0 : EqC Try.prog W W TT TT n 3 (part_ xs 0 (Try.prog.cellsOf 3)) (part_ ys 0 (Try.prog.cellsOf 3)) := ((eqC_struct Try.underlying73).1 k5).2.2 0 _ rfl
        rw [e3] at f0
        match xs, k1, ys, k2 with
        | x :: xs, _, y :: ys, _ =>
          have f1 : EqC Try.prog W W TT TT n 3 [x] [y] := f0
          cases n with
          | zero => exact f1.elim
          | succ n =>
            unfold EqC at f1
            simp only [Try.underlying3] at f1
            obtain ⟨t, g1, g2, g3⟩ := f1
            obtain rfl := (List.cons.inj g1).1
            obtain rfl := (List.cons.inj g2).1
            have c1 := k3 0 _ rfl
            have c2 := k4 0 _ rfl
            exact ⟨t, _, _, c, _, c', rfl, rfl, ⟨_, _, _, rfl, .inr ⟨B, o, k, rfl, rfl, hl, hB.2, c1⟩⟩, ⟨_, _, _, rfl, .inr ⟨B', o', k, rfl, rfl, hl, hB'.2, c2⟩⟩, hl, g3⟩
theorem lastTerm_any (lg : Value) (t : Int) (w : World) (h : LastAt w lg t) : Calls Try.prog 38 #[lg] w fun e w' => e = .returned (.int .i64 t) ∧ w = w' := by
  obtain ⟨ga, gl, gc, rfl, ⟨rfl, rfl⟩ | ⟨B, o, k, rfl, rfl, hl, hB, hc⟩⟩ := h
  ·
    refine calls_frv (N := 13) (vs := [.slice ga 0 gc]) [(0, .slice ga 0 gc)] Try.func38 rfl rfl (of_decide_eq_true rfl) (fun p hp => by simp only [List.mem_cons, List.not_mem_nil, or_false] at hp; rcases hp with rfl <;> rfl) (fun a hf => ?_)
    have hX := Bx.start w
    refine wp_seq ?_
    refine wp_region_lit ?_
    refine sv_ac hf (by decide) (fun a hf => ?_)
    refine sv_nil hf ?_
    refine wp_seq ?_
    refine wp_seq ?_
    refine wp_region_lit ?_
    refine sv_mv hf rfl (by decide) (fun a hf => ?_)
    refine sv_len hf rfl Try.underlying22 (by decide) (fun a hf => ?_)
    refine sv_cmp hf rfl rfl true (congrArg some (decide_eq_true rfl)) (by decide) (fun a hf => ?_)
    replace hf := hf.sub (env' := [(5, .bool true), (2, .int .i64 0), (0, .slice ga 0 gc)]) (sub_cons rfl (sub_cons rfl (sub_cons rfl (sub_nil))))
    refine sv_nil hf ?_
    refine wp_cond_true (hf.rel _ _ rfl) ?_
    refine wp_seq ?_
    refine wp_region_lit ?_
    refine sv_ac hf (by decide) (fun a hf => ?_)
    replace hf := hf.sub (env' := [(2, .int .i64 0), (0, .slice ga 0 gc)]) (sub_cons rfl (sub_cons rfl (sub_nil)))
    refine sv_nil hf ?_
    refine wp_ret ?_
    try simp only [Exit.inBlock, Exit.then]
    exact bodyPost_ret (res_tmp (d := 2) (v := .int .i64 0) rfl (hf.rel 2 _ rfl)) hf.defers ⟨rfl, rfl⟩
  ·
    refine calls_frv (N := 13) (vs := [.slice (some ⟨B, o, none⟩) (k + 1) gc]) [(0, .slice (some ⟨B, o, none⟩) (k + 1) gc)] Try.func38 rfl rfl (of_decide_eq_true rfl) (fun p hp => by simp only [List.mem_cons, List.not_mem_nil, or_false] at hp; rcases hp with rfl <;> rfl) (fun a hf => ?_)
    have hX := Bx.start w
    refine wp_seq ?_
    refine wp_region_lit ?_
    refine sv_ac hf (by decide) (fun a hf => ?_)
    refine sv_nil hf ?_
    refine wp_seq ?_
    refine wp_seq ?_
    refine wp_region_lit ?_
    refine sv_mv hf rfl (by decide) (fun a hf => ?_)
    refine sv_len hf rfl Try.underlying22 (by decide) (fun a hf => ?_)
    refine sv_cmp hf rfl rfl false (congrArg some (decide_eq_false (by omega))) (by decide) (fun a hf => ?_)
    replace hf := hf.sub (env' := [(5, .bool false), (2, .int .i64 0), (0, .slice (some ⟨B, o, none⟩) (k + 1) gc)]) (sub_cons rfl (sub_cons rfl (sub_cons rfl (sub_nil))))
    refine sv_nil hf ?_
    refine wp_cond_false (hf.rel _ _ rfl) ?_
    refine wp_skip ?_
    refine wp_seq ?_
    refine wp_region_lit ?_
    refine sv_mv hf rfl (by decide) (fun a hf => ?_)
    refine sv_mv hf rfl (by decide) (fun a hf => ?_)
    refine sv_len hf rfl Try.underlying22 (by decide) (fun a hf => ?_)
    refine sv_sub (k : Int) hf rfl rfl (by rw [wrap_in (by omega)]; omega) (by decide) (fun a hf => ?_)
    refine sv_idx (q := k) hf rfl rfl (by omega) Try.underlying22 einfo_ents (by decide) (fun a hf => ?_)
    refine sv_fld hf rfl Try.underlying73 rfl sz_int (o + k * 82) rfl (by decide) (fun a hf => ?_)
    refine sv_lm hf rfl (show w.cell? ⟨B, o + k * 82, none⟩ = _ from hc) Try.underlying3 rfl (by decide) (fun a hf => ?_)
    refine sv_as hf rfl (by decide) (fun a hf => ?_)
    replace hf := hf.sub (env' := [(2, .int .i64 t)]) (sub_cons rfl (sub_nil))
    refine sv_nil hf ?_
    refine wp_ret ?_
    try simp only [Exit.inBlock, Exit.then]
    exact bodyPost_ret (res_tmp (d := 2) (v := .int .i64 t) rfl (hf.rel 2 _ rfl)) hf.defers ⟨rfl, rfl⟩
end Go.Proofs.Ytfpgklhbghahoaa
/- Election: copies of members by letters; members that hold the same. -/
namespace Go.Proofs.Ytfpgklhbghahoaa
open Go.ChangeShapes Go.WideShapes Go.ChangeAt Go.RowKit Go.ChangeMaps Go.Joins Go.Deep
set_option linter.unusedVariables false
set_option linter.unusedSimpArgs false
set_option maxRecDepth 100000
theorem eqC_intv {W W' : World} {F F' : Nat → Prop} {n : Nat} {u v : Value} (h : EqC Try.prog W W' F F' n 3 [u] [v]) : u = v := by
  cases n with
  | zero => exact h.elim
  | succ n =>
    unfold EqC at h
    simp only [Try.underlying3] at h
    obtain ⟨m, g1, g2, _⟩ := h
    rw [(List.cons.inj g1).1, (List.cons.inj g2).1]
theorem eqC_wf {W W' : World} {F F' : Nat → Prop} {n : Nat} {x : Int} {v : Value} (h : EqC Try.prog W W' F F' n 3 [.int .i64 x] [v]) : (Lit.int .i64 x).wf = true := by
  cases n with
  | zero => exact h.elim
  | succ n =>
    unfold EqC at h
    simp only [Try.underlying3] at h
    obtain ⟨m, g1, g2, g3⟩ := h
    have := (List.cons.inj g1).1
    injection this with _ this
    rw [this]; exact g3
theorem int_eqC {W W' : World} {F F' : Nat → Prop} {n : Nat} {x : Int} (h : (Lit.int .i64 x).wf = true) : EqC Try.prog W W' F F' (n + 1) 3 [.int .i64 x] [.int .i64 x] := by
  unfold EqC
  simp only [Try.underlying3]
  exact ⟨x, rfl, rfl, h⟩
theorem eqC_lens {W W' : World} {F F' : Nat → Prop} {n : Nat} {t e : TypeId} {ad : Option Addr} {l c : Nat} {v : Value} (hu : Try.prog.underlying t = some (.slice e)) (h : EqC Try.prog W W' F F' n t [.slice ad l c] [v]) : ∃ ad' c', v = .slice ad' l c' := by
  cases n with
  | zero => exact h.elim
  | succ n =>
    unfold EqC at h
    simp only [hu] at h
    obtain ⟨a, l', c', a2, c2, h1, h2, _⟩ := h
    obtain ⟨_, rfl, _⟩ := Value.slice.inj (List.cons.inj h1).1
    exact ⟨a2, c2, (List.cons.inj h2).1⟩
theorem e3c : Try.prog.cellsOf 3 = 1 := by kernel_rfl
theorem eEc : Try.prog.cellsOf 22 = 1 := by kernel_rfl
theorem eIc : Try.prog.cellsOf 23 = 1 := by kernel_rfl
theorem eMc : Try.prog.cellsOf 25 = 12 := by kernel_rfl
/-- the parts of members that hold the same -/
theorem mem_parts {W W' : World} {F F' : Nat → Prop} {n : Nat} {xs ys : List Value} (h : EqC Try.prog W W' F F' (n + 1) 25 xs ys) : xs.length = 12 ∧ ys.length = 12 ∧ (∀ i, i < 12 → i ≠ 8 → i ≠ 10 → i ≠ 11 → EqC Try.prog W W' F F' n 3 (part_ xs i 1) (part_ ys i 1)) ∧ EqC Try.prog W W' F F' n 22 (part_ xs 8 1) (part_ ys 8 1) ∧ EqC Try.prog W W' F F' n 23 (part_ xs 10 1) (part_ ys 10 1) ∧ EqC Try.prog W W' F F' n 23 (part_ xs 11 1) (part_ ys 11 1) := by
  obtain ⟨h1, h2, h3⟩ := (eqC_struct Try.underlying25).1 h
  rw [eMc] at h1 h2
  have f8 : EqC Try.prog W W' F F' n 22 (part_ xs 8 (Try.prog.cellsOf 22)) (part_ ys 8 (Try.prog.cellsOf 22)) := h3 8 _ rfl
  have f10 : EqC Try.prog W W' F F' n 23 (part_ xs 10 (Try.prog.cellsOf 23)) (part_ ys 10 (Try.prog.cellsOf 23)) := h3 10 _ rfl
  have f11 : EqC Try.prog W W' F F' n 23 (part_ xs 11 (Try.prog.cellsOf 23)) (part_ ys 11 (Try.prog.cellsOf 23)) := h3 11 _ rfl
  rw [eEc] at f8
  rw [eIc] at f10 f11
  refine ⟨h1, h2, fun i hi n8 n10 n11 => ?_, f8, f10, f11⟩
  have key : ∀ j, EqC Try.prog W W' F F' n 3 (part_ xs j (Try.prog.cellsOf 3)) (part_ ys j (Try.prog.cellsOf 3)) → EqC Try.prog W W' F F' n 3 (part_ xs j 1) (part_ ys j 1) := fun j h => by rwa [e3c] at h
  match i, hi with
  | 0, _ => exact key 0 (h3 0 _ rfl)
  | 1, _ => exact key 1 (h3 1 _ rfl)
  | 2, _ => exact key 2 (h3 2 _ rfl)
  | 3, _ => exact key 3 (h3 3 _ rfl)
  | 4, _ => exact key 4 (h3 4 _ rfl)
  | 5, _ => exact key 5 (h3 5 _ rfl)
  | 6, _ => exact key 6 (h3 6 _ rfl)
  | 7, _ => exact key 7 (h3 7 _ rfl)
  | 8, _ => exact absurd rfl n8
  | 9, _ => exact key 9 (h3 9 _ rfl)
  | 10, _ => exact absurd rfl n10
  | 11, _ => exact absurd rfl n11
theorem memEq {W W' : World} {F F' : Nat → Prop} {n : Nat} {id sz tm vt rl ld ti vs cm : Int} {lg nx mt lg' nx' mt' : Value} (hw : ∀ x ∈ [id, sz, tm, vt, rl, ld, ti, vs, cm], (Lit.int .i64 x).wf = true) (h8 : EqC Try.prog W W' F F' (n + 1) 22 [lg] [lg']) (h10 : EqC Try.prog W W' F F' (n + 1) 23 [nx] [nx']) (h11 : EqC Try.prog W W' F F' (n + 1) 23 [mt] [mt']) :
    EqC Try.prog W W' F F' (n + 2) 25 (memL id sz tm vt rl ld ti vs lg cm nx mt) (memL id sz tm vt rl ld ti vs lg' cm nx' mt') := by
  refine (eqC_struct Try.underlying25).2 ⟨by rw [eMc]; rfl, by rw [eMc]; rfl, fun i f hfi => ?_⟩
  match i, hfi with
  | 0, hfi => obtain rfl := Option.some.inj hfi; show EqC Try.prog _ _ _ _ (n + 1) 3 (part_ _ 0 (Try.prog.cellsOf 3)) (part_ _ 0 (Try.prog.cellsOf 3)); rw [e3c]; exact int_eqC (hw _ (by simp))
  | 1, hfi => obtain rfl := Option.some.inj hfi; show EqC Try.prog _ _ _ _ (n + 1) 3 (part_ _ 1 (Try.prog.cellsOf 3)) (part_ _ 1 (Try.prog.cellsOf 3)); rw [e3c]; exact int_eqC (hw _ (by simp))
  | 2, hfi => obtain rfl := Option.some.inj hfi; show EqC Try.prog _ _ _ _ (n + 1) 3 (part_ _ 2 (Try.prog.cellsOf 3)) (part_ _ 2 (Try.prog.cellsOf 3)); rw [e3c]; exact int_eqC (hw _ (by simp))
  | 3, hfi => obtain rfl := Option.some.inj hfi; show EqC Try.prog _ _ _ _ (n + 1) 3 (part_ _ 3 (Try.prog.cellsOf 3)) (part_ _ 3 (Try.prog.cellsOf 3)); rw [e3c]; exact int_eqC (hw _ (by simp))
  | 4, hfi => obtain rfl := Option.some.inj hfi; show EqC Try.prog _ _ _ _ (n + 1) 3 (part_ _ 4 (Try.prog.cellsOf 3)) (part_ _ 4 (Try.prog.cellsOf 3)); rw [e3c]; exact int_eqC (hw _ (by simp))
  | 5, hfi => obtain rfl := Option.some.inj hfi; show EqC Try.prog _ _ _ _ (n + 1) 3 (part_ _ 5 (Try.prog.cellsOf 3)) (part_ _ 5 (Try.prog.cellsOf 3)); rw [e3c]; exact int_eqC (hw _ (by simp))
  | 6, hfi => obtain rfl := Option.some.inj hfi; show EqC Try.prog _ _ _ _ (n + 1) 3 (part_ _ 6 (Try.prog.cellsOf 3)) (part_ _ 6 (Try.prog.cellsOf 3)); rw [e3c]; exact int_eqC (hw _ (by simp))
  | 7, hfi => obtain rfl := Option.some.inj hfi; show EqC Try.prog _ _ _ _ (n + 1) 3 (part_ _ 7 (Try.prog.cellsOf 3)) (part_ _ 7 (Try.prog.cellsOf 3)); rw [e3c]; exact int_eqC (hw _ (by simp))
  | 8, hfi => obtain rfl := Option.some.inj hfi; show EqC Try.prog _ _ _ _ (n + 1) 22 (part_ _ 8 (Try.prog.cellsOf 22)) (part_ _ 8 (Try.prog.cellsOf 22)); rw [eEc]; exact h8
  | 9, hfi => obtain rfl := Option.some.inj hfi; show EqC Try.prog _ _ _ _ (n + 1) 3 (part_ _ 9 (Try.prog.cellsOf 3)) (part_ _ 9 (Try.prog.cellsOf 3)); rw [e3c]; exact int_eqC (hw _ (by simp))
  | 10, hfi => obtain rfl := Option.some.inj hfi; show EqC Try.prog _ _ _ _ (n + 1) 23 (part_ _ 10 (Try.prog.cellsOf 23)) (part_ _ 10 (Try.prog.cellsOf 23)); rw [eIc]; exact h10
  | 11, hfi => obtain rfl := Option.some.inj hfi; show EqC Try.prog _ _ _ _ (n + 1) 23 (part_ _ 11 (Try.prog.cellsOf 23)) (part_ _ 11 (Try.prog.cellsOf 23)); rw [eIc]; exact h11
  | j + 12, hfi => simp at hfi
theorem copyMember_let (n : Nat) (id sz tm vt rl ld ti vs : Int) (ga : Option Addr) (gl gc : Nat) (cm : Int) (na : Option Addr) (nl nc : Nat) (ma : Option Addr) (ml mc : Nat) (W0 W : World) (hb0 : Below W0.heap.size W0 W) (hg : GoodC Try.prog W0 n 25 (memL id sz tm vt rl ld ti vs (.slice ga gl gc) cm (.slice na nl nc) (.slice ma ml mc))) :
    Calls Try.prog 36 #[mem id sz tm vt rl ld ti vs (.slice ga gl gc) cm (.slice na nl nc) (.slice ma ml mc)] W fun e W' => ∃ ga' gc' na' nc' ma' mc', e = .returned (mem id sz tm vt rl ld ti vs (.slice ga' gl gc') cm (.slice na' nl nc') (.slice ma' ml mc')) ∧
      (∃ m, m + 2 ≤ n ∧ EqC Try.prog W' W' (fun k => k < W0.heap.size) (fun k => W.heap.size ≤ k) (m + 1) 22 [.slice ga gl gc] [.slice ga' gl gc'] ∧ EqC Try.prog W' W' (fun k => k < W0.heap.size) (fun k => W.heap.size ≤ k) (m + 1) 23 [.slice na nl nc] [.slice na' nl nc'] ∧ EqC Try.prog W' W' (fun k => k < W0.heap.size) (fun k => W.heap.size ≤ k) (m + 1) 23 [.slice ma ml mc] [.slice ma' ml mc']) ∧ Below W.heap.size W W' := by
  refine (copyMember_ok n W0 W _ hb0 hg).mono ?_
  rintro e W' ⟨ds, rfl, hcp, hb⟩
  cases n with
  | zero => exact hg.elim
  | succ n =>
    obtain ⟨_, h2, hi, f8, f10, f11⟩ := mem_parts hcp
    match ds, h2 with
    | [d0, d1, d2, d3, d4, d5, d6, d7, d8, d9, d10, d11], _ =>
      obtain rfl := eqC_intv (hi 0 (by decide) (by decide) (by decide) (by decide))
      obtain rfl := eqC_intv (hi 1 (by decide) (by decide) (by decide) (by decide))
      obtain rfl := eqC_intv (hi 2 (by decide) (by decide) (by decide) (by decide))
      obtain rfl := eqC_intv (hi 3 (by decide) (by decide) (by decide) (by decide))
      obtain rfl := eqC_intv (hi 4 (by decide) (by decide) (by decide) (by decide))
      obtain rfl := eqC_intv (hi 5 (by decide) (by decide) (by decide) (by decide))
      obtain rfl := eqC_intv (hi 6 (by decide) (by decide) (by decide) (by decide))
      obtain rfl := eqC_intv (hi 7 (by decide) (by decide) (by decide) (by decide))
      obtain rfl := eqC_intv (hi 9 (by decide) (by decide) (by decide) (by decide))
      have g8 : EqC Try.prog W' W' (fun k => k < W0.heap.size) (fun k => W.heap.size ≤ k) n 22 [.slice ga gl gc] [d8] := f8
      have g10 : EqC Try.prog W' W' (fun k => k < W0.heap.size) (fun k => W.heap.size ≤ k) n 23 [.slice na nl nc] [d10] := f10
      have g11 : EqC Try.prog W' W' (fun k => k < W0.heap.size) (fun k => W.heap.size ≤ k) n 23 [.slice ma ml mc] [d11] := f11
      obtain ⟨ga', gc', rfl⟩ := eqC_lens Try.underlying22 g8
      obtain ⟨na', nc', rfl⟩ := eqC_lens Try.underlying23 g10
      obtain ⟨ma', mc', rfl⟩ := eqC_lens Try.underlying23 g11
      cases n with
      | zero => exact g8.elim
      | succ n => exact ⟨ga', gc', na', nc', ma', mc', rfl, ⟨n, by omega, g8, g10, g11⟩, hb⟩
/-- what follow makes of a member -/
def fTm (tm xt : Int) : Int := if xt ≤ tm then tm else xt
def fVt (tm xt vt : Int) : Int := if xt ≤ tm then vt else -1
def fRl (tm xt rl : Int) : Int := if xt ≤ tm then rl else 0
def fLd (tm xt ld : Int) : Int := if xt ≤ tm then ld else -1
def fTi (tm xt rl ti id : Int) : Int := if xt ≤ tm then ti else if rl = 2 then 10 + 3 * id else ti
def fVs (tm xt vs : Int) : Int := if xt ≤ tm then vs else 0
def fA (tm xt : Int) (a : Option Addr) : Option Addr := if xt ≤ tm then a else none
def fN (tm xt : Int) (a : Nat) : Nat := if xt ≤ tm then a else 0
theorem fol_eq (id sz tm vt rl ld ti vs : Int) (ga : Option Addr) (gl gc : Nat) (cm : Int) (na : Option Addr) (nl nc : Nat) (ma : Option Addr) (ml mc : Nat) (t : Int) :
    (if t ≤ tm then mem id sz tm vt rl ld ti vs (.slice ga gl gc) cm (.slice na nl nc) (.slice ma ml mc) else mem id sz t (-1) 0 (-1) (if rl = 2 then 10 + 3 * id else ti) 0 (.slice ga gl gc) cm nil nil) =
    mem id sz (fTm tm t) (fVt tm t vt) (fRl tm t rl) (fLd tm t ld) (fTi tm t rl ti id) (fVs tm t vs) (.slice ga gl gc) cm (.slice (fA tm t na) (fN tm t nl) (fN tm t nc)) (.slice (fA tm t ma) (fN tm t ml) (fN tm t mc)) := by
  by_cases h : t ≤ tm <;> simp [fTm, fVt, fRl, fLd, fTi, fVs, fA, fN, h]
theorem follow_let (id sz tm vt rl ld ti vs : Int) (ga : Option Addr) (gl gc : Nat) (cm : Int) (na : Option Addr) (nl nc : Nat) (ma : Option Addr) (ml mc : Nat) (t : Int) (w : World) (h0 : 0 ≤ id) (h7 : id ≤ 7) : Calls Try.prog 37 #[mem id sz tm vt rl ld ti vs (.slice ga gl gc) cm (.slice na nl nc) (.slice ma ml mc), .int .i64 t] w fun e w' =>
    e = .returned (mem id sz (fTm tm t) (fVt tm t vt) (fRl tm t rl) (fLd tm t ld) (fTi tm t rl ti id) (fVs tm t vs) (.slice ga gl gc) cm (.slice (fA tm t na) (fN tm t nl) (fN tm t nc)) (.slice (fA tm t ma) (fN tm t ml) (fN tm t mc))) ∧ Below w.heap.size w w' := by
  rw [← fol_eq]
  exact follow_any id sz tm vt rl ld ti vs ga gl gc cm na nl nc ma ml mc t w h0 h7
theorem LastAt.uniq {W : World} {lg : Value} {t t' : Int} (h : LastAt W lg t) (h' : LastAt W lg t') : t = t' := by
  obtain ⟨ga, gl, gc, e, h⟩ := h
  obtain ⟨ga', gl', gc', e', h'⟩ := h'
  subst e
  obtain ⟨rfl, rfl, rfl⟩ := Value.slice.inj e'
  rcases h with ⟨h1, h2⟩ | ⟨B, o, k, h1, h2, h3, h4, h5⟩
  · rcases h' with ⟨g1, g2⟩ | ⟨B', o', k', g1, g2, g3, g4, g5⟩
    · rw [h2, g2]
    · omega
  · rcases h' with ⟨g1, g2⟩ | ⟨B', o', k', g1, g2, g3, g4, g5⟩
    · omega
    · subst h1
      obtain ⟨rfl, rfl, _⟩ := Addr.mk.inj (Option.some.inj g1)
      obtain rfl : k = k' := by omega
      rw [h5] at g5
      have := Option.some.inj g5
      injection this
theorem last_copy {W : World} {n : Nat} {u v : Value} {t : Int} (h : EqC Try.prog W W TT TT n 22 [u] [v]) (hu : LastAt W u t) : LastAt W v t := by
  obtain ⟨t', _, _, _, _, _, _, _, h1, h2, _⟩ := lastAt_eq h
  rw [hu.uniq h1]
  exact h2
/-- is a log new enough, is a vote granted? -/
def newB (xl xi lt : Int) (n : Nat) : Bool := decide (lt < xl) || (decide (xl = lt) && decide ((n : Int) ≤ xi))
def grantB (xt xf tm vt : Int) (nw : Bool) : Bool := decide (xt = tm) && (decide (vt = -1) || decide (vt = xf)) && nw
end Go.Proofs.Ytfpgklhbghahoaa
