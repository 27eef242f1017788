/- Words: append to a slice of strings that the call owns; lower case by the reference. -/
import Derived.Test.YtjedhlgflocjoaaDoorWo6
namespace Go.Proofs.YtjedhlgflocjoaaDoor
open Go.ChangeShapes Go.WideShapes Go.ChangeAt Go.RowKit
set_option linter.unusedVariables false
set_option linter.unusedSimpArgs false
def strs (ls : List Wd.Str) : List Value := ls.map fun l => .string (Wd.bs l)
theorem strs_snoc (ls : List Wd.Str) (d : Wd.Str) : strs (ls ++ [d]) = strs ls ++ [.string (Wd.bs d)] := by simp [strs]
theorem strs_len (ls : List Wd.Str) : (strs ls).length = ls.length := by simp [strs]
theorem info9 : (Tryd.prog.info? 9).map (fun i => (i.zero, i.size, i.bytes)) = some (some (.string ⟨#[]⟩), 1, 16) := by kernel_rfl
theorem own_ge {w : World} {B : Nat} {E : TypeId} {sz : Nat} {v : Value} {n : Nat} {xs : List Value} (h : w.ownsRow B E sz v n xs) : ∀ k, v.ownBlock = some k → B ≤ k := by
  intro k hk
  obtain ⟨_, h2⟩ := h
  rcases h2 with ⟨rfl, _⟩ | ⟨g, cap, cur, rfl, e2, _⟩
  · simp [Value.ownBlock] at hk
  · simp only [Value.ownBlock, Option.some.injEq] at hk; omega
section
variable {P : Program} {w : World}
/-- where an append leaves its slice: in the old block or in a new one -/
theorem append_where (base : Nat) (t ty e : TypeId) (i : TypeInfo) (z : Value) (size bytes : Nat) (ht : P.underlying t = some (.slice e)) (hi : P.info? e = some i) (hz : i.zero = some z)
    (hsize : i.size = size) (hby : i.bytes = bytes) (hzs : z.cells.size = size) (hsz : 0 < size)
    (v : Value) (n : Nat) (xs : List Value) (hown : w.ownsRow base e size v n xs)
    (a : Addr) (m c : Nat) (news : List Value) (hl : news.length = m * size) (hnews : ∀ j u, news[j]? = some u → w.cell? (a.add j) = some u) (h1 : ∀ u ∈ news, u.oneCell' = true)
    (h63 : n + m ≤ maxLen) (hbytes : (n + m) * bytes ≤ 140737488355328) :
    ∃ v' w', (Builtin.append_ #[t, t] ty #[v, .slice (some a) m c]).run P w = .ok v' w' ∧ ∀ k, v'.ownBlock = some k → v.ownBlock = some k ∨ w.heap.size ≤ k := by
  subst hsize
  subst hby
  have hsmall : n + m ≤ 9223372036854775807 := by simp only [maxLen] at h63; omega
  rcases hown.2 with ⟨rfl, rfl⟩ | ⟨g, cap, cur, rfl, hbg, hg, hnc, hcm, hcs, htake⟩
  · have hx : xs = [] := List.eq_nil_of_length_eq_zero (by simpa using hown.1)
    subst hx
    by_cases hm : m = 0
    · subst hm
      have hn : news = [] := List.eq_nil_of_length_eq_zero (by simpa using hl)
      subst hn
      refine ⟨.slice none 0 0, w, ?_, fun k hk => by simp [Value.ownBlock] at hk⟩
      simp [Builtin.append_, run_underlying ht, sizeOf, typeInfo, hi, Builtin.lenOf, Builtin.firstCells, loadCells, loadCellsFrom]
    · have hr := run_append_nil (P := P) w t ty e i z ht hi hz a m c news hl hnews (by omega) (by omega) (by have hb := hbytes; simp only [Nat.zero_add] at hb; omega)
      exact ⟨_, _, hr, fun k hk => by simp only [Value.ownBlock, Option.some.injEq] at hk; exact .inr (by omega)⟩
  · by_cases hroom : n + m ≤ cap
    · have hfit : n * i.size + news.length ≤ cur.size := by rw [hl, hcs, ← Nat.add_mul]; exact Nat.mul_le_mul_right _ hroom
      have hr := run_append_room (P := P) w t ty e i ht hi g n cap cur hg a m c news hl hnews h1 hroom hfit
      exact ⟨_, _, hr, fun k hk => .inl hk⟩
    · have holds : ∀ j u, xs[j]? = some u → w.cell? ((⟨g, 0, none⟩ : Addr).add j) = some u := hown.cells (g := g) rfl
      have hr := run_append_grow (P := P) w t ty e i z ht hi hz ⟨g, 0, none⟩ n cap xs hown.1 holds a m c news hl hnews (by omega) (by omega) (growslice_fits (by omega) hbytes)
      exact ⟨_, _, hr, fun k hk => by simp only [Value.ownBlock, Option.some.injEq] at hk; exact .inr (by omega)⟩
end
/-- 'append(l, s)' on a slice of strings that the call owns -/
theorem wpList_appS {ops : Array Oper} {rest : List Oper} {Q : Exit → Act → World → Prop} (x y : Nat) (B : Nat) (v : Value) (ls : List Wd.Str) (s : Wd.Str) (g : Nat) (d : Option Nat) (pos : String) (af) (a : Act) (w : World)
    (hx : a.eval (.tmp x) = v) (hy : a.eval (.tmp y) = .slice (some ⟨g, 0, none⟩) 1 1) (hown : w.ownsRow B 9 1 v ls.length (strs ls)) (hc : w.cell? ⟨g, 0, none⟩ = some (.string (Wd.bs s))) (hl : ls.length ≤ 1000000) (hB : B ≤ w.heap.size)
    (h : ∀ v' w', w'.ownsRow B 9 1 v' (ls ++ [s]).length (strs (ls ++ [s])) → w.grownBy w' v.ownBlock → (∀ k, v'.ownBlock = some k → v.ownBlock = some k ∨ w.heap.size ≤ k) → wpList Tryd.prog ops Q rest (a.put d v') w') :
    wpList Tryd.prog ops Q ({ dst := d, op := Op.call { callee := .builtin .append, args := #[.tmp x, .tmp y], argTypes := #[24, 24] }, type := 24, pos := pos, after := af, guard := none } :: rest) a w := by
  obtain ⟨i9, hi9, hz0, hz1, hz2⟩ := info_parts info9
  have hnews : ∀ j u, [Value.string (Wd.bs s)][j]? = some u → w.cell? ((⟨g, 0, none⟩ : Addr).add j) = some u := by
    intro j u hu
    match j with
    | 0 => simp only [List.getElem?_cons_zero, Option.some.injEq] at hu; subst hu; simpa [Addr.add] using hc
    | j + 1 => simp at hu
  have h1 : ∀ u ∈ [Value.string (Wd.bs s)], u.oneCell' = true := fun u hu => by simp only [List.mem_singleton] at hu; subst hu; rfl
  have h63 : ls.length + 1 ≤ maxLen := by unfold maxLen; omega
  have hby : (ls.length + 1) * 16 ≤ 140737488355328 := by omega
  obtain ⟨v', w', hr, h2, h3, _⟩ := run_append_own (P := Tryd.prog) w B 24 24 9 i9 (.string ⟨#[]⟩) 1 16 Tryd.underlying24 hi9 hz0 hz1 hz2 rfl (by decide) v ls.length (strs ls) hown ⟨g, 0, none⟩ 1 1 [.string (Wd.bs s)] rfl hnews h1 h63 hby hB
  obtain ⟨v2, w2, hr2, h4⟩ := append_where (P := Tryd.prog) (w := w) B 24 24 9 i9 (.string ⟨#[]⟩) 1 16 Tryd.underlying24 hi9 hz0 hz1 hz2 rfl (by decide) v ls.length (strs ls) hown ⟨g, 0, none⟩ 1 1 [.string (Wd.bs s)] rfl hnews h1 h63 hby
  rw [hr] at hr2
  injection hr2 with e1 e2
  subst e1
  refine wpList_plain rfl fun K hK => ?_
  unfold Oper.wp execOp
  simp only [resolve, invoke, builtin, Sem.run_bind, Sem.run_pure, Result.andThen_ok, List.map_toArray, List.map_cons, List.map_nil, hx, hy, hr]
  refine hK _ _ (h v' w' ?_ h3 h4)
  rw [List.length_append, strs_snoc]
  exact h2
/-- what the call has made so far: a slice of strings of its own -/
structure SL (w W : World) (v : Value) (ls : List Wd.Str) : Prop where
  own : W.ownsRow w.heap.size 9 1 v ls.length (strs ls)
  below : Below w.heap.size w W
theorem ownsRow_below {w w' : World} {B : Nat} {E : TypeId} {sz : Nat} {v : Value} {n : Nat} {xs : List Value} (h : w.ownsRow B E sz v n xs) (hb : Below w.heap.size w w') : w'.ownsRow B E sz v n xs := by
  obtain ⟨h1, h2⟩ := h
  refine ⟨h1, ?_⟩
  rcases h2 with h2 | ⟨g, cap, cur, e1, e2, e3, e4⟩
  · exact .inl h2
  · refine .inr ⟨g, cap, cur, e1, e2, ?_, e4⟩
    have hg : g < w.heap.size := by
      rcases Nat.lt_or_ge g w.heap.size with h | h
      · exact h
      · rw [Array.getElem?_eq_none h] at e3; cases e3
    rw [hb.block g hg]; exact e3
theorem SL.nil (w W : World) (hb : Below w.heap.size w W) : SL w W (.slice none 0 0) [] := ⟨World.ownsRow_nil _ _ _ _, hb⟩
theorem SL.keep {w W W' : World} {v : Value} {ls : List Wd.Str} (h : SL w W v ls) (hb : Below W.heap.size W W') : SL w W' v ls := ⟨ownsRow_below h.own hb, h.below.trans (hb.mono h.below.size)⟩
theorem SL.grown {w W W' : World} {v v' : Value} {ls ls' : List Wd.Str} (h : SL w W v ls) (ho : W'.ownsRow w.heap.size 9 1 v' ls'.length (strs ls')) (hg : W.grownBy W' v.ownBlock) : SL w W' v' ls' := ⟨ho, h.below.grown hg h.below.size (own_ge h.own)⟩
/-- a byte and its lower case -/
theorem conv1 (W : World) (c : UInt8) (T : TypeId) (n : Int) (hn : (c.toNat : Int) = n) :
    (convert 33 9 (.slice (some ⟨W.heap.size, 0, none⟩) 1 1)).run Tryd.prog (W.alloc (.cells #[.int .u8 n] T)) = .ok (.string (Wd.bs [c])) (W.alloc (.cells #[.int .u8 n] T)) := by
  subst hn
  refine conv_bytes (l := [c]) 1 ⟨fun j hj => ?_, fun j hj => ?_⟩
  · have : j = 0 := by simpa using hj
    subst this
    simp [go_sem]
  · simp [go_sem]
theorem add_bs (a b : List UInt8) : Wd.bs a ++ Wd.bs b = Wd.bs (a ++ b) := append_str (Wd.bs a) b
theorem lower_snoc (s : ByteArray) (k : Nat) (h : k < s.size) : Wd.bs ((Wd.lower s.data.toList).take k) ++ Wd.bs [Wd.low s[k]] = Wd.bs ((Wd.lower s.data.toList).take (k + 1)) := by
  rw [add_bs, lower_take s.data.toList k (by rw [size_list]; exact h)]
  rfl
set_option maxHeartbeats 400000 in
theorem Below.alloc' {w W : World} (h : Below w.heap.size w W) (o : Obj) : Below w.heap.size w (W.alloc o) := h.trans (((Below.refl _ _).alloc (Nat.le_refl _) _).mono h.size)
set_option maxHeartbeats 400000 in
theorem rlower_any (s : ByteArray) (w : World) (hs : s.size ≤ 1000000) : Calls Tryd.prog 30 #[.string s] w fun e w' => e = .returned (.string (Wd.bs (Wd.lower s.data.toList))) ∧ Below w.heap.size w w' := by
  have hsl : s.data.toList.length = s.size := size_list s
  have HSL := Lib.hid hsl
  clear hsl
  go_enter Tryd.func30, Tryd.ntmps30
  go_wp2
  go_loopw [3, 4] (fun r i wr => ∃ k : Nat, k ≤ s.size ∧ i = .int .i64 k ∧ r = .string (Wd.bs ((Wd.lower s.data.toList).take k)) ∧ Below w.heap.size w wr) (fun _ i _ => s.size - (intOf i).toNat)
  case atStart => exact ⟨0, Nat.zero_le _, rfl, rfl, Below.refl _ _⟩
  case round =>
    obtain ⟨k, hk, rfl, rfl, hbk⟩ := hrel
    by_cases hlt : k < s.size
    · have hkl : k < s.data.toList.length := by rw [HSL.out]; exact hlt
      have HSN := Lib.hid (lower_snoc s k hlt)
      have hz : (Wd.bs ((Wd.lower s.data.toList).take k)).size ≤ 1000000 := by rw [Wd.bs_size]; have := List.length_take_le k (Wd.lower s.data.toList); omega
      generalize hb : Wd.bs ((Wd.lower s.data.toList).take k) = r at *
      clear hb
      have hn := s[k].toNat_lt
      have hlow1 := low_up s[k]
      have hlow2 := low_not s[k]
      obtain ⟨c, hc⟩ : ∃ c, c = s[k] := ⟨_, rfl⟩
      have hck : ∀ h, (s[k]'h).toNat = c.toNat := fun h => by rw [hc]
      rw [← hc] at hn hlow1 hlow2 HSN
      clear hkl hc
      by_cases hu : 65 ≤ c.toNat ∧ c.toNat ≤ 90
      · have hcv := fun W T => conv1 W (Wd.low c) T _ (hlow1 hu.1 hu.2)
        obtain ⟨hu1, hu2⟩ := hu
        clear hlow1 hlow2
        generalize hq : Wd.bs [Wd.low c] = q at *
        have hzq : q.size ≤ 1 := by rw [← hq]; exact Nat.le_refl _
        clear hq
        go_wp2
        go_roundw
        case rel => exact ⟨k + 1, by omega, by go_num, by rw [HSN.out], Below.alloc' hbk _⟩
        case measure => simp [intOf]; omega
      · have hcv := fun W T => conv1 W (Wd.low c) T (c.toNat : Int) (by rw [hlow2 hu])
        clear hlow1 hlow2
        generalize hq : Wd.bs [Wd.low c] = q at *
        have hzq : q.size ≤ 1 := by rw [← hq]; exact Nat.le_refl _
        clear hq
        have hu' : c.toNat < 65 ∨ 90 < c.toNat := by omega
        clear hu
        rcases hu' with hu | hu
        all_goals
          go_wp2
          go_roundw
          case rel => exact ⟨k + 1, by omega, by go_num, by rw [HSN.out], Below.alloc' hbk _⟩
          case measure => simp [intOf]; omega
    · obtain rfl : k = s.size := by omega
      have HE : Hid (Wd.bs ((Wd.lower s.data.toList).take s.size) = Wd.bs (Wd.lower s.data.toList)) := Lib.hid (by rw [List.take_of_length_le]; rw [Wd.lower_length, HSL.out]; exact Nat.le_refl _)
      go_wp2
      go_ret
      exact ⟨ret_str HE.out, hbk⟩
end Go.Proofs.YtjedhlgflocjoaaDoor
