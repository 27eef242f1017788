/- Mvcc: the law Stop. -/
import Derived.Test.YtaecppkkbdbdbaaMv36
import Derived.Deep.RegionHeld3
namespace Go.Proofs.Ytaecppkkbdbdbaa
open Go.ChangeShapes Go.WideShapes Go.ChangeAt Go.RowKit Go.Deep Go.ChangeMaps Go.Shelf Go.Sort
set_option linter.unusedVariables false
set_option linter.unusedSimpArgs false
attribute [local go_sem] Oper.semAt_some
attribute [local go_sem, local simp] wide_fn
set_option maxRecDepth 100000 in
set_option maxHeartbeats 3200000 in
theorem law_stop_in (n : Nat) (h1 : 1 ≤ n) (v : Value) (l : List Opv) (s m : Int) (back : Bool) (W : World) (h : OpsArg W v l) (hm0 : 0 ≤ m) (hm1 : m ≤ 255) (h60 : ¬ 60 < l.length) :
    CallsIn Fence.wide n Try.prog 6 #[v, .int .i64 s, .int .u8 m, .bool back] W (AwakeOut W) := by
  have hro : Fence.wide.round = none := rfl
  obtain ⟨a, c, rfl, h'⟩ := h
  obtain ⟨i0, hi0, hz0, hz1, hz2⟩ := info_parts infoB
  refine callsIn_of_wp_marks Try.func6 rfl trivial ?_ rfl
  simp only [Try.ntmps6, List.size_toArray, List.length_cons, List.length_nil, Nat.reduceAdd, Nat.reduceSub, Array.replicate_succ, Array.replicate_zero, List.push_toArray, List.append_toArray, List.nil_append, List.cons_append]
  have bN0 := Boxed.new W 5 (.int .u8 m)
  have hbN := (Below.refl _ W).alloc (Nat.le_refl _) (.cells #[.int .u8 m] 5)
  have HH : Hid (OpsArg (W.alloc (.cells #[.int .u8 m] 5)) (.slice a l.length c) l) := Lib.hid (OpsArg.below ⟨a, c, rfl, h'⟩ hbN)
  clear h'
  obtain ⟨N, hN⟩ : ∃ N, N = l.length := ⟨_, rfl⟩
  have HN := Lib.hid hN
  have hN60 : N ≤ 60 := by omega
  rw [← hN] at HH ⊢
  have hd60 : decide ((60 : Int) < (N : Int)) = false := decide_eq_false (by omega)
  have hw1 : IntKind.i64.wrap m = m := by rw [IntKind.wrap_i64]; omega
  have hw2 : IntKind.i64.wrap (m + 1) = m + 1 := by rw [IntKind.wrap_i64]; omega
  clear hN h60
  gi_wp2_with (gi_at_call 33; refine (callsIn_wide.2 (show Calls Try.prog 33 #[.slice a N c] _ (BuildOut l _) from by rw [HN.out]; exact build_any _ l _ (HN.out ▸ HH.out) (by have := HN.out; omega))).mono ?_; rintro e W1 ⟨rfl, E, clock, hwk⟩)
  rw [show (W.alloc (.cells #[.int .u8 m] 5)).heap.size = W.heap.size + 1 by simp] at hwk
  obtain ⟨B, hB⟩ : ∃ B, B = W.heap.size + 1 := ⟨_, rfl⟩
  have hBW := hB
  rw [← hB] at hwk ⊢
  have HBW := Lib.hid (hbN.trans (hwk.low.mono (by rw [hBW]; omega)))
  have HBB := Lib.hid hBW
  have bN1 : Boxed W1 W.heap.size 5 (.int .u8 m) := (hwk.low.block _ (by rw [hBW]; omega)).trans bN0
  have hN1 := bN1.cell
  have H1 := Lib.hid hwk
  rw [← HN.out] at H1
  clear hwk hBW HH bN0 hbN
  gi_wp2_with (gi_at_call 21; refine (callsIn_wide.2 (H1.out.scan (by omega) _ _ _ _)).mono ?_; rintro e W2 ⟨vw, rfl, hrow, hb⟩)
  obtain ⟨L, hL⟩ : ∃ L, L = scanK E s (scanT E ⟨#[]⟩ ⟨#[]⟩ back) := ⟨_, rfl⟩
  rw [← hL] at hrow
  have HL := Lib.hid hL
  have HLN := Lib.hid (show L.length ≤ N by rw [hL]; have := H1.out.len; have := scan_len H1.out.sto.gd s ⟨#[]⟩ ⟨#[]⟩ back; omega)
  have hR := hrow.row
  obtain ⟨wa, wc, rfl, _, hR3⟩ := hR
  obtain ⟨p, hp⟩ : ∃ p, p = L.length := ⟨_, rfl⟩
  have hwc : p ≤ wc := by
    rcases Nat.eq_zero_or_pos p with h0 | h0
    · omega
    · obtain ⟨_, _, h4, _⟩ := hR3 (by omega)
      omega
  have HR2 := Lib.hid (hrow.row)
  have H2 := Lib.hid (H1.out.below hb)
  have bN2 : Boxed W2 W.heap.size 5 (.int .u8 m) := (hb.block _ (by have := H1.out.bw; have := HBB.out; omega)).trans bN1
  have hN2 := bN2.cell
  obtain ⟨q, hq⟩ : ∃ q, q = min p (m.toNat + 1) := ⟨_, rfl⟩
  have hqm : min (p : Int) (m + 1) = (q : Int) := by omega
  have hqp : q ≤ p := by omega
  have hpN : p ≤ 60 := by have := HLN.out; omega
  rw [← hp] at HR2 ⊢
  have HP := Lib.hid hp
  have HQ := Lib.hid hq
  clear hrow hb hR3 hL H1 hp hN1 bN1 hq
  gi_wp2_with (gi_at_call 36; refine (seek_in (n - 1) _ _ _ _ _ _).mono ?_; rintro e w' ⟨rfl, hcb, hsz, hbl, hko⟩)
  simp [go_sem]
  gi_wp2_with (gi_at_call 36; refine (seek_in (n - 1) _ _ _ _ _ _).mono ?_; rintro e w' ⟨rfl, hcb, hsz, hbl, hko⟩)
  have hsz2 : w'.heap.size = W2.heap.size + 6 := by rw [hsz]; simp
  have hbl0 : Below W2.heap.size W2 w' := ((Below.refl _ W2).alloc (Nat.le_refl _) _).trans (hbl.mono (by simp))
  have bO : Boxed w' W2.heap.size 44 (.slice none 0 0) := (hbl.block _ (by simp)).trans (Boxed.new W2 44 (.slice none 0 0))
  have hcb2 : SBox w' (W2.heap.size + 1) (B + 1) ⟨#[]⟩ ⟨#[]⟩ s back := by
    have := hcb
    rw [World.size_alloc] at this
    rw [hB]
    exact this
  have hst := stops_scan (n - 1) W2.heap.size B (B + 1) B clock (W2.heap.size + 1) E ⟨#[]⟩ ⟨#[]⟩ s back w' (H2.out.sto.below hbl0) (fun k hk => (H2.out.sto.foot hk).2) hbl0.size (by have := H2.out.len; omega) hcb2 (by omega)
  rw [← HL.out] at hst
  have bN3 : Boxed w' W.heap.size 5 (.int .u8 m) := (hbl0.block _ (by have := H2.out.bw; have := HBB.out; omega)).trans bN2
  have hWr : W.heap.size < W2.heap.size := by have := H2.out.bw; have := HBB.out; omega
  have HM := Lib.hid (show (m.toNat : Int) = m by omega)
  clear hcb hsz hbl hko hcb2 hN2 bN2
  refine wpIn_range_join 0 (fun D X => ∃ v, Boxed X W2.heap.size 44 v ∧ X.ownsRow (W2.heap.size + 6) 45 2 v q (prS (L.take q)) ∧ Below W2.heap.size w' X)
    hro h1 (gf := 51) (lb := #[.pointer (some ⟨W2.heap.size + 1, 0, none⟩), .pointer (some ⟨W2.heap.size + 1 + 1, 0, none⟩), .pointer (some ⟨W2.heap.size + 1 + 2, 0, none⟩), .pointer (some ⟨W2.heap.size + 1 + 4, 0, none⟩), .pointer (some ⟨W2.heap.size + 1 + 3, 0, none⟩)]) rfl trivial (enters_of Try.func51 (by kernel_rfl) rfl)
    hst (fun h k => h.t k) (kpS_b (by omega) (by omega)) (Below.refl _ _) (fun _ => rfl)
    (fun pre X => pre.length ≤ m.toNat ∧ (∃ v, Boxed X W2.heap.size 44 v ∧ X.ownsRow (W2.heap.size + 6) 45 2 v pre.length (prS pre) ∧ True) ∧ Below W2.heap.size w' X)
    (fun pre X => pre.length = m.toNat + 1 ∧ (∃ v, Boxed X W2.heap.size 44 v ∧ X.ownsRow (W2.heap.size + 6) 45 2 v pre.length (prS pre) ∧ True) ∧ Below W2.heap.size w' X)
    (OwnFrom.and (fun _ _ _ _ h _ _ => h) (OwnFrom.and (Own.from (holdsRow_own (β := List (Bs × Bs)) (W2.heap.size + 6) W2.heap.size 44 45 2 (fun pre => pre.length) prS (fun _ _ => True)) _) (ownFrom_below (by omega) (by omega))))
    (OwnFrom.and (fun _ _ _ _ h _ _ => h) (OwnFrom.and (Own.from (holdsRow_own (β := List (Bs × Bs)) (W2.heap.size + 6) W2.heap.size 44 45 2 (fun pre => pre.length) prS (fun _ _ => True)) _) (ownFrom_below (by omega) (by omega))))
    ⟨Nat.zero_le _, ⟨_, bO, World.ownsRow_nil _ _ _ _, trivial⟩, Below.refl _ _⟩
    (fun x a' X => a' = { tmps := #[.slice a N c, .int .i64 s, .int .u8 m, .bool back, undef, undef, .pointer (some ⟨W.heap.size, 0, none⟩), undef, .bool false, .pointer (some ⟨W.heap.size + 1 + 1, 0, none⟩), .bool true, .slice wa q wc, .pointer (some ⟨W2.heap.size, 0, none⟩), .string x.1, .string x.2, undef, .slice a N c, .int .i64 N, .bool false, undef, .tuple #[.pointer (some ⟨W.heap.size + 1 + 1, 0, none⟩), .bool true], .slice a N c, .tuple #[.pointer (some ⟨W.heap.size + 1 + 1, 0, none⟩), .bool true], .pointer (some ⟨W.heap.size + 1 + 1, 0, none⟩), .bool true, .bool true, .bool false, .pointer (some ⟨W.heap.size + 1 + 1, 0, none⟩), .int .i64 s, .bool back, .slice wa p wc, .slice wa p wc, .slice wa p wc, .int .i64 p, .int .u8 m, .int .i64 m, .int .i64 (m + 1), .int .i64 q, .slice wa q wc, .pointer (some ⟨W.heap.size + 1 + 1, 0, none⟩), .int .i64 s, .bool back, .func (.func 51) #[] #[.pointer (some ⟨W2.heap.size + 1, 0, none⟩), .pointer (some ⟨W2.heap.size + 1 + 1, 0, none⟩), .pointer (some ⟨W2.heap.size + 1 + 2, 0, none⟩), .pointer (some ⟨W2.heap.size + 1 + 4, 0, none⟩), .pointer (some ⟨W2.heap.size + 1 + 3, 0, none⟩)], .string x.1, .string x.2, undef, undef, undef, undef, undef, undef, undef, undef, undef, undef, undef, undef, undef, undef, undef, undef, undef, undef, undef, undef, undef, undef, undef, undef, undef, undef, undef, undef, undef, undef, undef, undef, undef, undef, undef, undef, undef], defers := [] })
    (fun x a' _ X X' row hs hg hr => hs) ?exit ?assign ?body ?done ?stop ?after
  case exit =>
    rintro c b X rfl hK
    refine wpIn_exit ?_
    simpa [Exit.inBlock] using hK
  case assign =>
    rintro l' pre ⟨k, u⟩ X K ⟨hle, ⟨v, hv, hrow, _⟩, hBl⟩ hK
    unfold encP
    gi_wp2
    exact hK _ _ ((KeepsOthers.refl X).from _) (KpS.below (Below.refl _ X) (by have := hBl.size; omega)) ⟨hle, ⟨v, hv, hrow, trivial⟩, hBl⟩ rfl
  case body =>
    rintro l' pre ⟨k, u⟩ a' X hl' _ ⟨hle, ⟨v, hv, hrow, _⟩, hBl⟩ rfl hlt
    have hc := hv.cell
    have bN4 : Boxed X W.heap.size 5 (.int .u8 m) := (hBl.block _ hWr).trans bN3
    have hl63 : pre.length ≤ 100000 := by omega
    obtain ⟨va, vc, rfl⟩ : ∃ a c, v = .slice a pre.length c := by
      rcases hrow.2 with ⟨rfl, h0⟩ | ⟨g, cap, cur, rfl, _⟩
      · exact ⟨none, 0, by rw [h0]⟩
      · exact ⟨_, _, rfl⟩
    have hrow0 := own_base hrow (show W2.heap.size ≤ W2.heap.size + 6 by omega)
    have HMM := HM.out
    by_cases hend : pre.length = m.toNat
    · have hgt : decide (m < ((pre.length : Int) + 1)) = true := decide_eq_true (by omega)
      have HEND := Lib.hid hend
      clear hend HMM
      gi_wp2_with (gi_at_builtin; refine wpListIn_append_own _ rfl _ _ 44 rfl (W2.heap.size + 6) 45 i0 (.agg #[.string ⟨#[]⟩, .string ⟨#[]⟩]) 2 32 Try.underlying44 hi0 hz0 hz1 hz2 rfl (by decide) _ _ _ rfl (World.ownsRow.alloc hrow _) ⟨X.heap.size, 0, none⟩ 1 1 [.string k, .string u] rfl rfl (two_cells_new _ _ _ _) (by simp [Value.oneCell']) (by unfold maxLen; omega) (by omega) (by have := hBl.size; simp; omega) ?_; intro v' w1 hown' hgrow _; obtain ⟨g', cap', rfl⟩ := ownsRow_succ hown'; obtain ⟨hv1, hv2, hr2, hk2, hb2⟩ := hv.appended (by decide) hrow0 (by have := hBl.size; omega) (Nat.le_refl _) (own_base hown' (show W2.heap.size ≤ W2.heap.size + 6 by omega)) hgrow; have hc1 := hv1.cell; have hf1 := hv1.frozen; have hcn := (((bN4.alloc (.cells #[.string k, .string u] 45)).kept hgrow (bN4.not_row (by decide) (own_base hrow (Nat.zero_le _)))).other (B' := W2.heap.size) (Nat.ne_of_lt hWr) (.slice (some ⟨g', 0, none⟩) (pre.length + 1) cap')).cell)
      refine ⟨hk2.from _, rfl, by rw [List.length_append, HEND.out]; rfl, ⟨_, hv2, ?_, trivial⟩, hBl.trans hb2⟩
      rw [prS_snoc, List.length_append]
      exact hown'.kept (grownBy_setCell' w1 W2.heap.size _) (.inr (hv1.not_row (by decide) hown').symm)
    · have hgt : decide (m < ((pre.length : Int) + 1)) = false := decide_eq_false (by omega)
      have HEND := Lib.hid hend
      clear hend HMM
      gi_wp2_with (gi_at_builtin; refine wpListIn_append_own _ rfl _ _ 44 rfl (W2.heap.size + 6) 45 i0 (.agg #[.string ⟨#[]⟩, .string ⟨#[]⟩]) 2 32 Try.underlying44 hi0 hz0 hz1 hz2 rfl (by decide) _ _ _ rfl (World.ownsRow.alloc hrow _) ⟨X.heap.size, 0, none⟩ 1 1 [.string k, .string u] rfl rfl (two_cells_new _ _ _ _) (by simp [Value.oneCell']) (by unfold maxLen; omega) (by omega) (by have := hBl.size; simp; omega) ?_; intro v' w1 hown' hgrow _; obtain ⟨g', cap', rfl⟩ := ownsRow_succ hown'; obtain ⟨hv1, hv2, hr2, hk2, hb2⟩ := hv.appended (by decide) hrow0 (by have := hBl.size; omega) (Nat.le_refl _) (own_base hown' (show W2.heap.size ≤ W2.heap.size + 6 by omega)) hgrow; have hc1 := hv1.cell; have hf1 := hv1.frozen; have hcn := (((bN4.alloc (.cells #[.string k, .string u] 45)).kept hgrow (bN4.not_row (by decide) (own_base hrow (Nat.zero_le _)))).other (B' := W2.heap.size) (Nat.ne_of_lt hWr) (.slice (some ⟨g', 0, none⟩) (pre.length + 1) cap')).cell)
      have hkp := kps_app (n₀ := W2.heap.size) (b := W2.heap.size + 1) (c := W2.heap.size + 6) (u := .slice (some ⟨g', 0, none⟩) (pre.length + 1) cap') hv hrow hgrow (by omega) (by decide) (by decide) (Nat.le_refl _) (by omega)
      refine ⟨hk2.from _, hkp, by rw [List.length_append]; have := HEND.out; show pre.length + 1 ≤ _; omega, ⟨_, hv2, ?_, trivial⟩, hBl.trans hb2⟩
      rw [prS_snoc, List.length_append]
      exact hown'.kept (grownBy_setCell' w1 W2.heap.size _) (.inr (hv1.not_row (by decide) hown').symm)
  case done =>
    rintro D ys X hD rfl ⟨hle, ⟨v, hv, hrow, _⟩, hBl⟩ hK
    have hqq : q = ys.length := by rw [HQ.out, HP.out]; omega
    refine ⟨v, hv, ?_, hBl⟩
    rw [hqq, List.take_length]
    exact hrow
  case stop =>
    rintro D pre X hD ⟨t, ht⟩ ⟨hlen, ⟨v, hv, hrow, _⟩, hBl⟩ hK
    have hqq : q = pre.length := by rw [HQ.out, HP.out, ← ht, List.length_append]; omega
    have hpre : L.take q = pre := by rw [← ht, hqq, List.take_left]
    refine ⟨v, hv, ?_, hBl⟩
    rw [hpre, hqq]
    exact hrow
  case after =>
    rintro D X hD hK ⟨v, hv, hrow, hBl⟩
    have H4 := Lib.hid (H2.out.below (hbl0.trans hBl))
    have HR4 := Lib.hid (HR2.out.below (hbl0.trans hBl))
    have bN4 : Boxed X W.heap.size 5 (.int .u8 m) := (hBl.block _ hWr).trans bN3
    have hWX : W2.heap.size < X.heap.size := hv.lt
    clear hst bN3
    gi_wp2_with (gi_at_call 37; refine (all_in (n - 1) _ _).mono ?_; rintro e w2 ⟨rfl, hcb, hsz, hbl, hko⟩)
    rw [World.size_alloc] at hcb hsz
    have hsz3 : w2.heap.size = X.heap.size + 2 := by omega
    have hblX : Below X.heap.size X w2 := ((Below.refl _ X).alloc (Nat.le_refl _) _).trans (hbl.mono (by simp))
    have bM0 : Boxed w2 X.heap.size 3 (.int .i64 0) := (hbl.block _ (by simp)).trans (Boxed.new X 3 (.int .i64 0))
    have hcb3 : w2.cell? ⟨X.heap.size + 1, 0, none⟩ = some (.pointer (some ⟨B + 1, 0, none⟩)) := by rw [hB]; exact hcb
    have hst2 := stops_all (n - 1) X.heap.size B (B + 1) B clock (X.heap.size + 1) E w2 (H4.out.sto.below hblX) (fun k hk => (H4.out.sto.foot hk).2) hblX.size (by have := H4.out.len; omega) hcb3 (by omega)
    obtain ⟨A, hA⟩ : ∃ A, A = allK E (ordE E) := ⟨_, rfl⟩
    rw [← hA] at hst2
    have HA := Lib.hid hA
    have HAN := Lib.hid (show A.length ≤ 60 by have := total_vw H4.out.sto.gd; have e : A = vw E := hA; rw [e]; have := H4.out.tot; omega)
    have bN5 : Boxed w2 W.heap.size 5 (.int .u8 m) := (hblX.block _ (by omega)).trans bN4
    clear hA hcb hsz hbl hko hcb3
    obtain ⟨z, hz⟩ : ∃ z, z = min A.length (m.toNat + 1) := ⟨_, rfl⟩
    have HZ := Lib.hid hz
    clear hz
    refine wpIn_range_join 2 (fun D2 Y => Boxed Y X.heap.size 3 (.int .i64 z) ∧ Below X.heap.size w2 Y)
      hro h1 (gf := 54) (lb := #[.pointer (some ⟨X.heap.size + 1, 0, none⟩)]) rfl trivial (enters_of Try.func54 (by kernel_rfl) rfl)
      hst2 (fun h k => h.t k) (kpS_b (by omega) (by omega)) (Below.refl _ _) (fun _ => rfl)
      (fun pre Y => pre.length ≤ m.toNat ∧ Boxed Y X.heap.size 3 (.int .i64 pre.length) ∧ Below X.heap.size w2 Y)
      (fun pre Y => pre.length = m.toNat + 1 ∧ Boxed Y X.heap.size 3 (.int .i64 pre.length) ∧ Below X.heap.size w2 Y)
      (OwnFrom.and (fun _ _ _ _ h _ _ => h) (OwnFrom.and (Own.from (boxed_own (β := List (Bs × Ver)) X.heap.size 3 (fun pre => .int .i64 pre.length)) _) (ownFrom_below (by omega) (by omega))))
      (OwnFrom.and (fun _ _ _ _ h _ _ => h) (OwnFrom.and (Own.from (boxed_own (β := List (Bs × Ver)) X.heap.size 3 (fun pre => .int .i64 pre.length)) _) (ownFrom_below (by omega) (by omega))))
      ⟨Nat.zero_le _, bM0, Below.refl _ _⟩
      (fun x a' Y => a' = { tmps := #[.slice a N c, .int .i64 s, .int .u8 m, .bool back, undef, undef, .pointer (some ⟨W.heap.size, 0, none⟩), undef, .bool false, .pointer (some ⟨W.heap.size + 1 + 1, 0, none⟩), .bool true, .slice wa q wc, .pointer (some ⟨W2.heap.size, 0, none⟩), undef, undef, .pointer (some ⟨X.heap.size, 0, none⟩), .slice a N c, .int .i64 N, .bool false, undef, .tuple #[.pointer (some ⟨W.heap.size + 1 + 1, 0, none⟩), .bool true], .slice a N c, .tuple #[.pointer (some ⟨W.heap.size + 1 + 1, 0, none⟩), .bool true], .pointer (some ⟨W.heap.size + 1 + 1, 0, none⟩), .bool true, .bool true, .bool false, .pointer (some ⟨W.heap.size + 1 + 1, 0, none⟩), .int .i64 s, .bool back, .slice wa p wc, .slice wa p wc, .slice wa p wc, .int .i64 p, .int .u8 m, .int .i64 m, .int .i64 (m + 1), .int .i64 q, .slice wa q wc, .pointer (some ⟨W.heap.size + 1 + 1, 0, none⟩), .int .i64 s, .bool back, .func (.func 51) #[] #[.pointer (some ⟨W2.heap.size + 1, 0, none⟩), .pointer (some ⟨W2.heap.size + 1 + 1, 0, none⟩), .pointer (some ⟨W2.heap.size + 1 + 2, 0, none⟩), .pointer (some ⟨W2.heap.size + 1 + 4, 0, none⟩), .pointer (some ⟨W2.heap.size + 1 + 3, 0, none⟩)], undef, undef, undef, undef, undef, undef, undef, undef, undef, undef, undef, undef, undef, .pointer (some ⟨W.heap.size + 1 + 1, 0, none⟩), .func (.func 54) #[] #[.pointer (some ⟨X.heap.size + 1, 0, none⟩)], .string x.1, .agg #[.int .i64 x.2.1, .string x.2.2.1, .bool x.2.2.2], undef, undef, undef, undef, undef, undef, undef, undef, undef, undef, undef, undef, undef, undef, undef, undef, undef, undef, undef, undef, undef, undef], defers := [] })
      (fun x a' _ Y Y' row hs hg hr => hs) ?exit2 ?assign2 ?body2 ?done2 ?stop2 ?after2
    case exit2 =>
      rintro c b Y rfl hK
      refine wpIn_exit ?_
      simpa [Exit.inBlock] using hK
    case assign2 =>
      rintro l' pre ⟨k, u1, u2, u3⟩ Y K ⟨hle, hv2, hBl2⟩ hK
      unfold encA
      gi_wp2
      exact hK _ _ ((KeepsOthers.refl Y).from _) (KpS.below (Below.refl _ Y) (by have := hBl2.size; omega)) ⟨hle, hv2, hBl2⟩ rfl
    case body2 =>
      rintro l' pre ⟨k, u1, u2, u3⟩ a' Y hl' _ ⟨hle, hv2, hBl2⟩ rfl hlt
      have hc := hv2.cell
      have hf := hv2.frozen
      have bN6 : Boxed Y W.heap.size 5 (.int .u8 m) := (hBl2.block _ (by omega)).trans bN5
      have hw3 : IntKind.i64.wrap ((pre.length : Int) + 1) = (pre.length : Int) + 1 := by rw [IntKind.wrap_i64]; have := HAN.out; omega
      have hs1 := hv2.set (.int .i64 ((pre.length : Int) + 1))
      have hc1 := hs1.cell
      have hc2 := (bN6.other (B' := X.heap.size) (by omega) (.int .i64 ((pre.length : Int) + 1))).cell
      have hlen : ((pre ++ [(k, u1, u2, u3)]).length : Int) = (pre.length : Int) + 1 := by rw [List.length_append]; rfl
      have HMM := HM.out
      have hkp := kps_set (n₀ := X.heap.size) (b := X.heap.size + 1) (c := X.heap.size + 1 + 1) (.int .i64 ((pre.length : Int) + 1)) hv2 (by decide) (by omega) (Nat.le_refl _)
      by_cases hend : pre.length = m.toNat
      · have hgt : decide (m < (pre.length : Int) + 1) = true := decide_eq_true (by omega)
        have HEND := Lib.hid hend
        have HLE := Lib.hid hlen
        clear hend HMM hlen
        gi_wp2
        refine ⟨(KeepsOthers.setCell _ _ _).from _, rfl, by rw [List.length_append, HEND.out]; rfl, by rw [HLE.out]; exact hs1, hBl2.trans hkp.1⟩
      · have hgt : decide (m < (pre.length : Int) + 1) = false := decide_eq_false (by omega)
        have HEND := Lib.hid (show pre.length + 1 ≤ m.toNat by omega)
        have HLE := Lib.hid hlen
        clear hend HMM hlen
        gi_wp2
        refine ⟨(KeepsOthers.setCell _ _ _).from _, hkp, by rw [List.length_append]; exact HEND.out, by rw [HLE.out]; exact hs1, hBl2.trans hkp.1⟩
    case done2 =>
      rintro D2 ys Y hD2 rfl ⟨hle, hv2, hBl2⟩ hK2
      have e : z = ys.length := by rw [HZ.out]; omega
      rw [e]
      exact ⟨hv2, hBl2⟩
    case stop2 =>
      rintro D2 pre Y hD2 ⟨t, ht⟩ ⟨hlen, hv2, hBl2⟩ hK2
      have e : z = pre.length := by rw [HZ.out, ← ht, List.length_append]; omega
      rw [e]
      exact ⟨hv2, hBl2⟩
    case after2 =>
      rintro D2 Y hD2 hK2 ⟨hv2, hBl2⟩
      have hb24 : Below X.heap.size X Y := hblX.trans hBl2
      have hlq : (L.take q).length = q := by rw [List.length_take, ← HP.out]; omega
      obtain ⟨FF, hFF⟩ : ∃ FF : World → Prop, FF = fun Z => Wk B (B + 1) B E clock (runA noA l) N (W.alloc (.cells #[.int .u8 m] 5)) Z ∧ RowS Z v (L.take q) ∧ RowS Z (.slice wa q wc) (L.take q) ∧ Below W.heap.size W Z ∧ Boxed Z X.heap.size 3 (.int .i64 z) ∧ Boxed Z W.heap.size 5 (.int .u8 m) ∧ Boxed Z W2.heap.size 44 v ∧ Z.heap[D]? = some (.deferred (some [])) ∧ Z.heap[D2]? = some (.deferred (some [])) := ⟨_, rfl⟩
      have hFY : FF Y := by
        rw [hFF]
        refine ⟨H4.out.below hb24, (rowS_of (by rw [hlq]; exact hrow)).below hb24, ((HP.out ▸ HR4.out.below hb24 : RowS Y (.slice wa L.length wc) L)).take q (by rw [← HP.out]; exact hqp), ?_, hv2, ?_, ?_, ?_, hK2⟩
        · have g1 : Below W2.heap.size W2 Y := hbl0.trans (hBl.trans (hb24.mono (Nat.le_of_lt hWX)))
          have g2 : Below B (W.alloc (.cells #[.int .u8 m] 5)) Y := H2.out.low.trans (g1.mono H2.out.bw)
          exact ((Below.refl _ W).alloc (Nat.le_refl _) (.cells #[.int .u8 m] 5)).trans (g2.mono (by omega))
        · exact (hb24.block _ (by omega)).trans bN4
        · exact (hb24.block _ hWX).trans hv
        · exact (hb24.block _ (Array.getElem?_eq_some_iff.1 hK).1).trans hK
      have hnx : ∀ Z Z', FF Z → Below Z.heap.size Z Z' → FF Z' := by
        rw [hFF]
        rintro Z Z' ⟨f1, f2, f3, f4, f5, f6, f7, f8, f9⟩ hb
        exact ⟨f1.below hb, f2.below hb, f3.below hb, f4.trans (hb.mono f4.size), (hb.block _ f5.lt).trans f5, (hb.block _ f6.lt).trans f6, (hb.block _ f7.lt).trans f7, (hb.block _ (Array.getElem?_eq_some_iff.1 f8).1).trans f8, (hb.block _ (Array.getElem?_eq_some_iff.1 f9).1).trans f9⟩
      have hcs : ∀ Z, FF Z → Z.cell? ⟨X.heap.size, 0, none⟩ = some (.int .i64 z) ∧ Z.cell? ⟨W.heap.size, 0, none⟩ = some (.int .u8 m) ∧ Z.cell? ⟨W2.heap.size, 0, none⟩ = some v := by
        rw [hFF]
        rintro Z ⟨f1, f2, f3, f4, f5, f6, f7, f8, f9⟩
        exact ⟨f5.cell, f6.cell, f7.cell⟩
      have HEQ := Lib.hid (show ∀ Z, FF Z → RowS Z v (L.take q) ∧ RowS Z (.slice wa q wc) (L.take q) from by rw [hFF]; rintro Z ⟨f1, f2, f3, f4, f5, f6, f7, f8, f9⟩; exact ⟨f2, f3⟩)
      have HWK := Lib.hid (show ∀ Z, FF Z → Wk (W.heap.size + 1) (W.heap.size + 1 + 1) (W.heap.size + 1) E clock (runA noA l) N (W.alloc (.cells #[.int .u8 m] 5)) Z ∧ Below W.heap.size W Z ∧ Z.heap[D]? = some (.deferred (some [])) ∧ Z.heap[D2]? = some (.deferred (some [])) from by rw [hFF]; rintro Z ⟨f1, f2, f3, f4, f5, f6, f7, f8, f9⟩; exact ⟨hB ▸ f1, f4, f8, f9⟩)
      have hDD : D < D2 := by have := (Array.getElem?_eq_some_iff.1 hK).1; have := hblX.size; omega
      have hWD : W.heap.size ≤ D := by have := hbl0.size; omega
      obtain ⟨y, hy⟩ : ∃ y, y = total E := ⟨_, rfl⟩
      have HY := Lib.hid hy
      have hmy : min (y : Int) (m + 1) = (z : Int) := by
        have e : A.length = y := by rw [hy, total_vw H4.out.sto.gd, HA.out]; rfl
        have := HZ.out
        omega
      have hyN : y ≤ 60 := by rw [hy]; have := H4.out.tot; omega
      clear hFF hy hst2 H4 HR4 bN4 bN5 hv hrow hv2
      gi_wp2_with fail
      refine wpIn_wide.2 ?_
      refine wp_named FF hFY ?_
      clear hFY
      rintro Z hFZ
      have hFD : FF Z.drew := hnx Z _ hFZ ((Below.refl _ _).drew)
      obtain ⟨hcm, hcn, hcg⟩ := hcs Z.drew hFD
      go_region_held3 (fun Z => Z.cell? ⟨X.heap.size, 0, none⟩ = some (.int .i64 z) ∧ Z.cell? ⟨W.heap.size, 0, none⟩ = some (.int .u8 m) ∧ Z.cell? ⟨W2.heap.size, 0, none⟩ = some v ∧ FF Z) (refine ⟨?_, ?_, ?_, ?_⟩ <;> assumption) (first
        | (go_at_call 20; refine (equalS_any _ _ _ _ _ (HEQ.out _ (by assumption)).1 (HEQ.out _ (by assumption)).2).mono ?_; rintro e w1 ⟨he, hb⟩; rw [decide_eq_true rfl] at he; subst he; have hF1 := hnx _ _ (by assumption) hb; obtain ⟨hcm1, hcn1, hcg1⟩ := hcs w1 hF1)
        | (go_at_call 30; refine ((HWK.out _ (by assumption)).1.versions (by omega)).mono ?_; rintro e w1 ⟨he, hb⟩; rw [← HY.out] at he; subst he; have hF1 := hnx _ _ (by assumption) hb; obtain ⟨hcm1, hcn1, hcg1⟩ := hcs w1 hF1)
        | (go_at_call 9; refine (awake_any _).mono ?_; rintro e w1 ⟨rfl, hb⟩; have hF1 := hnx _ _ (by assumption) hb; obtain ⟨hcm1, hcn1, hcg1⟩ := hcs w1 hF1))
      obtain ⟨_, g1, g2, g3⟩ := HWK.out w1 (by assumption)
      clear hnx hcs HEQ HWK
      gi_wp2_with fail
      have g4 : (w1.putObj D2 (.deferred none)).heap[D]? = some (.deferred (some [])) := (World.putObj_heap_other (by omega)).trans g2
      refine ⟨by simp, .inl ⟨_, _, rfl, run_takeDeferred g3, ⟨by simp, .inl ⟨_, _, rfl, run_takeDeferred g4, ?_⟩⟩⟩⟩
      exact ⟨_, results_tmp rfl _ _ _, rfl, (g1.trans (belowK_b (w := W) (Nat.le_refl _) w1 D2 _ _ (by omega) g3 rfl rfl)).trans (belowK_b (w := W) (Nat.le_refl _) _ D _ _ (by omega) g4 rfl rfl)⟩
set_option maxRecDepth 100000 in
set_option maxHeartbeats 1600000 in
theorem law_stop (v : Value) (l : List Opv) (s m : Int) (back : Bool) (W : World) (h : OpsArg W v l) (hm0 : 0 ≤ m) (hm1 : m ≤ 255) :
    Calls Try.prog 6 #[v, .int .i64 s, .int .u8 m, .bool back] W (AwakeOut W) := by
  by_cases h60 : 60 < l.length
  · obtain ⟨a, c, rfl, h'⟩ := h
    go_enter Try.func6, Try.ntmps6
    go_wp2_with fail
    refine (awake_any _).mono ?_
    rintro e W9 ⟨rfl, hb⟩
    have HB9 := Lib.hid (((Below.refl _ W).alloc (Nat.le_refl _) (.cells #[.int .u8 m] 5)).trans (hb.mono (by simp)))
    clear hb
    go_wp2_with fail
    go_ret
    exact ⟨rfl, HB9.out⟩
  · exact callsIn_wide.1 (law_stop_in 1 (Nat.le_refl _) v l s m back W h hm0 hm1 h60)
end Go.Proofs.Ytaecppkkbdbdbaa
