/- Btree: the law Orders. -/
import Derived.Test.YtegljepgncicjaaBu30
namespace Go.Proofs.Ytegljepgncicjaa
open Go.ChangeShapes Go.WideShapes Go.ChangeAt Go.RowKit Go.Deep Go.Shelf
set_option linter.unusedVariables false
set_option linter.unusedSimpArgs false
set_option maxRecDepth 100000 in
set_option maxHeartbeats 1600000 in
theorem orders_e1 (o : Int) (ka : Option Addr) (kl kc : Nat) (w : World) (h : o < 4) :
    Calls Try.prog 6 #[.int .i64 o, .slice ka kl kc] w (LawOut w) := by
  have HB := Lib.hid (Below.refl w.heap.size w)
  have d1 : decide (o < 4) = true := decide_eq_true h
  go_enter Try.func6, Try.ntmps6
  go_wp2_with fail
  refine (awake_any _).mono ?_
  rintro e w1 ⟨rfl, hb⟩
  have HB2 := Lib.hid (HB.out.trans (hb.mono HB.out.size))
  clear hb
  go_wp2_with fail
  go_ret
  exact ⟨rfl, HB2.out⟩
set_option maxRecDepth 100000 in
set_option maxHeartbeats 1600000 in
theorem orders_e2 (o : Int) (ka : Option Addr) (kl kc : Nat) (w : World) (h : 256 < o) :
    Calls Try.prog 6 #[.int .i64 o, .slice ka kl kc] w (LawOut w) := by
  have HB := Lib.hid (Below.refl w.heap.size w)
  have d1 : decide (o < 4) = false := decide_eq_false (by omega)
  have d2 : decide (256 < o) = true := decide_eq_true h
  go_enter Try.func6, Try.ntmps6
  go_wp2_with fail
  refine (awake_any _).mono ?_
  rintro e w1 ⟨rfl, hb⟩
  have HB2 := Lib.hid (HB.out.trans (hb.mono HB.out.size))
  clear hb
  go_wp2_with fail
  go_ret
  exact ⟨rfl, HB2.out⟩
set_option maxRecDepth 100000 in
set_option maxHeartbeats 1600000 in
theorem orders_e3 (o : Int) (ka : Option Addr) (kl kc : Nat) (w : World) (h1 : 4 ≤ o) (h2 : o ≤ 256) (h : 300 < kl) :
    Calls Try.prog 6 #[.int .i64 o, .slice ka kl kc] w (LawOut w) := by
  have HB := Lib.hid (Below.refl w.heap.size w)
  have d1 : decide (o < 4) = false := decide_eq_false (by omega)
  have d2 : decide (256 < o) = false := decide_eq_false (by omega)
  have d3 : decide ((300 : Int) < (kl : Int)) = true := decide_eq_true (by omega)
  go_enter Try.func6, Try.ntmps6
  go_wp2_with fail
  refine (awake_any _).mono ?_
  rintro e w1 ⟨rfl, hb⟩
  have HB2 := Lib.hid (HB.out.trans (hb.mono HB.out.size))
  clear hb
  go_wp2_with fail
  go_ret
  exact ⟨rfl, HB2.out⟩
/-- the pairs after n steps -/
def ordL (ks : List Bs) : Nat → List Pr
  | 0 => []
  | i + 1 => putL (ordL ks i) (sx ks i) (sx ks i ++ ⟨#[118]⟩)
theorem ordL_len (ks : List Bs) : ∀ n, (ordL ks n).length ≤ n
  | 0 => by simp [ordL]
  | n + 1 => by
    have := ordL_len ks n
    have := putL_len1 (ordL ks n) (sx ks n) (sx ks n ++ ⟨#[118]⟩)
    unfold ordL
    omega
theorem ordL_val (ks : List Bs) : ∀ n, ∀ x ∈ ordL ks n, x.2 = x.1 ++ ⟨#[118]⟩
  | 0, x, h => by simp [ordL] at h
  | n + 1, x, h => by
    unfold ordL at h
    rcases putL_mem h with h | h
    · exact ordL_val ks n x h
    · rw [h]
theorem ordL_sz (ks : List Bs) (hsz : ∀ j, j < ks.length → (sx ks j).size ≤ 140737488351232) : ∀ n, n ≤ ks.length → ∀ x ∈ ordL ks n, x.1.size ≤ 140737488351232
  | 0, _, x, h => by simp [ordL] at h
  | n + 1, hn, x, h => by
    unfold ordL at h
    rcases putL_mem h with h | h
    · exact ordL_sz ks hsz n (by omega) x h
    · rw [h]; exact hsz n (by omega)
theorem scan_all (L : List Pr) : scanL ⟨#[]⟩ ⟨#[]⟩ false L = L := by
  have e : ByteArray.toList ⟨#[]⟩ = [] := by rw [ByteArray.toList_eq]
  have e2 : ∀ x : List UInt8, Op.bytesLess x [] = false := fun x => by cases x <;> rfl
  show L.filter _ = L
  refine List.filter_eq_self.2 fun x _ => ?_
  simp [inU, lB, bdOf, e, e2]
theorem scan_back (L : List Pr) : scanL ⟨#[]⟩ ⟨#[]⟩ true L = L.reverse := by
  have e : ByteArray.toList ⟨#[]⟩ = [] := by rw [ByteArray.toList_eq]
  have e2 : ∀ x : List UInt8, Op.bytesLess x [] = false := fun x => by cases x <;> rfl
  show L.reverse.filter _ = L.reverse
  refine List.filter_eq_self.2 fun x _ => ?_
  simp [inU, lB, bdOf, e, e2]
theorem rev_at (L : List Pr) (k : Nat) (h : k < L.length) : L.reverse[L.length - 1 - k]'(by rw [List.length_reverse]; omega) = L[k] := by
  rw [List.getElem_reverse]
  congr 1
  omega
theorem srt_get {L : List Pr} (h : Srt L) (k : Nat) (hk : k < L.length) : getL L L[k].1 = some L[k].2 := by
  have e : L = L.take k ++ (L[k].1, L[k].2) :: L.drop (k + 1) := by
    conv => lhs; rw [← List.take_append_drop k L, List.drop_eq_getElem_cons hk]
  conv => lhs; arg 1; rw [e]
  exact getL_mid (by rw [← e]; exact h)
theorem srt_lt {L : List Pr} (h : Srt L) (k : Nat) (hk : k + 1 < L.length) : lB L[k].1 L[k + 1].1 = true := List.pairwise_iff_getElem.1 h k (k + 1) (by omega) hk (by omega)
theorem Tr.srt {W : World} {T o : Nat} {L : List Pr} {Y : Nat → Prop} (h : Tr W T o L Y) : Srt L := by
  obtain ⟨_, _, _, _, h⟩ := h
  exact h.srt
/-- a tree -/
structure TW1 (w0 : World) (T o : Nat) (L : List Pr) (W : World) : Prop where
  tr : ∃ Y, Tr W T o L Y ∧ ∀ k, Y k → w0.heap.size ≤ k
  b : Below w0.heap.size w0 W
theorem TW1.below {w0 W W1 : World} {T o : Nat} {L : List Pr} (h : TW1 w0 T o L W) (hb : Below W.heap.size W W1) : TW1 w0 T o L W1 := by
  obtain ⟨Y, h1, h2⟩ := h.tr
  exact ⟨⟨Y, h1.below hb, h2⟩, h.b.trans (hb.mono h.b.size)⟩
theorem TW1.drew {w0 W : World} {T o : Nat} {L : List Pr} (h : TW1 w0 T o L W) : TW1 w0 T o L W.drew := h.below ⟨rfl, rfl, rfl, Nat.le_refl _, fun _ _ => rfl⟩
theorem TW1.drewN {w0 W : World} {T o : Nat} {L : List Pr} (h : TW1 w0 T o L W) (q : Nat) : TW1 w0 T o L (W.drewN q) := h.below ⟨rfl, rfl, rfl, Nat.le_refl _, fun _ _ => rfl⟩
theorem TW1.put {w0 W : World} {T o : Nat} {L : List Pr} (h : TW1 w0 T o L W) (hl : L.length ≤ 5000) (key val : Bs) :
    Calls Try.prog 20 #[.pointer (some ⟨T, 0, none⟩), .string key, .string val] W fun e W' => e = .returned (.bool (getL L key).isNone) ∧ TW1 w0 T o (putL L key val) W' := by
  obtain ⟨Y, h1, h2⟩ := h.tr
  refine (Put_T W T o L Y key val h1 hl).mono ?_
  rintro e W1 ⟨rfl, ht, hk⟩
  refine ⟨rfl, ⟨_, ht, fun k hy => ?_⟩, h.b.trans (hk.below h.b.size h2)⟩
  rcases hy with hy | hy
  · exact h2 k hy
  · have := h.b.size; omega
theorem tw1_new (o : Nat) (h4 : 4 ≤ o) (h6 : o ≤ 256) (W : World) : TW1 W W.heap.size o [] (W.alloc (.cells #[.int .i64 o, .int .i64 0, .pointer none] 68)) :=
  ⟨⟨_, tr_new o h4 h6 W, fun k hk => by omega⟩, (Below.refl _ W).alloc (Nat.le_refl _) _⟩
set_option maxRecDepth 100000 in
set_option maxHeartbeats 3200000 in
theorem orders_go (o : Nat) (h4 : 4 ≤ o) (h6 : o ≤ 256) (ka : Option Addr) (kc : Nat) (ks : List Bs) (w : World) (hk : KeysArg w (.slice ka ks.length kc) ks) (hl : ks.length ≤ 300) (hsz : ∀ j, j < ks.length → (sx ks j).size ≤ 140737488351232) :
    Calls Try.prog 6 #[.int .i64 o, .slice ka ks.length kc] w (LawOut w) := by
  have HK := Lib.hid (show ∀ w' : World, Below w.heap.size w w' → 0 < ks.length → ∃ B o, ka = some ⟨B, o, none⟩ ∧ B < w.heap.size ∧ ∀ j, j < ks.length → w'.cell? ⟨B, o + j, none⟩ = some (.string (sx ks j)) from fun w' hb h0 => by
    obtain ⟨a', c', he, h⟩ := hk
    cases he
    obtain ⟨B, o, h1, h2, h3⟩ := h h0
    exact ⟨B, o, h1, h2, fun j hj => (hb.cell (p := ⟨B, o + j, none⟩) h2).trans (h3 j hj)⟩)
  have d1 : decide ((o : Int) < 4) = false := decide_eq_false (by omega)
  have d2 : decide ((256 : Int) < (o : Int)) = false := decide_eq_false (by omega)
  have d3 : decide ((300 : Int) < (ks.length : Int)) = false := decide_eq_false (by omega)
  have HSZ := Lib.hid hsz
  clear hk hsz
  go_enter Try.func6, Try.ntmps6
  go_wp2_with fail
  clear d1 d2 d3
  refine (New_ok o h4 h6 _).mono ?_
  rintro e w1 ⟨rfl, hw⟩
  obtain rfl := hw.symm
  have HT := Lib.hid (tw1_new o h4 h6 w)
  generalize w.alloc _ = W1 at HT ⊢
  obtain ⟨T, hT⟩ : ∃ T, T = w.heap.size := ⟨_, rfl⟩
  rw [← hT] at HT ⊢
  clear hT
  go_wp2_with fail
  go_loopw [7] (fun i wr => ∃ k : Nat, k ≤ ks.length ∧ i = .int .i64 k ∧ TW1 w T o (ordL ks k) wr) (fun i _ => ks.length - (intOf i).toNat)
  case atStart => exact ⟨0, Nat.zero_le _, rfl, HT.out⟩
  case round =>
    clear HT
    obtain ⟨k, hk, rfl, htw⟩ := hrel
    have HT := Lib.hid htw
    clear htw
    have HLn := Lib.hid (ordL_len ks k)
    by_cases hlt : k < ks.length
    · obtain ⟨B, bo, rfl, hBl, hcell⟩ := HK.out wr HT.out.b (by omega)
      have a0 := hcell k hlt
      have HST : Hid (ordL ks (k + 1) = putL (ordL ks k) (sx ks k) (sx ks k ++ ⟨#[118]⟩)) := Lib.hid rfl
      have hx9 : (sx ks k).size + 1 ≤ 9223372036854775807 := by have := HSZ.out k hlt; omega
      have hx8 : ¬ (9223372036854775807 < (sx ks k).size + 1) := by omega
      clear hcell hBl HSZ
      generalize sx ks k = x at *
      go_wp2_with fail
      refine wp_region_ordW 11 10 [(0, 0), (1, 0), (2, 0), (3, 0), (4, 1), (5, 0), (6, 0), (7, 0), (8, 1), (9, 0), (10, 3)] (fun X => X.cell? ⟨B, bo + k, none⟩ = some (.string x)) (by kernel_rfl) (by kernel_rfl) a0 (fun c a d v w h => by cases d <;> exact h) ?_
      apply wpOrd_read0
      case hi => rfl
      case hw => rfl
      case hy => (intro w; go_simp; try rfl)
      intro K hK; go_simp; refine hK _ _ ?_; clear hK K
      apply wpOrd_read0
      case hi => rfl
      case hw => rfl
      case hy => (intro w; go_simp; try rfl)
      intro K hK; go_simp; refine hK _ _ ?_; clear hK K
      apply wpOrd_read0
      case hi => rfl
      case hw => rfl
      case hy => (intro w; go_simp; try rfl)
      intro K hK; go_simp; refine hK _ _ ?_; clear hK K
      apply wpOrd_read0
      case hi => rfl
      case hw => rfl
      case hy => (intro w; go_simp; try rfl)
      intro K hK; go_simp; refine hK _ _ ?_; clear hK K
      apply wpOrd_read1
      case hi => rfl
      case hw => rfl
      case hy => (intro w hw; obtain h1 := hw; go_simp; try rfl)
      intro K hK; go_simp; refine hK _ _ ?_; clear hK K
      apply wpOrd_read0
      case hi => rfl
      case hw => rfl
      case hy => (intro w; go_simp; try rfl)
      intro K hK; go_simp; refine hK _ _ ?_; clear hK K
      apply wpOrd_read0
      case hi => rfl
      case hw => rfl
      case hy => (intro w; go_simp; try rfl)
      intro K hK; go_simp; refine hK _ _ ?_; clear hK K
      apply wpOrd_read0
      case hi => rfl
      case hw => rfl
      case hy => (intro w; go_simp; try rfl)
      intro K hK; go_simp; refine hK _ _ ?_; clear hK K
      apply wpOrd_read1
      case hi => rfl
      case hw => rfl
      case hy => (intro w hw; obtain h1 := hw; go_simp; try rfl)
      intro K hK; go_simp; refine hK _ _ ?_; clear hK K
      apply wpOrd_read0
      case hi => rfl
      case hw => rfl
      case hy => (intro w; go_simp; try rfl)
      intro K hK; go_simp; refine hK _ _ ?_; clear hK K
      apply wpOrd_eff3
      case hi => rfl
      case hw => rfl
      intro K hK
      go_simp
      refine (HT.out.drew.put (by have := HLn.out; omega) x _).mono ?_
      rintro e W2 ⟨rfl, ht2⟩
      have HT2 := Lib.hid ht2
      clear ht2 HT
      refine hK _ _ (wpOrd_nil ?_)
      clear hK K
      go_wp2_with fail
      go_roundw
      case rel => exact ⟨k + 1, hlt, by go_num, by rw [HST.out]; exact HT2.out⟩
      case measure => simp [intOf]; omega
    · have hkn : k = ks.length := by omega
      subst hkn
      have HV := Lib.hid (ordL_val ks ks.length)
      have HSX := Lib.hid (ordL_sz ks HSZ.out ks.length (Nat.le_refl _))
      generalize ordL ks ks.length = L at *
      go_wp2_with fail
      obtain ⟨Y0, hY0, _⟩ := HT.out.tr
      refine (pairs_1000 T o ⟨#[]⟩ ⟨#[]⟩ false L Y0 wr hY0 (by have := HLn.out; omega)).mono ?_
      rintro e W3 ⟨va, rfl, hra, hba⟩
      rw [scan_all] at hra
      have HA3 := Lib.hid (PrAt.of_own rfl hra)
      have HT3 := Lib.hid (HT.out.below hba)
      obtain ⟨ga, ca, rfl⟩ := HA3.out.len
      clear hra hba HT hY0
      go_wp2_with fail
      obtain ⟨Y3, hY3, _⟩ := HT3.out.tr
      refine (pairs_1000 T o ⟨#[]⟩ ⟨#[]⟩ true L Y3 W3 hY3 (by have := HLn.out; omega)).mono ?_
      rintro e W4 ⟨vb, rfl, hrb, hbb⟩
      rw [scan_back] at hrb
      have HB4 := Lib.hid (PrAt.of_own rfl hrb)
      have HA4 := Lib.hid (HA3.out.below hbb)
      have HT4 := Lib.hid (HT3.out.below hbb)
      obtain ⟨gb, cb, rfl⟩ := HB4.out.len
      rw [List.length_reverse] at HB4 ⊢
      clear hrb hbb HT3 HA3 hY3
      go_wp2_with fail
      obtain ⟨Y4, hY4, _⟩ := HT4.out.tr
      refine (Len_T W4 T o L Y4 hY4).mono ?_
      rintro e w5 ⟨rfl, hw5⟩
      obtain rfl := hw5.symm
      go_wp2_with fail
      go_loopw [10] (fun i wr => ∃ k q : Nat, k ≤ L.length ∧ i = .int .i64 k ∧ wr = W4.drewN q) (fun i _ => L.length - (intOf i).toNat)
      case atStart => exact ⟨0, 0, Nat.zero_le _, rfl, rfl⟩
      case round =>
        obtain ⟨k, q, hk, rfl, rfl⟩ := hrel
        by_cases hlt : k < L.length
        · obtain ⟨g, c', hg, _, _, _, hcell⟩ := HA4.out.get (by omega)
          cases hg
          obtain ⟨g', c', hg, _, _, _, hcelb⟩ := HB4.out.get (by rw [List.length_reverse]; omega)
          have hgg : gb = some ⟨g', 0, none⟩ ∧ cb = c' := by rw [List.length_reverse] at hg; cases hg; exact ⟨rfl, rfl⟩
          obtain ⟨rfl, rfl⟩ := hgg
          clear hg
          have a0 := (hcell k hlt).1
          have a1 := (hcell k hlt).2
          have b0 := (hcelb (L.length - 1 - k) (by rw [List.length_reverse]; omega)).1
          have b1 := (hcelb (L.length - 1 - k) (by rw [List.length_reverse]; omega)).2
          rw [rev_at L k hlt] at b0 b1
          have hval : L[k].2 = L[k].1 ++ ⟨#[118]⟩ := HV.out _ (List.getElem_mem hlt)
          have hszk := HSX.out _ (List.getElem_mem hlt)
          obtain ⟨Y5, hY5, _⟩ := (HT4.out.drewN q).tr
          have hg5 : Calls Try.prog 24 #[.pointer (some ⟨T, 0, none⟩), .string L[k].1] (W4.drewN q) fun e W' => e = .returned (.tuple #[.string (L[k].1 ++ ⟨#[118]⟩), .bool true]) ∧ ∃ q2, W' = (W4.drewN q).drewN q2 := by
            refine (Get_T (W4.drewN q) T o L Y5 L[k].1 hY5).mono fun e W' h => ?_
            obtain ⟨h1, h2⟩ := h
            rw [srt_get hY5.srt k hlt, hval] at h1
            exact ⟨h1, h2⟩
          have HG := Lib.hid hg5
          clear hg5
          have hx8 : ¬ (9223372036854775807 < (L[k].1).size + 1) := by omega
          have hw1 : IntKind.i64.wrap ((L.length : Int) - 1) = ((L.length - 1 : Nat) : Int) := by have := HLn.out; rw [IntKind.wrap_i64]; omega
          have hw2 : IntKind.i64.wrap (((L.length - 1 : Nat) : Int) - (k : Int)) = ((L.length - 1 - k : Nat) : Int) := by have := HLn.out; rw [IntKind.wrap_i64]; omega
          have hjl : L.length - 1 - k < L.length := by omega
          have HS := Lib.hid hY5.srt
          rw [hval] at a1 b1
          clear hY4 hY5 hcelb hval hszk
          match k, hk, hlt with
          | 0, hk, hlt =>
            clear hcell
            generalize L[0] = x at *
            generalize L.length - 1 - 0 = j at *
            simp only [Nat.zero_mul, Nat.zero_add] at a0 a1
            go_wp2_with fail
            refine HG.out.mono ?_
            rintro e W6 ⟨rfl, q2, rfl⟩
            clear HG
            go_wp2_with fail
            go_quiet (fail)
            go_wp2_with fail
            go_roundw
            case rel => exact ⟨1, q + q2 + nq, hlt, rfl, by simp [World.drewN_drewN]⟩
            case measure => simp [intOf]; omega
          | k + 1, hk, hlt =>
            have p0 := (hcell k (by omega)).1
            have hyx : Op.bytesLess (ByteArray.toList L[k].1) (ByteArray.toList L[k + 1].1) = true := srt_lt HS.out k hlt
            have hw3 : IntKind.i64.wrap (((k + 1 : Nat) : Int) - 1) = (k : Int) := by have := HLn.out; rw [IntKind.wrap_i64]; omega
            have hk1 : k < L.length := by omega
            have hk2 : (0 : Int) < ((k + 1 : Nat) : Int) := by omega
            have hk3 : decide ((0 : Int) < ((k + 1 : Nat) : Int)) = true := decide_eq_true hk2
            clear hcell
            generalize L[k + 1] = x at *
            generalize L[k] = y at *
            generalize L.length - 1 - (k + 1) = j at *
            obtain ⟨i, hi⟩ : ∃ i, i = k + 1 := ⟨_, rfl⟩
            rw [← hi] at a0 a1 hw2 hw3 hlt hk2 hk3
            rw [← hi]
            have HI := Lib.hid hi
            have hk4 : 0 < i := by omega
            have hk5 : decide (0 < i) = true := decide_eq_true hk4
            clear hi hk
            go_wp2_with fail
            refine HG.out.mono ?_
            rintro e W6 ⟨rfl, q2, rfl⟩
            clear HG
            go_wp2_with fail
            go_quiet (fail)
            go_wp2_with fail
            go_roundw
            case rel => exact ⟨i + 1, q + q2 + nq, hlt, by go_num, by simp [World.drewN_drewN]⟩
            case measure => simp [intOf]; omega
        · have hkl : k = L.length := by omega
          subst hkl
          go_wp2_with fail
          refine (awake_any _).mono ?_
          rintro e W7 ⟨rfl, hb7⟩
          have HB7 := Lib.hid ((HT4.out.drewN q).b.trans (hb7.mono (HT4.out.drewN q).b.size))
          clear hb7
          go_wp2_with fail
          go_ret
          exact ⟨rfl, HB7.out⟩
theorem law_orders (o : Int) (kv : Value) (ks : List Bs) (w : World) (hk : KeysArg w kv ks) (hsz : ∀ j, j < ks.length → (sx ks j).size ≤ 140737488351232) :
    Calls Try.prog 6 #[.int .i64 o, kv] w (LawOut w) := by
  have hk2 := hk
  obtain ⟨a, c, rfl, _⟩ := hk
  by_cases h1 : o < 4
  · exact orders_e1 o a ks.length c w h1
  · by_cases h2 : 256 < o
    · exact orders_e2 o a ks.length c w h2
    · by_cases h3 : 300 < ks.length
      · exact orders_e3 o a ks.length c w (by omega) (by omega) h3
      · obtain ⟨o, rfl⟩ := Int.eq_ofNat_of_zero_le (show 0 ≤ o by omega)
        exact orders_go o (by omega) (by omega) a c ks w hk2 (by omega) hsz
end Go.Proofs.Ytegljepgncicjaa
