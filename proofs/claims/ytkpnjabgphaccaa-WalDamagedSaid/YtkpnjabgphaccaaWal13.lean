/- The law WalDamaged: the rounds that invert bits. -/
import Derived.Test.YtkpnjabgphaccaaWal12
import Derived.Test.YtkpnjabgphaccaaWalPlain5
import Derived.Test.YtkpnjabgphaccaaBytes2
import Derived.WalkLawsBesides
import Derived.RegionTactic
import Derived.Outline
import Derived.StillTailTactics
import Derived.Deep.QuietTactic
import Derived.BigQuiet
namespace Go.Proofs.Ytkpnjabgphaccaa
open Go.ChangeShapes Go.WideShapes Go.ChangeAt Go.RowKit
set_option linter.unusedVariables false
set_option linter.unusedSimpArgs false
/-- after k rounds the block holds the log, with the pattern's first k bits inverted in the sealed data of record q -/
def DamAt (ds : List (List UInt8)) (q p bs k B : Nat) (w : World) : Prop :=
  ∃ l : List UInt8, l.length = (ds.getD q []).length + 4 ∧ Crc.num l = Crc.num (Crc.seal4 (ds.getD q [])) ^^^ 2 ^ p * Crc.pat bs (8 * ((ds.getD q []).length + 4) - p) k ∧ BytesAt w B (Crc.damaged ds q l)
def turned (bs d k : Nat) : Bool := Crc.pat bs d k != 0
theorem turned_zero (bs d : Nat) : turned bs d 0 = false := by simp [turned, Crc.pat_zero]
theorem get_d {ds : List (List UInt8)} {q : Nat} (h : q < ds.length) : ds.getD q [] = ds[q] := by simp [h]
theorem DamAt.start {ds : List (List UInt8)} {q p bs B : Nat} {w : World} (hq : q < ds.length) (h : BytesAt w B (Crc.logOf ds)) : DamAt ds q p bs 0 B w :=
  ⟨Crc.seal4 ds[q], by rw [Crc.seal4_length, get_d hq], by rw [Crc.pat_zero, Nat.mul_zero, Nat.xor_zero, get_d hq], by rw [Crc.damaged_same ds q hq]; exact h⟩
theorem xor8 (x y : UInt8) : bits .xor .u8 (x.toNat : Int) (y.toNat : Int) = ((x ^^^ y).toNat : Int) := by
  rw [u8_xor_nat _ _ x.toNat_lt y.toNat_lt, UInt8.toNat_xor]
theorem and_bit (bs k : Nat) (h : bs < 4294967296) (hb : bs / 2 ^ k % 2 = 1) : bits .and .u32 ((bs : Int) / 2 ^ k) 1 = 1 := by
  have e : (bs : Int) / 2 ^ k = ((bs / 2 ^ k : Nat) : Int) := by simp
  have hlt : bs / 2 ^ k < 4294967296 := Nat.lt_of_le_of_lt (Nat.div_le_self _ _) h
  rw [e, and_one _ hlt, hb]; rfl
theorem and_bit0 (bs k : Nat) (h : bs < 4294967296) (hb : ¬ bs / 2 ^ k % 2 = 1) : bits .and .u32 ((bs : Int) / 2 ^ k) 1 = 0 := by
  have e : (bs : Int) / 2 ^ k = ((bs / 2 ^ k : Nat) : Int) := by simp
  have hlt : bs / 2 ^ k < 4294967296 := Nat.lt_of_le_of_lt (Nat.div_le_self _ _) h
  rw [e, and_one _ hlt, show bs / 2 ^ k % 2 = 0 from by omega]; rfl
theorem turned_yes (bs d k : Nat) (hi : k < d) (hb : bs / 2 ^ k % 2 = 1) : turned bs d (k + 1) = true := by
  simpa [turned] using Crc.pat_pos bs d k hi hb
theorem turned_no (bs d k : Nat) (h : ¬ (bs / 2 ^ k % 2 = 1 ∧ k < d)) : turned bs d (k + 1) = turned bs d k := by
  simp [turned, Crc.pat_no bs d k h]
theorem xor_bit (x : UInt8) (m : Nat) (hm : m < 8) : bits .xor .u8 (x.toNat : Int) (2 ^ m % 256) = ((x ^^^ UInt8.ofNat (2 ^ m)).toNat : Int) := by
  have e : ((UInt8.ofNat (2 ^ m)).toNat : Int) = 2 ^ m % 256 := by rw [Crc.ofNat_toNat]; simp
  rw [← xor8, e]
theorem DamAt.yes {ds : List (List UInt8)} {q p bs k B : Nat} {w : World} (hbit : bs / 2 ^ k % 2 = 1) (hin : p + k < 8 * ((ds.getD q []).length + 4)) {l : List UInt8}
    (h : l.length = (ds.getD q []).length + 4 ∧ Crc.num l = Crc.num (Crc.seal4 (ds.getD q [])) ^^^ 2 ^ p * Crc.pat bs (8 * ((ds.getD q []).length + 4) - p) k ∧ BytesAt w B (Crc.damaged ds q l)) (hj : (p + k) / 8 < l.length) :
    DamAt ds q p bs (k + 1) B (w.setCell ⟨B, Crc.endAt ds q + 4 + (p + k) / 8, none⟩ (.int .u8 (bits .xor .u8 (l[(p + k) / 8].toNat : Int) (2 ^ ((p + k) % 8) % 256)))) := by
  obtain ⟨h1, h2, h3⟩ := h
  rw [xor_bit _ _ (by omega)]
  obtain ⟨hlen, hget⟩ := Crc.damaged_get ds q l _ hj
  refine ⟨_, ?_, ?_, by rw [← Crc.damaged_set ds q l _ _ hj]; exact h3.set _ _ hlen⟩
  · simpa using h1
  · rw [Crc.num_set l _ _ hj (by omega), h2, Crc.pat_yes bs _ k (by omega) hbit, Crc.pow_mul_xor, ← Nat.pow_add, Nat.xor_assoc, show 8 * ((p + k) / 8) + (p + k) % 8 = p + k from by omega]
theorem DamAt.no {ds : List (List UInt8)} {q p bs k B : Nat} {w : World} (h : ¬ (bs / 2 ^ k % 2 = 1 ∧ k < 8 * ((ds.getD q []).length + 4) - p)) (hB : DamAt ds q p bs k B w) : DamAt ds q p bs (k + 1) B w := by
  obtain ⟨l, h1, h2, h3⟩ := hB
  exact ⟨l, h1, by rw [Crc.pat_no bs _ k h]; exact h2, h3⟩
theorem dam_read (ds : List (List UInt8)) (q : Nat) (l : List UInt8) (p bs : Nat) (hd : ∀ i (h : i < ds.length), ds[i].length ≤ 65536) (hq : q < ds.length) (hbs : bs < 4294967296) (hl : l.length = (ds.getD q []).length + 4)
    (hn : Crc.num l = Crc.num (Crc.seal4 (ds.getD q [])) ^^^ 2 ^ p * Crc.pat bs (8 * ((ds.getD q []).length + 4) - p) 32) (ht : turned bs (8 * ((ds.getD q []).length + 4) - p) 32 = true) :
    Crc.read (Crc.damaged ds q l) = (ds.take q, Crc.endAt ds q, 7) := by
  have h0 : Crc.pat bs (8 * ((ds.getD q []).length + 4) - p) 32 ≠ 0 := by simpa [turned] using ht
  have hp : p < 8 * l.length := by
    rw [hl]
    rcases Nat.lt_or_ge p (8 * ((ds.getD q []).length + 4)) with h | h
    · exact h
    · rw [show 8 * ((ds.getD q []).length + 4) - p = 0 from by omega, Crc.pat_none] at h0
      exact absurd rfl h0
  have hb := Crc.burst (ds.getD q []) l p _ (by rw [hl, Crc.seal4_length]) (Crc.pat_lt _ _ _ hbs) h0 hp hn
  rw [get_d hq] at hl
  exact Crc.read_damaged ds q l hd hq hl hb.2
theorem dam_same (ds : List (List UInt8)) (q : Nat) (l : List UInt8) (p bs : Nat) (hd : ∀ i (h : i < ds.length), ds[i].length ≤ 65536) (hq : q < ds.length) (hl : l.length = (ds.getD q []).length + 4)
    (hn : Crc.num l = Crc.num (Crc.seal4 (ds.getD q [])) ^^^ 2 ^ p * Crc.pat bs (8 * ((ds.getD q []).length + 4) - p) 32) (ht : turned bs (8 * ((ds.getD q []).length + 4) - p) 32 = false) :
    Crc.read (Crc.damaged ds q l) = (ds, Crc.endAt ds ds.length, 0) := by
  have h0 : Crc.pat bs (8 * ((ds.getD q []).length + 4) - p) 32 = 0 := by simpa [turned] using ht
  rw [h0, Nat.mul_zero, Nat.xor_zero] at hn
  have := Crc.num_inj _ _ (by rw [hl, Crc.seal4_length]) hn
  subst this
  rw [get_d hq, Crc.damaged_same ds q hq]
  exact Crc.read_whole ds hd
theorem wp_named {P : Program} {c : Code} {Q : Exit → Act → World → Prop} {a : Act} {w : World} (F : World → Prop) (hF : F w) (h : ∀ w', F w' → Code.wp P c Q a w') : Code.wp P c Q a w := h w hF
theorem below_drewN {b : Nat} {w w' : World} (h : Below b w w') : ∀ n, Below b w (w'.drewN n)
  | 0 => h
  | n + 1 => (below_drewN h n).drew
theorem wrap_id {x : Int} (h1 : -9223372036854775808 ≤ x) (h2 : x < 9223372036854775808) : IntKind.i64.wrap x = x := by
  simp [IntKind.wrap, IntKind.bits, IntKind.signed]; omega
set_option maxRecDepth 100000 in
set_option maxHeartbeats 1000000 in
theorem dam_core (B o cap : Nat) (ds : List (List UInt8)) (q p bs : Nat) (w : World) (hB : B < w.heap.size) (hcap : ds.length ≤ cap) (hf : Crc.fewB ds = true) (hq : q < ds.length) (hp : p ≤ 40032) (hbs : bs < 4294967296)
    (hc : ∀ j (h : j < ds.length), w.cell? ⟨B, o + j, none⟩ = some (.string ⟨ds[j].toArray⟩)) :
    Calls Try.prog 6 #[.agg #[.slice (some ⟨B, o, none⟩) ds.length cap, .int .i64 q, .int .i64 p, .int .u32 bs]] w fun e w' => e = .returned (.bool true) ∧ Below w.heap.size w w' := by
  have hf' := hf
  simp [Crc.fewB] at hf'
  obtain ⟨hl50, ht5⟩ := hf'
  have hbx : Below w.heap.size w (w.alloc (.cells #[.slice (some ⟨B, o, none⟩) ds.length cap, .int .i64 q, .int .i64 p, .int .u32 bs] 42)) := (Below.refl _ _).alloc (Nat.le_refl _) _
  have b0 : (w.alloc (.cells #[.slice (some ⟨B, o, none⟩) ds.length cap, .int .i64 q, .int .i64 p, .int .u32 bs] 42)).cell? ⟨w.heap.size, 0, none⟩ = some (.slice (some ⟨B, o, none⟩) ds.length cap) := by simp [go_sem]
  have b1 : (w.alloc (.cells #[.slice (some ⟨B, o, none⟩) ds.length cap, .int .i64 q, .int .i64 p, .int .u32 bs] 42)).cell? ⟨w.heap.size, 1, none⟩ = some (.int .i64 q) := by simp [go_sem]
  have b2 : (w.alloc (.cells #[.slice (some ⟨B, o, none⟩) ds.length cap, .int .i64 q, .int .i64 p, .int .u32 bs] 42)).cell? ⟨w.heap.size, 2, none⟩ = some (.int .i64 p) := by simp [go_sem]
  have b3 : (w.alloc (.cells #[.slice (some ⟨B, o, none⟩) ds.length cap, .int .i64 q, .int .i64 p, .int .u32 bs] 42)).cell? ⟨w.heap.size, 3, none⟩ = some (.int .u32 bs) := by simp [go_sem]
  have bz : (w.alloc (.cells #[.slice (some ⟨B, o, none⟩) ds.length cap, .int .i64 q, .int .i64 p, .int .u32 bs] 42)).heap.size = w.heap.size + 1 := by simp
  go_enter Try.func6, Try.ntmps6
  go_wp2_with fail
  generalize w.alloc _ = W0 at hbx b0 b1 b2 b3 bz ⊢
  have HC0 : Hid (∀ j (h : j < ds.length), W0.cell? ⟨B, o + j, none⟩ = some (.string ⟨ds[j].toArray⟩)) := Lib.hid (fun j h => (hbx.cell (p := ⟨B, o + j, none⟩) hB).trans (hc j h))
  have hB0 : B < W0.heap.size := by omega
  have HBX := Lib.hid hbx
  clear hc hbx
  refine (few_true B o cap ds W0 hf HC0.out).mono ?_
  rintro e w1 ⟨rfl, rfl⟩
  go_wp2_with fail
  refine (build_call B o cap ds W0 hB0 hf HC0.out).mono ?_
  rintro e w1 ⟨g, cap2, rfl, hg, hge, hb1⟩
  have HG := Lib.hid hge
  clear hge
  have hz1 : w.heap.size < w1.heap.size := by have := hb1.size; omega
  have hb01 : Below w.heap.size w w1 := HBX.out.trans (hb1.mono (by omega))
  have d0 := (hb1.cell (p := ⟨w.heap.size, 0, none⟩) (by show w.heap.size < W0.heap.size; omega)).trans b0
  have d1 := (hb1.cell (p := ⟨w.heap.size, 1, none⟩) (by show w.heap.size < W0.heap.size; omega)).trans b1
  have d2 := (hb1.cell (p := ⟨w.heap.size, 2, none⟩) (by show w.heap.size < W0.heap.size; omega)).trans b2
  have d3 := (hb1.cell (p := ⟨w.heap.size, 3, none⟩) (by show w.heap.size < W0.heap.size; omega)).trans b3
  have HC1 : Hid (∀ j (h : j < ds.length), w1.cell? ⟨B, o + j, none⟩ = some (.string ⟨ds[j].toArray⟩)) := Lib.hid (fun j h => (hb1.cell (p := ⟨B, o + j, none⟩) hB0).trans (HC0.out j h))
  have hB1 : B < w1.heap.size := by omega
  have HB1 := Lib.hid hb01
  clear b0 b1 b2 b3 hb1 hb01 HC0 HBX
  obtain ⟨W1, cap3, hcv, hBy, hbW, hsW⟩ := bytes_of_string (logS ds ds.length) w1
  have hsz := logS_size ds ds.length
  have hLs : (logS ds ds.length).data.toList = Crc.logOf ds := by show Crc.logOf (ds.take ds.length) = _; rw [List.take_length]
  rw [hLs] at hBy
  have HBy := Lib.hid hBy
  clear hBy
  have hel : Crc.endAt ds ds.length ≤ 100000 := by
    have h1 := Crc.logOf_length (ds.take ds.length)
    have h2 := Crc.total_take_le ds ds.length
    have h3 : (ds.take ds.length).length ≤ ds.length := List.length_take_le' _ _
    unfold Crc.endAt; omega
  have hE1 := Crc.endAt_succ ds q hq
  have hn5 : ds[q].length ≤ 5000 := by have := Crc.get_le_total ds q hq; omega
  have hEL : Crc.endAt ds q + ds[q].length + 8 ≤ Crc.endAt ds ds.length := by
    have h1 := Crc.damaged_length ds q (Crc.seal4 ds[q]) hq (Crc.seal4_length _)
    have h2 : Crc.endAt ds ds.length = (Crc.logOf ds).length := by unfold Crc.endAt; rw [List.take_length]
    rw [h2, ← h1]
    unfold Crc.damaged
    have h4 : (Crc.le4 (ds.getD q []).length).length = 4 := rfl
    simp only [List.length_append, Crc.seal4_length, h4]
    show (Crc.logOf (ds.take q)).length + _ + 8 ≤ _
    omega
  have q0 := (hbW.cell (p := ⟨w.heap.size, 0, none⟩) hz1).trans d0
  have q1 := (hbW.cell (p := ⟨w.heap.size, 1, none⟩) hz1).trans d1
  have q2 := (hbW.cell (p := ⟨w.heap.size, 2, none⟩) hz1).trans d2
  have q3 := (hbW.cell (p := ⟨w.heap.size, 3, none⟩) hz1).trans d3
  have gL := (hbW.cell (p := ⟨g, ds.length, none⟩) hg).trans (HG.out ds.length (Nat.le_refl _))
  have gq := (hbW.cell (p := ⟨g, q, none⟩) hg).trans (HG.out q (by omega))
  have gq1 := (hbW.cell (p := ⟨g, q + 1, none⟩) hg).trans (HG.out (q + 1) (by omega))
  have st := (hbW.cell (p := ⟨B, o + q, none⟩) hB1).trans (HC1.out q hq)
  rw [hE1] at gq1
  have hSs : (ByteArray.mk ds[q].toArray).size = ds[q].length := by simp [ByteArray.size]
  generalize ByteArray.mk ds[q].toArray = ST at st hSs
  have HN : Hid (ds.getD q [] = ds[q]) := Lib.hid (get_d hq)
  have HNl : Hid ((ds.getD q []).length = ds[q].length) := Lib.hid (by rw [get_d hq])
  generalize hnn : ds[q].length = nn at *
  generalize hLL : Crc.endAt ds ds.length = LL at *
  generalize hEE : Crc.endAt ds q = E0 at *
  have HLL := Lib.hid hLL
  have HEE := Lib.hid hEE
  clear hLL hEE hnn HN hE1
  have hqi : (q : Int) < (ds.length : Int) := by omega
  have hqi1 : (q : Int) + 1 < (ds.length : Int) + 1 := by omega
  have hw1 : IntKind.i64.wrap (((E0 : Int) + nn + 8) - E0) = (nn : Int) + 8 := by rw [wrap_id (by omega) (by omega)]; omega
  go_wp2_with fail
  go_quiet (fail)
  go_wp2_with fail
  have hst : DamAt ds q p bs 0 w1.heap.size (W1.drewN nq) := by
    obtain ⟨l, a1, a2, a3⟩ := DamAt.start (p := p) (bs := bs) hq HBy.out
    exact ⟨l, a1, a2, ⟨fun j hj => a3.cell j hj, fun j hj => a3.free j hj⟩⟩
  have hbW0 : Below w1.heap.size W1 (W1.drewN nq) := below_drewN (Below.refl _ _) _
  have HST := Lib.hid hst
  have HBW0 := Lib.hid hbW0
  clear hst hbW0 HBy
  go_loopw [7, 84] (fun t i wr => ∃ k : Nat, k ≤ 32 ∧ i = .int .i64 k ∧ t = .bool (turned bs (8 * (nn + 4) - p) k) ∧ DamAt ds q p bs k w1.heap.size wr ∧ Below w1.heap.size W1 wr) (fun _ i _ => 32 - (intOf i).toNat)
  case atStart => exact ⟨0, Nat.zero_le _, rfl, by rw [turned_zero], HST.out, HBW0.out⟩
  case round =>
    obtain ⟨k, hk, rfl, rfl, hBk, hbk⟩ := hrel
    have c0 := (hbk.cell (p := ⟨w.heap.size, 0, none⟩) hz1).trans q0
    have c1 := (hbk.cell (p := ⟨w.heap.size, 1, none⟩) hz1).trans q1
    have c2 := (hbk.cell (p := ⟨w.heap.size, 2, none⟩) hz1).trans q2
    have c3 := (hbk.cell (p := ⟨w.heap.size, 3, none⟩) hz1).trans q3
    have cq := (hbk.cell (p := ⟨g, q, none⟩) hg).trans gq
    have cq1 := (hbk.cell (p := ⟨g, q + 1, none⟩) hg).trans gq1
    have HBk := Lib.hid hBk
    have Hbk := Lib.hid hbk
    have HQ1 := Lib.hid q1
    clear q0 q1 q2 q3 gL gq gq1 st hBk hbk
    by_cases hlt : k < 32
    · by_cases hbit : bs / 2 ^ k % 2 = 1
      · have hand := and_bit bs k hbs hbit
        by_cases hin : p + k < 8 * (nn + 4)
        · obtain ⟨l, hll, hnum, hBl⟩ := HBk.out
          rw [HNl.out] at hll
          have hj : (p + k) / 8 < l.length := by omega
          obtain ⟨hlen, hget⟩ := Crc.damaged_get ds q l _ hj
          have hcell := hBl.cell _ hlen
          have hfree := hBl.free _ hlen
          rw [hget, HEE.out] at hcell
          rw [HEE.out] at hfree
          have HL := Lib.hid hll
          have HN := Lib.hid hnum
          have HBl := Lib.hid hBl
          clear hll hnum hlen hget hBl
          have s1 : IntKind.i64.wrap ((E0 : Int) + 4) = (E0 : Int) + 4 := wrap_id (by omega) (by omega)
          have s2 : IntKind.i64.wrap ((p : Int) + k) = (p : Int) + k := wrap_id (by omega) (by omega)
          have s3 : ((p : Int) + k).tdiv 8 = (((p + k) / 8 : Nat) : Int) := by rw [Int.tdiv_eq_ediv_of_nonneg (by omega)]; omega
          have s4 : IntKind.i64.wrap ((E0 : Int) + 4 + (((p + k) / 8 : Nat) : Int)) = ((E0 + 4 + (p + k) / 8 : Nat) : Int) := by rw [wrap_id (by omega) (by omega)]; omega
          go_wp2_with fail
          go_quiet (fail)
          go_wp2_with fail
          have hi0 : (0 : Int) ≤ (E0 : Int) + 4 + ((p : Int) + k) / 8 := by omega
          have hi1 : (E0 : Int) + 4 + ((p : Int) + k) / 8 < (LL : Int) := by omega
          have hi2 : ((E0 : Int) + 4 + ((p : Int) + k) / 8).toNat = E0 + 4 + (p + k) / 8 := by omega
          clear s1 s3 s4 c0 c1 c3 cq cq1
          refine wp_named (fun W => W.cell? ⟨w1.heap.size, E0 + 4 + (p + k) / 8, none⟩ = some (.int .u8 (l[(p + k) / 8].toNat : Int)) ∧ W.frozen? ⟨w1.heap.size, E0 + 4 + (p + k) / 8, none⟩ = false ∧ W.cell? ⟨w.heap.size, 2, none⟩ = some (.int .i64 p) ∧ BytesAt W w1.heap.size (Crc.damaged ds q l) ∧ Below w1.heap.size W1 W)
            ⟨hcell, hfree, c2, ⟨fun j hj => HBl.out.cell j hj, fun j hj => HBl.out.free j hj⟩, below_drewN Hbk.out _⟩ ?_
          clear hcell hfree c2 HBl Hbk
          rintro wd ⟨hcell, hfree, c2, hBl, hbk⟩
          have HBl := Lib.hid hBl
          have Hbk := Lib.hid hbk
          clear hBl hbk HBk
          go_still_tail 13, (by kernel_rfl)
          go_wp2_with fail
          go_roundw
          case rel =>
            have hy := DamAt.yes (ds := ds) (q := q) (p := p) (bs := bs) (k := k) (B := w1.heap.size) (w := wd) hbit (by rw [HNl.out]; exact hin) ⟨by rw [HNl.out]; exact HL.out, HN.out, HBl.out⟩ hj
            rw [HEE.out] at hy
            obtain ⟨l2, a1, a2, a3⟩ := hy
            have hm8 : min ((p + k) % 8) 8 = (p + k) % 8 := by omega
            rw [hm8]
            exact ⟨k + 1, by omega, by go_num, by rw [turned_yes bs _ k (by omega) hbit], ⟨l2, a1, a2, ⟨fun j hj => a3.cell j hj, fun j hj => a3.free j hj⟩⟩, by first | exact (Hbk.out.setCell (Nat.le_refl _) _).drew | exact Hbk.out.drew.setCell (Nat.le_refl _) _⟩
          case measure => simp [intOf]; omega
        · have hge : ¬ ((E0 : Int) + 4 + ((p : Int) + k) / 8 < (E0 : Int) + nn + 8) := by omega
          have s1 : IntKind.i64.wrap ((E0 : Int) + 4) = (E0 : Int) + 4 := wrap_id (by omega) (by omega)
          have s2 : IntKind.i64.wrap ((p : Int) + k) = (p : Int) + k := wrap_id (by omega) (by omega)
          have s3 : ((p : Int) + k).tdiv 8 = (((p + k) / 8 : Nat) : Int) := by rw [Int.tdiv_eq_ediv_of_nonneg (by omega)]; omega
          have s4 : IntKind.i64.wrap ((E0 : Int) + 4 + (((p + k) / 8 : Nat) : Int)) = ((E0 + 4 + (p + k) / 8 : Nat) : Int) := by rw [wrap_id (by omega) (by omega)]; omega
          go_wp2_with fail
          go_quiet (fail)
          go_wp2_with fail
          go_roundw
          case rel =>
            obtain ⟨l2, a1, a2, a3⟩ := DamAt.no (by rw [HNl.out]; omega) HBk.out
            exact ⟨k + 1, by omega, by go_num, by rw [turned_no bs _ k (by omega)], ⟨l2, a1, a2, ⟨fun j hj => a3.cell j hj, fun j hj => a3.free j hj⟩⟩, below_drewN Hbk.out _⟩
          case measure => simp [intOf]; omega
      · have hand := and_bit0 bs k hbs hbit
        have s1 : IntKind.i64.wrap ((E0 : Int) + 4) = (E0 : Int) + 4 := wrap_id (by omega) (by omega)
        have s2 : IntKind.i64.wrap ((p : Int) + k) = (p : Int) + k := wrap_id (by omega) (by omega)
        have s3 : ((p : Int) + k).tdiv 8 = (((p + k) / 8 : Nat) : Int) := by rw [Int.tdiv_eq_ediv_of_nonneg (by omega)]; omega
        have s4 : IntKind.i64.wrap ((E0 : Int) + 4 + (((p + k) / 8 : Nat) : Int)) = ((E0 + 4 + (p + k) / 8 : Nat) : Int) := by rw [wrap_id (by omega) (by omega)]; omega
        go_wp2_with fail
        go_quiet (fail)
        go_wp2_with fail
        go_roundw
        case rel =>
          obtain ⟨l2, a1, a2, a3⟩ := DamAt.no (by omega) HBk.out
          exact ⟨k + 1, by omega, by go_num, by rw [turned_no bs _ k (by omega)], ⟨l2, a1, a2, ⟨fun j hj => a3.cell j hj, fun j hj => a3.free j hj⟩⟩, below_drewN Hbk.out _⟩
        case measure => simp [intOf]; omega
    · obtain rfl : k = 32 := by omega
      clear c1 c2 c3 cq1
      obtain ⟨l, hll, hnum, hBl⟩ := HBk.out
      have hlq : l.length = ds[q].length + 4 := by rw [hll, get_d hq]
      have hdl : (Crc.damaged ds q l).length = LL := by
        rw [Crc.damaged_length ds q l hq hlq, ← HLL.out]; unfold Crc.endAt; rw [List.take_length]
      have hcv := conv_bytes cap3 hBl
      rw [hdl] at hcv
      have hd5 : ∀ i (h : i < ds.length), ds[i].length ≤ 65536 := fun i h => by have := Crc.get_le_total ds i h; omega
      have hbr : Below w.heap.size w wr := HB1.out.trans ((hbW.mono (by omega)).trans (Hbk.out.mono (by omega)))
      have HBR := Lib.hid hbr
      have hzr : w1.heap.size < wr.heap.size := Nat.lt_of_lt_of_le (by omega) Hbk.out.size
      have hds : ds.length ≤ 1000000 := by omega
      have HSz : Hid ((ByteArray.mk (Crc.damaged ds q l).toArray).size ≤ 1000000) := Lib.hid (by simp [ByteArray.size]; omega)
      have HSA : Hid (∀ W : World, Below wr.heap.size wr W → StrsAt W (.slice (some ⟨B, o, none⟩) ds.length cap) ds) := Lib.hid fun W hW =>
        .inr ⟨B, o, cap, rfl, Nat.lt_of_lt_of_le (by omega) hW.size, fun j hj => by
          rw [hW.cell (p := ⟨B, o + j, none⟩) (by show B < _; omega), Hbk.out.cell (p := ⟨B, o + j, none⟩) hB1, hbW.cell (p := ⟨B, o + j, none⟩) hB1]; exact HC1.out j hj⟩
      have HST2 : Hid (∀ W : World, Below wr.heap.size wr W → StrsAt W (.slice (some ⟨B, o, none⟩) q cap) (ds.take q)) := Lib.hid fun W hW =>
        .inr ⟨B, o, cap, by rw [List.length_take]; congr 1; omega, Nat.lt_of_lt_of_le (by omega) hW.size, fun j hj => by
          rw [List.length_take] at hj
          rw [hW.cell (p := ⟨B, o + j, none⟩) (by show B < _; omega), Hbk.out.cell (p := ⟨B, o + j, none⟩) hB1, hbW.cell (p := ⟨B, o + j, none⟩) hB1, List.getElem_take]; exact HC1.out j (by omega)⟩
      have hlq2 : (ds.take q).length ≤ 1000000 := by have := List.length_take_le' q ds; omega
      have hqc : (q : Int) ≤ (cap : Int) := by omega
      have hs1 : w.heap.size ≤ wr.heap.size := by omega
      cases ht : turned bs (8 * (nn + 4) - p) 32 with
      | true =>
        have hread := dam_read ds q l p bs hd5 hq hbs hll hnum (by rw [HNl.out]; exact ht)
        rw [HEE.out] at hread
        have HR := Lib.hid hread
        have HT := Lib.hid ht
        clear ht hread hnum hll hlq hBl HBk hdl hd5
        go_wp2_with fail
        refine (read_is _ _ _ _ HR.out _ HSz.out).mono ?_
        rintro e w2 ⟨v2, rfl, hv2, hb2⟩
        have HV2 := Lib.hid hv2
        clear hv2 hcv
        have e0 := (hb2.cell (p := ⟨w.heap.size, 0, none⟩) (by show w.heap.size < wr.heap.size; omega)).trans c0
        have e1 := (hb2.cell (p := ⟨w.heap.size, 1, none⟩) (by show w.heap.size < wr.heap.size; omega)).trans ((Hbk.out.cell (p := ⟨w.heap.size, 1, none⟩) hz1).trans HQ1.out)
        have eq := (hb2.cell (p := ⟨g, q, none⟩) (by show g < wr.heap.size; omega)).trans cq
        have HB2 := Lib.hid hb2
        have hs2 := hb2.size
        clear hb2 c0 cq
        go_wp2_with fail
        refine (equal_any _ _ _ _ hlq2 HV2.out (HST2.out w2 HB2.out)).mono ?_
        rintro e w3 ⟨rfl, hb3⟩
        have k1 := (hb3.cell (p := ⟨w.heap.size, 1, none⟩) (by show w.heap.size < w2.heap.size; omega)).trans e1
        have kq := (hb3.cell (p := ⟨g, q, none⟩) (by show g < w2.heap.size; omega)).trans eq
        have HB3 := Lib.hid hb3
        have hs3 := hb3.size
        clear hb3 e0 e1 eq
        go_wp2_with fail
        refine (awake_any _).mono ?_
        rintro e w4 ⟨rfl, hb4⟩
        go_wp2_with fail
        go_ret
        exact ⟨rfl, HBR.out.trans ((HB2.out.mono (by omega)).trans ((HB3.out.mono (by omega)).trans (hb4.mono (by omega))))⟩
      | false =>
        have hread := dam_same ds q l p bs hd5 hq hll hnum (by rw [HNl.out]; exact ht)
        have HR := Lib.hid hread
        have HT := Lib.hid ht
        clear ht hread hnum hll hlq hBl HBk hdl hd5
        go_wp2_with fail
        refine (read_is _ _ _ _ HR.out _ HSz.out).mono ?_
        rintro e w2 ⟨v2, rfl, hv2, hb2⟩
        have HV2 := Lib.hid hv2
        clear hv2 hcv
        have e0 := (hb2.cell (p := ⟨w.heap.size, 0, none⟩) (by show w.heap.size < wr.heap.size; omega)).trans c0
        have HB2 := Lib.hid hb2
        have hs2 := hb2.size
        clear hb2 c0 cq
        go_wp2_with fail
        refine (equal_any _ _ _ _ hds HV2.out (HSA.out w2 HB2.out)).mono ?_
        rintro e w3 ⟨rfl, hb3⟩
        have HB3 := Lib.hid hb3
        have hs3 := hb3.size
        clear hb3 e0
        go_wp2_with fail
        refine (awake_any _).mono ?_
        rintro e w4 ⟨rfl, hb4⟩
        go_wp2_with fail
        go_ret
        exact ⟨rfl, HBR.out.trans ((HB2.out.mono (by omega)).trans ((HB3.out.mono (by omega)).trans (hb4.mono (by omega))))⟩
end Go.Proofs.Ytkpnjabgphaccaa
