/- Merged texts: Eh32, Eh33, Sv8, Eh34, Sv9, Eh36, Eh38. -/
import Derived.Test.YtfpgklhbghahoaaOe13
import Derived.Laws.Slices
/- Election: the three calls of a step, and what they leave. -/
namespace Go.Proofs.Ytfpgklhbghahoaa
open Go.ChangeShapes Go.WideShapes Go.ChangeAt Go.RowKit Go.ChangeMaps Go.Joins Go.Deep
set_option linter.unusedVariables false
set_option linter.unusedSimpArgs false
set_option maxRecDepth 100000
/-- messages that lie in a block from B on -/
def MsgsAt (B : Nat) (W : World) (v : Value) (L : List Ms) : Prop := (v = .slice none 0 0 ∧ L = []) ∨ ∃ g c, v = .slice (some ⟨g, 0, none⟩) L.length c ∧ B ≤ g ∧ g < W.heap.size ∧ ∀ i u, (mrow L)[i]? = some u → W.cell? ⟨g, i, none⟩ = some u
theorem MsgsAt.of_own {B : Nat} {W : World} {v : Value} {L : List Ms} (h : OwnM B W v L) : MsgsAt B W v L := by
  have hlt := h.lt
  rcases h.2 with ⟨h1, h2⟩ | ⟨g, cap, cur, rfl, h2, h3, h4, h5, h6, h7⟩
  · exact .inl ⟨h1, List.eq_nil_of_length_eq_zero h2⟩
  · refine .inr ⟨g, cap, rfl, h2, (hlt g rfl).2, fun i u hu => ?_⟩
    have := World.ownsRow.cells (g := g) h rfl i u hu
    rw [addr_add', Nat.zero_add] at this
    exact this
theorem MsgsAt.of_box {B : Nat} {W : World} {g : Nat} {m : Ms} (h : Box W g (msC m)) (hB : B ≤ g) : MsgsAt B W (.slice (some ⟨g, 0, none⟩) 1 1) [m] :=
  .inr ⟨g, 1, rfl, hB, h.lt, fun i u hu => h.cell i u (by unfold mrow at hu; rw [List.flatMap_cons, List.flatMap_nil, List.append_nil] at hu; exact hu)⟩
def CallOut (W0 W w' : World) (n j : Nat) (lg0 : Value) (es0 : List (List Value)) (lgs : Nat → LogC) (bd : Int) (A : Nat → Mb) (way : List Ms) (leads : List Int) (V : Nat → Int → Nat → Prop) (cs1 : List Value) (v : Value) : Prop :=
  ∃ (m1 : Mb) (more : List Ms) (V' : Nat → Int → Nat → Prop), MemI W0 w' (fun k => W.heap.size ≤ k) n j lg0 (lgs j) es0 m1 cs1 ∧ MsgsAt W.heap.size w' v more ∧ more.length ≤ 7 ∧ (∀ j T i, V j T i → V' j T i) ∧ Inv n lgs (bd + 1) (upd1 A j m1) way leads V' ∧ (∀ m ∈ more, MOK n lgs (bd + 1) V' m) ∧ (A j).tm ≤ m1.tm ∧ (m1.rl = 2 → ¬ ((A j).rl = 2 ∧ (A j).tm = m1.tm) → Maj n V' m1.tm j)
section
variable {W0 W : World} {F : Nat → Prop} {n j : Nat} {lg0 : Value} {es0 : List (List Value)} {lgs : Nat → LogC} {bd : Int} {A : Nat → Mb} {way : List Ms} {leads : List Int} {V : Nat → Int → Nat → Prop} {cs : List Value}
theorem call_vote (hI : Inv n lgs bd A way leads V) (h1 : 1 ≤ n) (h7 : n ≤ 7) (hbd : bd ≤ 2305843009213693952) (hM : MemI W0 W F n j lg0 (lgs j) es0 (A j) cs) (hL : LgI W0 lg0 (lgs j) es0) {m : Ms} (hm : MOK n lgs bd V m) (hj : m.t = j) (hk : m.k = 1) :
    Calls Try.prog 19 #[.agg cs.toArray, .agg (msC m).toArray] W fun e w' => ∃ cs1 a l c, e = .returned (.tuple #[.agg cs1.toArray, .slice a l c]) ∧ CallOut W0 W w' n j lg0 es0 lgs bd A way leads V cs1 (.slice a l c) ∧ Below W.heap.size W w' := by
  obtain ⟨ga, gc, na, nl, nc, ma, ml, mc, xs, ys, k, rfl, hg, hlt, h8, h10, h11, hv, hw⟩ := hM.parts hL
  obtain ⟨f, t, e1, e2, f1, f2, f3, f4, f5, f6⟩ := id hm
  obtain rfl : t = j := by omega
  refine (vote_let (k + 2) t n (A t).tm (A t).vt (A t).rl (A t).ld (A t).ti (A t).vs ga (lgs t).len gc 0 na nl nc ma ml mc m.f m.t m.k m.tm m.xi m.xl 0 none 0 0 m.ok (lgs t).lt W W (Below.refl _ _) hg hlt (by omega) (by omega) hk).mono ?_
  rintro e w' ⟨tm1, vt1, rl1, ld1, ti1, vs1, gr, ga1, gc1, na1, nl1, nc1, ma1, ml1, mc1, G, rfl, hvl, ⟨m2, i8, i10, i11⟩, hG, hge, hb⟩
  obtain ⟨V', q1, q2, q3, q4, q5⟩ := step_vote (m1 := ⟨tm1, vt1, rl1, ld1, ti1, vs1⟩) hI hm hj hk hvl
  refine ⟨memL t n tm1 vt1 rl1 ld1 ti1 vs1 (.slice ga1 (lgs t).len gc1) 0 (.slice na1 nl1 nc1) (.slice ma1 ml1 mc1), _, _, _, rfl, ⟨⟨tm1, vt1, rl1, ld1, ti1, vs1⟩, [⟨t, m.f, 2, tm1, 0, 0, gr⟩], V', ?_, MsgsAt.of_box hG hge, by simp, q1, q2.bound (by omega), fun m' hm' => by rw [List.mem_singleton.1 hm']; exact q3.mono (by omega) (fun _ _ _ h => h), q4, fun hr hn => (hn (q5 hr)).elim⟩, hb⟩
  obtain ⟨k', g8⟩ := log_trans hb.size (fun k _ hk => hb.block k hk) h8 i8
  exact ⟨ga1, gc1, na1, nl1, nc1, ma1, ml1, mc1, _, _, k', rfl, g8, IntF.copy (fol_in (A t).tm m.tm (h10.1.below hb)) i10, IntF.copy (fol_in (A t).tm m.tm (h11.1.below hb)) i11,
    valid_vote hv (by omega) (by omega) (by omega) f4 rfl rfl rfl rfl rfl hvl.etm hvl.egr hvl.evt hvl.erl hvl.eld hvl.eti hvl.evs, vlet_wfs hvl hw (by omega) (by omega) (wf_of (by omega)) (wf_of (by omega))⟩
theorem call_voted (hI : Inv n lgs bd A way leads V) (h1 : 1 ≤ n) (h7 : n ≤ 7) (hbd : bd ≤ 2305843009213693952) (hM : MemI W0 W F n j lg0 (lgs j) es0 (A j) cs) (hL : LgI W0 lg0 (lgs j) es0) {m : Ms} (hm : MOK n lgs bd V m) (hj : m.t = j) :
    Calls Try.prog 22 #[.agg cs.toArray, .agg (msC m).toArray] W fun e w' => ∃ cs1, e = .returned (.agg cs1.toArray) ∧ CallOut W0 W w' n j lg0 es0 lgs bd A way leads V cs1 (.slice none 0 0) ∧ Below W.heap.size W w' := by
  obtain ⟨ga, gc, na, nl, nc, ma, ml, mc, xs, ys, k, rfl, hg, hlt, h8, h10, h11, hv, hw⟩ := hM.parts hL
  obtain ⟨f, t, e1, e2, f1, f2, f3, f4, f5, f6⟩ := id hm
  obtain rfl : t = j := by omega
  obtain ⟨⟨g1, g2, g3, g4, g5, g6, g7, g8, g9⟩, k1, k2, k3, k4, k5⟩ := valid_g hv
  have hvv : (A t).vs < 128 := pow7 g2 k5
  refine (voted_own (k + 2) t n (A t).tm (A t).vt (A t).rl (A t).ld (A t).ti (A t).vs ga (lgs t).len gc 0 na nl nc ma ml mc m.f m.t m.k m.tm m.xi m.xl 0 none 0 0 m.ok W W (Below.refl _ _) hg g3 g4 g1 g2 k4 k5 (by omega) (by omega) _ _ rfl rfl _ rfl).mono ?_
  rintro e w' ⟨ga2, gc2, na2, nc2, ma2, mc2, cs1, rfl, hvr, ⟨m2, i8, i10, i11⟩, hb⟩
  obtain ⟨c, hc⟩ : ∃ c, c = VCase m.k m.tm (A t).tm (A t).rl m.ok (cntB (orB (A t).vs (2 ^ m.f.toNat)) (n : Int).toNat) (maj n) := ⟨_, rfl⟩
  rw [← hc] at hvr
  have hb2 : 0 ≤ orB (A t).vs (2 ^ m.f.toNat) ∧ orB (A t).vs (2 ^ m.f.toNat) < 2 ^ (n : Int).toNat := orB_in k4 g1 g2 k5 (by omega) (by omega)
  have hb128 := pow7 g2 hb2.2
  obtain ⟨k', g8'⟩ := log_trans hb.size (fun k _ hk => hb.block k hk) h8 i8
  have hx10 := h10.1.below hb
  have hx11 := h11.1.below hb
  have hwx : (Lit.int .i64 m.tm).wf = true := wf_of (by omega)
  -- the letters behind, by cases
  have key : ∃ m1 : Mb, MbR c t (A t) (orB (A t).vs (2 ^ m.f.toNat)) m.tm m1 ∧ MemI W0 w' (fun k => W.heap.size ≤ k) n t lg0 (lgs t) es0 m1 cs1 := by
    have hval := fun (m1 : Mb) (hr : MbR c t (A t) (orB (A t).vs (2 ^ m.f.toNat)) m.tm m1) => valid_voted (f := f) (xk := m.k) (xok := m.ok) hv (by omega) (by omega) f4 (by rw [e1]) rfl hc hr
    rcases hvr with ⟨hc0, rfl⟩ | ⟨hc1, rfl⟩ | ⟨hc2, rfl⟩ | ⟨hc3, pa, pl, pc, sa, sl, sc, rfl, r1, r2, ⟨o1, ho1, hp1⟩, ⟨o2, ho2, hp2⟩⟩
    · have hr : MbR c t (A t) (orB (A t).vs (2 ^ m.f.toNat)) m.tm (A t) := .inl ⟨hc0, rfl⟩
      have hva := hval _ hr
      rw [if_neg (by omega), if_neg (by omega), if_neg (by omega), if_neg (by omega)] at hva
      exact ⟨_, hr, ga2, gc2, na2, nl, nc2, ma2, ml, mc2, xs, ys, k', rfl, g8', IntF.copy hx10 i10, IntF.copy hx11 i11, hva, hw⟩
    · have hr : MbR c t (A t) (orB (A t).vs (2 ^ m.f.toNat)) m.tm ⟨fTm (A t).tm m.tm, fVt (A t).tm m.tm (A t).vt, fRl (A t).tm m.tm (A t).rl, fLd (A t).tm m.tm (A t).ld, fTi (A t).tm m.tm (A t).rl (A t).ti t, fVs (A t).tm m.tm (A t).vs⟩ := .inr (.inl ⟨hc1, rfl⟩)
      have hva := hval _ hr
      rw [if_pos hc1, if_pos hc1] at hva
      have hlt' : (A t).tm < m.tm := vcase_1 (hc.symm.trans hc1)
      have hn : ¬ m.tm ≤ (A t).tm := by omega
      have hws := fol_wfs (xf := 0) (xt := m.tm) false hw g3 (by omega) hwx (by decide)
      simp only [Bool.false_eq_true, if_false] at hws
      have n10 := IntF.copy (fol_in (A t).tm m.tm hx10) (fol_ints (A t).tm m.tm i10)
      have n11 := IntF.copy (fol_in (A t).tm m.tm hx11) (fol_ints (A t).tm m.tm i11)
      rw [if_neg hn] at n10 n11
      exact ⟨_, hr, ga2, gc2, _, _, _, _, _, _, [], [], k', rfl, g8', n10, n11, hva, hws⟩
    · have hr : MbR c t (A t) (orB (A t).vs (2 ^ m.f.toNat)) m.tm ⟨(A t).tm, (A t).vt, (A t).rl, (A t).ld, (A t).ti, orB (A t).vs (2 ^ m.f.toNat)⟩ := .inr (.inr (.inl ⟨hc2, rfl⟩))
      have hva := hval _ hr
      rw [if_neg (by omega), if_neg (by omega), if_neg (by omega), if_neg (by omega)] at hva
      refine ⟨_, hr, ga2, gc2, na2, nl, nc2, ma2, ml, mc2, xs, ys, k', rfl, g8', IntF.copy hx10 i10, IntF.copy hx11 i11, hva, fun x hx => ?_⟩
      simp only [List.mem_cons, List.not_mem_nil, or_false] at hx hw
      rcases hx with rfl | rfl | rfl | rfl | rfl | rfl | rfl | rfl | rfl
      all_goals first | exact wf_of (by omega) | exact hw _ (by simp)
    · have hr : MbR c t (A t) (orB (A t).vs (2 ^ m.f.toNat)) m.tm ⟨(A t).tm, (A t).vt, 2, t, 1, orB (A t).vs (2 ^ m.f.toNat)⟩ := .inr (.inr (.inr ⟨hc3, rfl⟩))
      have hva := hval _ hr
      rw [if_neg (by omega), if_pos hc3, if_neg (by omega), if_pos hc3, hL.len] at hva
      have hfew := hL.few
      refine ⟨_, hr, ga2, gc2, pa, pl, pc, sa, sl, sc, _, _, k', rfl, g8', IntF.row r1 ho1 hp1 (nextL_wf (by omega)) (by rw [nextL_len]; omega) (by rw [nextL_len]; omega), IntF.row r2 ho2 hp2 (matchL_wf (by omega)) (by rw [matchL_len]; omega) (by rw [matchL_len]; omega), hva, fun x hx => ?_⟩
      simp only [List.mem_cons, List.not_mem_nil, or_false] at hx hw
      rcases hx with rfl | rfl | rfl | rfl | rfl | rfl | rfl | rfl | rfl
      all_goals first | exact wf_of (by omega) | exact hw _ (by simp)
  obtain ⟨m1, hr, hM1⟩ := key
  obtain ⟨V', q1, q2, q3, q4⟩ := step_voted hI h7 hm hj e1 ⟨k4, hvv⟩ rfl hb2.1 (by rw [Int.toNat_natCast]) hc hr
  exact ⟨cs1, rfl, ⟨m1, [], V', hM1, .inl ⟨rfl, rfl⟩, by simp, q1, q2.bound (by omega), fun m' hm' => (by cases hm'), q3, q4⟩, hb⟩
theorem call_camp (hI : Inv n lgs bd A way leads V) (h1 : 1 ≤ n) (h7 : n ≤ 7) (hbd : bd ≤ 2305843009213693952) (hj : j < n) (hM : MemI W0 W F n j lg0 (lgs j) es0 (A j) cs) (hL : LgI W0 lg0 (lgs j) es0) :
    Calls Try.prog 24 #[.agg cs.toArray] W fun e w' => ∃ cs1 a l c, e = .returned (.tuple #[.agg cs1.toArray, .slice a l c]) ∧ CallOut W0 W w' n j lg0 es0 lgs bd A way leads V cs1 (.slice a l c) ∧ Below W.heap.size W w' := by
  obtain ⟨ga, gc, na, nl, nc, ma, ml, mc, xs, ys, k, rfl, hg, hlt, h8, h10, h11, hv, hw⟩ := hM.parts hL
  have hbj := hI.bnd j hj
  refine (campaign_any (k + 2) j n (A j).tm (A j).vt (A j).rl (A j).ld (A j).ti (A j).vs ga (lgs j).len gc 0 na nl nc ma ml mc (lgs j).lt W W (Below.refl _ _) hg hlt (by omega) (by omega) (by omega) (by omega) (by omega) (by omega)).mono ?_
  rintro e w' ⟨rl1, ld1, ti1, ga2, gc2, pa, pl, pc, sa, sl, sc, xa, xl, xc, rfl, hR, ⟨m2, i8⟩, hb⟩
  obtain ⟨k', g8⟩ := log_trans hb.size (fun k _ hk => hb.block k hk) h8 i8
  have hfew := hL.few
  have hp : (0 : Int) < 2 ^ (j : Int).toNat ∧ (2 : Int) ^ (j : Int).toNat ≤ 128 := by
    have h2 : 2 ^ (j : Int).toNat ≤ 2 ^ 7 := Nat.pow_le_pow_right (by decide) (by omega)
    have h3 : ((2 ^ (j : Int).toNat : Nat) : Int) ≤ 128 := by exact_mod_cast h2
    have h4 : ((2 ^ (j : Int).toNat : Nat) : Int) = 2 ^ (j : Int).toNat := by simp
    exact ⟨Int.pow_pos (by decide), by omega⟩
  obtain ⟨m1, hm1⟩ : ∃ m1 : Mb, m1 = ⟨(A j).tm + 1, j, rl1, ld1, ti1, 2 ^ (j : Int).toNat⟩ := ⟨_, rfl⟩
  have hsh : (m1.rl = 1 ∨ (m1.rl = 2 ∧ n = 1)) ∧ (((n : Int) = 1 ∧ m1.rl = 2 ∧ m1.ld = j ∧ m1.ti = 1) ∨ (¬ (n : Int) = 1 ∧ m1.rl = 1 ∧ m1.ld = -1 ∧ m1.ti = 10 + 3 * (j : Int))) := by
    subst hm1
    rcases hR with ⟨a1, a2, a3, a4, _⟩ | ⟨a1, a2, a3, a4, _⟩
    · exact ⟨.inr ⟨a2, by omega⟩, .inl ⟨a1, a2, a3, a4⟩⟩
    · exact ⟨.inl a2, .inr ⟨a1, a2, a3, a4⟩⟩
  have hva := valid_camp (m1 := m1) hv (by rw [hm1]) (by rw [hm1]) (by rw [hm1]) hsh.2
  rw [hL.len] at hva
  have hwm : ∀ x ∈ [(j : Int), (n : Int), m1.tm, m1.vt, m1.rl, m1.ld, m1.ti, m1.vs, 0], (Lit.int .i64 x).wf = true := by
    intro x hx
    have e1 : m1.tm = (A j).tm + 1 := by rw [hm1]
    have e2 : m1.vt = j := by rw [hm1]
    have e3 : m1.vs = 2 ^ (j : Int).toNat := by rw [hm1]
    refine wf_of ?_
    simp only [List.mem_cons, List.not_mem_nil, or_false] at hx
    rcases hx with rfl | rfl | rfl | rfl | rfl | rfl | rfl | rfl | rfl <;> omega
  obtain ⟨V', q1, q2, q3, q4⟩ := step_camp hI h1 h7 hj (m1 := m1) (by rw [hm1]) (by rw [hm1]) (by rw [hm1]) hsh.1
  have hrw : memL j n ((A j).tm + 1) j rl1 ld1 ti1 (2 ^ (j : Int).toNat) (.slice ga2 (lgs j).len gc2) 0 (.slice pa pl pc) (.slice sa sl sc) = memL j n m1.tm m1.vt m1.rl m1.ld m1.ti m1.vs (.slice ga2 (lgs j).len gc2) 0 (.slice pa pl pc) (.slice sa sl sc) := by rw [hm1]
  refine ⟨memL j n ((A j).tm + 1) j rl1 ld1 ti1 (2 ^ (j : Int).toNat) (.slice ga2 (lgs j).len gc2) 0 (.slice pa pl pc) (.slice sa sl sc), xa, xl, xc, rfl, ?_, hb⟩
  rw [hrw]
  rcases hR with ⟨a1, a2, a3, a4, r1, r2, ⟨o1, ho1, hp1⟩, ⟨o2, ho2, hp2⟩, rfl, rfl, rfl⟩ | ⟨a1, a2, a3, a4, rfl, rfl, rfl, rfl, rfl, rfl, hO⟩
  · rw [if_pos a1, if_pos a1] at hva
    exact ⟨m1, [], V', ⟨ga2, gc2, pa, pl, pc, sa, sl, sc, _, _, k', rfl, g8, IntF.row r1 ho1 hp1 (nextL_wf (by omega)) (by rw [nextL_len]; omega) (by rw [nextL_len]; omega), IntF.row r2 ho2 hp2 (matchL_wf (by omega)) (by rw [matchL_len]; omega) (by rw [matchL_len]; omega), hva, hwm⟩, .inl ⟨rfl, rfl⟩, by simp, q1, q2, fun m' hm' => (by cases hm'), q3, fun hr _ => q4 hr⟩
  · rw [if_neg a1, if_neg a1] at hva
    have hrl := reqs_len (j : Int) ((A j).tm + 1) (lgs j).len (lgs j).lt (n : Int).toNat
    exact ⟨m1, reqs j ((A j).tm + 1) (lgs j).len (lgs j).lt (n : Int).toNat, V', ⟨ga2, gc2, none, 0, 0, none, 0, 0, [], [], k', rfl, g8, IntF.nil _ _, IntF.nil _ _, hva, hwm⟩, MsgsAt.of_own hO, by omega, q1, q2, fun m' hm' => reqs_ok hj (by omega) (by omega) _ (by omega) m' hm', q3, fun hr _ => q4 hr⟩
end
end Go.Proofs.Ytfpgklhbghahoaa
/- Election: rows of rows beside boxes (plain). -/
namespace Go.Proofs.Ytfpgklhbghahoaa
open Go.ChangeShapes Go.WideShapes Go.ChangeAt Go.RowKit Go.ChangeMaps Go.Joins Go.Deep
set_option linter.unusedVariables false
set_option linter.unusedSimpArgs false
set_option maxRecDepth 100000
theorem flat_len {z : Nat} : ∀ {css : List (List Value)}, (∀ c ∈ css, c.length = z) → css.flatten.length = css.length * z
  | [], _ => by simp
  | c :: css, h => by
    rw [List.flatten_cons, List.length_append, flat_len (fun c' hc' => h c' (List.mem_cons_of_mem _ hc')), h c List.mem_cons_self, List.length_cons, Nat.add_mul]
    omega
theorem flat_get {z : Nat} : ∀ {css : List (List Value)}, (∀ c ∈ css, c.length = z) → ∀ {j i : Nat} {cs : List Value}, css[j]? = some cs → i < z → css.flatten[j * z + i]? = cs[i]?
  | [], _, j, i, cs, hj, _ => by simp at hj
  | c :: css, h, 0, i, cs, hj, hi => by
    obtain rfl := Option.some.inj hj
    rw [List.flatten_cons, Nat.zero_mul, Nat.zero_add, List.getElem?_append_left (by rw [h c List.mem_cons_self]; exact hi)]
  | c :: css, h, j + 1, i, cs, hj, hi => by
    have hc := h c List.mem_cons_self
    rw [List.flatten_cons, List.getElem?_append_right (by rw [hc, Nat.add_mul]; omega), hc, show (j + 1) * z + i - z = j * z + i by rw [Nat.add_mul]; omega]
    exact flat_get (fun c' hc' => h c' (List.mem_cons_of_mem _ hc')) (by simpa using hj) hi
theorem flat_set {z : Nat} : ∀ {css : List (List Value)}, (∀ c ∈ css, c.length = z) → ∀ {j : Nat} {ds : List Value}, j < css.length → ds.length = z → css.flatten.take (j * z) ++ ds ++ css.flatten.drop (j * z + z) = (css.set j ds).flatten
  | [], _, j, ds, hj, _ => by simp at hj
  | c :: css, h, 0, ds, hj, hd => by
    have hc := h c List.mem_cons_self
    rw [List.set_cons_zero, List.flatten_cons, List.flatten_cons, Nat.zero_mul, List.take_zero, List.nil_append, Nat.zero_add, ← hc, List.drop_left]
  | c :: css, h, j + 1, ds, hj, hd => by
    have hc := h c List.mem_cons_self
    have ih := flat_set (fun c' hc' => h c' (List.mem_cons_of_mem _ hc')) (by simpa using hj : j < css.length) hd
    rw [List.set_cons_succ, List.flatten_cons, List.flatten_cons, ← ih, show (j + 1) * z = c.length + j * z by rw [hc, Nat.add_mul]; omega, List.take_append, Nat.add_sub_cancel_left, List.take_of_length_le (by omega), show c.length + j * z + z = c.length + (j * z + z) by omega, List.drop_append, Nat.add_sub_cancel_left, List.drop_of_length_le (by omega)]
    simp
theorem box_row {W : World} {S z : Nat} {css : List (List Value)} (h : Box W S css.flatten) (hz : ∀ c ∈ css, c.length = z) {j : Nat} {cs : List Value} (hj : css[j]? = some cs) : W.rangeAt S (j * z) cs := by
  intro i u hu
  have hi : i < z := by
    have := (List.getElem?_eq_some_iff.1 hu).1
    rwa [hz cs (List.mem_of_getElem? hj)] at this
  exact h.cell _ _ (by rw [flat_get hz hj hi]; exact hu)
theorem box_set {W : World} {S z : Nat} {css : List (List Value)} (h : Box W S css.flatten) (hz : ∀ c ∈ css, c.length = z) {j : Nat} {ds : List Value} (hj : j < css.length) (hd : ds.length = z) : Box (W.setCells S (j * z) ds) S (css.set j ds).flatten := by
  rw [← flat_set hz hj hd]
  have hl := flat_len hz
  have : j * z + ds.length ≤ css.flatten.length := by
    rw [hl, hd, ← Nat.succ_mul]
    exact Nat.mul_le_mul_right z hj
  have hb := Box.mid h (j * z) this
  unfold spl at hb
  rwa [hd] at hb
theorem Box.of_own {W : World} {base n size : Nat} {e : TypeId} {v : Value} {xs : List Value} (h : W.ownsRow base e size v n xs) (h0 : 0 < n) : ∃ g cap, v = .slice (some ⟨g, 0, none⟩) n cap ∧ base ≤ g ∧ n ≤ cap ∧ Box W g xs := by
  have hlt := h.lt
  rcases id h.2 with ⟨_, hn⟩ | ⟨g, cap, cur, rfl, h1, h2, h3, h4, h5, h6⟩
  · omega
  · refine ⟨g, cap, rfl, h1, h3, ⟨fun j u hu => ?_, fun o => ?_, (hlt g rfl).2⟩⟩
    · have := World.ownsRow.cells (g := g) h rfl j u hu
      rwa [addr_add'] at this
    · simp [World.frozen?, h2]
section
variable {P : Program} {N : Nat} {env : VEnv} {a : Act} {ops : Array Oper} {rest : List Oper} {Q : Exit → Act → World → Prop} {w : World} {b : Base} {l : List (Nat × List Value)} {d y x z : Nat} {ps : String} {af : Array Edge} {t : TypeId}
/-- a row out of the middle -/
theorem sv_lrr {g p : Nat} {cs : List Value} {fs : Array Field} (hf : FrV N env a) (hx : env.lookup x = some (.pointer (some ⟨g, p, none⟩))) (hr : w.rangeAt g p cs) (hu : P.underlying t = some (.struct fs)) (hn : (P.info? t).map (·.size) = some cs.length) (hd : d < N) (h : ∀ a', FrV N ((d, .agg cs.toArray) :: env) a' → wpList P ops Q rest a' w) : wpList P ops Q ({ dst := some d, op := .load t (.tmp x), type := y, pos := ps, after := af, guard := none } :: rest) a w :=
  sv_run hf hd (fun a hf => ex_load_row t (.tmp x) g p cs _ rfl (hf.rel x _ hx) hr hu rfl hn) h
theorem sv_srr {g m : Nat} {css : List (List Value)} {cs : List Value} {q : Operand} {j : Nat} (hf : FrV N env a) (hB : Bx b l w) (hx : env.lookup x = some (.pointer (some ⟨g, j * m, none⟩))) (hz : ev env q = some (.agg cs.toArray)) (i : Nat) (hi : l[i]? = some (g, css.flatten)) (hm : ∀ c ∈ css, c.length = m) (hj : j < css.length) (hl : cs.length = m) (hn : (P.info? t).map (·.size) = some cs.length) (h1 : ∀ v ∈ cs, v.oneCell' = true) (l' : List (Nat × List Value)) (hl' : l.set i (g, (css.set j cs).flatten) = l') (h : ∀ w', Bx b l' w' → Only w w' g → wpList P ops Q rest a w') : wpList P ops Q ({ dst := none, op := .store t (.tmp x) q, type := y, pos := ps, after := af, guard := none } :: rest) a w := by
  have hb := hB.get hi
  have hle : j * m + cs.length ≤ css.flatten.length := by rw [flat_len hm, hl, ← Nat.succ_mul]; exact Nat.mul_le_mul_right m hj
  have ho := Only.setCells w g (j * m) cs hb.lt
  refine wpList_done rfl rfl (ex_store_row t (.tmp x) q g (j * m) cs rfl (hf.rel x _ hx) (hf.ev hz) (hb.there (j * m) cs.length hle) hn h1) ?_
  exact h _ (by rw [← hl']; exact hB.set hi (box_set hb hm hj hl) ho) ho
end
end Go.Proofs.Ytfpgklhbghahoaa
/- A byte as an int, remainders, quotients (plain). -/
namespace Go.Proofs.Ytfpgklhbghahoaa
open Go.ChangeShapes Go.WideShapes Go.ChangeAt Go.RowKit Go.ChangeMaps Go.Joins Go.Deep
set_option linter.unusedVariables false
set_option linter.unusedSimpArgs false
set_option maxRecDepth 100000
section
variable {P : Program} {w : World} {o : Oper} {a : Act} {N : Nat} {env : VEnv}
theorem ex_conv8 {S D : TypeId} {x : Operand} {n : Int} (hf : FrV N env a) (ho : o.op = .convert S D x) (hx : ev env x = some (.int .u8 n)) (hS : P.underlying S = some (.int .u8)) (hD : P.underlying D = some (.int .i64)) (h0 : 0 ≤ n) (h7 : n < 256) : (execOp a.eval o).run P w = .ok (.value (.int .i64 n)) w := by
  unfold execOp
  simp only [ho, hf.ev hx]
  have e1 : (underlying S).run P w = .ok (.int .u8) w := run_underlying hS w
  have e2 : (underlying D).run P w = .ok (.int .i64) w := run_underlying hD w
  simp only [convert, Sem.run_bind, e1, e2, Result.andThen_ok, Conv.intToInt, Sem.run_pure]
  rw [show IntKind.i64.wrap n = n from by rw [IntKind.wrap_i64]; omega]
theorem ex_rem {xT zT : TypeId} {x z : Operand} {m n r : Int} (hf : FrV N env a) (ho : o.op = .binOp .rem xT x z zT) (hx : ev env x = some (.int .i64 m)) (hz : ev env z = some (.int .i64 n)) (h0 : 0 ≤ m) (h1 : m < 1000000) (hn : 0 < n) (hn1 : n < 1000000) (hr : m % n = r) : (execOp a.eval o).run P w = .ok (.value (.int .i64 r)) w := by
  subst hr
  have e : m.tmod n = m % n := by rw [Int.tmod_eq_emod_of_nonneg h0]
  have hb1 := Int.emod_nonneg m (show n ≠ 0 by omega)
  have hb2 := Int.emod_lt_of_pos m hn
  have hne : ¬ n = 0 := by omega
  have hw : IntKind.i64.wrap (m % n) = m % n := by rw [IntKind.wrap_i64]; omega
  unfold execOp
  simp only [ho, hf.ev hx, hf.ev hz]
  simp [go_sem, Op.intDiv, hne, e, hw]
theorem ex_quo {xT zT : TypeId} {x z : Operand} {m n r : Int} (hf : FrV N env a) (ho : o.op = .binOp .quo xT x z zT) (hx : ev env x = some (.int .i64 m)) (hz : ev env z = some (.int .i64 n)) (h0 : 0 ≤ m) (h1 : m < 1000000) (hn : 0 < n) (hn1 : n < 1000000) (hr : m / n = r) : (execOp a.eval o).run P w = .ok (.value (.int .i64 r)) w := by
  subst hr
  have e : m.tdiv n = m / n := by rw [Int.tdiv_eq_ediv_of_nonneg h0]
  have hne : ¬ n = 0 := by omega
  have hb1 : 0 ≤ m / n := Int.ediv_nonneg h0 (by omega)
  have hb2 : m / n ≤ m := Int.ediv_le_self _ h0
  have hw : IntKind.i64.wrap (m / n) = m / n := by rw [IntKind.wrap_i64]; omega
  unfold execOp
  simp only [ho, hf.ev hx, hf.ev hz]
  simp [go_sem, Op.intDiv, hne, e, hw]
end
end Go.Proofs.Ytfpgklhbghahoaa
/- Election: the logs that came in; the set while it is made (plain). -/
namespace Go.Proofs.Ytfpgklhbghahoaa
open Go.ChangeShapes Go.WideShapes Go.ChangeAt Go.RowKit Go.ChangeMaps Go.Joins Go.Deep
set_option linter.unusedVariables false
set_option linter.unusedSimpArgs false
set_option maxRecDepth 100000
structure LogsIn (w : World) (la : Option Addr) (ln : Nat) (lg0 : Nat → Value) (lgs : Nat → LogC) (es0 : Nat → List (List Value)) : Prop where
  ent : ∀ j, EntArg w (lg0 j) (es0 j)
  len : ∀ j, (es0 j).length = (lgs j).len
  last : ∀ j, LastAt w (lg0 j) (lgs j).lt
  self : ∀ j, ∃ k, EqC Try.prog w w TT (fun k => k < w.heap.size) (k + 1) 22 [lg0 j] [lg0 j]
  sl : ∀ j, ∃ a c, lg0 j = .slice a (lgs j).len c
  wf : ∀ j, ∀ e ∈ es0 j, (Lit.int .i64 (trm e)).wf = true
  inn : ∀ j, j < ln → ∃ B o, la = some ⟨B, o, none⟩ ∧ B < w.heap.size ∧ w.cell? ⟨B, o + j, none⟩ = some (lg0 j)
  out : ∀ j, ln ≤ j → lg0 j = .slice none 0 0
theorem LogsIn.lgI {w : World} {la : Option Addr} {ln : Nat} {lg0 : Nat → Value} {lgs : Nat → LogC} {es0 : Nat → List (List Value)} (h : LogsIn w la ln lg0 lgs es0) {j : Nat} (hf : (lgs j).len ≤ 20) : LgI w (lg0 j) (lgs j) (es0 j) := ⟨h.ent j, h.len j, h.last j, hf⟩
/-- all of one log out of what came in -/
theorem log_choice {w : World} {n : Nat} {v : Value} (h : GoodC Try.prog w n 22 [v]) : ∃ (L : LogC) (es : List (List Value)), EntArg w v es ∧ es.length = L.len ∧ LastAt w v L.lt ∧ (∃ k, EqC Try.prog w w TT (fun k => k < w.heap.size) (k + 1) 22 [v] [v]) ∧ (∃ a c, v = .slice a L.len c) ∧ ∀ e ∈ es, (Lit.int .i64 (trm e)).wf = true := by
  have hq : EqC Try.prog w w (fun k => k < w.heap.size) (fun k => k < w.heap.size) n 22 [v] [v] := EqC.refl (fun _ h => h) _ _ _ h
  obtain ⟨es, he⟩ := ents_good h
  obtain ⟨a, c, rfl⟩ := he.len
  obtain ⟨t, _, _, _, _, _, _, _, h1, _, _, hw⟩ := lastAt_eq hq.tt
  refine ⟨⟨es.length, t⟩, es, he, rfl, h1, ?_, ⟨a, c, rfl⟩, fun e hm => ?_⟩
  · cases n with
    | zero => exact hq.elim
    | succ n => exact ⟨n, EqC.kept (Nat.le_refl _) (Nat.le_refl _) (fun _ _ _ => rfl) (fun _ _ _ => rfl) (fun _ _ _ => trivial) (fun _ h _ => h) _ _ _ _ hq⟩
  · obtain ⟨j, hj, rfl⟩ := List.mem_iff_getElem.1 hm
    rcases he with ⟨rfl, _⟩ | ⟨B, o, cap, e, hB, h0, hm', hr⟩
    · simp at hj
    · obtain ⟨rfl, _, rfl⟩ := Value.slice.inj e
      have e82 : Try.prog.cellsOf 73 = 82 := by kernel_rfl
      cases n with
      | zero => exact hq.elim
      | succ n =>
        unfold EqC at hq
        simp only [Try.underlying22] at hq
        obtain ⟨a1, l1, c1, a2, c2, e1, e2, _, _, _, _, h7⟩ := hq
        obtain ⟨rfl, rfl, rfl⟩ := Value.slice.inj (List.cons.inj e1).1
        obtain ⟨B1, o1, B2, o2, f1, f2, _, _, hj7⟩ := h7 h0
        obtain ⟨rfl, rfl, _⟩ := Addr.mk.inj (Option.some.inj f1)
        obtain ⟨xs, ys, k1, k2, k3, k4, k5⟩ := hj7 j hj
        rw [e82] at k1 k2 k3 k4
        obtain ⟨hr1, hl82, _, t0, s0, r0, e0⟩ := hr j hj
        have hxe : xs = es[j] := range_uniq (k1.trans hl82.symm) k3 hr1
        rw [hxe] at k5
        cases n with
        | zero => exact k5.elim
        | succ n =>
          have e3 : Try.prog.cellsOf 3 = 1 := by kernel_rfl
          have g0 : EqC Try.prog w w (fun k => k < w.heap.size) (fun k => k < w.heap.size) n 3 (part_ es[j] 0 (Try.prog.cellsOf 3)) (part_ ys 0 (Try.prog.cellsOf 3)) := ((eqC_struct Try.underlying73).1 k5).2.2 0 _ rfl
          rw [e3, e0] at g0
          rw [e0]
          have g1 : EqC Try.prog w w (fun k => k < w.heap.size) (fun k => k < w.heap.size) n 3 [.int .i64 t0] (part_ ys 0 1) := g0
          have hg := EqC.good _ _ _ _ g1
          cases n with
          | zero => exact hg.elim
          | succ n =>
            unfold GoodC at hg
            simp only [Try.underlying3] at hg
            obtain ⟨m, e4, hw4⟩ := hg
            have : t0 = m := by have := (List.cons.inj e4).1; injection this
            rw [show trm (.int .i64 t0 :: .int .i64 s0 :: r0) = t0 from rfl, this]
            exact hw4
/-- the set while it is made: q members -/
structure SetB (w X : World) (n q : Nat) (lg0 : Nat → Value) (lgs : Nat → LogC) (es0 : Nat → List (List Value)) (A : Nat → Mb) (css : List (List Value)) (v : Value) : Prop where
  own : X.ownsRow w.heap.size 25 12 v css.length css.flatten
  len : css.length = q
  row : ∀ c ∈ css, c.length = 12
  ge : w.heap.size ≤ X.heap.size
  mem : ∀ j, j < q → (∃ cs, css[j]? = some cs ∧ MemI w X (fun k => k < w.heap.size) n j (lg0 j) (lgs j) (es0 j) (A j) cs) ∧ (lgs j).len ≤ 20 ∧ (A j).vt = -1 ∧ (A j).rl = 0 ∧ 0 ≤ (A j).tm ∧ (A j).tm ≤ 1152921504606846976
section
variable {w X X' : World} {n q : Nat} {lg0 : Nat → Value} {lgs : Nat → LogC} {es0 : Nat → List (List Value)} {A : Nat → Mb} {css : List (List Value)} {v v' : Value}
theorem own_same2 {B : Nat} {W W' : World} {T : TypeId} {z n : Nat} {v : Value} {xs : List Value} (h : W.ownsRow B T z v n xs) (hk : ∀ k, v.ownBlock = some k → W'.heap[k]? = W.heap[k]?) : W'.ownsRow B T z v n xs := by
  obtain ⟨h1, h2⟩ := h
  refine ⟨h1, ?_⟩
  rcases h2 with h2 | ⟨g, cap, cur, e, h2, h3, h4⟩
  · exact .inl h2
  · subst e
    exact .inr ⟨g, cap, cur, rfl, h2, (hk g rfl).trans h3, h4⟩
theorem SetB.nil (w : World) (n : Nat) (lg0 : Nat → Value) (lgs : Nat → LogC) (es0 : Nat → List (List Value)) (A : Nat → Mb) (hb : w.heap.size ≤ X.heap.size) : SetB w X n 0 lg0 lgs es0 A [] (.slice none 0 0) :=
  ⟨World.ownsRow_nil _ _ _ _, rfl, fun c h => (by cases h), hb, fun j h => absurd h (Nat.not_lt_zero j)⟩
theorem SetB.kept (h : SetB w X n q lg0 lgs es0 A css v) (hs : X.heap.size ≤ X'.heap.size) (h1 : ∀ k, v.ownBlock = some k → X'.heap[k]? = X.heap[k]?) (h2 : ∀ k, k < w.heap.size → X'.heap[k]? = X.heap[k]?) : SetB w X' n q lg0 lgs es0 A css v :=
  ⟨own_same2 h.own h1, h.len, h.row, Nat.le_trans h.ge hs, fun j hj => by
    obtain ⟨⟨cs, e, hm⟩, r⟩ := h.mem j hj
    exact ⟨⟨cs, e, hm.kept hs (fun k hk _ => h2 k hk) (fun k hk _ => hk)⟩, r⟩⟩
theorem SetB.below (h : SetB w X n q lg0 lgs es0 A css v) (hb : Below X.heap.size X X') : SetB w X' n q lg0 lgs es0 A css v :=
  h.kept hb.size (fun k hk => hb.block k (World.ownsRow.lt h.own k hk).2) (fun k hk => hb.block k (Nat.lt_of_lt_of_le hk h.ge))
theorem SetB.only {c : Nat} (h : SetB w X n q lg0 lgs es0 A css v) (ho : Only X X' c) (hc : w.heap.size ≤ c) (hne : ∀ k, v.ownBlock = some k → k < c) : SetB w X' n q lg0 lgs es0 A css v :=
  h.kept (Nat.le_of_eq ho.size.symm) (fun k hk => ho.heap k (fun e => by have := hne k hk; omega)) (fun k hk => ho.heap k (fun e => by omega))
/-- one member more -/
theorem SetB.push (h : SetB w X n q lg0 lgs es0 A css v) {cs : List Value} {m : Mb} (ho : X'.ownsRow w.heap.size 25 12 v' (css.length + 1) (css.flatten ++ cs)) (hg : X.grownBy X' v.ownBlock) (hl : cs.length = 12) (hm : MemI w X (fun k => k < w.heap.size) n q (lg0 q) (lgs q) (es0 q) m cs) (h1 : (lgs q).len ≤ 20) (h2 : m.vt = -1) (h3 : m.rl = 0) (h4 : 0 ≤ m.tm) (h5 : m.tm ≤ 1152921504606846976) : SetB w X' n (q + 1) lg0 lgs es0 (upd1 A q m) (css ++ [cs]) v' := by
  have hk : ∀ k, k < w.heap.size → X'.heap[k]? = X.heap[k]? := fun k hk => hg.block k (Nat.lt_of_lt_of_le hk h.ge) (fun e => by
    have := (World.ownsRow.lt h.own k e.symm).1
    omega)
  refine ⟨?_, by rw [List.length_append, h.len]; rfl, fun c hc => ?_, Nat.le_trans h.ge hg.size, fun j hj => ?_⟩
  · rw [List.length_append, List.flatten_append]
    simpa using ho
  · rcases List.mem_append.1 hc with hc | hc
    · exact h.row c hc
    · rw [List.mem_singleton.1 hc]; exact hl
  · by_cases e : j = q
    · subst e
      rw [upd1_same]
      exact ⟨⟨cs, by rw [List.getElem?_append_right (by rw [h.len]; exact Nat.le_refl _), h.len, Nat.sub_self]; rfl, hm.kept hg.size (fun k hk' _ => hk k hk') (fun k hk' _ => hk')⟩, h1, h2, h3, h4, h5⟩
    · rw [upd1_other A m e]
      obtain ⟨⟨cs', e', hm'⟩, r⟩ := h.mem j (by omega)
      exact ⟨⟨cs', by rw [List.getElem?_append_left (by rw [h.len]; omega)]; exact e', hm'.kept hg.size (fun k hk' _ => hk k hk') (fun k hk' _ => hk')⟩, r⟩
end
end Go.Proofs.Ytfpgklhbghahoaa
/- Slices of nothing, parts of slices (plain). -/
namespace Go.Proofs.Ytfpgklhbghahoaa
open Go.ChangeShapes Go.WideShapes Go.ChangeAt Go.RowKit Go.ChangeMaps Go.Joins Go.Deep
set_option linter.unusedVariables false
set_option linter.unusedSimpArgs false
set_option maxRecDepth 100000
section
variable {P : Program} {w : World} {o : Oper} {a : Act} {N : Nat} {env : VEnv}
theorem ex_bs0 {t e : TypeId} (ho : o.op = .buildSlice t 0 #[]) (hu : P.underlying t = some (.slice e)) {ie : TypeInfo} (hi : P.info? e = some ie) : (execOp a.eval o).run P w = .ok (.value (.slice (some ⟨w.heap.size, 0, none⟩) 0 0)) (w.alloc (.cells #[] e)) := by
  unfold execOp
  simp [ho, Instr.buildSlice, run_underlying hu, sizeOf, typeInfo, hi, Instr.fill, newRow]
  have h0 : (Array.range 0).map (fun _ => (default : Value)) = #[] := Array.eq_empty_of_size_eq_zero (by simp)
  exact congrArg (fun c => w.alloc (.cells c e)) h0
theorem ex_slh {t e : TypeId} {x z : Operand} {ad : Option Addr} {n c k s : Nat} (hf : FrV N env a) (ho : o.op = .slice t x none (some z) none) (hx : ev env x = some (.slice ad n c)) (hz : ev env z = some (.int .i64 (k : Int))) (hu : P.underlying t = some (.slice e)) (hs : (P.info? e).map (·.size) = some s) (hk : k ≤ c) : (execOp a.eval o).run P w = .ok (.value (sliced ad 0 k c s)) w := by
  have hel : P.underlying t = some (.slice (P.elem t)) := by simp [Program.elem, hu]
  have hee : P.elem t = e := by simp [Program.elem, hu]
  have hsize : (sizeOf (P.elem t)).run P w = .ok s w := by
    rw [hee]
    cases hq : P.info? e with
    | none => simp [hq] at hs
    | some inf =>
      have : inf.size = s := by simpa [hq] using hs
      simp [sizeOf, typeInfo, hq, this]
  unfold execOp
  simp [ho, hf.ev hx, hf.ev hz, run_slice_h (P := P) (w := w) t ad n c hel .i64 k (by omega) (by omega), hsize, Instr.sliceAt, run_underlying hu]
theorem ex_sll {t e : TypeId} {x z : Operand} {ad : Option Addr} {n c k s : Nat} (hf : FrV N env a) (ho : o.op = .slice t x (some z) none none) (hx : ev env x = some (.slice ad n c)) (hz : ev env z = some (.int .i64 (k : Int))) (hu : P.underlying t = some (.slice e)) (hs : (P.info? e).map (·.size) = some s) (hk : k ≤ n) : (execOp a.eval o).run P w = .ok (.value (sliced ad k n c s)) w := by
  have hel : P.underlying t = some (.slice (P.elem t)) := by simp [Program.elem, hu]
  have hee : P.elem t = e := by simp [Program.elem, hu]
  have hsize : (sizeOf (P.elem t)).run P w = .ok s w := by
    rw [hee]
    cases hq : P.info? e with
    | none => simp [hq] at hs
    | some inf =>
      have : inf.size = s := by simpa [hq] using hs
      simp [sizeOf, typeInfo, hq, this]
  unfold execOp
  simp [ho, hf.ev hx, hf.ev hz, run_slice_l (P := P) (w := w) t ad n c hel .i64 k (by omega) (by omega), hsize, Instr.sliceAt, run_underlying hu]
end
end Go.Proofs.Ytfpgklhbghahoaa
/- Election: the state at the head of the acts (plain). -/
namespace Go.Proofs.Ytfpgklhbghahoaa
open Go.ChangeShapes Go.WideShapes Go.ChangeAt Go.RowKit Go.ChangeMaps Go.Joins Go.Deep
set_option linter.unusedVariables false
set_option linter.unusedSimpArgs false
set_option maxRecDepth 100000
/-- begin anew with what is kept at this world -/
theorem Bx.rebase {b : Base} {W : World} {l : List (Nat × List Value)} (h : Bx b l W) (F : Nat → Prop) (hl : ∀ x ∈ l, ¬ F x.1) : Bx ⟨b.w, [(W, F)]⟩ l W := by
  refine ⟨h.box, h.low, h.ge, h.nd, fun p hpm => ?_, fun p hpm x hx hlt => ?_⟩
  · rw [List.mem_singleton.1 hpm]; exact ⟨Nat.le_refl _, fun _ _ _ => rfl⟩
  · rw [List.mem_singleton.1 hpm]; exact hl x hx
structure StD (w W : World) (F : Nat → Prop) (n : Nat) (lg0 : Nat → Value) (lgs : Nat → LogC) (es0 : Nat → List (List Value)) (bd : Int) (A : Nat → Mb) (way : List Ms) (leads : List Int) (V : Nat → Int → Nat → Prop) (css : List (List Value)) (wv : Value) (S G : Nat) : Prop where
  inv : Inv n lgs bd A way leads V
  mem : ∀ j, j < n → ∃ cs, css[j]? = some cs ∧ MemI w W F n j (lg0 j) (lgs j) (es0 j) (A j) cs
  row : ∀ c ∈ css, c.length = 12
  len : css.length = n
  own : OwnM w.heap.size W wv way
  apart : ∀ k, wv.ownBlock = some k → ¬ F k ∧ k ≠ S ∧ k ≠ G
  flt : ∀ k, F k → k < W.heap.size
  fS : ¬ F S ∧ ¬ F G ∧ S ≠ G
  wl : way.length ≤ 306
  ll : leads.length = 200
theorem Inv.start {n : Nat} {lgs : Nat → LogC} {A : Nat → Mb} (h : ∀ j, j < n → (A j).vt = -1 ∧ (A j).rl = 0 ∧ 0 ≤ (A j).tm ∧ (A j).tm ≤ 1152921504606846976) : Inv n lgs 1152921504606846976 A [] (nextL (-1) 200) (fun _ _ _ => False) := by
  refine ⟨fun j T i h => h.elim, fun j T i i' h => h.elim, fun j T i h => h.elim, fun j hj => .inl (h j hj).1, fun j i h => h.elim, fun j T i h => h.elim, fun i hi hr => ?_, fun j hj => (h j hj).2.2, fun m hm => (by cases hm), fun T x hx => .inl ?_⟩
  · have := (h i hi).2.1
    omega
  · unfold nextL at hx
    exact List.eq_of_mem_replicate (List.mem_of_getElem? hx)
/-- the acts begin -/
theorem StD.start {w WB W : World} {n : Nat} {lg0 : Nat → Value} {lgs : Nat → LogC} {es0 : Nat → List (List Value)} {A : Nat → Mb} {css : List (List Value)} {S G : Nat}
    (hmem : ∀ j, j < n → (∃ cs, css[j]? = some cs ∧ MemI w WB (fun k => k < w.heap.size) n j (lg0 j) (lgs j) (es0 j) (A j) cs) ∧ (lgs j).len ≤ 20 ∧ (A j).vt = -1 ∧ (A j).rl = 0 ∧ 0 ≤ (A j).tm ∧ (A j).tm ≤ 1152921504606846976)
    (hrow : ∀ c ∈ css, c.length = 12) (hlen : css.length = n) (hwB : w.heap.size ≤ WB.heap.size) (hs : WB.heap.size ≤ W.heap.size) (hk : ∀ k, k < w.heap.size → k < WB.heap.size → W.heap[k]? = WB.heap[k]?) (hS : w.heap.size ≤ S) (hG : w.heap.size ≤ G) (hne : S ≠ G) :
    StD w W (fun k => k < w.heap.size) n lg0 lgs es0 1152921504606846976 A [] (nextL (-1) 200) (fun _ _ _ => False) css (.slice none 0 0) S G :=
  ⟨Inv.start (fun j hj => (hmem j hj).2.2), fun j hj => by
    obtain ⟨⟨cs, e, hm⟩, _⟩ := hmem j hj
    exact ⟨cs, e, hm.kept hs (fun k h1 h2 => hk k h1 h2) (fun k h1 _ => h1)⟩, hrow, hlen, OwnM.nil _ _, fun k h => (by cases h), fun k (h : k < w.heap.size) => by omega, ⟨Nat.not_lt.2 hS, Nat.not_lt.2 hG, hne⟩, by simp, by rw [nextL_len]⟩
end Go.Proofs.Ytfpgklhbghahoaa
/- Election: a round of the acts (plain). -/
namespace Go.Proofs.Ytfpgklhbghahoaa
open Go.ChangeShapes Go.WideShapes Go.ChangeAt Go.RowKit Go.ChangeMaps Go.Joins Go.Deep
set_option linter.unusedVariables false
set_option linter.unusedSimpArgs false
set_option maxRecDepth 100000
theorem MemI.cells {W0 W : World} {F : Nat → Prop} {n j : Nat} {lg0 : Value} {L : LogC} {es0 : List (List Value)} {m : Mb} {cs : List Value} (h : MemI W0 W F n j lg0 L es0 m cs) : cs.length = 12 ∧ ∀ v ∈ cs, v.oneCell' = true := by
  obtain ⟨ga, gc, na, nl, nc, ma, ml, mc, xs, ys, k, rfl, _⟩ := h
  exact ⟨rfl, fun v hv => List.all_eq_true.1 (show List.all (memL (j : Int) (n : Int) m.tm m.vt m.rl m.ld m.ti m.vs (.slice ga L.len gc) 0 (.slice na nl nc) (.slice ma ml mc)) (·.oneCell') = true from rfl) v hv⟩
theorem MemI.valid_ok {W0 W : World} {F : Nat → Prop} {n j : Nat} {lg0 : Value} {L : LogC} {es0 : List (List Value)} {m : Mb} {cs : List Value} (h : MemI W0 W F n j lg0 L es0 m cs) (hL : LgI W0 lg0 L es0) : Calls Try.prog 16 #[.agg cs.toArray] W fun e w' => e = .returned (.bool true) ∧ Below W.heap.size W w' := by
  obtain ⟨ga, gc, na, nl, nc, ma, ml, mc, xs, ys, k, rfl, h8, h10, h11, hv, hw⟩ := h
  obtain ⟨es', e1, e2, e3, e4⟩ := ents_copyW hL.ent h8
  have hf := hL.few
  have hl := hL.len
  exact valid_true (j : Int) (n : Int) m.tm m.vt m.rl m.ld m.ti m.vs _ es' 0 _ _ xs ys W (by omega) e1 h10.1 h11.1 (by rw [validB_congr e2 e3 e4]; exact hv)
theorem same_log {w W : World} {F F' : Nat → Prop} {k k' : Nat} {lg v v' : Value} (h : EqC Try.prog w W TT F (k + 1) 22 [lg] [v]) (h' : EqC Try.prog w W TT F' (k' + 1) 22 [lg] [v']) : Calls Try.prog 25 #[v, v'] W fun e w' => e = .returned (.bool true) ∧ Below W.heap.size W w' :=
  SameLog_ok (max k k' + 1) W [v] [v'] (EqC.tt (EqC.trans _ _ _ _ _ (EqC.symm _ _ _ _ (EqC.upTo h (by omega))) (EqC.upTo h' (by omega))))
/-- messages that lie in a block that is kept -/
def MsgsF (F : Nat → Prop) (W : World) (v : Value) (L : List Ms) : Prop := (v = .slice none 0 0 ∧ L = []) ∨ ∃ g c, v = .slice (some ⟨g, 0, none⟩) L.length c ∧ F g ∧ g < W.heap.size ∧ ∀ i u, (mrow L)[i]? = some u → W.cell? ⟨g, i, none⟩ = some u
theorem cell_of_block {W W' : World} {k i : Nat} (h : W'.heap[k]? = W.heap[k]?) : W'.cell? ⟨k, i, none⟩ = W.cell? ⟨k, i, none⟩ := by
  simp only [World.cell?, h]
theorem MsgsF.kept {F : Nat → Prop} {W W' : World} {v : Value} {L : List Ms} (h : MsgsF F W v L) (hs : W.heap.size ≤ W'.heap.size) (hk : ∀ k, F k → k < W.heap.size → W'.heap[k]? = W.heap[k]?) : MsgsF F W' v L := by
  rcases h with h | ⟨g, c, e, h1, h2, h3⟩
  · exact .inl h
  · exact .inr ⟨g, c, e, h1, Nat.lt_of_lt_of_le h2 hs, fun i u hu => (cell_of_block (hk g h1 h2)).trans (h3 i u hu)⟩
theorem OwnM.at {B : Nat} {W : World} {g n c : Nat} {L : List Ms} (h : OwnM B W (.slice (some ⟨g, 0, none⟩) n c) L) : n = L.length ∧ n ≤ c ∧ ∀ i u, (mrow L)[i]? = some u → W.cell? ⟨g, i, none⟩ = some u := by
  refine ⟨?_, ?_, fun i u hu => ?_⟩
  · rcases h.2 with ⟨h1, h2⟩ | ⟨g, cap, cur, h1, h2⟩
    · cases h1
    · exact (Value.slice.inj h1).2.1
  · rcases h.2 with ⟨h1, h2⟩ | ⟨g, cap, cur, h1, h2, h3, h4, h5⟩
    · cases h1
    · have e := Value.slice.inj h1
      omega
  · have := World.ownsRow.cells (g := g) h rfl i u hu
    rw [addr_add', Nat.zero_add] at this
    exact this
theorem OwnM.none_len {B : Nat} {W : World} {v : Value} {L : List Ms} (h : OwnM B W v L) : ∃ a c, v = .slice a L.length c ∧ L.length ≤ c ∧ (0 < L.length → ∃ g, a = some ⟨g, 0, none⟩) := by
  rcases h.2 with ⟨h1, h2⟩ | ⟨g, cap, cur, h1, h2, h3, h4, h5⟩
  · exact ⟨none, 0, by rw [h1, h2], by omega, fun h => by omega⟩
  · exact ⟨_, _, h1, h4, fun _ => ⟨g, rfl⟩⟩
theorem OwnM.msg {B : Nat} {W : World} {g n c : Nat} {L : List Ms} (h : OwnM B W (.slice (some ⟨g, 0, none⟩) n c) L) {k : Nat} {m : Ms} (hm : L[k]? = some m) : W.rangeAt g (0 + k * 9) (msC m) := by
  intro i u hu
  have hi : i < 9 := (List.getElem?_eq_some_iff.1 hu).1
  rw [Nat.zero_add]
  refine h.at.2.2 _ u ?_
  have hz : ∀ c ∈ L.map msC, c.length = 9 := fun c hc => by
    obtain ⟨m', _, rfl⟩ := List.mem_map.1 hc
    rfl
  have := flat_get hz (j := k) (i := i) (cs := msC m) (by rw [List.getElem?_map, hm]; rfl) hi
  unfold mrow
  rw [List.flatMap_def, this]
  exact hu
/-- the slice way[:k] -/
theorem OwnM.head {B : Nat} {W : World} {g n c : Nat} {L : List Ms} (h : OwnM B W (.slice (some ⟨g, 0, none⟩) n c) L) (k : Nat) : sliced (some ⟨g, 0, none⟩) 0 k c 9 = .slice (some ⟨g, 0, none⟩) k c ∧ ∀ j u, (mrow (L.take k))[j]? = some u → W.cell? ((⟨g, 0, none⟩ : Addr).add j) = some u := by
  refine ⟨?_, fun j u hu => ?_⟩
  · unfold sliced
    rw [Nat.zero_mul, Nat.sub_zero, Nat.sub_zero]
    split <;> rfl
  · rw [addr_add', Nat.zero_add]
    refine h.at.2.2 j u ?_
    have e : mrow L = mrow (L.take k) ++ mrow (L.drop k) := by rw [← mrow_app, List.take_append_drop]
    rw [e, List.getElem?_append_left (List.getElem?_eq_some_iff.1 hu).1]
    exact hu
def tadr (g k c : Nat) : Addr := if c = k then ⟨g, 0, none⟩ else ⟨g, k * 9, none⟩
/-- the slice way[k+1:] -/
theorem OwnM.tail {B : Nat} {W : World} {g n c : Nat} {L : List Ms} (h : OwnM B W (.slice (some ⟨g, 0, none⟩) n c) L) {k : Nat} (hk : k ≤ L.length) : sliced (some ⟨g, 0, none⟩) k n c 9 = .slice (some (tadr g k c)) (n - k) (c - k) ∧ ∀ j u, (mrow (L.drop k))[j]? = some u → W.cell? ((tadr g k c).add j) = some u := by
  obtain ⟨hn, hc, hcell⟩ := h.at
  unfold tadr
  by_cases e : c = k
  · refine ⟨by unfold sliced; rw [if_pos e, if_pos e], fun j u hu => ?_⟩
    rw [List.drop_of_length_le (by omega)] at hu
    simp [mrow] at hu
  · refine ⟨?_, fun j u hu => ?_⟩
    · unfold sliced
      rw [if_neg e, if_neg e]
      show Value.slice (some ((⟨g, 0, none⟩ : Addr).add (k * 9))) _ _ = _
      rw [addr_add', Nat.zero_add]
    · rw [if_neg e, addr_add']
      refine hcell _ u ?_
      have e : mrow L = mrow (L.take k) ++ mrow (L.drop k) := by rw [← mrow_app, List.take_append_drop]
      have e2 : (mrow (L.take k)).length = k * 9 := by rw [mrow_len, List.length_take, Nat.min_eq_left hk]
      rw [e, List.getElem?_append_right (by omega), e2, Nat.add_sub_cancel_left]
      exact hu
theorem rem_len (L : List Ms) {k : Nat} (hk : k < L.length) : 0 + k + (L.length - (k + 1)) = (L.take k ++ L.drop (k + 1)).length := by
  rw [List.length_append, List.length_take, List.length_drop, Nat.min_eq_left (by omega)]; omega
theorem rem_sub {L : List Ms} {k : Nat} : ∀ m ∈ L.take k ++ L.drop (k + 1), m ∈ L := fun m hm => by
  rcases List.mem_append.1 hm with h | h
  · exact List.mem_of_mem_take h
  · exact List.mem_of_mem_drop h
theorem take_len (L : List Ms) {k : Nat} (hk : k < L.length) : (mrow (L.take k)).length = k * 9 := by rw [mrow_len, List.length_take, Nat.min_eq_left (by omega)]
theorem drop_len (L : List Ms) (k : Nat) : (mrow (L.drop k)).length = (L.length - k) * 9 := by rw [mrow_len, List.length_drop]
/-- the row without message k -/
theorem OwnM.removed {B : Nat} {W : World} {L : List Ms} {k : Nat} {v : Value} (h : W.ownsRow B 35 9 v (L.take k ++ L.drop (k + 1)).length ([] ++ mrow (L.take k) ++ mrow (L.drop (k + 1)))) : OwnM B W v (L.take k ++ L.drop (k + 1)) := by
  unfold OwnM
  rw [mrow_app]
  rwa [List.nil_append] at h
/-- a row of nothing that was just made -/
theorem own_empty {B : Nat} (W : World) (hB : B ≤ W.heap.size) : (W.alloc (.cells #[] 35)).ownsRow B 35 9 (.slice (some ⟨W.heap.size, 0, none⟩) 0 0) 0 [] := by
  refine ⟨rfl, .inr ⟨W.heap.size, 0, #[], rfl, hB, ?_, Nat.le_refl _, Nat.zero_le _, rfl, rfl⟩⟩
  show (W.heap.push _)[W.heap.size]? = _
  exact Array.getElem?_push_size
theorem OwnM.grown {B : Nat} {W W' : World} {v : Value} {L : List Ms} {row : Option Nat} (h : OwnM B W v L) (hg : W.grownBy W' row) (hne : ∀ k, v.ownBlock = some k → row ≠ some k) : OwnM B W' v L := h.keep (fun k hk => hg.block k (h.lt k hk).2 (fun e => hne k hk (by first | exact e | exact e.symm)))
theorem ex_add {P : Program} {w : World} {o : Oper} {a : Act} {N : Nat} {env : VEnv} {xT zT : TypeId} {x z : Operand} {m n r : Int} (hf : FrV N env a) (ho : o.op = .binOp .add xT x z zT) (hx : ev env x = some (.int .i64 m)) (hz : ev env z = some (.int .i64 n)) (hr : IntKind.i64.wrap (m + n) = r) : (execOp a.eval o).run P w = .ok (.value (.int .i64 r)) w := by
  subst hr
  unfold execOp
  simp only [ho, hf.ev hx, hf.ev hz]
  rfl
theorem log_kept {w W W' : World} {F : Nat → Prop} {n : Nat} {u v : Value} (h : EqC Try.prog w W TT F n 22 [u] [v]) (hs : W.heap.size ≤ W'.heap.size) (hk : ∀ k, F k → k < W.heap.size → W'.heap[k]? = W.heap[k]?) : EqC Try.prog w W' TT F n 22 [u] [v] :=
  EqC.kept (Nat.le_refl _) hs (fun _ _ _ => rfl) hk (fun _ _ _ => trivial) (fun _ h _ => h) _ _ _ _ h
theorem Inv.sub {n : Nat} {lg : Nat → LogC} {bd : Int} {A : Nat → Mb} {way way' : List Ms} {leads : List Int} {V : Nat → Int → Nat → Prop} (h : Inv n lg bd A way leads V) (hm : ∀ m ∈ way', m ∈ way) : Inv n lg bd A way' leads V := h.more (fun m hm' => h.msg m (hm m hm'))
theorem StD.to {w W X : World} {F F' : Nat → Prop} {n : Nat} {lg0 : Nat → Value} {lgs : Nat → LogC} {es0 : Nat → List (List Value)} {bd : Int} {A : Nat → Mb} {way way' : List Ms} {leads : List Int} {V : Nat → Int → Nat → Prop} {css : List (List Value)} {wv wv' : Value} {S G : Nat} (h : StD w W F n lg0 lgs es0 bd A way leads V css wv S G)
    (hs : W.heap.size ≤ X.heap.size) (hk : ∀ k, F k → k < W.heap.size → X.heap[k]? = W.heap[k]?) (hFF : ∀ k, F k → F' k) (ho : OwnM w.heap.size X wv' way') (ha : ∀ k, wv'.ownBlock = some k → ¬ F' k ∧ k ≠ S ∧ k ≠ G) (hfl : ∀ k, F' k → k < X.heap.size) (hFS : ¬ F' S ∧ ¬ F' G) (hsub : ∀ m ∈ way', m ∈ way) (hl : way'.length ≤ 306) : StD w X F' n lg0 lgs es0 bd A way' leads V css wv' S G :=
  ⟨h.inv.sub hsub, fun j hj => by
    obtain ⟨cs, e, hm⟩ := h.mem j hj
    exact ⟨cs, e, hm.kept hs hk (fun k hk _ => hFF k hk)⟩, h.row, h.len, ho, ha, hfl, ⟨hFS.1, hFS.2, h.fS.2.2⟩, hl, h.ll⟩
/-- what the three ways of a round leave -/
structure JnD (w X : World) (F : Nat → Prop) (n : Nat) (lg0 : Nat → Value) (lgs : Nat → LogC) (es0 : Nat → List (List Value)) (bd : Int) (A : Nat → Mb) (way : List Ms) (leads : List Int) (V : Nat → Int → Nat → Prop) (css : List (List Value)) (wv : Value) (S G j C : Nat) (cs1 : List Value) (m1 : Mb) (more : List Ms) (V' : Nat → Int → Nat → Prop) (v : Value) : Prop where
  std : StD w X F n lg0 lgs es0 bd A way leads V css wv S G
  jn : j < n
  mem1 : MemI w X F n j (lg0 j) (lgs j) (es0 j) m1 cs1
  msgs : MsgsF F X v more
  few : more.length ≤ 7
  le : ∀ j T i, V j T i → V' j T i
  inv1 : Inv n lgs (bd + 1) (upd1 A j m1) way leads V'
  mok : ∀ m ∈ more, MOK n lgs (bd + 1) V' m
  tm : (A j).tm ≤ m1.tm
  maj : m1.rl = 2 → ¬ ((A j).rl = 2 ∧ (A j).tm = m1.tm) → Maj n V' m1.tm j
  cne : ¬ F C ∧ C ≠ S ∧ C ≠ G ∧ ∀ k, wv.ownBlock = some k → k ≠ C
section
variable {w W0 W1 X X' : World} {F : Nat → Prop} {n : Nat} {lg0 : Nat → Value} {lgs : Nat → LogC} {es0 : Nat → List (List Value)} {bd : Int} {A : Nat → Mb} {way way' : List Ms} {leads : List Int} {V : Nat → Int → Nat → Prop} {css : List (List Value)} {wv wv' v : Value} {S G j C : Nat} {cs1 : List Value}
theorem CallOut.only {lg : Value} {es : List (List Value)} (h : CallOut w W1 X n j lg es lgs bd A way leads V cs1 v) (ho : Only X X' C) (hC : C < W1.heap.size) : CallOut w W1 X' n j lg es lgs bd A way leads V cs1 v := by
  obtain ⟨m1, more, V', h1, h2, r⟩ := h
  refine ⟨m1, more, V', h1.kept (Nat.le_of_eq ho.size.symm) (fun k (hk : W1.heap.size ≤ k) _ => ho.heap k (by omega)) (fun k hk _ => hk), ?_, r⟩
  rcases h2 with h2 | ⟨g, c, e, g1, g2, g3⟩
  · exact .inl h2
  · exact .inr ⟨g, c, e, g1, by rw [ho.size]; exact g2, fun i u hu => (cell_of_block (ho.heap g (by omega))).trans (g3 i u hu)⟩
theorem CallOut.cells {lg : Value} {es : List (List Value)} (h : CallOut w W1 X n j lg es lgs bd A way leads V cs1 v) : cs1.length = 12 ∧ ∀ v ∈ cs1, v.oneCell' = true := by
  obtain ⟨m1, more, V', h1, _⟩ := h
  exact h1.cells
theorem JnD.of (hD : StD w W0 F n lg0 lgs es0 bd A way leads V css wv S G) (hs : W0.heap.size ≤ W1.heap.size) (hs1 : W1.heap.size ≤ X.heap.size) (hk : ∀ k, F k → k < W0.heap.size → X.heap[k]? = W0.heap[k]?) (ho : OwnM w.heap.size X wv' way') (ha : ∀ k, wv'.ownBlock = some k → ¬ F k ∧ k ≠ S ∧ k ≠ G ∧ k ≠ C ∧ k < W1.heap.size) (hsub : ∀ m ∈ way', m ∈ way) (hl : way'.length ≤ 306) (hS : S < W1.heap.size) (hG : G < W1.heap.size) (hC0 : ¬ F C ∧ C ≠ S ∧ C ≠ G) (hC : C < W1.heap.size) (hj : j < n)
    (hco : CallOut w W1 X n j (lg0 j) (es0 j) lgs bd A way' leads V cs1 v) : ∃ m1 more V', JnD w X (fun k => F k ∨ (W1.heap.size ≤ k ∧ k < X.heap.size)) n lg0 lgs es0 bd A way' leads V css wv' S G j C cs1 m1 more V' v := by
  obtain ⟨m1, more, V', h1, h2, h3, h4, h5, h6, h7, h8⟩ := hco
  refine ⟨m1, more, V', hD.to (Nat.le_trans hs hs1) hk (fun k h => .inl h) ho (fun k hk => ⟨fun h => ?_, (ha k hk).2.1, (ha k hk).2.2.1⟩) (fun k h => ?_) ⟨fun h => ?_, fun h => ?_⟩ hsub hl, hj, h1.kept (Nat.le_refl _) (fun _ _ _ => rfl) (fun k h h' => .inr ⟨h, h'⟩), ?_, h3, h4, h5, h6, h7, h8, fun h => ?_, hC0.2.1, hC0.2.2, fun k hk => (ha k hk).2.2.2.1⟩
  · have := ha k hk
    rcases h with h | h
    · exact this.1 h
    · omega
  · rcases h with h | h
    · have := hD.flt k h; omega
    · exact h.2
  · rcases h with h | h
    · exact hD.fS.1 h
    · omega
  · rcases h with h | h
    · exact hD.fS.2.1 h
    · omega
  · rcases h2 with h2 | ⟨g, c, e, g1, g2, g3⟩
    · exact .inl h2
    · exact .inr ⟨g, c, e, .inr ⟨g1, g2⟩, g2, g3⟩
  · rcases h with h | h
    · exact hC0.1 h
    · omega
theorem StD.next {way2 : List Ms} {lds2 : List Int} {zv v : Value} {m1 : Mb} {more : List Ms} {V' : Nat → Int → Nat → Prop} (hJ : JnD w W0 F n lg0 lgs es0 bd A way leads V css wv S G j C cs1 m1 more V' v) (hs : W0.heap.size ≤ X.heap.size) (hk : ∀ k, F k → k < W0.heap.size → X.heap[k]? = W0.heap[k]?) (hI : Inv n lgs (bd + 1) (upd1 A j m1) way lds2 V') (hm : ∀ m ∈ way2, m ∈ way ∨ m ∈ more) (ho : OwnM w.heap.size X zv way2) (ha : ∀ k, zv.ownBlock = some k → ¬ F k ∧ k ≠ S ∧ k ≠ G) (hl : way2.length ≤ 306) (hl2 : lds2.length = 200) : StD w X F n lg0 lgs es0 (bd + 1) (upd1 A j m1) way2 lds2 V' (css.set j cs1) zv S G := by
  have hD := hJ.std
  refine ⟨hI.more (fun m h => ?_), fun i hi => ?_, fun c hc => ?_, by rw [List.length_set]; exact hD.len, ho, ha, fun k h => Nat.lt_of_lt_of_le (hD.flt k h) hs, hD.fS, hl, hl2⟩
  · rcases hm m h with h | h
    · exact hI.msg m h
    · exact hJ.mok m h
  · by_cases e : i = j
    · subst e
      exact ⟨cs1, by rw [List.getElem?_set_self (by rw [hD.len]; exact hi)], by rw [upd1_same]; exact hJ.mem1.kept hs hk (fun k h _ => h)⟩
    · obtain ⟨cs, e', hm'⟩ := hD.mem i hi
      exact ⟨cs, by rw [List.getElem?_set_ne (by omega)]; exact e', by rw [upd1_other A m1 e]; exact hm'.kept hs hk (fun k h _ => h)⟩
  · rcases List.mem_or_eq_of_mem_set hc with h | h
    · exact hD.row c h
    · rw [h]; exact hJ.mem1.cells.1
end
end Go.Proofs.Ytfpgklhbghahoaa
