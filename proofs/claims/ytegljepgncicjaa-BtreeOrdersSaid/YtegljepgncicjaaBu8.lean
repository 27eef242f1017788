/- Btree: BinarySearch on rows; the height; get. -/
import Derived.Test.YtegljepgncicjaaBu7b
namespace Go.Proofs.Ytegljepgncicjaa
open Go.ChangeShapes Go.WideShapes Go.ChangeAt Go.RowKit Go.Deep
set_option linter.unusedVariables false
set_option linter.unusedSimpArgs false
theorem bs_str (B : Nat) (v : Value) (xs : List Bs) (x : Bs) (W : World) (h : RowV 9 B W v (strv xs)) (hs : xs.length ≤ 1000) :
    Calls Try.prog 45 #[v, .string x] W fun e W' => e = .returned (.tuple #[.int .i64 (bsI xs x : Nat), .bool (bsF xs x)]) ∧ ∃ q, W' = W.drewN q := by
  rcases h with ⟨rfl, h0⟩ | ⟨g, c, rfl, hBg, hnc, hc63, hR, hc⟩
  · have : xs = [] := by cases xs with
      | nil => rfl
      | cons a b => simp [strv] at h0
    subst this
    refine (Any2.slices_BinarySearch_string_empty Try.laysBS none 0 x W).mono ?_
    rintro e W' ⟨rfl, rfl⟩
    exact ⟨rfl, 0, rfl⟩
  · rw [strv_len] at *
    refine (Any2.slices_BinarySearch_string Try.laysBS g 0 xs.length c (sx xs) x W (by omega) (fun j hj => by rw [Nat.zero_add, hc j hj, strv_at, sx_cell hj])).mono ?_
    rintro e W' ⟨rfl, hq⟩
    exact ⟨rfl, hq⟩
theorem IsT.hu {σ : Sig} {o o' : Nat} : ∀ {h h' lo hi lo' hi' N : Nat} {L L' : List Pr} {S S' : Nat → Prop}, IsT σ o h lo hi N L S → IsT σ o' h' lo' hi' N L' S' → h = h'
  | 0, 0, _, _, _, _, _, _, _, _, _, _, _ => rfl
  | 0, h' + 1, _, _, _, _, _, _, _, _, _, ⟨ks, vs, h1, _⟩, ⟨ks', vs', cs, _, _, h2, _⟩ => by
    have := h2.at_
    rw [h1] at this
    have h3 := h2.lc
    cases cs with
    | nil => simp at h3
    | cons c cs => simp at this
  | h + 1, 0, _, _, _, _, _, _, _, _, _, ⟨ks', vs', cs, _, _, h2, _⟩, ⟨ks, vs, h1, _⟩ => by
    have := h2.at_
    rw [h1] at this
    have h3 := h2.lc
    cases cs with
    | nil => simp at h3
    | cons c cs => simp at this
  | h + 1, h' + 1, _, _, _, _, _, _, _, _, _, ⟨ks, vs, cs, _, _, h1, _⟩, ⟨ks', vs', cs', _, _, h2, _⟩ => by
    have e := h2.at_
    rw [h1.at_] at e
    have h3 := h1.lc
    have h4 := h2.lc
    cases cs with
    | nil => simp at h3
    | cons c cs =>
      cases cs' with
      | nil => simp at h4
      | cons c' cs' =>
        simp at e
        have k1 := (h1.kids c (by simp)).1
        have k2 := (h2.kids c' (by simp)).1
        rw [e.2.2.1] at k1
        rw [IsT.hu k1 k2]
open Classical in
noncomputable def hgt (σ : Sig) (o : Nat) (v : Value) : Nat :=
  if h : ∃ (n : Nat) (N lo hi : Nat) (L : List Pr) (S : Nat → Prop), v = ptr N ∧ IsT σ o n lo hi N L S then Classical.choose h else 0
theorem hgt_eq {σ : Sig} {o h lo hi N : Nat} {L : List Pr} {S : Nat → Prop} (hT : IsT σ o h lo hi N L S) : hgt σ o (ptr N) = h := by
  have hex : ∃ (n : Nat) (M lo hi : Nat) (L : List Pr) (S : Nat → Prop), ptr N = ptr M ∧ IsT σ o n lo hi M L S := ⟨h, N, lo, hi, L, S, rfl, hT⟩
  unfold hgt
  rw [dif_pos hex]
  obtain ⟨M, lo', hi', L', S', e, h2⟩ := Classical.choose_spec hex
  have e' : N = M := by simpa [ptr] using e
  subst e'
  exact h2.hu hT
/-- the rows of a leaf and of a node with kids, as one reads them -/
theorem RowV.get {T B : Nat} {W : World} {v : Value} {us : List Value} (h : RowV T B W v us) (h0 : 0 < us.length) : ∃ g c, v = .slice (some ⟨g, 0, none⟩) us.length c ∧ us.length ≤ c ∧ c ≤ 9223372036854775807 ∧ g < W.heap.size ∧ ∀ j, j < us.length → W.cell? ⟨g, j, none⟩ = us[j]? := by
  rcases h with ⟨rfl, rfl⟩ | ⟨g, c, rfl, _, h1, h2, hR, hc⟩
  · exact absurd h0 (by simp)
  · exact ⟨g, c, rfl, h1, h2, hR.lt, hc⟩
theorem IsT.srtK {σ : Sig} {o : Nat} : ∀ {h lo hi N : Nat} {L : List Pr} {S : Nat → Prop} {nd : Nd}, IsT σ o h lo hi N L S → Srt L → σ N = some nd → SrtK nd.ks
  | 0, _, _, N, _, S, nd, ⟨ks, vs, h1, h2, h3, h4, h5, h6, h7⟩, hs, hN => by
    rw [h1] at hN; cases hN
    subst h5
    have := srtK_of hs
    rwa [zip_keys ks vs h2] at this
  | h + 1, _, _, N, _, S, nd, ⟨ks, vs, cs, h1, h2, h3, h4⟩, hs, hN => by
    have := h3.at_
    rw [hN] at this; cases this
    exact h3.keys hs
theorem IsT.found {σ : Sig} {o : Nat} {key : Bs} : ∀ {h lo hi N : Nat} {L : List Pr} {S : Nat → Prop} {nd : Nd}, IsT σ o h lo hi N L S → Srt L → σ N = some nd → bsF nd.ks key = true → getL L key = some (sx nd.vs (bsI nd.ks key))
  | 0, _, _, N, _, S, nd, hT, hs, hN, hf => by
    have hk := hT.srtK hs hN
    obtain ⟨ks, vs, h1, h2, h3, h4, h5, h6, h7⟩ := hT
    rw [h1] at hN; cases hN
    subst h5
    exact (leaf_found (found_of hk h2 hf) h2 hs ByteArray.empty).1
  | h + 1, _, _, N, _, S, nd, hT, hs, hN, hf => by
    have hk := hT.srtK hs hN
    obtain ⟨ks, vs, cs, h1, h2, h3, h4⟩ := hT
    have := h3.at_
    rw [hN] at this; cases this
    have hF := found_of hk h3.lv hf
    obtain ⟨A, x, C, _, hA, hC, hL⟩ := h3.around _ (Nat.le_of_lt hF.lt)
    obtain ⟨R, _, h5, _⟩ := inn_found hF h3.lv (by rw [List.length_map]; exact hC) hL hs ByteArray.empty
    exact h5
theorem IsT.gap0 {σ : Sig} {o : Nat} {key : Bs} {lo hi N : Nat} {L : List Pr} {S : Nat → Prop} {nd : Nd} (hT : IsT σ o 0 lo hi N L S) (hs : Srt L) (hN : σ N = some nd) (hf : bsF nd.ks key = false) : getL L key = none := by
  have hk := hT.srtK hs hN
  obtain ⟨ks, vs, h1, h2, h3, h4, h5, h6, h7⟩ := hT
  rw [h1] at hN; cases hN
  subst h5
  exact (leaf_gap (gap_of hk hf) h2 ByteArray.empty).1
theorem IsT.gap {σ : Sig} {o : Nat} {key : Bs} {h lo hi N : Nat} {L : List Pr} {S : Nat → Prop} {nd : Nd} (hT : IsT σ o (h + 1) lo hi N L S) (hs : Srt L) (hN : σ N = some nd) (hf : bsF nd.ks key = false) :
    ∃ M Lx Sx, nd.ns[bsI nd.ks key]? = some M ∧ IsT σ o h (o / 2) o M Lx Sx ∧ Srt Lx ∧ getL L key = getL Lx key := by
  have hk := hT.srtK hs hN
  obtain ⟨ks, vs, cs, h1, h2, h3, h4⟩ := hT
  have := h3.at_
  rw [hN] at this; cases this
  have hG := gap_of hk hf
  obtain ⟨A, x, C, hcs, hA, hC, hL⟩ := h3.around _ hG.le
  obtain ⟨_, _, h5, h6, _⟩ := inn_gap hG h3.lv (by rw [List.length_map]; exact hA) (by rw [List.length_map]; exact hC) hL hs
  have hx : x ∈ cs := by rw [hcs]; simp
  refine ⟨x.id, x.L, x.S, ?_, ?_, h5, h6⟩
  · rw [hcs, List.map_append, List.map_cons, List.getElem?_append_right (by rw [List.length_map, hA]; exact Nat.le_refl _), List.length_map, hA, Nat.sub_self]
    rfl
  · have := (h3.kids x hx).1
    rw [(h4 x hx).1, (h4 x hx).2] at this
    exact this
def GetOut (key : Bs) (L : List Pr) (W : World) (e : Ending) (W' : World) : Prop :=
  e = .returned (.tuple #[.string ((getL L key).getD ByteArray.empty), .bool (getL L key).isSome]) ∧ ∃ q, W' = W.drewN q
set_option maxRecDepth 100000 in
set_option maxHeartbeats 1600000 in
theorem get_any (B T N o h lo hi : Nat) (sz : Int) (σ : Sig) (L : List Pr) (S : Nat → Prop) (key : Bs) (W : World) (hp : Hp B W σ) (hb : Box W T [.int .i64 o, .int .i64 sz, .pointer (some ⟨N, 0, none⟩)]) (hT : IsT σ o h lo hi N L S) (hs : Srt L) (ho : o ≤ 256) (hhi : hi ≤ 256) :
    Calls Try.prog 34 #[.pointer (some ⟨T, 0, none⟩), .string key] W (GetOut key L W) := by
  have HP := Lib.hid hp
  have a2 : W.cell? ⟨T, 2, none⟩ = some (.pointer (some ⟨N, 0, none⟩)) := hb.cell 2 _ rfl
  clear hp hb
  go_enter Try.func34, Try.ntmps34
  go_wp2_with fail
  clear a2
  go_loopw [6, 7, 8] (fun n i ok wr => ∃ (h lo hi N : Nat) (L' : List Pr) (S : Nat → Prop) (q : Nat), n = ptr N ∧ IsT σ o h lo hi N L' S ∧ hi ≤ 256 ∧ Srt L' ∧ getL L' key = getL L key ∧ wr = W.drewN q) (fun n i ok wr => hgt σ o n)
  case atStart => exact ⟨h, lo, hi, N, L, S, 0, rfl, hT, hhi, hs, rfl, rfl⟩
  case round =>
    clear hT hs hhi
    obtain ⟨h, lo, hi, N, L', S, q, rfl, hT, hhi, hs, hg, rfl⟩ := hrel
    have hm := hgt_eq hT
    obtain ⟨nd, hN, hlo, hhk, hlv, _, _, hn0, hn1⟩ := hT.node
    obtain ⟨kv, vv, dv, hnd⟩ := (HP.out.drewN q).node hN
    have hbs := Lib.hid (bs_str B kv nd.ks key _ hnd.r0 (by omega))
    obtain ⟨kg, kc, rfl⟩ := hnd.r0.len
    rw [strv_len] at hbs
    have c0 : W.cell? ⟨N, 0, none⟩ = _ := hnd.c0
    rw [strv_len] at c0
    have c1 : W.cell? ⟨N, 1, none⟩ = some vv := hnd.c1
    have c2 : W.cell? ⟨N, 2, none⟩ = some dv := hnd.c2
    have hk : SrtK nd.ks := hT.srtK hs hN
    have hbi : bsI nd.ks key ≤ nd.ks.length := bsI_le hk
    cases hf : bsF nd.ks key with
    | true =>
      have hF := found_of hk hlv hf
      have hg2 : getL L' key = some (sx nd.vs (bsI nd.ks key)) := hT.found hs hN hf
      obtain ⟨i, hi⟩ : ∃ i, i = bsI nd.ks key := ⟨_, rfl⟩
      rw [← hi] at hF hg2
      obtain ⟨vg, vc, rfl, hv1, hv2, _, hvc⟩ := hnd.r1.get (by rw [strv_len, hlv]; have := hF.lt; omega)
      rw [strv_len] at *
      have hil : i < nd.vs.length := by rw [hlv]; exact hF.lt
      have cv : W.cell? ⟨vg, i, none⟩ = some (.string (sx nd.vs i)) := by
        have : W.cell? _ = _ := hvc i hil
        rw [strv_at, sx_cell hil] at this
        exact this
      have HH := Lib.hid (show getL L key = some (sx nd.vs i) by rw [← hg]; exact hg2)
      rw [hf, ← hi] at hbs
      have hvl : nd.vs.length ≤ 256 := by omega
      clear hnd hN hT hn0 hn1 hk hF hg hg2 hvc hm hi hlv hbi
      simp only [ptr]
      go_wp2_with fail
      refine hbs.out.mono ?_
      rintro e W1 ⟨rfl, p, rfl⟩
      clear c2 c0 hbs
      go_wp2_with fail
      go_ret2
      refine ⟨?_, _, rfl⟩
      rw [HH.out]; rfl
    | false =>
      obtain ⟨i, hi⟩ : ∃ i, i = bsI nd.ks key := ⟨_, rfl⟩
      cases h with
      | zero =>
        have HH := Lib.hid (show getL L key = none by rw [← hg]; exact hT.gap0 hs hN hf)
        have hns := hn0 rfl
        obtain ⟨dg, dc, rfl⟩ := hnd.r2.len
        rw [ptrv_len, hns] at c2
        change W.cell? _ = some (.slice dg 0 dc) at c2
        rw [hf, ← hi] at hbs
        clear hnd hN hT hn0 hn1 hk hg hm hi hlv hns hbi c1
        simp only [ptr]
        go_wp2_with fail
        refine hbs.out.mono ?_
        rintro e W1 ⟨rfl, p, rfl⟩
        clear c0 hbs
        go_wp2_with fail
        go_ret2
        refine ⟨?_, _, rfl⟩
        rw [HH.out]; rfl
      | succ h =>
        obtain ⟨M, Lx, Sx, hM, hTx, hsx, hgx⟩ := hT.gap hs hN hf
        have hmx := hgt_eq hTx
        have hnl := hn1 (by omega)
        obtain ⟨dg, dc, rfl, hd1, hd2, _, hdc⟩ := hnd.r2.get (by rw [ptrv_len, hnl]; omega)
        rw [ptrv_len] at *
        rw [← hi] at hM hbi
        have hil : i < nd.ns.length := by rw [hnl]; omega
        have cv : W.cell? ⟨dg, i, none⟩ = some (.pointer (some ⟨M, 0, none⟩)) := by
          have : W.cell? _ = _ := hdc i hil
          rw [ptrv_at, hM] at this
          exact this
        have hnl2 : nd.ns.length ≤ 257 := by omega
        have hnl3 : 0 < nd.ns.length := by omega
        have HR := Lib.hid (And.intro hTx (And.intro hsx (hgx.symm.trans hg)))
        have HM := Lib.hid (And.intro hm hmx)
        rw [hf, ← hi] at hbs
        clear hnd hN hT hn0 hn1 hk hg hm hmx hi hlv hnl c1 hgx hsx hTx hdc hM
        simp only [ptr]
        go_wp2_with fail
        refine hbs.out.mono ?_
        rintro e W1 ⟨rfl, p, rfl⟩
        clear c0 hbs
        go_wp2_with fail
        go_roundw
        case rel => exact ⟨h, o / 2, o, M, Lx, Sx, _, rfl, HR.out.1, ho, HR.out.2.1, HR.out.2.2, rfl⟩
        case measure =>
          have h1 := HM.out.1
          have h2 := HM.out.2
          unfold ptr at h1 h2
          rw [h1, h2]
          exact Nat.lt_succ_self h
end Go.Proofs.Ytegljepgncicjaa
