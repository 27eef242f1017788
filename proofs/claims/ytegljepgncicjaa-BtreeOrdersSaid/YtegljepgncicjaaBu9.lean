/- Btree: split. -/
import Derived.Test.YtegljepgncicjaaBu8
import Derived.Deep.RegionHeld3
namespace Go.Proofs.Ytegljepgncicjaa
open Go.ChangeShapes Go.WideShapes Go.ChangeAt Go.RowKit Go.Deep
set_option linter.unusedVariables false
set_option linter.unusedSimpArgs false
/-- a piece of a block -/
def Piece (W : World) (g o : Nat) (us : List Value) : Prop := g < W.heap.size ∧ ∀ j u, us[j]? = some u → W.cell? ⟨g, o + j, none⟩ = some u
theorem Piece.kept {W W' : World} {g o : Nat} {us : List Value} (h : Piece W g o us) (hk : Kept (fun _ => False) W W') : Piece W' g o us :=
  ⟨Nat.lt_of_lt_of_le h.1 hk.size, fun j u hj => (World.cell?_of_block (a := ⟨g, o + j, none⟩) (hk.block g h.1 (fun h => h))).trans (h.2 j u hj)⟩
theorem cell_kept' {W W' : World} {b j : Nat} {v : Value} (hk : Kept (fun _ => False) W W') (hb : b < W.heap.size) (h : W.cell? ⟨b, j, none⟩ = some v) : W'.cell? ⟨b, j, none⟩ = some v :=
  (World.cell?_of_block (a := ⟨b, j, none⟩) (hk.block b hb (fun h => h))).trans h
theorem Kept.both {W X Y : World} (h : Kept (fun _ => False) W X) (k : Kept (fun _ => False) X Y) : Kept (fun _ => False) W Y := h.trans k (fun _ h => h.elim)
theorem upd_upd (σ : Sig) (N : Nat) (a b : Nd) : upd (upd σ N a) N b = upd σ N b := by
  refine sig_ext (fun k => ?_) rfl; simp only [upd_k]; split <;> rfl
theorem upd_comm (σ : Sig) {N M : Nat} (h : N ≠ M) (a b : Nd) : upd (upd σ N a) M b = upd (upd σ M b) N a := by
  refine sig_ext (fun k => ?_) rfl; simp only [upd_k]
  by_cases h1 : k = N
  · have h2 : k ≠ M := fun e => h (by rw [← h1, e])
    simp [h1, h2, h]
  · by_cases h2 : k = M
    · simp [h1, h2, Ne.symm h]
    · simp [h1, h2]
/-- the ways out of the pieces of split: a heap of nodes, and what lay below B -/
def HB (B : Nat) (w0 : World) (σ : Sig) (W : World) : Prop := Hp B W σ ∧ Below B w0 W
theorem HB.size {B : Nat} {w0 W : World} {σ : Sig} (h : HB B w0 σ W) (hB : B ≤ w0.heap.size) : B ≤ W.heap.size := Nat.le_trans hB h.2.size
/-- the row of the upper keys of a node -/
theorem piece_of {T B : Nat} {W : World} {g n c m : Nat} {us : List Value} (h : RowV T B W (.slice (some ⟨g, 0, none⟩) n c) us) (hm : m ≤ us.length) : Piece W g m (us.drop m) := by
  rcases h with ⟨h, _⟩ | ⟨g', c', h, _, _, _, hR, hc⟩
  · cases h
  · cases h
    refine ⟨hR.lt, fun j u hj => ?_⟩
    rw [List.getElem?_drop] at hj
    rw [hc (m + j) (List.getElem?_eq_some_iff.1 hj).1]
    exact hj
theorem rowk {B : Nat} {W : World} {v : Value} {xs : List Bs} (h : RowV 9 B W v (strv xs)) (h0 : 0 < xs.length) : ∃ g c, v = .slice (some ⟨g, 0, none⟩) xs.length c ∧ xs.length ≤ c ∧ c ≤ 9223372036854775807 ∧ g < W.heap.size ∧ ∀ j, j < xs.length → W.cell? ⟨g, j, none⟩ = some (.string (sx xs j)) := by
  obtain ⟨g, c, h1, h2, h3, h4, h5⟩ := h.get (by rw [strv_len]; exact h0)
  rw [strv_len] at *
  exact ⟨g, c, h1, h2, h3, h4, fun j hj => by rw [h5 j hj, strv_at, sx_cell hj]⟩
theorem rown {B : Nat} {W : World} {v : Value} {ns : List Nat} (h : RowV 64 B W v (ptrv ns)) (h0 : 0 < ns.length) : ∃ g c, v = .slice (some ⟨g, 0, none⟩) ns.length c ∧ ns.length ≤ c ∧ c ≤ 9223372036854775807 ∧ g < W.heap.size ∧ ∀ j n, ns[j]? = some n → W.cell? ⟨g, j, none⟩ = some (.pointer (some ⟨n, 0, none⟩)) := by
  obtain ⟨g, c, h1, h2, h3, h4, h5⟩ := h.get (by rw [ptrv_len]; exact h0)
  rw [ptrv_len] at *
  exact ⟨g, c, h1, h2, h3, h4, fun j n hj => by rw [h5 j (List.getElem?_eq_some_iff.1 hj).1, ptrv_at, hj]; rfl⟩
/-- a call whose result is stored into a field -/
def FieldOut (B : Nat) (W : World) (σ' : Sig) (N j n : Nat) (e : Ending) (W' : World) : Prop :=
  ∃ a c, e = .returned (.slice a n c) ∧ (∃ u, W'.cell? ⟨N, j, none⟩ = some u) ∧ W'.frozen? ⟨N, j, none⟩ = false ∧ Hp B (W'.setCell ⟨N, j, none⟩ (.slice a n c)) σ' ∧ Below B W (W'.setCell ⟨N, j, none⟩ (.slice a n c))
theorem hp_row {B : Nat} {W : World} {σ : Sig} {N j f n : Nat} {nd nd' : Nd} {v : Value} {args : Array Value} (hp : Hp B W σ) (hB : B ≤ W.heap.size) (hN : σ N = some nd) (hj : j < 3) (hv : W.cell? ⟨N, j, none⟩ = some v)
    (hoth : ∀ i, i < 3 → i ≠ j → nd'.row i = nd.row i) (hn : n = (nd'.row j).length) (hc : Calls Try.prog f args W (RowOut (fT j) B v (nd'.row j) W)) :
    Calls Try.prog f args W (FieldOut B W (upd σ N nd') N j n) := by
  refine hc.mono ?_
  rintro e W' ⟨v', rfl, hr, hk, ho⟩
  obtain ⟨h1, h2, h3, h4, h5, h6⟩ := hp.field hN j hj v v' hv hr hoth hk ho
  obtain ⟨a, c, rfl⟩ := hr.len
  subst hn
  exact ⟨a, c, rfl, Option.isSome_iff_exists.1 h6, h5, h1, h2.below hB (fun k hk => hk.elim (h4 k) (fun e => by rw [e]; exact h3))⟩
theorem hins0 {B : Nat} {W : World} {σ : Sig} {N i vb n : Nat} {ks vs : List Bs} {ns : List Nat} {v : Value} {x : Bs} (hp : Hp B W σ) (hB : B ≤ W.heap.size) (hN : σ N = some ⟨ks, vs, ns⟩) (hv : W.cell? ⟨N, 0, none⟩ = some v) (hi : i ≤ ks.length) (hs : ks.length ≤ 1000) (hn : n = ks.length + 1)
    (hvb : W.heap[vb]? = some (.cells #[.string x] 9 (0, 0))) (hne : ∀ g, v.ownBlock = some g → g ≠ vb) :
    Calls Try.prog 47 #[v, .int .i64 i, .slice (some ⟨vb, 0, none⟩) 1 1] W (FieldOut B W (upd σ N ⟨ks.take i ++ x :: ks.drop i, vs, ns⟩) N 0 n) := by
  obtain ⟨kv, vv, dv, hnd⟩ := hp.node hN
  have := hnd.c0
  rw [hv] at this
  cases this
  exact hp_row hp hB hN (by decide) hv (fun k h1 h2 => by match k, h1 with | 0, _ => exact absurd rfl h2 | 1, _ => rfl | 2, _ => rfl) (by show n = (strv _).length; rw [strv_len, ins_len _ _ _ hi, hn]) (ins_str B v ks i x vb W hnd.r0 hi hs hB hvb (fun e => hne vb e rfl))
theorem hins1 {B : Nat} {W : World} {σ : Sig} {N i vb n : Nat} {ks vs : List Bs} {ns : List Nat} {v : Value} {x : Bs} (hp : Hp B W σ) (hB : B ≤ W.heap.size) (hN : σ N = some ⟨ks, vs, ns⟩) (hv : W.cell? ⟨N, 1, none⟩ = some v) (hi : i ≤ vs.length) (hs : vs.length ≤ 1000) (hn : n = vs.length + 1)
    (hvb : W.heap[vb]? = some (.cells #[.string x] 9 (0, 0))) (hne : ∀ g, v.ownBlock = some g → g ≠ vb) :
    Calls Try.prog 47 #[v, .int .i64 i, .slice (some ⟨vb, 0, none⟩) 1 1] W (FieldOut B W (upd σ N ⟨ks, vs.take i ++ x :: vs.drop i, ns⟩) N 1 n) := by
  obtain ⟨kv, vv, dv, hnd⟩ := hp.node hN
  have := hnd.c1
  rw [hv] at this
  cases this
  exact hp_row hp hB hN (by decide) hv (fun k h1 h2 => by match k, h1 with | 0, _ => rfl | 1, _ => exact absurd rfl h2 | 2, _ => rfl) (by show n = (strv _).length; rw [strv_len, ins_len _ _ _ hi, hn]) (ins_str B v vs i x vb W hnd.r1 hi hs hB hvb (fun e => hne vb e rfl))
theorem hins2 {B : Nat} {W : World} {σ : Sig} {N i vb n x : Nat} {ks vs : List Bs} {ns : List Nat} {v : Value} (hp : Hp B W σ) (hB : B ≤ W.heap.size) (hN : σ N = some ⟨ks, vs, ns⟩) (hv : W.cell? ⟨N, 2, none⟩ = some v) (hi : i ≤ ns.length) (hs : ns.length ≤ 1000) (hn : n = ns.length + 1)
    (hvb : W.heap[vb]? = some (.cells #[.pointer (some ⟨x, 0, none⟩)] 64 (0, 0))) (hne : ∀ g, v.ownBlock = some g → g ≠ vb) :
    Calls Try.prog 48 #[v, .int .i64 i, .slice (some ⟨vb, 0, none⟩) 1 1] W (FieldOut B W (upd σ N ⟨ks, vs, ns.take i ++ x :: ns.drop i⟩) N 2 n) := by
  obtain ⟨kv, vv, dv, hnd⟩ := hp.node hN
  have := hnd.c2
  rw [hv] at this
  cases this
  refine hp_row (nd' := ⟨ks, vs, ns.take i ++ x :: ns.drop i⟩) hp hB hN (by decide) hv (fun k h1 h2 => by match k, h1 with | 0, _ => rfl | 1, _ => rfl | 2, _ => exact absurd rfl h2) (by show n = (ptrv _).length; rw [ptrv_len]; simp; omega) ?_
  have := insp_any B v (ptrv ns) i (ptr x) vb W hnd.r2 (by rw [ptrv_len]; exact hi) (by rw [ptrv_len]; exact hs) hB hvb (fun e => hne vb e rfl) (ptrv_one ns) rfl
  rw [← ptrv_ins] at this
  exact this
theorem hdel0 {B : Nat} {W : World} {σ : Sig} {N i j n : Nat} {ks vs : List Bs} {ns : List Nat} {v : Value} (hp : Hp B W σ) (hB : B ≤ W.heap.size) (hN : σ N = some ⟨ks, vs, ns⟩) (hv : W.cell? ⟨N, 0, none⟩ = some v) (hij : i < j) (hj : j ≤ ks.length) (hn : n = ks.length - (j - i)) :
    Calls Try.prog 49 #[v, .int .i64 i, .int .i64 j] W (FieldOut B W (upd σ N ⟨ks.take i ++ ks.drop j, vs, ns⟩) N 0 n) := by
  obtain ⟨kv, vv, dv, hnd⟩ := hp.node hN
  have := hnd.c0
  rw [hv] at this
  cases this
  exact hp_row hp hB hN (by decide) hv (fun k h1 h2 => by match k, h1 with | 0, _ => exact absurd rfl h2 | 1, _ => rfl | 2, _ => rfl) (by show n = (strv _).length; rw [strv_len]; simp; omega) (del_str B v ks i j W hnd.r0 hij hj)
theorem hdel1 {B : Nat} {W : World} {σ : Sig} {N i j n : Nat} {ks vs : List Bs} {ns : List Nat} {v : Value} (hp : Hp B W σ) (hB : B ≤ W.heap.size) (hN : σ N = some ⟨ks, vs, ns⟩) (hv : W.cell? ⟨N, 1, none⟩ = some v) (hij : i < j) (hj : j ≤ vs.length) (hn : n = vs.length - (j - i)) :
    Calls Try.prog 49 #[v, .int .i64 i, .int .i64 j] W (FieldOut B W (upd σ N ⟨ks, vs.take i ++ vs.drop j, ns⟩) N 1 n) := by
  obtain ⟨kv, vv, dv, hnd⟩ := hp.node hN
  have := hnd.c1
  rw [hv] at this
  cases this
  exact hp_row hp hB hN (by decide) hv (fun k h1 h2 => by match k, h1 with | 0, _ => rfl | 1, _ => exact absurd rfl h2 | 2, _ => rfl) (by show n = (strv _).length; rw [strv_len]; simp; omega) (del_str B v vs i j W hnd.r1 hij hj)
theorem hdel2 {B : Nat} {W : World} {σ : Sig} {N i j n : Nat} {ks vs : List Bs} {ns : List Nat} {v : Value} (hp : Hp B W σ) (hB : B ≤ W.heap.size) (hN : σ N = some ⟨ks, vs, ns⟩) (hv : W.cell? ⟨N, 2, none⟩ = some v) (hij : i < j) (hj : j ≤ ns.length) (hn : n = ns.length - (j - i)) :
    Calls Try.prog 51 #[v, .int .i64 i, .int .i64 j] W (FieldOut B W (upd σ N ⟨ks, vs, ns.take i ++ ns.drop j⟩) N 2 n) := by
  obtain ⟨kv, vv, dv, hnd⟩ := hp.node hN
  have := hnd.c2
  rw [hv] at this
  cases this
  exact hp_row hp hB hN (by decide) hv (fun k h1 h2 => by match k, h1 with | 0, _ => rfl | 1, _ => rfl | 2, _ => exact absurd rfl h2) (by show n = (ptrv _).length; rw [ptrv_len]; simp; omega) (del_ptr B v ns i j W hnd.r2 hij hj)
end Go.Proofs.Ytegljepgncicjaa
