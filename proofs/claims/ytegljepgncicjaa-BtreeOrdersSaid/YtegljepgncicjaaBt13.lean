/- Btree: awake returns true and changes nothing that lay. -/
import Derived.Test.YtegljepgncicjaaBt12
namespace Go.Proofs.Ytegljepgncicjaa
open Go.ChangeShapes Go.WideShapes Go.ChangeAt Go.RowKit Go.Deep Go.Shelf
set_option linter.unusedVariables false
set_option linter.unusedSimpArgs false
abbrev sa : Bs := ⟨#[97]⟩
abbrev sb : Bs := ⟨#[98]⟩
abbrev sc : Bs := ⟨#[99]⟩
abbrev s0 : Bs := ⟨#[48]⟩
abbrev s1 : Bs := ⟨#[49]⟩
abbrev s2 : Bs := ⟨#[50]⟩
abbrev s3 : Bs := ⟨#[51]⟩
theorem f1i : bsI [sb] sb = 0 := by simp [bsI, sx, ByteArray.toList_eq, Lib.bsGo, Op.bytesLess]
theorem f1f : bsF [sb] sb = true := by unfold bsF; rw [f1i]; rfl
theorem f2i : bsI [sb] sa = 0 := by simp [bsI, sx, ByteArray.toList_eq, Lib.bsGo, Op.bytesLess]
theorem f2f : bsF [sb] sa = false := by unfold bsF; rw [f2i]; decide
theorem f3i : bsI [sa, sb] sc = 2 := by simp [bsI, sx, ByteArray.toList_eq, Lib.bsGo, Op.bytesLess]
theorem f3f : bsF [sa, sb] sc = false := by unfold bsF; rw [f3i]; decide
theorem f4i : bsI [sa, sb, sc] sb = 1 := by simp [bsI, sx, ByteArray.toList_eq, Lib.bsGo, Op.bytesLess]
theorem f4f : bsF [sa, sb, sc] sb = true := by unfold bsF; rw [f4i]; rfl
theorem f5i : bsI [sa, sc] sb = 1 := by simp [bsI, sx, ByteArray.toList_eq, Lib.bsGo, Op.bytesLess]
theorem f5f : bsF [sa, sc] sb = false := by unfold bsF; rw [f5i]; decide
theorem lab : Op.bytesLess sa.toList sb.toList = true := by simp [ByteArray.toList_eq, Op.bytesLess]
theorem lbc : Op.bytesLess sb.toList sc.toList = true := by simp [ByteArray.toList_eq, Op.bytesLess]
theorem lbb : Op.bytesLess sb.toList sb.toList = false := by simp [ByteArray.toList_eq, Op.bytesLess]
theorem lcb : Op.bytesLess sc.toList sb.toList = false := by simp [ByteArray.toList_eq, Op.bytesLess]
theorem kept_below {W W' : World} (h : Below W.heap.size W W') : Kept (fun _ => False) W W' := ⟨h.os, h.tape, h.output, h.size, fun k hk _ => h.block k hk⟩
/-- the tree, and what lay -/
def TW (B T : Nat) (o sz : Int) (ks vs : List Bs) (w0 W : World) : Prop := (∃ N kv vv, TreeAt B W T N o sz kv vv ks vs) ∧ Below B w0 W
theorem TW.size {B T : Nat} {o sz : Int} {ks vs : List Bs} {w0 W : World} (h : TW B T o sz ks vs w0 W) (hB : B ≤ w0.heap.size) : B ≤ W.heap.size := Nat.le_trans hB h.2.size
theorem TW.kept {B T : Nat} {o sz : Int} {ks vs : List Bs} {w0 W W' : World} (h : TW B T o sz ks vs w0 W) (hB : B ≤ w0.heap.size) (hk : Kept (fun _ => False) W W') : TW B T o sz ks vs w0 W' := by
  obtain ⟨⟨N, kv, vv, hA⟩, hb⟩ := h
  exact ⟨⟨N, kv, vv, hA.kept hk (fun _ _ h => h)⟩, hb.trans (hk.below (Nat.le_trans hB hb.size) (fun _ h => h.elim))⟩
def PutTo (B T : Nat) (o sz : Int) (r : Bool) (ks vs : List Bs) (w0 : World) (e : Ending) (W' : World) : Prop := e = .returned (.bool r) ∧ TW B T o sz ks vs w0 W'
theorem TOut.to {B T : Nat} {o sz : Int} {r : Bool} {ks vs : List Bs} {w0 W W' : World} {e : Ending} (h : TOut B T o sz r ks vs W e W') (hb : Below B w0 W) : PutTo B T o sz r ks vs w0 e W' :=
  ⟨h.1, h.2.1, hb.trans h.2.2.1⟩
theorem p1 (B T : Nat) (w0 W : World) (hE : Box W T [.int .i64 4, .int .i64 0, .pointer none]) (hT : B ≤ T) (hb : Below B w0 W) (hB : B ≤ w0.heap.size) :
    Calls Try.prog 20 #[.pointer (some ⟨T, 0, none⟩), .string sb, .string s1] W (PutTo B T 4 1 true [sb] [s1] w0) :=
  (Put_any B T 4 1 true [sb] [s1] sb s1 W (tput_empty B T 4 sb s1 W hE hT (Nat.le_trans hB hb.size) (by decide) (by decide))).mono fun _ _ h => h.to hb
theorem p2 (B T : Nat) (w0 W : World) (h : TW B T 4 1 [sb] [s1] w0 W) (hB : B ≤ w0.heap.size) :
    Calls Try.prog 20 #[.pointer (some ⟨T, 0, none⟩), .string sb, .string s2] W (PutTo B T 4 1 false [sb] [s2] w0) := by
  obtain ⟨⟨N, kv, vv, hA⟩, hb⟩ := h
  exact (Put_any B T 4 1 false [sb] [s2] sb s2 W (tput_old B T N 4 1 kv vv [sb] [s1] sb s2 0 W hA (Nat.le_trans hB hb.size) (by decide) f1i f1f)).mono fun _ _ h => h.to hb
theorem p3 (B T : Nat) (w0 W : World) (h : TW B T 4 1 [sb] [s2] w0 W) (hB : B ≤ w0.heap.size) :
    Calls Try.prog 20 #[.pointer (some ⟨T, 0, none⟩), .string sa, .string s0] W (PutTo B T 4 2 true [sa, sb] [s0, s2] w0) := by
  obtain ⟨⟨N, kv, vv, hA⟩, hb⟩ := h
  exact (Put_any B T 4 2 true [sa, sb] [s0, s2] sa s0 W (tput_new B T N 4 1 kv vv [sb] [s2] sa s0 0 W hA (Nat.le_trans hB hb.size) (by decide) (by decide) (by decide) (by decide) f2i (by decide) f2f)).mono fun _ _ h => h.to hb
theorem p4 (B T : Nat) (w0 W : World) (h : TW B T 4 2 [sa, sb] [s0, s2] w0 W) (hB : B ≤ w0.heap.size) :
    Calls Try.prog 20 #[.pointer (some ⟨T, 0, none⟩), .string sc, .string s3] W (PutTo B T 4 3 true [sa, sb, sc] [s0, s2, s3] w0) := by
  obtain ⟨⟨N, kv, vv, hA⟩, hb⟩ := h
  exact (Put_any B T 4 3 true [sa, sb, sc] [s0, s2, s3] sc s3 W (tput_new B T N 4 2 kv vv [sa, sb] [s0, s2] sc s3 2 W hA (Nat.le_trans hB hb.size) (by decide) (by decide) (by decide) (by decide) f3i (by decide) f3f)).mono fun _ _ h => h.to hb
theorem p5 (B T : Nat) (w0 W : World) (h : TW B T 4 3 [sa, sb, sc] [s0, s2, s3] w0 W) (hB : B ≤ w0.heap.size) :
    Calls Try.prog 24 #[.pointer (some ⟨T, 0, none⟩), .string sb] W fun e W' => e = .returned (.tuple #[.string s2, .bool true]) ∧ TW B T 4 3 [sa, sb, sc] [s0, s2, s3] w0 W' := by
  obtain ⟨⟨N, kv, vv, hA⟩, hb⟩ := h
  exact (Get_found B T N 4 3 kv vv [sa, sb, sc] [s0, s2, s3] sb 1 W hA (by decide) f4i f4f).mono fun _ _ ⟨he, q, hq⟩ => ⟨he, by subst hq; exact ⟨⟨N, kv, vv, hA.drewN q⟩, below_drewN'' hb q⟩⟩
theorem p6 (B T : Nat) (w0 W : World) (h : TW B T 4 3 [sa, sb, sc] [s0, s2, s3] w0 W) :
    Calls Try.prog 13 #[.pointer (some ⟨T, 0, none⟩)] W fun e W' => e = .returned (.int .i64 3) ∧ W' = W := by
  obtain ⟨⟨N, kv, vv, hA⟩, hb⟩ := h
  exact Len_at B T N 4 3 kv vv _ _ W hA
theorem p7 (B T : Nat) (w0 W : World) (h : TW B T 4 3 [sa, sb, sc] [s0, s2, s3] w0 W) :
    Calls Try.prog 23 #[.pointer (some ⟨T, 0, none⟩)] W fun e W' => e = .returned (.int .i64 1) ∧ W' = W := by
  obtain ⟨⟨N, kv, vv, hA⟩, hb⟩ := h
  exact Height_of T 1 W (height_at B T N 4 3 kv vv _ _ W hA)
theorem p8 (B T : Nat) (w0 W : World) (h : TW B T 4 3 [sa, sb, sc] [s0, s2, s3] w0 W) (hB : B ≤ w0.heap.size) :
    Calls Try.prog 15 #[.pointer (some ⟨T, 0, none⟩)] W (PutTo B T 4 3 true [sa, sb, sc] [s0, s2, s3] w0) := by
  have hs := h.size hB
  obtain ⟨⟨N, kv, vv, hA⟩, hb⟩ := h
  exact (Check_3 B T N 4 kv vv sa sb sc [s0, s2, s3] W hA (by decide) (by decide) hs lab lbc).mono fun _ _ ⟨he, hA', hk⟩ => ⟨he, ⟨N, kv, vv, hA'⟩, hb.trans (hk.below hs (fun _ h => h.elim))⟩
theorem rowS_cells {B : Nat} {W : World} {v : Value} {xs : List Bs} (h : RowS B W v xs) (h0 : 0 < xs.length) : ∃ g c, v = .slice (some ⟨g, 0, none⟩) xs.length c ∧ g < W.heap.size ∧ ∀ j, j < xs.length → W.cell? ⟨g, j, none⟩ = (xs[j]?).map .string := by
  rcases h with ⟨rfl, rfl⟩ | ⟨g, c, rfl, _, _, _, _, hR, hc⟩
  · exact absurd h0 (by simp)
  · exact ⟨g, c, rfl, hR.lt, hc⟩
theorem p9 (B T : Nat) (w0 W : World) (h : TW B T 4 3 [sa, sb, sc] [s0, s2, s3] w0 W) (hB : B ≤ w0.heap.size) :
    Calls Try.prog 19 #[.pointer (some ⟨T, 0, none⟩), .string sb, .string ByteArray.empty, .bool true, .int .i64 9] W fun e W' => ∃ g c, e = .returned (.slice (some ⟨g, 0, none⟩) 2 c) ∧ TW B T 4 3 [sa, sb, sc] [s0, s2, s3] w0 W' ∧
      g < W'.heap.size ∧ W'.cell? ⟨g, 0, none⟩ = some (.string sc) ∧ W'.cell? ⟨g, 1, none⟩ = some (.string s3) ∧ W'.cell? ⟨g, 2, none⟩ = some (.string sb) ∧ W'.cell? ⟨g, 3, none⟩ = some (.string s2) := by
  have H := Lib.hid h
  obtain ⟨⟨N, kv, vv, hA⟩, hb⟩ := h
  refine (callsIn_wide.1 (pairs_in 1 (some ⟨T, 0, none⟩) sb ByteArray.empty true 9 [(sc, s3), (sb, s2)] W (by decide) (by decide) (by decide) ?_)).mono ?_
  · intro W1 b m hW1 hsb
    obtain ⟨kg, kc, rfl, hkg, hk⟩ := rowS_cells hA.leaf.rk (by simp)
    obtain ⟨vg, vc, rfl, hvg, hv⟩ := rowS_cells hA.leaf.rv (by simp)
    have hN := hA.leaf.box.lt
    have hD : D3 W.heap.size N sa sb sc s0 s2 s3 W kg vg kc vc := ⟨hN, hkg, hvg, hA.leaf.box.cell 0 _ rfl, hA.leaf.box.cell 1 _ rfl, hA.leaf.box.cell 2 _ rfl, hk 0 (by decide), hk 1 (by decide), hk 2 (by decide), hv 0 (by decide), hv 1 (by decide), hv 2 (by decide)⟩
    exact stops_3 W.heap.size m b N T sb sa sb sc s0 s2 s3 W1 hsb lab lbb lcb kg vg kc vc (hD.below hW1) hW1.size hA.box.lt ((hW1.cell (p := ⟨T, 2, none⟩) hA.box.lt).trans (hA.box.cell 2 _ rfl))
  · rintro e W' ⟨v, rfl, hr, hbl⟩
    obtain ⟨g, c, rfl⟩ := ownsRow_succ hr
    refine ⟨g, c, rfl, H.out.kept hB (kept_below hbl), (hr.lt g rfl).2, ?_, ?_, ?_, ?_⟩
    · exact hr.cellAt 0 (by decide)
    · exact hr.cellAt 1 (by decide)
    · exact hr.cellAt 2 (by decide)
    · exact hr.cellAt 3 (by decide)
theorem p10 (B T : Nat) (w0 W : World) (h : TW B T 4 3 [sa, sb, sc] [s0, s2, s3] w0 W) (hB : B ≤ w0.heap.size) :
    Calls Try.prog 22 #[.pointer (some ⟨T, 0, none⟩), .string sb] W (PutTo B T 4 2 true [sa, sc] [s0, s3] w0) := by
  have hs := h.size hB
  obtain ⟨⟨N, kv, vv, hA⟩, hb⟩ := h
  exact (Del_any B T 4 2 true [sa, sc] [s0, s3] sb W (trem_any B T N 4 3 kv vv [sa, sb, sc] [s0, s2, s3] sb 1 W hA hs (by decide) (by decide) (by decide) (by decide) (by decide) (by decide) f4i f4f)).mono fun _ _ h => h.to hb
theorem p11 (B T : Nat) (w0 W : World) (h : TW B T 4 2 [sa, sc] [s0, s3] w0 W) (hB : B ≤ w0.heap.size) :
    Calls Try.prog 22 #[.pointer (some ⟨T, 0, none⟩), .string sb] W (PutTo B T 4 2 false [sa, sc] [s0, s3] w0) := by
  have hs := h.size hB
  obtain ⟨⟨N, kv, vv, hA⟩, hb⟩ := h
  exact (Del_any B T 4 2 false [sa, sc] [s0, s3] sb W (trem_not B T N 4 2 kv vv [sa, sc] [s0, s3] sb 1 W hA hs (by decide) (by decide) (by decide) f5i f5f)).mono fun _ _ h => h.to hb
end Go.Proofs.Ytegljepgncicjaa
