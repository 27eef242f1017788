/- Btree: the iterator that Scan returns, at a leaf with three keys and at nil. -/
import Derived.Test.YtegljepgncicjaaBt9
namespace Go.Proofs.Ytegljepgncicjaa
open Go.ChangeShapes Go.WideShapes Go.ChangeAt Go.RowKit Go.Deep Go.Shelf
set_option linter.unusedVariables false
set_option linter.unusedSimpArgs false
attribute [local go_sem] Oper.semAt_some
attribute [local go_sem, local simp] wide_fn
theorem yieldAt_any {m m' : Nat} {P : Program} {l : Nat} {args : Array Value} {W : World} {R : Ending → World → Prop} (h : YieldAt Fence.wide m P l args W R) : YieldAt Fence.wide m' P l args W R := by
  obtain ⟨fn, tmps, assign, body, hy, hR⟩ := h
  exact ⟨fn, tmps, assign, body, hy, hR.1, fun c cs _ => hR.2 c cs (room_wide _)⟩
theorem abides_drewN {β : Type} {B : Nat} {J : β → World → Prop} (h : AbidesFrom B J) (s : β) (W : World) (q : Nat) (hj : J s W) : J s (W.drewN q) :=
  h s W _ none hj ⟨rfl, rfl, rfl, Nat.le_refl _, fun _ _ _ => rfl⟩ (fun r e => by cases e)
def SeqOut (S Sp : List (Bs × Bs) → Prop) (J Jx : List (Bs × Bs) → World → Prop) (e : Ending) (W' : World) : Prop :=
  (∃ v, e = .returned v) ∧ ((∃ xs, S xs ∧ J xs W') ∨ (∃ pre, Sp pre ∧ Jx pre W'))
set_option maxRecDepth 100000 in
set_option maxHeartbeats 1600000 in
theorem scan1_3 (m l n₀ N T bt bb bl bh : Nat) (lo k0 k1 k2 v0 v1 v2 : Bs) (J Jx : List (Bs × Bs) → World → Prop)
    (hY : ∀ m pre (x : Bs × Bs) W, J pre W → pre.length < 2 → YieldAt Fence.wide m Try.prog l (encP x) W fun e W' =>
      (e = .returned (.bool true) ∧ J (pre ++ [x]) W' ∧ Below n₀ W W') ∨ (e = .returned (.bool false) ∧ Jx (pre ++ [x]) W'))
    (hJ : ∀ pre W q, J pre W → J pre (W.drewN q))
    (h0 : Op.bytesLess k0.toList lo.toList = true) (h1 : Op.bytesLess k1.toList lo.toList = false) (h2 : Op.bytesLess k2.toList lo.toList = false)
    (W : World) (kg vg kc vc : Nat) (hD : D3 n₀ N k0 k1 k2 v0 v1 v2 W kg vg kc vc)
    (c1 : W.cell? ⟨bt, 0, none⟩ = some (.pointer (some ⟨T, 0, none⟩))) (c2 : W.cell? ⟨bb, 0, none⟩ = some (.bool true)) (c3 : W.cell? ⟨bl, 0, none⟩ = some (.string lo)) (c4 : W.cell? ⟨bh, 0, none⟩ = some (.string ByteArray.empty))
    (cT : W.cell? ⟨T, 2, none⟩ = some (.pointer (some ⟨N, 0, none⟩))) (hj : J [] W) :
    CallsIn Fence.wide m Try.prog 39 #[.func (.yield l) #[] #[], .pointer (some ⟨bt, 0, none⟩), .pointer (some ⟨bb, 0, none⟩), .pointer (some ⟨bl, 0, none⟩), .pointer (some ⟨bh, 0, none⟩)] W
      (SeqOut (fun ys => ys = [(k2, v2), (k1, v1)]) (fun pre => pre <+: [(k2, v2), (k1, v1)]) J Jx) := by
  have HP := Lib.hid (down_3 (m - 1) l n₀ N lo k0 k1 k2 v0 v1 v2 J Jx hY hJ h0 h1 h2 W.drew kg vg kc vc (hD.below ⟨rfl, rfl, rfl, Nat.le_refl _, fun _ _ => rfl⟩) (hJ _ _ 1 hj))
  clear hY hJ h0 h1 h2 hD hj
  refine callsIn_of_wp Try.func39 rfl trivial ?_ rfl
  simp only [Try.ntmps39, List.size_toArray, List.length_cons, List.length_nil, Nat.reduceAdd, Nat.reduceSub, Array.replicate_succ, Array.replicate_zero, List.push_toArray, List.append_toArray, List.nil_append, List.cons_append]
  gi_wp2
  refine wpIn_region_still_tail 10 (by kernel_rfl) (by kernel_rfl) ?_
  simp only [List.take_succ_cons, List.take_zero, List.drop_succ_cons, List.drop_zero]
  repeat still_step
  refine wpStill_nil ?_
  clear c1 c2 c3 c4 cT
  gi_wp2_with (first
    | ((try refine ⟨fun h => (by cases h), ?_⟩); gi_at_call 40; refine HP.out.mono ?_; clear HP; rintro e W1 ⟨⟨b, rfl⟩, hr⟩)
    | refine ⟨trivial, ?_⟩)
  go_end0
  refine ⟨⟨_, rfl⟩, ?_⟩
  rcases hr with h | ⟨p, h1, h2⟩
  · exact .inl ⟨_, rfl, h⟩
  · exact .inr ⟨p, h1, h2⟩
theorem scan1_nil (m l bt bb bl bh : Nat) (J Jx : List (Bs × Bs) → World → Prop)
    (W : World) (c1 : W.cell? ⟨bt, 0, none⟩ = some (.pointer none)) (hj : J [] W) :
    CallsIn Fence.wide m Try.prog 39 #[.func (.yield l) #[] #[], .pointer (some ⟨bt, 0, none⟩), .pointer (some ⟨bb, 0, none⟩), .pointer (some ⟨bl, 0, none⟩), .pointer (some ⟨bh, 0, none⟩)] W
      (SeqOut (fun ys => ys = []) (fun pre => pre <+: []) J Jx) := by
  have HJ := Lib.hid hj
  clear hj
  refine callsIn_of_wp Try.func39 rfl trivial ?_ rfl
  simp only [Try.ntmps39, List.size_toArray, List.length_cons, List.length_nil, Nat.reduceAdd, Nat.reduceSub, Array.replicate_succ, Array.replicate_zero, List.push_toArray, List.append_toArray, List.nil_append, List.cons_append]
  gi_wp2
  refine bodyPost_ret (results_none rfl _ _ _) rfl ?_
  exact ⟨⟨_, rfl⟩, .inl ⟨_, rfl, HJ.out⟩⟩
/-- what the boxes of Scan hold -/
structure ScanBoxes (W : World) (b : Nat) (tp : Option Addr) (lo hi : Bs) (back : Bool) : Prop where
  c1 : W.cell? ⟨b, 0, none⟩ = some (.pointer tp)
  c2 : W.cell? ⟨b + 1, 0, none⟩ = some (.string lo)
  c3 : W.cell? ⟨b + 2, 0, none⟩ = some (.string hi)
  c4 : W.cell? ⟨b + 3, 0, none⟩ = some (.bool back)
  lt : b + 3 < W.heap.size
theorem ScanBoxes.below {W W' : World} {b : Nat} {tp : Option Addr} {lo hi : Bs} {back : Bool} (h : ScanBoxes W b tp lo hi back) (hb : Below W.heap.size W W') : ScanBoxes W' b tp lo hi back := by
  have := h.lt
  exact ⟨(hb.cell (p := ⟨b, 0, none⟩) (by show b < _; omega)).trans h.c1, (hb.cell (p := ⟨b + 1, 0, none⟩) (by show b + 1 < _; omega)).trans h.c2, (hb.cell (p := ⟨b + 2, 0, none⟩) (by show b + 2 < _; omega)).trans h.c3, (hb.cell (p := ⟨b + 3, 0, none⟩) (by show b + 3 < _; omega)).trans h.c4, Nat.lt_of_lt_of_le h.lt hb.size⟩
abbrev scanLb (b : Nat) : Array Value := #[.pointer (some ⟨b, 0, none⟩), .pointer (some ⟨b + 3, 0, none⟩), .pointer (some ⟨b + 1, 0, none⟩), .pointer (some ⟨b + 2, 0, none⟩)]
theorem scan_inn (n : Nat) (tp : Option Addr) (lo hi : Bs) (back : Bool) (w : World) :
    CallsIn Fence.wide n Try.prog 30 #[.pointer tp, .string lo, .string hi, .bool back] w fun e w' => e = .returned (.func (.func 39) #[] (scanLb w.heap.size)) ∧ ScanBoxes w' w.heap.size tp lo hi back ∧ w'.heap.size = w.heap.size + 4 ∧ Below w.heap.size w w' ∧ KeepsOthers w w' := by
  refine callsIn_of_wp Try.func30 rfl trivial ?_ rfl
  simp only [Try.ntmps30, List.size_toArray, List.length_cons, List.length_nil, Nat.reduceAdd, Nat.reduceSub, Array.replicate_succ, Array.replicate_zero, List.push_toArray, List.append_toArray, List.nil_append, List.cons_append]
  gi_wp2
  go_ret
  have b0 := Boxed.new w 24 (.pointer tp)
  have b1 := Boxed.new (w.alloc (.cells #[.pointer tp] 24)) 9 (.string lo)
  have b2 := Boxed.new ((w.alloc (.cells #[.pointer tp] 24)).alloc (.cells #[.string lo] 9)) 9 (.string hi)
  have b3 := Boxed.new (((w.alloc (.cells #[.pointer tp] 24)).alloc (.cells #[.string lo] 9)).alloc (.cells #[.string hi] 9)) 4 (.bool back)
  simp only [World.size_alloc] at b1 b2 b3
  refine ⟨rfl, ⟨(((b0.alloc _).alloc _).alloc _).cell, ((b1.alloc _).alloc _).cell, (b2.alloc _).cell, b3.cell, by simp⟩, by simp, ?_, ?_⟩
  · exact ((((Below.refl _ w).alloc (Nat.le_refl _) _).alloc (by simp) _).alloc (by simp <;> omega) _).alloc (by simp <;> omega) _
  · exact (((KeepsOthers.alloc _ _).trans (KeepsOthers.alloc _ _)).trans (KeepsOthers.alloc _ _)).trans (KeepsOthers.alloc _ _)
theorem stops_nil (n₀ n b : Nat) (lo hi : Bs) (back : Bool) (W : World) (hb : ScanBoxes W b none lo hi back) :
    SeqStopsK Fence.wide n Try.prog 39 (scanLb b) encP (Below n₀) (fun ys => ys = []) (fun pre => pre <+: []) 0 W := fun l J Jx W1 hW hJ _ hY h0 => by
  have hb1 := hb.below hW
  exact scan1_nil n l b (b + 3) (b + 1) (b + 2) J Jx W1 hb1.c1 h0
theorem stops_3 (n₀ n b N T : Nat) (lo k0 k1 k2 v0 v1 v2 : Bs) (W : World) (hb : ScanBoxes W b (some ⟨T, 0, none⟩) lo ByteArray.empty true)
    (h0 : Op.bytesLess k0.toList lo.toList = true) (h1 : Op.bytesLess k1.toList lo.toList = false) (h2 : Op.bytesLess k2.toList lo.toList = false)
    (kg vg kc vc : Nat) (hD : D3 n₀ N k0 k1 k2 v0 v1 v2 W kg vg kc vc) (hn : n₀ ≤ W.heap.size) (hT : T < n₀) (cT : W.cell? ⟨T, 2, none⟩ = some (.pointer (some ⟨N, 0, none⟩))) :
    SeqStopsK Fence.wide n Try.prog 39 (scanLb b) encP (Below n₀) (fun ys => ys = [(k2, v2), (k1, v1)]) (fun pre => pre <+: [(k2, v2), (k1, v1)]) 2 W := fun l J Jx W1 hW hJ _ hY hj => by
  have hb1 := hb.below hW
  exact scan1_3 n l n₀ N T b (b + 3) (b + 1) (b + 2) lo k0 k1 k2 v0 v1 v2 J Jx (fun m pre x W hj hl => yieldAt_any (hY pre x W hj hl)) (fun pre W q h => abides_drewN hJ pre W q h) h0 h1 h2 W1 kg vg kc vc
    (hD.below (hW.mono hn)) hb1.c1 hb1.c4 hb1.c2 hb1.c3 (((hW.mono hn).cell (p := ⟨T, 2, none⟩) hT).trans cT) hj
end Go.Proofs.Ytegljepgncicjaa
