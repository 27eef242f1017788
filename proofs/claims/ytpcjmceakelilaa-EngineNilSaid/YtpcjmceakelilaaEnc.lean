/- Mvcc: Scan, apart from a law. -/
import Derived.Test.YtpcjmceakelilaaEnb
namespace Go.Proofs.Ytpcjmceakelilaa
open Go.ChangeShapes Go.WideShapes Go.ChangeAt Go.RowKit Go.Deep Go.ChangeMaps Go.Shelf Go.Sort
set_option linter.unusedVariables false
set_option linter.unusedSimpArgs false
attribute [local go_sem] Oper.semAt_some
attribute [local go_sem, local simp] wide_fn
def prS (L : List (Bs × Bs)) : List Value := L.flatMap fun x => [.string x.1, .string x.2]
theorem prS_snoc (L : List (Bs × Bs)) (x : Bs × Bs) : prS (L ++ [x]) = prS L ++ [.string x.1, .string x.2] := by simp [prS]
theorem infoB : (Try.prog.info? 51).map (fun i => (i.zero, i.size, i.bytes)) = some (some (.agg #[.string ⟨#[]⟩, .string ⟨#[]⟩]), 2, 32) := by kernel_rfl
/-- the boxes that Scan makes -/
structure SBox (W : World) (b S : Nat) (lo hi : Bs) (t : Int) (back : Bool) : Prop where
  c0 : W.cell? ⟨b, 0, none⟩ = some (.pointer (some ⟨S, 0, none⟩))
  c1 : W.cell? ⟨b + 1, 0, none⟩ = some (.string lo)
  c2 : W.cell? ⟨b + 2, 0, none⟩ = some (.string hi)
  c3 : W.cell? ⟨b + 4, 0, none⟩ = some (.bool back)
  c4 : W.cell? ⟨b + 3, 0, none⟩ = some (.int .i64 t)
theorem seek_in (n S : Nat) (lo hi : Bs) (t : Int) (back : Bool) (w : World) :
    CallsIn Fence.wide n Try.prog 33 #[.pointer (some ⟨S, 0, none⟩), .string lo, .string hi, .int .i64 t, .bool back] w fun e w' => e = .returned (.func (.func 49) #[] #[.pointer (some ⟨w.heap.size, 0, none⟩), .pointer (some ⟨w.heap.size + 1, 0, none⟩), .pointer (some ⟨w.heap.size + 2, 0, none⟩), .pointer (some ⟨w.heap.size + 4, 0, none⟩), .pointer (some ⟨w.heap.size + 3, 0, none⟩)]) ∧ SBox w' w.heap.size S lo hi t back ∧ w'.heap.size = w.heap.size + 5 ∧ Below w.heap.size w w' ∧ KeepsOthers w w' := by
  refine callsIn_of_wp Try.func33 rfl trivial ?_ rfl
  simp only [Try.ntmps33, List.size_toArray, List.length_cons, List.length_nil, Nat.reduceAdd, Nat.reduceSub, Array.replicate_succ, Array.replicate_zero, List.push_toArray, List.append_toArray, List.nil_append, List.cons_append]
  gi_wp2
  go_ret
  have b0 := Boxed.new w 65 (.pointer (some ⟨S, 0, none⟩))
  have b1 := Boxed.new (w.alloc (.cells #[.pointer (some ⟨S, 0, none⟩)] 65)) 9 (.string lo)
  have b2 := Boxed.new ((w.alloc (.cells #[.pointer (some ⟨S, 0, none⟩)] 65)).alloc (.cells #[.string lo] 9)) 9 (.string hi)
  have b3 := Boxed.new (((w.alloc (.cells #[.pointer (some ⟨S, 0, none⟩)] 65)).alloc (.cells #[.string lo] 9)).alloc (.cells #[.string hi] 9)) 3 (.int .i64 t)
  have b4 := Boxed.new ((((w.alloc (.cells #[.pointer (some ⟨S, 0, none⟩)] 65)).alloc (.cells #[.string lo] 9)).alloc (.cells #[.string hi] 9)).alloc (.cells #[.int .i64 t] 3)) 4 (.bool back)
  simp only [World.size_alloc] at b1 b2 b3 b4
  refine ⟨rfl, ⟨((((b0.alloc _).alloc _).alloc _).alloc _).cell, (((b1.alloc _).alloc _).alloc _).cell, ((b2.alloc _).alloc _).cell, b4.cell, (b3.alloc _).cell⟩, by simp, ?_, ?_⟩
  · exact (((((Below.refl _ w).alloc (Nat.le_refl _) _).alloc (by simp) _).alloc (by simp; omega) _).alloc (by simp; omega) _).alloc (by simp; omega) _
  · exact ((((KeepsOthers.alloc _ _).trans (KeepsOthers.alloc _ _)).trans (KeepsOthers.alloc _ _)).trans (KeepsOthers.alloc _ _)).trans (KeepsOthers.alloc _ _)
theorem und69 : (Try.prog.underlying 46).map (fun d => match d with | .func _ _ _ => true | _ => false) = some true := by kernel_rfl
theorem eql69 (f : Fn) (a b : Array Value) (w : World) : (binOp .eql 46 (.func f a b) .nilFunc).run Try.prog w = .ok (.bool false) w := eql_nilFunc und69 f a b w
attribute [local go_sem] eql69
theorem SBox.below {W W' : World} {b S : Nat} {lo hi : Bs} {t : Int} {back : Bool} (h : SBox W b S lo hi t back) (hb : Below W.heap.size W W') (hl : b + 5 ≤ W.heap.size) : SBox W' b S lo hi t back :=
  ⟨(hb.cell (p := ⟨b, 0, none⟩) (by show b < _; omega)).trans h.c0, (hb.cell (p := ⟨b + 1, 0, none⟩) (by show b + 1 < _; omega)).trans h.c1, (hb.cell (p := ⟨b + 2, 0, none⟩) (by show b + 2 < _; omega)).trans h.c2, (hb.cell (p := ⟨b + 4, 0, none⟩) (by show b + 4 < _; omega)).trans h.c3, (hb.cell (p := ⟨b + 3, 0, none⟩) (by show b + 3 < _; omega)).trans h.c4⟩
theorem stops_scan (n n₀ B S mp clock b : Nat) (E : List En) (lo hi : Bs) (t : Int) (back : Bool) (W : World) (h : Sto B W S mp E clock) (hfoot : ∀ k, Foot S mp E k → k < n₀) (hn0 : n₀ ≤ W.heap.size) (hT : E.length ≤ 100000) (c : SBox W b S lo hi t back) (hbl : b + 5 ≤ W.heap.size) :
    SeqStopsK Fence.wide n Try.prog 49 #[.pointer (some ⟨b, 0, none⟩), .pointer (some ⟨b + 1, 0, none⟩), .pointer (some ⟨b + 2, 0, none⟩), .pointer (some ⟨b + 4, 0, none⟩), .pointer (some ⟨b + 3, 0, none⟩)] encP (KpS n₀ b (b + 5)) (fun xs => xs = scanK E t (scanT E lo hi back)) (fun pre => pre <+: scanK E t (scanT E lo hi back)) (scanK E t (scanT E lo hi back)).length W := fun l J Jx W1 hW hJ _ hY h0 =>
  have c' := c.below hW hbl
  scan1_any n l n₀ _ b B S mp clock E lo hi t back J Jx (fun m pre x W hj hl => yieldAt_any (hY pre x W hj hl)) (fun pre W W' hj hb => abides_below hJ pre W W' hj hb) W1 (h.below hW) hfoot (Nat.le_trans hn0 hW.size) hT c'.c0 c'.c1 c'.c2 c'.c3 c'.c4 (Nat.le_trans hbl hW.size) h0 (Nat.le_refl _)
theorem two_cells_new (W : World) (a b : Value) (t : TypeId) : ∀ j z, [a, b][j]? = some z → (W.alloc (.cells #[a, b] t)).cell? ((⟨W.heap.size, 0, none⟩ : Addr).add j) = some z := fun j z hz => by
  rw [addr_add', Nat.zero_add]
  exact (Box.new W [a, b] t).cell j z hz
end Go.Proofs.Ytpcjmceakelilaa
