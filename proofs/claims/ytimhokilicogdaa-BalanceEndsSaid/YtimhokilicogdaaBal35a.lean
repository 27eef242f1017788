/- Balance: boxes that are known; what is known of a proposal. -/
import Derived.Test.YtimhokilicogdaaBal34
import Derived.Deep.RegionHeld3
import Derived.StillTailTactics
namespace Go.Proofs.Ytimhokilicogdaa
open Go.ChangeShapes Go.WideShapes Go.ChangeAt Go.RowKit Go.Deep
set_option linter.unusedVariables false
set_option linter.unusedSimpArgs false
/-- cells that are known -/
def KP (W : World) : List (Addr × Value) → Prop
  | [] => True
  | (a, v) :: l => (W.cell? a = some v ∧ a.block < W.heap.size) ∧ KP W l
theorem KP.keep {W W' : World} : ∀ {l : List (Addr × Value)}, KP W l → Below W.heap.size W W' → KP W' l
  | [], _, _ => trivial
  | (a, v) :: l, ⟨⟨h1, h2⟩, h3⟩, hb => ⟨⟨(hb.cell h2).trans h1, Nat.lt_of_lt_of_le h2 hb.size⟩, KP.keep h3 hb⟩
theorem KP.app {W : World} : ∀ {l m : List (Addr × Value)}, KP W l → KP W m → KP W (l ++ m)
  | [], m, _, h => h
  | (a, v) :: l, m, ⟨h1, h2⟩, h => ⟨h1, KP.app h2 h⟩
theorem KP.new (W : World) (o : Obj) {l : List (Addr × Value)} (h : KP W l) : KP (W.alloc o) l := h.keep ((Below.refl _ _).alloc (Nat.le_refl _) _)
def rcs (b : Nat) (sp : ByteArray) (ks : Value) (hs : Bool) (ep vr : Int) (ch : Value) : List (Addr × Value) := [(⟨b, 0, none⟩, .string sp), (⟨b, 1, none⟩, ks), (⟨b, 2, none⟩, .bool hs), (⟨b, 3, none⟩, .int .i64 ep), (⟨b, 4, none⟩, .int .i64 vr), (⟨b, 5, none⟩, ch)]
def pcs (b : Nat) (lo : ByteArray) (f t : Int) : List (Addr × Value) := [(⟨b, 0, none⟩, .string lo), (⟨b, 1, none⟩, .int .i64 f), (⟨b, 2, none⟩, .int .i64 t)]
theorem rcs_new (W : World) (sp : ByteArray) (ks : Value) (hs : Bool) (ep vr : Int) (ch : Value) (T : TypeId) : KP (W.alloc (.cells #[.string sp, ks, .bool hs, .int .i64 ep, .int .i64 vr, ch] T)) (rcs W.heap.size sp ks hs ep vr ch) := by
  simp [rcs, KP, go_sem]
theorem pcs_new (W : World) (lo : ByteArray) (f t : Int) (T : TypeId) : KP (W.alloc (.cells #[.string lo, .int .i64 f, .int .i64 t] T)) (pcs W.heap.size lo f t) := by
  simp [pcs, KP, go_sem]
theorem rcs_of {w W : World} {sp : ByteArray} {ks : Value} {hs : Bool} {ep vr : Int} {ch : Value} (h : RB w sp ks hs ep vr ch W) : KP W (rcs w.heap.size sp ks hs ep vr ch) := by
  obtain ⟨c0, c1, c2, c3, c4, c5, hz, hB⟩ := h
  exact ⟨⟨c0, hz⟩, ⟨c1, hz⟩, ⟨c2, hz⟩, ⟨c3, hz⟩, ⟨c4, hz⟩, ⟨c5, hz⟩, trivial⟩
/-- the boxes of the routes, of the proposal and of the new routes -/
def SS (w : World) (sp : ByteArray) (ks : Value) (hs : Bool) (ep vr : Int) (ch : Value) (P : Nat) (lo : ByteArray) (f t : Int) (S : Nat) (ch3 : Value) (ds : List Ch) (W : World) : Prop :=
  KP W ((rcs w.heap.size sp ks hs ep vr ch ++ pcs P lo f t) ++ rcs S sp ks hs ep (vr + 1) ch3) ∧ ChsIn W ch3 ds ∧ Below w.heap.size w W
theorem SS.keep {w : World} {sp : ByteArray} {ks : Value} {hs : Bool} {ep vr : Int} {ch : Value} {P : Nat} {lo : ByteArray} {f t : Int} {S : Nat} {ch3 : Value} {ds : List Ch} {W W' : World} (h : SS w sp ks hs ep vr ch P lo f t S ch3 ds W) (hb : Below W.heap.size W W') : SS w sp ks hs ep vr ch P lo f t S ch3 ds W' :=
  ⟨h.1.keep hb, h.2.1.below hb, h.2.2.trans (hb.mono h.2.2.size)⟩
theorem SS.cells12 {w : World} {sp : ByteArray} {ks : Value} {hs : Bool} {ep vr : Int} {ch : Value} {P : Nat} {lo : ByteArray} {f t : Int} {S : Nat} {ch3 : Value} {ds : List Ch} {W : World} (h : SS w sp ks hs ep vr ch P lo f t S ch3 ds W) : W.cell? ⟨w.heap.size, 0, none⟩ = some (.string sp) ∧ W.cell? ⟨w.heap.size, 1, none⟩ = some (ks) ∧ W.cell? ⟨w.heap.size, 2, none⟩ = some (.bool hs) ∧ W.cell? ⟨w.heap.size, 3, none⟩ = some (.int .i64 ep) ∧ W.cell? ⟨w.heap.size, 4, none⟩ = some (.int .i64 vr) ∧ W.cell? ⟨w.heap.size, 5, none⟩ = some (ch) ∧ W.cell? ⟨S, 0, none⟩ = some (.string sp) ∧ W.cell? ⟨S, 1, none⟩ = some (ks) ∧ W.cell? ⟨S, 2, none⟩ = some (.bool hs) ∧ W.cell? ⟨S, 3, none⟩ = some (.int .i64 ep) ∧ W.cell? ⟨S, 4, none⟩ = some (.int .i64 (vr + 1)) ∧ W.cell? ⟨S, 5, none⟩ = some (ch3) := by
  obtain ⟨⟨⟨a0, _⟩, ⟨a1, _⟩, ⟨a2, _⟩, ⟨a3, _⟩, ⟨a4, _⟩, ⟨a5, _⟩, _, _, _, ⟨s0, _⟩, ⟨s1, _⟩, ⟨s2, _⟩, ⟨s3, _⟩, ⟨s4, _⟩, ⟨s5, _⟩, _⟩, _, _⟩ := h
  exact ⟨a0, a1, a2, a3, a4, a5, s0, s1, s2, s3, s4, s5⟩
theorem SS.below {w : World} {sp : ByteArray} {ks : Value} {hs : Bool} {ep vr : Int} {ch : Value} {P : Nat} {lo : ByteArray} {f t : Int} {S : Nat} {ch3 : Value} {ds : List Ch} {W : World} (h : SS w sp ks hs ep vr ch P lo f t S ch3 ds W) : Below w.heap.size w W := h.2.2
theorem SS.chs {w : World} {sp : ByteArray} {ks : Value} {hs : Bool} {ep vr : Int} {ch : Value} {P : Nat} {lo : ByteArray} {f t : Int} {S : Nat} {ch3 : Value} {ds : List Ch} {W : World} (h : SS w sp ks hs ep vr ch P lo f t S ch3 ds W) : ChsIn W ch3 ds := h.2.1
theorem SS.next12 {w : World} {sp : ByteArray} {ks : Value} {hs : Bool} {ep vr : Int} {ch : Value} {P : Nat} {lo : ByteArray} {f t : Int} {S : Nat} {ch3 : Value} {ds : List Ch} {W : World} (h : SS w sp ks hs ep vr ch P lo f t S ch3 ds W) {P0 : Program} {fn : Nat} {args : Array Value} {G : Ending → World → Prop} (hc : Calls P0 fn args W fun e w' => G e w' ∧ Below W.heap.size W w') :
    Calls P0 fn args W fun e w' => G e w' ∧ Below W.heap.size W w' ∧ (w'.cell? ⟨w.heap.size, 0, none⟩ = some (.string sp) ∧ w'.cell? ⟨w.heap.size, 1, none⟩ = some (ks) ∧ w'.cell? ⟨w.heap.size, 2, none⟩ = some (.bool hs) ∧ w'.cell? ⟨w.heap.size, 3, none⟩ = some (.int .i64 ep) ∧ w'.cell? ⟨w.heap.size, 4, none⟩ = some (.int .i64 vr) ∧ w'.cell? ⟨w.heap.size, 5, none⟩ = some (ch) ∧ w'.cell? ⟨S, 0, none⟩ = some (.string sp) ∧ w'.cell? ⟨S, 1, none⟩ = some (ks) ∧ w'.cell? ⟨S, 2, none⟩ = some (.bool hs) ∧ w'.cell? ⟨S, 3, none⟩ = some (.int .i64 ep) ∧ w'.cell? ⟨S, 4, none⟩ = some (.int .i64 (vr + 1)) ∧ w'.cell? ⟨S, 5, none⟩ = some (ch3)) ∧ SS w sp ks hs ep vr ch P lo f t S ch3 ds w' :=
  hc.mono fun e w' ⟨h1, h2⟩ => ⟨h1, h2, (h.keep h2).cells12, h.keep h2⟩
theorem SS.drewN {w : World} {sp : ByteArray} {ks : Value} {hs : Bool} {ep vr : Int} {ch : Value} {P : Nat} {lo : ByteArray} {f t : Int} {S : Nat} {ch3 : Value} {ds : List Ch} {W : World} (h : SS w sp ks hs ep vr ch P lo f t S ch3 ds W) (n : Nat) : SS w sp ks hs ep vr ch P lo f t S ch3 ds (W.drewN n) := h.keep (Dr.below ⟨n, rfl⟩ (Below.refl _ _))
theorem IntsIn.at {w : World} {a : Option Addr} {cap : Nat} {xs : List Int} (h : IntsIn w (.slice a xs.length cap) xs) (h0 : 0 < xs.length) : ∃ B o, a = some ⟨B, o, none⟩ ∧ B < w.heap.size ∧ ∀ j (h : j < xs.length), w.cell? ⟨B, o + j, none⟩ = some (.int .i64 xs[j]) := by
  rcases h with ⟨rfl, _⟩ | ⟨B, o, cap', e, h2, h3, h4, h5⟩
  · simp at h0
  · injection e with e1 e2 e3
    exact ⟨B, o, e1, h2, h5⟩
/-- what the law needs to know of the proposal -/
theorem way_facts {cs : List Ch} {xs : List Int} {n : Int} {f t : Nat} (h : way cs xs n = some (f, t)) :
    ∃ m : Nat, n = m ∧ 1 ≤ m ∧ m ≤ 8 ∧ wayOf cs xs m = some (f, t) ∧ ∃ i, ∃ hi : i < cs.length, fit f cs[i] = true ∧ propV cs (some (f, t)) = .tuple #[.agg #[.string cs[i].lo, .int .i64 f, .int .i64 t], .bool true] := by
  unfold way at h
  split at h
  · rename_i hn
    obtain ⟨m, rfl⟩ := Int.eq_ofNat_of_zero_le (a := n) (by omega)
    have hw : wayOf cs xs m = some (f, t) := by simpa using h
    obtain ⟨c, hc, hf⟩ := fit_ex (way_pos hw).1
    have hi : cs.findIdx (fit f) < cs.length := List.findIdx_lt_length_of_exists ⟨c, hc, hf⟩
    refine ⟨m, rfl, by omega, by omega, hw, cs.findIdx (fit f), hi, List.findIdx_getElem, ?_⟩
    simp [propV, hi]
  · cases h
end Go.Proofs.Ytimhokilicogdaa
