/- Btree: Put into a tree whose root is a leaf. -/
import Derived.Test.YtegljepgncicjaaBt3
namespace Go.Proofs.Ytegljepgncicjaa
open Go.ChangeShapes Go.WideShapes Go.ChangeAt Go.RowKit Go.Deep
set_option linter.unusedVariables false
set_option linter.unusedSimpArgs false
theorem calls_named {P : Program} {f : Nat} {args : Array Value} {K : Ending → World → Prop} {w : World} (F : World → Prop) (hF : F w) (h : ∀ W, F W → Calls P f args W K) : Calls P f args w K := h w hF
theorem wp_named {P : Program} {c : Code} {Q : Exit → Act → World → Prop} {a : Act} {w : World} (F : World → Prop) (hF : F w) (h : ∀ w', F w' → Code.wp P c Q a w') : Code.wp P c Q a w := h w hF
/-- a tree whose root is a leaf -/
structure TreeAt (B : Nat) (W : World) (T N : Nat) (o sz : Int) (kv vv : Value) (ks vs : List Bs) : Prop where
  box : Box W T [.int .i64 o, .int .i64 sz, .pointer (some ⟨N, 0, none⟩)]
  leaf : Leaf B W N kv vv ks vs
  bT : B ≤ T
  out : ¬ Own N kv vv T
  len : vs.length = ks.length
theorem TreeAt.kept {B : Nat} {S : Nat → Prop} {W W' : World} {T N : Nat} {o sz : Int} {kv vv : Value} {ks vs : List Bs} (h : TreeAt B W T N o sz kv vv ks vs) (hk : Kept S W W') (hS : ∀ k, (k = T ∨ Own N kv vv k) → ¬ S k) : TreeAt B W' T N o sz kv vv ks vs :=
  ⟨h.box.kept hk (hS _ (.inl rfl)), h.leaf.kept hk (fun k e => hS _ (.inr e)), h.bT, h.out, h.len⟩
theorem TreeAt.drewN {B : Nat} {W : World} {T N : Nat} {o sz : Int} {kv vv : Value} {ks vs : List Bs} (h : TreeAt B W T N o sz kv vv ks vs) (q : Nat) : TreeAt B (W.drewN q) T N o sz kv vv ks vs := h.kept ((Kept.refl (fun _ => False) W).drewN q) (fun _ _ h => h)
theorem Leaf.below {B : Nat} {W W' : World} {N : Nat} {kv vv : Value} {ks vs : List Bs} (L : Leaf B W N kv vv ks vs) (hB : B ≤ W.heap.size) (hk : Kept (Own N kv vv) W W') : Below B W W' := hk.below hB (fun k h => (L.ge k h).1)
theorem below_drewN'' {B : Nat} {w W : World} (h : Below B w W) (n : Nat) : Below B w (W.drewN n) := ⟨h.os, h.tape, h.output, h.size, h.block⟩
def TOut (B T : Nat) (o sz : Int) (r : Bool) (ks vs : List Bs) (W : World) (e : Ending) (W' : World) : Prop :=
  e = .returned (.bool r) ∧ (∃ N kv vv, TreeAt B W' T N o sz kv vv ks vs) ∧ Below B W W' ∧ W.heap.size ≤ W'.heap.size
set_option maxRecDepth 100000 in
set_option maxHeartbeats 1600000 in
theorem tput_new (B T N : Nat) (o sz : Int) (kv vv : Value) (ks vs : List Bs) (key val : Bs) (i : Nat) (W : World) (A : TreeAt B W T N o sz kv vv ks vs) (hB : B ≤ W.heap.size) (hz0 : 0 ≤ sz) (hz1 : sz ≤ 1000) (ho : (ks.length : Int) + 1 ≤ o) (ho2 : o ≤ 256) (hi : bsI ks key = i) (hik : i ≤ ks.length) (hf : bsF ks key = false) :
    Calls Try.prog 31 #[.pointer (some ⟨T, 0, none⟩), .string key, .string val] W (TOut B T o (sz + 1) true (ks.take i ++ key :: ks.drop i) (vs.take i ++ val :: vs.drop i) W) := by
  have HP := Lib.hid (fun W' (L : Leaf B W' N kv vv ks vs) (h : B ≤ W'.heap.size) => nodeput_new B N kv vv ks vs o key val i W' L A.len h (by omega) hi hik hf)
  have hln : (ks.take i ++ key :: ks.drop i).length = ks.length + 1 := ins_len ks i key hik
  have hlv : (vs.take i ++ val :: vs.drop i).length = vs.length + 1 := ins_len vs i val (by have := A.len; omega)
  have HLN := Lib.hid (And.intro hln (show (vs.take i ++ val :: vs.drop i).length = (ks.take i ++ key :: ks.drop i).length by rw [hln, hlv, A.len]))
  have HA := Lib.hid A
  have a0 : W.cell? ⟨T, 0, none⟩ = some (.int .i64 o) := A.box.cell 0 _ rfl
  have a2 : W.cell? ⟨T, 2, none⟩ = some (.pointer (some ⟨N, 0, none⟩)) := A.box.cell 2 _ rfl
  clear A hi hf hln hlv
  go_enter Try.func31, Try.ntmps31
  go_wp2_with fail
  go_still_tail 10, (by kernel_rfl)
  change wpList _ _ _ _ _ W.drew
  have HA1 : Hid (TreeAt B W.drew T N o sz kv vv ks vs) := Lib.hid (HA.out.drewN 1)
  clear a0 a2
  go_wp2_with fail
  refine (HP.out _ HA1.out.leaf hB).mono ?_
  rintro e W1 ⟨rfl, kv', vv', hL, hk, hown⟩
  have hb1 : Below B W W1 := (Below.drew (Below.refl B W)).trans (HA1.out.leaf.below hB hk)
  have hsz1 : W.heap.size ≤ W1.heap.size := hk.size
  have hbx := HA1.out.box.kept hk HA1.out.out
  have hTo : ¬ Own N kv' vv' T := fun h => by
    rcases hown T h with h | h
    · exact HA1.out.out h
    · have := HA1.out.box.lt; exact absurd this (by omega)
  have HBX := Lib.hid hbx
  have HL := Lib.hid hL
  have HB1 := Lib.hid hb1
  have HTO := Lib.hid hTo
  have hTN : T ≠ N := fun e => HTO.out (.inl e)
  have a0 : W1.cell? ⟨T, 0, none⟩ = some (.int .i64 o) := hbx.cell 0 _ rfl
  have a1 : W1.cell? ⟨T, 1, none⟩ = some (.int .i64 sz) := hbx.cell 1 _ rfl
  have a2 : W1.cell? ⟨T, 2, none⟩ = some (.pointer (some ⟨N, 0, none⟩)) := hbx.cell 2 _ rfl
  have f1 : W1.frozen? ⟨T, 1, none⟩ = false := hbx.free 1
  obtain ⟨g, c, hkv⟩ := hL.rk.len
  have n0 : W1.cell? ⟨N, 0, none⟩ = some kv' := hL.box.cell 0 _ rfl
  rw [hkv, HLN.out.1] at n0
  have hgt : decide (o < ((ks.length + 1 : Nat) : Int)) = false := decide_eq_false (by omega)
  have hgt2 : decide (o < (ks.length : Int) + 1) = false := decide_eq_false (by omega)
  have HA2 := Lib.hid HA.out.bT
  clear hL hk hown hb1 hbx hTo HA1 HA HP hkv
  go_wp2_with fail
  have hset : Kept (fun k => k = T) W1 (W1.setCell ⟨T, 1, none⟩ (.int .i64 (sz + 1))) := (Kept.refl _ W1).setCells T 1 [.int .i64 (sz + 1)] (.inl rfl)
  have hT2 : TreeAt B (W1.setCell ⟨T, 1, none⟩ (.int .i64 (sz + 1))) T N o (sz + 1) kv' vv' (ks.take i ++ key :: ks.drop i) (vs.take i ++ val :: vs.drop i) :=
    ⟨HBX.out.setCell 1 _ (by simp), HL.out.kept hset (fun k h e => HTO.out (by rw [← e]; exact h)), HA2.out, HTO.out, HLN.out.2⟩
  have hb2 : Below B W (W1.setCell ⟨T, 1, none⟩ (.int .i64 (sz + 1))) ∧ W.heap.size ≤ (W1.setCell ⟨T, 1, none⟩ (.int .i64 (sz + 1))).heap.size := ⟨HB1.out.trans (hset.below (by omega) (fun k e => by rw [e]; exact HA2.out)), by simpa using hsz1⟩
  refine wp_named (fun W' => TreeAt B W' T N o (sz + 1) kv' vv' (ks.take i ++ key :: ks.drop i) (vs.take i ++ val :: vs.drop i) ∧ Below B W W' ∧ W.heap.size ≤ W'.heap.size) ⟨hT2, hb2⟩ ?_
  clear hset hT2 hb2 a0 a1 a2 f1 n0 HBX HL HB1 HTO
  rintro W2 ⟨hT, hb, hs⟩
  have a0 : W2.cell? ⟨T, 0, none⟩ = some (.int .i64 o) := hT.box.cell 0 _ rfl
  have a2 : W2.cell? ⟨T, 2, none⟩ = some (.pointer (some ⟨N, 0, none⟩)) := hT.box.cell 2 _ rfl
  have n0 : W2.cell? ⟨N, 0, none⟩ = some kv' := hT.leaf.box.cell 0 _ rfl
  obtain ⟨g, c, hkv⟩ := hT.leaf.rk.len
  rw [hkv, HLN.out.1] at n0
  have HT := Lib.hid (And.intro hT (And.intro hb hs))
  clear hT hb hs hkv
  go_quiet (fail)
  go_wp2_with fail
  go_ret
  exact ⟨rfl, ⟨_, _, _, HT.out.1.drewN _⟩, below_drewN'' HT.out.2.1 _, HT.out.2.2⟩
set_option maxRecDepth 100000 in
set_option maxHeartbeats 1600000 in
theorem tput_old (B T N : Nat) (o sz : Int) (kv vv : Value) (ks vs : List Bs) (key val : Bs) (i : Nat) (W : World) (A : TreeAt B W T N o sz kv vv ks vs) (hB : B ≤ W.heap.size) (hl : ks.length ≤ 1000) (hi : bsI ks key = i) (hf : bsF ks key = true) :
    Calls Try.prog 31 #[.pointer (some ⟨T, 0, none⟩), .string key, .string val] W (TOut B T o sz false ks (vs.set i val) W) := by
  have HP := Lib.hid (fun W' (L : Leaf B W' N kv vv ks vs) (h : B ≤ W'.heap.size) => nodeput_old B N kv vv ks vs o key val i W' L A.len h hl hi hf)
  have HA := Lib.hid A
  have a0 : W.cell? ⟨T, 0, none⟩ = some (.int .i64 o) := A.box.cell 0 _ rfl
  have a2 : W.cell? ⟨T, 2, none⟩ = some (.pointer (some ⟨N, 0, none⟩)) := A.box.cell 2 _ rfl
  clear A hi hf
  go_enter Try.func31, Try.ntmps31
  go_wp2_with fail
  go_still_tail 10, (by kernel_rfl)
  change wpList _ _ _ _ _ W.drew
  have HA1 : Hid (TreeAt B W.drew T N o sz kv vv ks vs) := Lib.hid (HA.out.drewN 1)
  clear a0 a2
  go_wp2_with fail
  refine (HP.out _ HA1.out.leaf hB).mono ?_
  rintro e W1 ⟨rfl, kv', vv', hL, hk, hown⟩
  have hb1 : Below B W W1 := (Below.drew (Below.refl B W)).trans (HA1.out.leaf.below hB hk)
  have hsz1 : W.heap.size ≤ W1.heap.size := hk.size
  have hbx := HA1.out.box.kept hk HA1.out.out
  have hTo : ¬ Own N kv' vv' T := fun h => by
    rcases hown T h with h | h
    · exact HA1.out.out h
    · have := HA1.out.box.lt; exact absurd this (by omega)
  have HR := Lib.hid (show TreeAt B W1 T N o sz kv' vv' ks (vs.set i val) from ⟨hbx, hL, HA.out.bT, hTo, by rw [List.length_set]; exact HA.out.len⟩)
  have HB1 := Lib.hid (And.intro hb1 hsz1)
  clear hL hk hown hb1 hbx hTo HA1 HA HP hsz1
  go_wp2_with fail
  go_ret
  exact ⟨rfl, ⟨_, _, _, HR.out⟩, HB1.out.1, HB1.out.2⟩
end Go.Proofs.Ytegljepgncicjaa
