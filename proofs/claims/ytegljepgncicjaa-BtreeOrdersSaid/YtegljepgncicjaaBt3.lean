/- Btree: put at a node without kids. -/
import Derived.Test.YtegljepgncicjaaBt2
namespace Go.Proofs.Ytegljepgncicjaa
open Go.ChangeShapes Go.WideShapes Go.ChangeAt Go.RowKit Go.Deep
set_option linter.unusedVariables false
set_option linter.unusedSimpArgs false
theorem rows_set {B : Nat} {W : World} {v : Value} {xs : List Bs} (h : RowS B W v xs) (i : Nat) (hi : i < xs.length) (x : Bs) :
    ∃ g c, v = .slice (some ⟨g, 0, none⟩) xs.length c ∧ (W.cell? ⟨g, i, none⟩).isSome = true ∧ W.frozen? ⟨g, i, none⟩ = false ∧ xs.length ≤ c ∧ c ≤ 9223372036854775807 ∧ RowS B (W.setCell ⟨g, i, none⟩ (.string x)) v (xs.set i x) ∧ Kept (fun k => v.ownBlock = some k) W (W.setCell ⟨g, i, none⟩ (.string x)) := by
  rcases h with ⟨rfl, rfl⟩ | ⟨g, c, rfl, hBg, hnc, hc0, hc63, hR, hc⟩
  · exact absurd hi (Nat.not_lt_zero _)
  · refine ⟨g, c, rfl, hR.th i (by omega), hR.fr i, hnc, hc63, .inr ⟨g, c, by rw [List.length_set], hBg, by rw [List.length_set]; exact hnc, hc0, hc63, hR.set i [.string x], fun j hj => ?_⟩, (Kept.refl (fun k => (Value.slice (some ⟨g, 0, none⟩) xs.length c).ownBlock = some k) W).setCells g i [.string x] (.inl (show _ = some g from rfl))⟩
    rw [List.length_set] at hj
    refine Eq.trans (hR.at i [.string x] (by simp; omega) j) ?_
    by_cases h1 : i = j
    · subst h1
      rw [if_pos (by simp), List.getElem?_set_self hj]
      simp
    · rw [if_neg (by simp; omega), List.getElem?_set_ne h1]
      exact hc j hj
def PutOut (B N : Nat) (kv vv : Value) (r : Bool) (ks vs : List Bs) (W : World) (e : Ending) (W' : World) : Prop :=
  e = .returned (.bool r) ∧ ∃ kv' vv', Leaf B W' N kv' vv' ks vs ∧ Kept (Own N kv vv) W W' ∧ ∀ k, Own N kv' vv' k → Own N kv vv k ∨ W.heap.size ≤ k
set_option maxHeartbeats 800000 in
theorem nodeput_old (B N : Nat) (kv vv : Value) (ks vs : List Bs) (o : Int) (key val : Bs) (i : Nat) (W : World) (L : Leaf B W N kv vv ks vs) (hlen : vs.length = ks.length) (hB : B ≤ W.heap.size) (hl : ks.length ≤ 1000) (hi : bsI ks key = i) (hf : bsF ks key = true) :
    Calls Try.prog 42 #[.pointer (some ⟨N, 0, none⟩), .int .i64 o, .string key, .string val] W (PutOut B N kv vv false ks (vs.set i val) W) := by
  have hlt : i < ks.length := by
    have := of_decide_eq_true hf
    rw [hi] at this
    exact this.1
  have hbs := bs_any B kv ks key W L.rk hl
  rw [hi, hf] at hbs
  have HBS := Lib.hid hbs
  clear hbs
  have HL := Lib.hid L
  have a0 : W.cell? ⟨N, 0, none⟩ = some kv := L.box.cell 0 _ rfl
  obtain ⟨kg, kc, rfl⟩ := L.rk.len
  obtain ⟨g, c, rfl, hth, hfr, hnc, hc63, hrs, hkp⟩ := rows_set L.rv i (by rw [hlen]; exact hlt) val
  have HRS := Lib.hid hrs
  have HKP := Lib.hid hkp
  have a1 : W.cell? ⟨N, 1, none⟩ = some (.slice (some ⟨g, 0, none⟩) vs.length c) := L.box.cell 1 _ rfl
  have hiv : i < vs.length := by rw [hlen]; exact hlt
  have hvl : vs.length ≤ 1000 := by rw [hlen]; exact hl
  have hng : g ≠ N := fun e => L.nv (by simp [Value.ownBlock, e])
  clear L hrs hkp hi hf hlen
  go_enter Try.func42, Try.ntmps42
  go_wp2_with fail
  refine HBS.out.mono ?_
  rintro e W1 ⟨rfl, q, rfl⟩
  clear HBS
  have b1 : (W.drewN q).cell? ⟨N, 1, none⟩ = some (.slice (some ⟨g, 0, none⟩) vs.length c) := a1
  obtain ⟨u, hu⟩ := Option.isSome_iff_exists.1 hth
  have b2 : (W.drewN q).cell? ⟨g, i, none⟩ = some u := hu
  clear hth hu a0 a1 hlt
  have b3 : (W.drewN q).frozen? ⟨g, i, none⟩ = false := hfr
  go_wp2_with fail
  go_ret
  have hk2 : Kept (Own N (.slice kg ks.length kc) (.slice (some ⟨g, 0, none⟩) vs.length c)) W ((W.drewN q).setCell ⟨g, i, none⟩ (.string val)) :=
    ((Kept.refl _ W).drewN q).setCells g i [.string val] (.inl (.inr (.inr rfl)))
  refine ⟨rfl, _, _, ⟨?_, ?_, ?_, HL.out.nk, HL.out.nv, HL.out.kvv, HL.out.bN⟩, hk2, fun k hk => .inl hk⟩
  · exact (HL.out.box.drewN q).setOther i (.string val) (fun e => hng e.symm)
  · exact HL.out.rk.kept (S := fun k => k = g) (((Kept.refl _ W).drewN q).setCells g i [.string val] (.inl rfl)) (fun k hk e => HL.out.kvv k hk (by rw [e]; rfl))
  · exact HRS.out.kept (S := fun _ => False) ⟨rfl, rfl, rfl, Nat.le_refl _, fun _ _ _ => rfl⟩ (fun _ _ h => h)
set_option maxHeartbeats 1600000 in
theorem nodeput_new (B N : Nat) (kv vv : Value) (ks vs : List Bs) (o : Int) (key val : Bs) (i : Nat) (W : World) (L : Leaf B W N kv vv ks vs) (hlen : vs.length = ks.length) (hB : B ≤ W.heap.size) (hl : ks.length ≤ 900) (hi : bsI ks key = i) (hik : i ≤ ks.length) (hf : bsF ks key = false) :
    Calls Try.prog 42 #[.pointer (some ⟨N, 0, none⟩), .int .i64 o, .string key, .string val] W (PutOut B N kv vv true (ks.take i ++ key :: ks.drop i) (vs.take i ++ val :: vs.drop i) W) := by
  have hbs := bs_any B kv ks key W L.rk (by omega)
  rw [hi, hf] at hbs
  have HBS := Lib.hid hbs
  have hiv : i ≤ vs.length := by omega
  have hvl : vs.length ≤ 900 := by omega
  clear hbs hi hf
  have HL := Lib.hid L
  obtain ⟨kg, kc, rfl⟩ := L.rk.len
  obtain ⟨vg, vc, rfl⟩ := L.rv.len
  have a0 : W.cell? ⟨N, 0, none⟩ = some (.slice kg ks.length kc) := L.box.cell 0 _ rfl
  have a2 : W.cell? ⟨N, 2, none⟩ = some (.slice none 0 0) := L.box.cell 2 _ rfl
  clear L hlen
  go_enter Try.func42, Try.ntmps42
  go_wp2_with fail
  refine HBS.out.mono ?_
  rintro e W1 ⟨rfl, q, rfl⟩
  clear HBS
  have HL1 := Lib.hid (HL.out.drewN q)
  have HK1 := Lib.hid ((Kept.refl (Own N (.slice kg ks.length kc) (.slice vg vs.length vc)) W).drewN q)
  have b0 : (W.drewN q).cell? ⟨N, 0, none⟩ = some (.slice kg ks.length kc) := a0
  have b2 : (W.drewN q).cell? ⟨N, 2, none⟩ = some (.slice none 0 0) := a2
  have hB1 : B ≤ (W.drewN q).heap.size := hB
  clear a0 a2 HL
  go_wp2_with fail
  have hal : Kept (fun _ => False) (W.drewN q) ((W.drewN q).alloc (.cells #[.string key] 9)) := (Kept.refl _ _).alloc _
  have HLa := Lib.hid (HL1.out.kept hal (fun _ _ h => h))
  have HKa := Lib.hid (HK1.out.alloc (.cells #[.string key] 9))
  have hne : (Value.slice kg ks.length kc).ownBlock ≠ some W.heap.size := fun e => by have := (HL1.out.rk.lt _ e).2; exact absurd this (Nat.lt_irrefl _)
  refine (ins_any B (.slice kg ks.length kc) ks i key W.heap.size _ HLa.out.rk hik (by omega) (by have := hal.size; omega) (heap_new (W.drewN q) _) hne).mono ?_
  rintro e W2 ⟨v', rfl, hv', hk', ho'⟩
  clear hne
  obtain ⟨hn1, hn2, hn3, hn4, hn6, hn5⟩ := HLa.out.newk hv' hk' ho'
  obtain ⟨ng, nc, rfl⟩ := hv'.len
  have HN1 := Lib.hid hn1
  have HN2 := Lib.hid (HKa.out.trans hn2 (fun k h => .inl h))
  have HN5 : Hid (∀ k, Own N (.slice ng (ks.take i ++ key :: ks.drop i).length nc) (.slice vg vs.length vc) k → Own N (.slice kg ks.length kc) (.slice vg vs.length vc) k ∨ W.heap.size ≤ k) := Lib.hid (fun k h => by
    rcases hn5 k h with h | h
    · exact .inl h
    · have := hal.size; exact .inr (Nat.le_trans this h))
  clear hn1 hn2 hn5 hv' hk' ho' HLa HKa HL1 HK1 hal b0 b2
  generalize (ks.take i ++ key :: ks.drop i).length = nl at *
  go_wp2_with fail
  have hsz : (W2.setCell ⟨N, 0, none⟩ (.slice ng nl nc)).heap.size = W2.heap.size := by simp
  generalize W2.setCell ⟨N, 0, none⟩ (.slice ng nl nc) = W3 at *
  clear hn3 hn4 hn6
  have hal2 : Kept (fun _ => False) W3 (W3.alloc (.cells #[.string val] 9)) := (Kept.refl _ _).alloc _
  have HLb := Lib.hid (HN1.out.kept hal2 (fun _ _ h => h))
  have HKb := Lib.hid (HN2.out.alloc (.cells #[.string val] 9))
  have hne2 : (Value.slice vg vs.length vc).ownBlock ≠ some W2.heap.size := fun e => by have := (HN1.out.rv.lt _ e).2; rw [hsz] at this; exact absurd this (Nat.lt_irrefl _)
  refine (ins_any B (.slice vg vs.length vc) vs i val W2.heap.size _ HLb.out.rv hiv (by omega) (by have h1 := HN2.out.size; have h2 := hal2.size; omega) (by rw [← hsz]; exact heap_new W3 _) hne2).mono ?_
  rintro e W4 ⟨u', rfl, hu', hk4, ho4⟩
  clear hne2
  obtain ⟨hm1, hm2, hm3, hm4, hm5⟩ := HLb.out.newv hu' hk4 ho4
  obtain ⟨mg, mc, rfl⟩ := hu'.len
  have HM1 := Lib.hid hm1
  have HM2 := Lib.hid (HKb.out.trans hm2 (fun k h => HN5.out k h))
  have HM5 : Hid (∀ k, Own N (.slice ng nl nc) (.slice mg (vs.take i ++ val :: vs.drop i).length mc) k → Own N (.slice kg ks.length kc) (.slice vg vs.length vc) k ∨ W.heap.size ≤ k) := Lib.hid (fun k h => by
    rcases hm5 k h with h | h
    · exact HN5.out k h
    · exact .inr (by have h1 := HN2.out.size; have h2 := hal2.size; omega))
  clear hm1 hm2 hm5 hu' hk4 ho4 HLb HKb HN1 HN2 HN5 hal2
  generalize (vs.take i ++ val :: vs.drop i).length = ml at *
  go_wp2_with fail
  go_ret
  exact ⟨rfl, _, _, HM1.out, HM2.out, HM5.out⟩
end Go.Proofs.Ytegljepgncicjaa
